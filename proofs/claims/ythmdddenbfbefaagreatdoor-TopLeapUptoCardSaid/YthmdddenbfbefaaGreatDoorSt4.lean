/-
  A part of the proof: what the given program's functions answer, each once; conditions that are enough for it.
-/
import Derived.Test.YthmdddenbfbefaaGreatDoorSt3
import Derived.Test.YthmdddenbfbefaaGreatDoorFw3
import Derived.Test.YthmdddenbfbefaaGreatDoorSt2
import Derived.Test.YthmdddenbfbefaaGreatDoorSt1
import Derived.Test.YthmdddenbfbefaaGreatDoorRows
import Derived.WalkKit
import Derived.ProofKit
import Derived.OpenShut
import Derived.JoinedCond
import Derived.Deep.DeepHandedRow
import Derived.Lay
import Derived.Test.YthmdddenbfbefaaGreatDoorTie
namespace Go.Proofs.YthmdddenbfbefaaGreatDoor
open Go Go.Plat
set_option linter.unusedVariables false
set_option linter.unusedSimpArgs false
set_option maxRecDepth 100000
set_option maxHeartbeats 2000000
attribute [local irreducible] AWP zC yg zJ zo yw z8 zH z1 z6 zt za zP yx zp z7 yt yu yi yk zw zx zag zy wk y8 inM y6 yA ldM zdh xv wD zg toM up zbo
theorem zwj {n : Int} : zy .and .i64 n 4294967295 = n % 4294967296 := qK (k := 32) (by decide) (by decide)
theorem zrg : za Tryz.prog zrO (ya (fun ((m, i) : zG × Ins) => InM 10000 m ∧ InI i)
  (fun (m, i) => [.loc 0 0, jv i]) (fun (m, _) => [.cells (vu m)]) (fun _ => .tup []) fun (m, i) => [.cells (vu (zeJ m i))]) := by
 refine zf zj Tryz.func149 rfl (by decide) ?_
 rintro ⟨m, i⟩ ⟨hm, hi⟩
 obtain ⟨n0, n1⟩ := hi.n
 obtain ⟨m0, m1⟩ := hi.m
 have hrm := ixm hi.m hm
 have hrn := ixr hi.n hm
 refine ⟨Nat.le_refl _, by simp [Tryz.f149], fun E hE => ?_⟩
 refine ze _ ?_
 (all_goals refine zau ?_ <;> (repeat' first | exact trivial | intro hc | refine And.intro ?_ ?_) <;> refine Lf.mk ?_)
 all_goals try (refine zb yp _ trivial (VS.mk (LeL.of_eq rfl)) ?_)
 (all_goals refine zau (Lf.mk ?_))
 all_goals first
  | (dsimp only; refine yU [0] rfl rfl ?_; (repeat' (first | (refine VS.mk ?_) | exact trivial | exact rfl | refine And.intro ?_ ?_)); all_goals (unfold zeJ; dsimp only; (repeat (first | (rw [if_pos (by assumption)]) | (rw [if_neg (by assumption)]))); try rfl); done)
  | skip
theorem zly : za Tryz.prog jb (ya (fun ds : List D => ds.length ≤ 100000000 ∧ ∀ (i : Nat) d, ds[i]? = some d → d.cells.length = 1) (fun ds => [.sl 1 ds none]) (fun _ => []) (fun ds => .sl 1 ds (some 0)) fun ds => [.spare ds.length]) := by
 refine zf zj Tryz.func94 rfl (by decide) ?_
 rintro ds ⟨hds, hlen⟩
 refine ⟨by simp, by simp [Tryz.f94], fun E hE => ?_⟩
 refine ze _ ?_
 (all_goals refine qgo (Lf.mk ?_))
 refine zih (fun h => ?_) ?_
 ·subst h
  (all_goals refine qgo (Lf.mk ?_))
  refine zvo (e := 1) (yl (r := .sl 1 [] (some 0)) ?_) (by decide)
  (repeat' (first | (refine VS.mk ?_) | exact trivial | exact rfl | refine And.intro ?_ ?_))
 (all_goals refine qgo (Lf.mk ?_))
 refine yl ?_
 (repeat' (first | (refine VS.mk ?_) | exact trivial | exact rfl | refine And.intro ?_ ?_))
theorem zaQ : za Tryz.prog zoz (ya (fun ((m, i, at_) : zG × Ins × Int) => InM 10000 m ∧ InI i ∧ -2000000000000 ≤ at_ ∧ at_ ≤ 2000000000000)
  (fun (m, i, at_) => [.loc 0 0, jv i, .int .i64 at_]) (fun (m, _, _) => [.cells (vu m)]) (fun (m, i, at_) => .int .i64 (zS m i at_).2) fun (m, i, at_) => [.cells (vu (zS m i at_).1)]) := by
 refine zf zj Tryz.func97 rfl (by decide) ?_
 rintro ⟨m, i, at_⟩ ⟨hm, hi, h1, h2⟩
 obtain ⟨n0, n1⟩ := hi.n
 obtain ⟨m0, m1⟩ := hi.m
 obtain ⟨q0, q1⟩ := hi.imm
 have hrm := ixm hi.m hm
 have hrn := ixr hi.n hm
 have hr0 := hm.regs 0 (by decide)
 have htold := hm.told
 have hb := hm.base
 have hl := hm.len
 refine ⟨Nat.le_refl _, by simp [Tryz.f97], fun E hE => ?_⟩
 refine ze _ ?_
 (all_goals refine zau ?_ <;> (repeat' first | exact trivial | intro hc | refine And.intro ?_ ?_) <;> refine Lf.mk ?_)
 ·have hP : zS m i at_ = (xI m i.n i.imm, 0) := by unfold zS; (repeat (first | (rw [if_pos (by assumption)]) | (rw [if_neg (by assumption)])))
  dsimp only; rw [hP]
  refine yU [0] rfl rfl ?_
  (repeat' (first | (refine VS.mk ?_) | exact trivial | exact rfl | refine And.intro ?_ ?_))
 ·have hP : zS m i at_ = (xI m i.n (zg (m.r i.n.toNat + i.imm) 32), 0) := by unfold zS; dsimp only; (repeat (first | (rw [if_pos (by assumption)]) | (rw [if_neg (by assumption)])))
  refine zb yp (m.r i.n.toNat + i.imm) trivial (VS.mk (LeL.of_eq rfl)) ?_
  (all_goals refine zau (Lf.mk ?_))
  dsimp only; rw [hP]
  refine yU [0] rfl rfl ?_
  (repeat' (first | (refine VS.mk ?_) | exact trivial | exact rfl | refine And.intro ?_ ?_))
 ·have hP : zS m i at_ = (zcC (xI m i.n (zg (m.r i.n.toNat * 2) 32)) (decide (m.r i.n.toNat < 0)), 0) := by unfold zS; dsimp only; (repeat (first | (rw [if_pos (by assumption)]) | (rw [if_neg (by assumption)])))
  refine zb yp (m.r i.n.toNat * 2) trivial (VS.mk (LeL.of_eq rfl)) ?_
  (all_goals refine zau (Lf.mk ?_))
  dsimp only; rw [hP]
  refine yU [0] rfl rfl ?_
  (repeat' (first | (refine VS.mk ?_) | exact trivial | exact rfl | refine And.intro ?_ ?_))
 ·have hP : zS m i at_ = (zcC (xI m i.n (m.r i.n.toNat % 4294967296 / 2)) (decide (m.r i.n.toNat % 2 = 1)), 0) := by unfold zS; dsimp only; (repeat (first | (rw [if_pos (by assumption)]) | (rw [if_neg (by assumption)])))
  dsimp only; rw [hP]
  refine yU [0] rfl rfl ?_
  (repeat' (first | (refine VS.mk ?_) | exact trivial | exact rfl | refine And.intro ?_ ?_))
 ·have hP : zS m i at_ = (zcC (xI m i.n (zg (m.r i.n.toNat - 1) 32)) (decide (zg (m.r i.n.toNat - 1) 32 = 0)), 0) := by unfold zS; dsimp only; (repeat (first | (rw [if_pos (by assumption)]) | (rw [if_neg (by assumption)])))
  refine zb yp (m.r i.n.toNat - 1) trivial (VS.mk (LeL.of_eq rfl)) ?_
  (all_goals refine zau (Lf.mk ?_))
  rw [zxY _ _ _ n0]
  dsimp only; rw [hP]
  refine yU [0] rfl rfl ?_
  (repeat' (first | (refine VS.mk ?_) | exact trivial | exact rfl | refine And.intro ?_ ?_))
 ·have hP : zS m i at_ = wL m i at_ := by unfold zS; dsimp only; rw [if_neg (by omega), if_neg (by omega), if_neg (by omega), if_neg (by omega), if_neg (by omega), if_pos (by omega)]
  refine zY zeL [0] [0] (m, i, at_) ⟨hm, hi, h1, h2⟩ rfl rfl ?_
  refine And.intro (VS.mk (LeL.of_eq rfl)) (And.intro (VS.mk rfl) ?_)
  (all_goals refine zau (Lf.mk ?_))
  dsimp only; rw [hP]
  refine yU [0] rfl rfl ?_
  (repeat' (first | (refine VS.mk ?_) | exact trivial | exact rfl | refine And.intro ?_ ?_))
 ·have hP : zS m i at_ = wL m i at_ := by unfold zS; dsimp only; rw [if_neg (by omega), if_neg (by omega), if_neg (by omega), if_neg (by omega), if_neg (by omega), if_pos (by omega)]
  refine zY zeL [0] [0] (m, i, at_) ⟨hm, hi, h1, h2⟩ rfl rfl ?_
  refine And.intro (VS.mk (LeL.of_eq rfl)) (And.intro (VS.mk rfl) ?_)
  (all_goals refine zau (Lf.mk ?_))
  dsimp only; rw [hP]
  refine yU [0] rfl rfl ?_
  (repeat' (first | (refine VS.mk ?_) | exact trivial | exact rfl | refine And.intro ?_ ?_))
 ·have hP : zS m i at_ = wL m i at_ := by unfold zS; dsimp only; rw [if_neg (by omega), if_neg (by omega), if_neg (by omega), if_neg (by omega), if_neg (by omega), if_pos (by omega)]
  refine zY zeL [0] [0] (m, i, at_) ⟨hm, hi, h1, h2⟩ rfl rfl ?_
  refine And.intro (VS.mk (LeL.of_eq rfl)) (And.intro (VS.mk rfl) ?_)
  (all_goals refine zau (Lf.mk ?_))
  dsimp only; rw [hP]
  refine yU [0] rfl rfl ?_
  (repeat' (first | (refine VS.mk ?_) | exact trivial | exact rfl | refine And.intro ?_ ?_))
 ·have hP : zS m i at_ = zdw m i := by unfold zS; dsimp only; rw [if_neg (by omega), if_neg (by omega), if_neg (by omega), if_neg (by omega), if_neg (by omega), if_neg (by omega), if_pos (by omega)]
  refine zY zcD [0] [0] (m, m.r i.n.toNat, 4) ⟨hm, by omega, by omega, by decide⟩ rfl rfl ?_
  refine And.intro (VS.mk (LeL.of_eq rfl)) (And.intro (VS.mk rfl) ?_)
  (all_goals refine zau ?_ <;> (repeat' first | exact trivial | intro hc | refine And.intro ?_ ?_) <;> refine Lf.mk ?_)
  ·have hQ : zdw m i = (m, 3) := by unfold zdw; rw [if_neg (by rw [hc]; decide)]
   dsimp only; rw [hP, hQ]
   refine yU [0] rfl rfl ?_
   (repeat' (first | (refine VS.mk ?_) | exact trivial | exact rfl | refine And.intro ?_ ?_))
  have hin := zf9.1 hc
  have hQ : zdw m i = ({ m with img := { m.img with bytes := xv m.img.bytes (m.r i.n.toNat - m.img.base) 4 (m.r i.m.toNat) } }, 0) := by unfold zdw; rw [if_pos hc]
  refine zY zc7 [] [2] (m.img.bytes, m.r i.n.toNat - m.img.base, 4, m.r i.m.toNat) ⟨by omega, by omega, by decide, by omega⟩ rfl rfl ?_
  refine And.intro (VS.mk (by (first | exact LeL.refl _ | (repeat' (first | exact LeL.nil | exact LeD.refl _ | exact LeD.nil _ | exact LeD.strip _ _ _ | refine LeL.cons ?_ ?_ | refine LeD.tup ?_ | refine LeD.agg ?_))))) (And.intro (VS.mk rfl) ?_)
  (all_goals refine zau (Lf.mk ?_))
  dsimp only; rw [hP, hQ]
  refine zms 0 (vu { m with img := { m.img with bytes := xv m.img.bytes (m.r i.n.toNat - m.img.base) 4 (m.r i.m.toNat) } }) rfl (by (first | exact LeL.refl _ | (repeat' (first | exact LeL.nil | exact LeD.refl _ | exact LeD.nil _ | exact LeD.strip _ _ _ | refine LeL.cons ?_ ?_ | refine LeD.tup ?_ | refine LeD.agg ?_)))) ?_ (Nat.le_refl _)
  refine yU [0] rfl rfl ?_
  (repeat' (first | (refine VS.mk ?_) | exact trivial | exact rfl | refine And.intro ?_ ?_))
 ·have hP : zS m i at_ = ({ m with told := m.told ++ [m.r 0] }, 0) := by unfold zS; dsimp only; rw [if_neg (by omega), if_neg (by omega), if_neg (by omega), if_neg (by omega), if_neg (by omega), if_neg (by omega), if_neg (by omega), if_pos (by omega)]
  refine zY zly [] [2] (m.told.map zhx) ⟨by simp; omega, fun i d hd => ?_⟩ rfl rfl ?_
  ·obtain ⟨c, _, rfl⟩ := List.mem_map.1 (List.mem_of_getElem? hd); rfl
  refine And.intro (VS.mk (LeL.of_eq rfl)) (And.intro (VS.mk rfl) ?_)
  (all_goals refine zau (Lf.mk ?_))
  dsimp only; rw [hP]
  refine zms 0 (vu { m with told := m.told ++ [m.r 0] }) rfl (by (first | exact LeL.refl _ | (repeat' (first | exact LeL.nil | exact LeD.refl _ | exact LeD.nil _ | exact LeD.strip _ _ _ | refine LeL.cons ?_ ?_ | refine LeD.tup ?_ | refine LeD.agg ?_)))) ?_ (Nat.le_refl _)
  refine yU [0] rfl rfl ?_
  (repeat' (first | (refine VS.mk ?_) | exact trivial | exact rfl | refine And.intro ?_ ?_))
 ·have hP : zS m i at_ = (zeJ m i, 0) := by unfold zS; dsimp only; rw [if_neg (by omega), if_neg (by omega), if_neg (by omega), if_neg (by omega), if_neg (by omega), if_neg (by omega), if_neg (by omega), if_neg (by omega)]
  refine zY zrg [0] [0] (m, i) ⟨hm, hi⟩ rfl rfl ?_
  refine And.intro (VS.mk (LeL.of_eq rfl)) (And.intro (VS.mk rfl) ?_)
  (all_goals refine zau (Lf.mk ?_))
  dsimp only; rw [hP]
  refine yU [0] rfl rfl ?_
  (repeat' (first | (refine VS.mk ?_) | exact trivial | exact rfl | refine And.intro ?_ ?_))
attribute [local irreducible] xu wO zS
theorem zjc : za Tryz.prog zqn (ya (fun ((m, i) : zG × Ins) => InM 10000 m ∧ InI i)
  (fun (m, i) => [.loc 0 0, jv i]) (fun (m, _) => [.cells (vu m)]) (fun (m, i) => .tup [.int .i64 (xf m i).2.1, .bool (xf m i).2.2]) fun (m, i) => [.cells (vu (xf m i).1)]) := by
 refine zf zj Tryz.func98 rfl (by decide) ?_
 rintro ⟨m, i⟩ ⟨hm, hi⟩
 obtain ⟨n0, n1⟩ := hi.n
 obtain ⟨m0, m1⟩ := hi.m
 obtain ⟨q0, q1⟩ := hi.imm
 have hrm := ixm hi.m hm
 have hrn := ixr hi.n hm
 have hpc := hm.pc
 have hpr := hm.pr
 refine ⟨Nat.le_refl _, by simp [Tryz.f98], fun E hE => ?_⟩
 refine ze _ ?_
 (all_goals refine qgv (Lf.mk ?_))
 refine zb zn0 (i, m.pc) ⟨q0, q1, by omega, by omega⟩ (VS.mk (LeL.of_eq rfl)) ?_
 (all_goals refine qgv ?_ <;> (repeat' first | exact trivial | intro hc | refine And.intro ?_ ?_) <;> refine Lf.mk ?_)
 all_goals
  have hn : ¬ (m.t = true) ∨ m.t = true := by cases m.t <;> simp
  refine v8 (r1 := .tup [.int .i64 (xf m i).2.1, .bool (xf m i).2.2]) (LeD.tup (.cons (LeD.of_eq (congrArg _ ?_)) (.cons ?_ .nil))) (yU [0] rfl rfl ?_) (Nat.le_refl _)
  ·unfold xf; (repeat (first | (rw [if_pos (by assumption)]) | (rw [if_neg (by assumption)]))); try (simp [*])
  ·first | exact LeD.tt (by unfold xf; (repeat (first | (rw [if_pos (by assumption)]) | (rw [if_neg (by assumption)])))) | exact LeD.ff (by unfold xf; (repeat (first | (rw [if_pos (by assumption)]) | (rw [if_neg (by assumption)]))))
  ·(repeat' (first | (refine VS.mk ?_) | exact trivial | exact rfl | refine And.intro ?_ ?_))
   all_goals (dsimp only; unfold xf; (repeat (first | (rw [if_pos (by assumption)]) | (rw [if_neg (by assumption)]))); try rfl)
theorem zwk (n : Int) : (-128 ≤ zg n 8 ∧ zg n 8 ≤ 127) ∧ (-2048 ≤ zg n 12 ∧ zg n 12 ≤ 2047) := by
 have e8 : zg n 8 = if n % 256 / 128 = 1 then n % 256 - 256 else n % 256 := by unfold zg; rfl
 have e12 : zg n 12 = if n % 4096 / 2048 = 1 then n % 4096 - 4096 else n % 4096 := by unfold zg; rfl
 rw [e8, e12]
 constructor <;> split <;> omega
theorem zwl (w : Int) : InI (wk w).1 := by
 unfold wk
 split
 ·exact ⟨by decide, by decide, by decide⟩
 split
 ·rename_i r _
  have h := zwk w
  refine ⟨?_, ?_, ?_⟩
  ·show 0 ≤ (if wJ r.shape = true then w / 256 % 16 else 0) ∧ (if wJ r.shape = true then w / 256 % 16 else 0) < 16
   split <;> omega
  ·show 0 ≤ (if wK r.shape = true then w / 16 % 16 else 0) ∧ (if wK r.shape = true then w / 16 % 16 else 0) < 16
   split <;> omega
  ·show -4096 ≤ vO w r.shape ∧ vO w r.shape ≤ 4096
   unfold vO
   (repeat' split) <;> omega
 ·exact ⟨by decide, by decide, by decide⟩
theorem zbp (m : zG) (a : Int) : InI (xu m a).1 := by
 unfold xu
 split
 ·exact zwl _
 ·exact ⟨by decide, by decide, by decide⟩
theorem zxx (a b : Int) : -2147483648 ≤ zag a b ∧ zag a b ≤ 2147483647 := by unfold zag; exact zhS _ a b
theorem zx1 (a b : Int) : -2147483648 ≤ zdh a b ∧ zdh a b ≤ 2147483647 := by unfold zdh; exact zhS _ a b
theorem zxy (a b : Int) : -2147483648 ≤ zbo a b ∧ zbo a b ≤ 2147483647 := by unfold zbo; exact zhS _ a b
theorem zx2 {r : Nat → Int} {n v : Int} (h : ∀ j, j < 16 → -2147483648 ≤ r j ∧ r j ≤ 2147483647) (h1 : -2147483648 ≤ v) (h2 : v ≤ 2147483647) : ∀ j, j < 16 → -2147483648 ≤ up r n v j ∧ up r n v j ≤ 2147483647 := by
 intro j hj
 unfold up
 split
 ·exact ⟨h1, h2⟩
 ·exact h j hj
theorem vY {k : Nat} {m : zG} {n v : Int} (h : InM k m) (h1 : -2147483648 ≤ v ∧ v ≤ 2147483647) : InM k (xI m n v) := ⟨zx2 h.regs h1.1 h1.2, h.pc, h.pr, h.base, h.len, h.syms, h.told, h.steps⟩
theorem zb2 {k : Nat} {m : zG} {t : Bool} (h : InM k m) : InM k (zcC m t) := ⟨h.regs, h.pc, h.pr, h.base, h.len, h.syms, h.told, h.steps⟩
theorem zuE {k : Nat} {m : zG} {i : Ins} {a : Int} (h : InM k m) : InM k (wL m i a).1 := by
 unfold wL
 refine iteInduction (motive := fun x : zG × Int => InM k x.1) (fun _ => ?_) (fun _ => h)
 refine vY h ?_
 split <;> exact zeK _
theorem zwm {k : Nat} {m : zG} {i : Ins} (h : InM k m) : InM k (zdw m i).1 := by
 unfold zdw
 split
 ·exact ⟨h.regs, h.pc, h.pr, h.base, by show (xv _ _ _ _).length ≤ _; rw [zcs]; exact h.len, h.syms, h.told, h.steps⟩
 ·exact h
theorem zwn {k : Nat} {m : zG} {i : Ins} (h : InM k m) (hi : InI i) : InM k (zeJ m i) := by
 have hrm := ixm hi.m h
 have hrn := ixr hi.n h
 unfold zeJ
 dsimp only
 split
 ·exact vY h hrm
 split
 ·exact vY h (zeK _)
 split
 ·exact vY h (zeK _)
 split
 ·exact vY h (zxx _ _)
 split
 ·exact vY h (zx1 _ _)
 split
 ·exact vY h (zxy _ _)
 split
 ·exact zb2 h
 split
 ·exact zb2 h
 split
 ·exact zb2 h
 ·exact h
theorem jM {k : Nat} {m : zG} {i : Ins} {a : Int} (h : InM k m) (hi : InI i) : InM (k + 1) (zS m i a).1 := by
 have hrm := ixm hi.m h
 have hrn := ixr hi.n h
 have hq := hi.imm
 have hm := h.mono (Nat.le_add_right k 1)
 unfold zS
 dsimp only
 split
 ·exact vY hm (by omega)
 split
 ·exact vY hm (zeK _)
 split
 ·exact zb2 (vY hm (zeK _))
 split
 ·exact zb2 (vY hm (by omega))
 split
 ·exact zb2 (vY hm (zeK _))
 split
 ·exact zuE hm
 split
 ·exact zwm hm
 split
 ·exact ⟨h.regs, hm.pc, hm.pr, h.base, h.len, h.syms, by show (m.told ++ _).length ≤ _; rw [List.length_append, List.length_singleton]; have := h.told; omega, hm.steps⟩
 ·exact zwn hm hi
theorem zbq (m : zG) (i : Ins) (a : Int) : (zS m i a).1.pc = m.pc := by
 have hl : (wL m i a).1.pc = m.pc := by
  unfold wL
  exact iteInduction (motive := fun x : zG × Int => x.1.pc = m.pc) (fun _ => rfl) (fun _ => rfl)
 have hp : (zdw m i).1.pc = m.pc := by
  unfold zdw
  exact iteInduction (motive := fun x : zG × Int => x.1.pc = m.pc) (fun _ => rfl) (fun _ => rfl)
 have hs : (zeJ m i).pc = m.pc := by
  unfold zeJ
  dsimp only
  repeat' (first | rfl | refine iteInduction (motive := fun x : zG => x.pc = m.pc) (fun _ => ?_) (fun _ => ?_))
 unfold zS
 dsimp only
 repeat' (first | rfl | exact hl | exact hp | exact hs | refine iteInduction (motive := fun x : zG × Int => x.1.pc = m.pc) (fun _ => ?_) (fun _ => ?_))
theorem zhT {k : Nat} {m : zG} {i : Ins} (h : InM k m) (hi : InI i) : InM (k + 1) (xf m i).1 ∧ (xf m i).1.pc = m.pc ∧ -5000000000 - 100000 * (k + 1 : Int) ≤ (xf m i).2.1 ∧ (xf m i).2.1 ≤ 5000000000 + 100000 * (k + 1 : Int) := by
 have hm := h.mono (Nat.le_add_right k 1)
 have hpr := h.pr
 have hpc := h.pc
 have hrn := ixr hi.n h
 have hto := zs5 (a := m.pc) hi.imm.1 hi.imm.2
 have hpr' : InM (k + 1) { m with pr := m.pc + 4 } := ⟨h.regs, hm.pc, by show _ ≤ m.pc + 4 ∧ m.pc + 4 ≤ _; omega, h.base, h.len, h.syms, hm.told, hm.steps⟩
 unfold xf
 split
 ·refine ⟨hm, rfl, ?_, ?_⟩ <;> (dsimp only; split <;> omega)
 split
 ·refine ⟨hm, rfl, ?_, ?_⟩ <;> (dsimp only; split <;> omega)
 split
 ·exact ⟨hm, rfl, by dsimp only; omega, by dsimp only; omega⟩
 split
 ·exact ⟨hm, rfl, by dsimp only; omega, by dsimp only; omega⟩
 split
 ·exact ⟨hpr', rfl, by dsimp only; omega, by dsimp only; omega⟩
 split
 ·exact ⟨hpr', rfl, by dsimp only; omega, by dsimp only; omega⟩
 ·exact ⟨hm, rfl, by dsimp only; omega, by dsimp only; omega⟩
def vb (m : zG) : D := .tup [zbV (xq m).1, .bool (xq m).2.1, .int .i64 (xq m).2.2]
theorem zrh : za Tryz.prog zql (zz (fun m : zG => InM 9990 m) (fun m => [zbV m]) vb) := by
 refine zf zj Tryz.func54 rfl (by decide) ?_
 rintro m hm
 have hm' := hm.mono (show 9990 ≤ 10000 by decide)
 have hpc := hm.pc
 have hpr := hm.pr
 have htold := hm.told
 have hst := hm.steps
 have hm1 : InM 9991 { m with steps := m.steps + 1 } := ⟨hm.regs, by show _ ≤ m.pc ∧ m.pc ≤ _; omega, by show _ ≤ m.pr ∧ m.pr ≤ _; omega, hm.base, hm.len, hm.syms, by show m.told.length ≤ _; omega, by show _ ≤ m.steps + 1 ∧ m.steps + 1 ≤ _; omega⟩
 refine ⟨Nat.le_refl _, by simp [Tryz.f54], fun E hE => ?_⟩
 refine ze _ ?_
 (all_goals refine qgv (Lf.mk ?_))
 refine zb zjb m ⟨hm.len, hm.syms, by omega⟩ (VS.mk (LeL.of_eq rfl)) ?_
 (all_goals refine qgv (Lf.mk ?_))
 have hI := zbp m m.pc
 obtain ⟨i, e, hie⟩ : ∃ i e, xu m m.pc = (i, e) := ⟨_, _, rfl⟩
 refine zY zdx [2] [2] (m, m.pc) ⟨hm', by omega, by omega⟩ rfl rfl ?_
 dsimp only
 rw [hie] at hI ⊢
 refine And.intro (VS.mk (LeL.of_eq rfl)) (And.intro (VS.mk rfl) ?_)
 (all_goals refine qgv ?_ <;> (repeat' first | exact trivial | intro hc | refine And.intro ?_ ?_) <;> refine Lf.mk ?_)
 ·have hS : xq m = (wC, false, e) := by unfold xq; rw [hie]; dsimp only; (repeat (first | (rw [if_pos (by assumption)]) | (rw [if_neg (by assumption)])))
  refine zd (VS.mk ?_)
  unfold vb; rw [hS]
  (first | exact LeL.refl _ | (repeat' (first | exact LeL.nil | exact LeD.refl _ | exact LeD.nil _ | exact LeD.strip _ _ _ | refine LeL.cons ?_ ?_ | refine LeD.tup ?_ | refine LeD.agg ?_)))
  all_goals first | exact LeD.ff rfl | skip
 ·have hS : xq m = ({ m with steps := m.steps + 1 }, true, 0) := by unfold xq; rw [hie]; dsimp only; rw [if_neg (by omega), if_pos (by omega)]
  refine zd (VS.mk ?_)
  unfold vb; rw [hS]
  (first | exact LeL.refl _ | (repeat' (first | exact LeL.nil | exact LeD.refl _ | exact LeD.nil _ | exact LeD.strip _ _ _ | refine LeL.cons ?_ ?_ | refine LeD.tup ?_ | refine LeD.agg ?_)))
  all_goals first | exact LeD.tt rfl | skip
 all_goals
  refine zb zdy i.op trivial (VS.mk (LeL.of_eq rfl)) ?_
  (all_goals refine qgv ?_ <;> (repeat' first | exact trivial | intro hc | refine And.intro ?_ ?_) <;> refine Lf.mk ?_)
 ·have hP := jM (k := 9991) (a := m.pc) hm1 hI
  have hpp := zbq { m with steps := m.steps + 1 } i m.pc
  obtain ⟨x, f, hx⟩ : ∃ x f, zS { m with steps := m.steps + 1 } i m.pc = (x, f) := ⟨_, _, rfl⟩
  rw [hx] at hP hpp
  have hS : xq m = if f ≠ 0 then (wC, false, f) else ({ x with pc := x.pc + 2 }, false, 0) := by unfold xq; rw [hie]; dsimp only; rw [if_neg (by omega), if_neg (by omega), if_pos hc, hx]
  refine zY zaQ [2] [2] ({ m with steps := m.steps + 1 }, i, m.pc) ⟨hm1.mono (by decide), hI, by omega, by omega⟩ rfl rfl ?_
  dsimp only
  rw [hx]
  refine And.intro (VS.mk (LeL.of_eq rfl)) (And.intro (VS.mk rfl) ?_)
  have hxp := hP.pc
  (all_goals refine qgv ?_ <;> (repeat' first | exact trivial | intro hc | refine And.intro ?_ ?_) <;> refine Lf.mk ?_)
  ·rw [if_pos hc] at hS
   refine zd (VS.mk ?_)
   unfold vb; rw [hS]
   (first | exact LeL.refl _ | (repeat' (first | exact LeL.nil | exact LeD.refl _ | exact LeD.nil _ | exact LeD.strip _ _ _ | refine LeL.cons ?_ ?_ | refine LeD.tup ?_ | refine LeD.agg ?_)))
   all_goals first | exact LeD.ff rfl | skip
  ·rw [if_neg (by omega)] at hS
   refine zd (VS.mk ?_)
   unfold vb; rw [hS]
   (first | exact LeL.refl _ | (repeat' (first | exact LeL.nil | exact LeD.refl _ | exact LeD.nil _ | exact LeD.strip _ _ _ | refine LeL.cons ?_ ?_ | refine LeD.tup ?_ | refine LeD.agg ?_)))
   all_goals first | exact LeD.ff rfl | skip
 ·have hL := zhT (k := 9991) hm1 hI
  obtain ⟨x, to, late, hx⟩ : ∃ x to late, xf { m with steps := m.steps + 1 } i = (x, to, late) := ⟨_, _, _, rfl⟩
  rw [hx] at hL
  obtain ⟨hL1, hL2, hL3, hL4⟩ := hL
  dsimp only at hL1 hL2 hL3 hL4
  have hxp := hL1.pc
  have hS : xq m = if late = true then wE x to else ({ x with pc := to }, false, 0) := by unfold xq; rw [hie]; dsimp only; rw [if_neg (by omega), if_neg (by omega), if_neg (by rw [hc]; decide), hx]
  refine zY zjc [2] [2] ({ m with steps := m.steps + 1 }, i) ⟨hm1.mono (by decide), hI⟩ rfl rfl ?_
  dsimp only
  rw [hx]
  dsimp only
  refine And.intro (VS.mk (LeL.of_eq rfl)) (And.intro (VS.mk rfl) ?_)
  (all_goals refine qgv ?_ <;> (repeat' first | exact trivial | intro hc | refine And.intro ?_ ?_) <;> refine Lf.mk ?_)
  ·rw [if_pos hc] at hS
   have hJ := zbp x (x.pc + 2)
   obtain ⟨j, e', hj⟩ : ∃ j e', xu x (x.pc + 2) = (j, e') := ⟨_, _, rfl⟩
   refine zY zdx [2] [2] (x, x.pc + 2) ⟨hL1.mono (by decide), by omega, by omega⟩ rfl rfl ?_
   dsimp only
   rw [hj] at hJ ⊢
   dsimp only at hJ ⊢
   refine And.intro (VS.mk (LeL.of_eq rfl)) (And.intro (VS.mk rfl) ?_)
   (all_goals refine qgv ?_ <;> (repeat' first | exact trivial | intro hc | refine And.intro ?_ ?_) <;> refine Lf.mk ?_)
   ·refine zb zdy j.op trivial (VS.mk (LeL.of_eq rfl)) ?_
    (all_goals refine qgv ?_ <;> (repeat' first | exact trivial | intro hc | refine And.intro ?_ ?_) <;> refine Lf.mk ?_)
    ·have hT : wE x to = (wC, false, 8) := by unfold wE; rw [hj]; dsimp only; rw [if_neg (by omega), if_pos (.inl (by assumption))]
     refine zd (VS.mk ?_)
     unfold vb; rw [hS, hT]
     (first | exact LeL.refl _ | (repeat' (first | exact LeL.nil | exact LeD.refl _ | exact LeD.nil _ | exact LeD.strip _ _ _ | refine LeL.cons ?_ ?_ | refine LeD.tup ?_ | refine LeD.agg ?_)))
     all_goals first | exact LeD.ff rfl | skip
    ·have hT : wE x to = (wC, false, 8) := by unfold wE; rw [hj]; dsimp only; rw [if_neg (by omega), if_pos (.inr (by assumption))]
     refine zd (VS.mk ?_)
     unfold vb; rw [hS, hT]
     (first | exact LeL.refl _ | (repeat' (first | exact LeL.nil | exact LeD.refl _ | exact LeD.nil _ | exact LeD.strip _ _ _ | refine LeL.cons ?_ ?_ | refine LeD.tup ?_ | refine LeD.agg ?_)))
     all_goals first | exact LeD.ff rfl | skip
    have hnl : ¬ (wO j.op = true ∨ j.op = 27) := by
     rintro (h | h)
     ·have h9 : wO j.op = false := by assumption
      rw [h] at h9; cases h9
     ·omega
    have hP := jM (k := 9992) (a := x.pc + 2) hL1 hJ
    have hpp := zbq x j (x.pc + 2)
    obtain ⟨y, f, hy⟩ : ∃ y f, zS x j (x.pc + 2) = (y, f) := ⟨_, _, rfl⟩
    rw [hy] at hP hpp
    have hT : wE x to = if f ≠ 0 then (wC, false, f) else ({ y with pc := to }, false, 0) := by unfold wE; rw [hj]; dsimp only; rw [if_neg (by omega), if_neg hnl, hy]
    refine zY zaQ [2] [2] (x, j, x.pc + 2) ⟨hL1.mono (by decide), hJ, by omega, by omega⟩ rfl rfl ?_
    dsimp only
    rw [hy]
    refine And.intro (VS.mk (LeL.of_eq rfl)) (And.intro (VS.mk rfl) ?_)
    (all_goals refine qgv ?_ <;> (repeat' first | exact trivial | intro hc | refine And.intro ?_ ?_) <;> refine Lf.mk ?_)
    ·rw [if_pos hc] at hT
     refine zd (VS.mk ?_)
     unfold vb; rw [hS, hT]
     (first | exact LeL.refl _ | (repeat' (first | exact LeL.nil | exact LeD.refl _ | exact LeD.nil _ | exact LeD.strip _ _ _ | refine LeL.cons ?_ ?_ | refine LeD.tup ?_ | refine LeD.agg ?_)))
     all_goals first | exact LeD.ff rfl | skip
    ·rw [if_neg (by omega)] at hT
     refine zd (VS.mk ?_)
     unfold vb; rw [hS, hT]
     (first | exact LeL.refl _ | (repeat' (first | exact LeL.nil | exact LeD.refl _ | exact LeD.nil _ | exact LeD.strip _ _ _ | refine LeL.cons ?_ ?_ | refine LeD.tup ?_ | refine LeD.agg ?_)))
     all_goals first | exact LeD.ff rfl | skip
   ·have hT : wE x to = (wC, false, e') := by unfold wE; rw [hj]; dsimp only; rw [if_pos (by assumption)]
    refine zd (VS.mk ?_)
    unfold vb; rw [hS, hT]
    (first | exact LeL.refl _ | (repeat' (first | exact LeL.nil | exact LeD.refl _ | exact LeD.nil _ | exact LeD.strip _ _ _ | refine LeL.cons ?_ ?_ | refine LeD.tup ?_ | refine LeD.agg ?_)))
    all_goals first | exact LeD.ff rfl | skip
  ·rw [if_neg (by rw [hc]; decide)] at hS
   refine zd (VS.mk ?_)
   unfold vb; rw [hS]
   (first | exact LeL.refl _ | (repeat' (first | exact LeL.nil | exact LeD.refl _ | exact LeD.nil _ | exact LeD.strip _ _ _ | refine LeL.cons ?_ ?_ | refine LeD.tup ?_ | refine LeD.agg ?_)))
   all_goals first | exact LeD.ff rfl | skip
 ·have hP := jM (k := 9991) (a := m.pc) hm1 hI
  have hpp := zbq { m with steps := m.steps + 1 } i m.pc
  obtain ⟨x, f, hx⟩ : ∃ x f, zS { m with steps := m.steps + 1 } i m.pc = (x, f) := ⟨_, _, rfl⟩
  rw [hx] at hP hpp
  have hS : xq m = if f ≠ 0 then (wC, false, f) else ({ x with pc := x.pc + 2 }, false, 0) := by unfold xq; rw [hie]; dsimp only; rw [if_neg (by omega), if_neg (by omega), if_pos hc, hx]
  refine zY zaQ [2] [2] ({ m with steps := m.steps + 1 }, i, m.pc) ⟨hm1.mono (by decide), hI, by omega, by omega⟩ rfl rfl ?_
  dsimp only
  rw [hx]
  refine And.intro (VS.mk (LeL.of_eq rfl)) (And.intro (VS.mk rfl) ?_)
  have hxp := hP.pc
  (all_goals refine qgv ?_ <;> (repeat' first | exact trivial | intro hc | refine And.intro ?_ ?_) <;> refine Lf.mk ?_)
  ·rw [if_pos hc] at hS
   refine zd (VS.mk ?_)
   unfold vb; rw [hS]
   (first | exact LeL.refl _ | (repeat' (first | exact LeL.nil | exact LeD.refl _ | exact LeD.nil _ | exact LeD.strip _ _ _ | refine LeL.cons ?_ ?_ | refine LeD.tup ?_ | refine LeD.agg ?_)))
   all_goals first | exact LeD.ff rfl | skip
  ·rw [if_neg (by omega)] at hS
   refine zd (VS.mk ?_)
   unfold vb; rw [hS]
   (first | exact LeL.refl _ | (repeat' (first | exact LeL.nil | exact LeD.refl _ | exact LeD.nil _ | exact LeD.strip _ _ _ | refine LeL.cons ?_ ?_ | refine LeD.tup ?_ | refine LeD.agg ?_)))
   all_goals first | exact LeD.ff rfl | skip
 ·have hL := zhT (k := 9991) hm1 hI
  obtain ⟨x, to, late, hx⟩ : ∃ x to late, xf { m with steps := m.steps + 1 } i = (x, to, late) := ⟨_, _, _, rfl⟩
  rw [hx] at hL
  obtain ⟨hL1, hL2, hL3, hL4⟩ := hL
  dsimp only at hL1 hL2 hL3 hL4
  have hxp := hL1.pc
  have hS : xq m = if late = true then wE x to else ({ x with pc := to }, false, 0) := by unfold xq; rw [hie]; dsimp only; rw [if_neg (by omega), if_neg (by omega), if_neg (by rw [hc]; decide), hx]
  refine zY zjc [2] [2] ({ m with steps := m.steps + 1 }, i) ⟨hm1.mono (by decide), hI⟩ rfl rfl ?_
  dsimp only
  rw [hx]
  dsimp only
  refine And.intro (VS.mk (LeL.of_eq rfl)) (And.intro (VS.mk rfl) ?_)
  (all_goals refine qgv ?_ <;> (repeat' first | exact trivial | intro hc | refine And.intro ?_ ?_) <;> refine Lf.mk ?_)
  ·rw [if_pos hc] at hS
   have hJ := zbp x (x.pc + 2)
   obtain ⟨j, e', hj⟩ : ∃ j e', xu x (x.pc + 2) = (j, e') := ⟨_, _, rfl⟩
   refine zY zdx [2] [2] (x, x.pc + 2) ⟨hL1.mono (by decide), by omega, by omega⟩ rfl rfl ?_
   dsimp only
   rw [hj] at hJ ⊢
   dsimp only at hJ ⊢
   refine And.intro (VS.mk (LeL.of_eq rfl)) (And.intro (VS.mk rfl) ?_)
   (all_goals refine qgv ?_ <;> (repeat' first | exact trivial | intro hc | refine And.intro ?_ ?_) <;> refine Lf.mk ?_)
   ·refine zb zdy j.op trivial (VS.mk (LeL.of_eq rfl)) ?_
    (all_goals refine qgv ?_ <;> (repeat' first | exact trivial | intro hc | refine And.intro ?_ ?_) <;> refine Lf.mk ?_)
    ·have hT : wE x to = (wC, false, 8) := by unfold wE; rw [hj]; dsimp only; rw [if_neg (by omega), if_pos (.inl (by assumption))]
     refine zd (VS.mk ?_)
     unfold vb; rw [hS, hT]
     (first | exact LeL.refl _ | (repeat' (first | exact LeL.nil | exact LeD.refl _ | exact LeD.nil _ | exact LeD.strip _ _ _ | refine LeL.cons ?_ ?_ | refine LeD.tup ?_ | refine LeD.agg ?_)))
     all_goals first | exact LeD.ff rfl | skip
    ·have hT : wE x to = (wC, false, 8) := by unfold wE; rw [hj]; dsimp only; rw [if_neg (by omega), if_pos (.inr (by assumption))]
     refine zd (VS.mk ?_)
     unfold vb; rw [hS, hT]
     (first | exact LeL.refl _ | (repeat' (first | exact LeL.nil | exact LeD.refl _ | exact LeD.nil _ | exact LeD.strip _ _ _ | refine LeL.cons ?_ ?_ | refine LeD.tup ?_ | refine LeD.agg ?_)))
     all_goals first | exact LeD.ff rfl | skip
    have hnl : ¬ (wO j.op = true ∨ j.op = 27) := by
     rintro (h | h)
     ·have h9 : wO j.op = false := by assumption
      rw [h] at h9; cases h9
     ·omega
    have hP := jM (k := 9992) (a := x.pc + 2) hL1 hJ
    have hpp := zbq x j (x.pc + 2)
    obtain ⟨y, f, hy⟩ : ∃ y f, zS x j (x.pc + 2) = (y, f) := ⟨_, _, rfl⟩
    rw [hy] at hP hpp
    have hT : wE x to = if f ≠ 0 then (wC, false, f) else ({ y with pc := to }, false, 0) := by unfold wE; rw [hj]; dsimp only; rw [if_neg (by omega), if_neg hnl, hy]
    refine zY zaQ [2] [2] (x, j, x.pc + 2) ⟨hL1.mono (by decide), hJ, by omega, by omega⟩ rfl rfl ?_
    dsimp only
    rw [hy]
    refine And.intro (VS.mk (LeL.of_eq rfl)) (And.intro (VS.mk rfl) ?_)
    (all_goals refine qgv ?_ <;> (repeat' first | exact trivial | intro hc | refine And.intro ?_ ?_) <;> refine Lf.mk ?_)
    ·rw [if_pos hc] at hT
     refine zd (VS.mk ?_)
     unfold vb; rw [hS, hT]
     (first | exact LeL.refl _ | (repeat' (first | exact LeL.nil | exact LeD.refl _ | exact LeD.nil _ | exact LeD.strip _ _ _ | refine LeL.cons ?_ ?_ | refine LeD.tup ?_ | refine LeD.agg ?_)))
     all_goals first | exact LeD.ff rfl | skip
    ·rw [if_neg (by omega)] at hT
     refine zd (VS.mk ?_)
     unfold vb; rw [hS, hT]
     (first | exact LeL.refl _ | (repeat' (first | exact LeL.nil | exact LeD.refl _ | exact LeD.nil _ | exact LeD.strip _ _ _ | refine LeL.cons ?_ ?_ | refine LeD.tup ?_ | refine LeD.agg ?_)))
     all_goals first | exact LeD.ff rfl | skip
   ·have hT : wE x to = (wC, false, e') := by unfold wE; rw [hj]; dsimp only; rw [if_pos (by assumption)]
    refine zd (VS.mk ?_)
    unfold vb; rw [hS, hT]
    (first | exact LeL.refl _ | (repeat' (first | exact LeL.nil | exact LeD.refl _ | exact LeD.nil _ | exact LeD.strip _ _ _ | refine LeL.cons ?_ ?_ | refine LeD.tup ?_ | refine LeD.agg ?_)))
    all_goals first | exact LeD.ff rfl | skip
  ·rw [if_neg (by rw [hc]; decide)] at hS
   refine zd (VS.mk ?_)
   unfold vb; rw [hS]
   (first | exact LeL.refl _ | (repeat' (first | exact LeL.nil | exact LeD.refl _ | exact LeD.nil _ | exact LeD.strip _ _ _ | refine LeL.cons ?_ ?_ | refine LeD.tup ?_ | refine LeD.agg ?_)))
   all_goals first | exact LeD.ff rfl | skip
attribute [local irreducible] xf
theorem zuF {k : Nat} {m : zG} {to : Int} (h : InM k m) (h1 : -5000000000 - 100000 * (k + 1 : Int) ≤ to) (h2 : to ≤ 5000000000 + 100000 * (k + 1 : Int)) : (wE m to).2.2 = 0 → InM (k + 1) (wE m to).1 := by
 unfold wE
 dsimp only
 refine iteInduction (motive := fun x : zG × Bool × Int => x.2.2 = 0 → InM (k + 1) x.1) (fun h h' => absurd h' h) (fun _ => ?_)
 refine iteInduction (motive := fun x : zG × Bool × Int => x.2.2 = 0 → InM (k + 1) x.1) (fun _ h' => absurd h' (by decide)) (fun _ => ?_)
 refine iteInduction (motive := fun x : zG × Bool × Int => x.2.2 = 0 → InM (k + 1) x.1) (fun h h' => absurd h' h) (fun _ _ => ?_)
 have hp := jM (k := k) (a := m.pc + 2) h (zbp m (m.pc + 2))
 exact ⟨hp.regs, ⟨by show _ ≤ to; omega, by show to ≤ _; omega⟩, hp.pr, hp.base, hp.len, hp.syms, hp.told, hp.steps⟩
theorem zuG {k : Nat} {m : zG} (h : InM k m) : (xq m).2.2 = 0 → InM (k + 3) (xq m).1 := by
 have hI := zbp m m.pc
 have hpc := h.pc
 have hpr := h.pr
 have htold := h.told
 have hst := h.steps
 have hm1 : InM (k + 1) { m with steps := m.steps + 1 } := ⟨h.regs, by show _ ≤ m.pc ∧ m.pc ≤ _; omega, by show _ ≤ m.pr ∧ m.pr ≤ _; omega, h.base, h.len, h.syms, by show m.told.length ≤ _; omega, by show _ ≤ m.steps + 1 ∧ m.steps + 1 ≤ _; omega⟩
 unfold xq
 dsimp only
 refine iteInduction (motive := fun x : zG × Bool × Int => x.2.2 = 0 → InM (k + 3) x.1) (fun h h' => absurd h' h) (fun _ => ?_)
 refine iteInduction (motive := fun x : zG × Bool × Int => x.2.2 = 0 → InM (k + 3) x.1) (fun _ _ => hm1.mono (by omega)) (fun _ => ?_)
 refine iteInduction (motive := fun x : zG × Bool × Int => x.2.2 = 0 → InM (k + 3) x.1) (fun _ => ?_) (fun _ => ?_)
 ·refine iteInduction (motive := fun x : zG × Bool × Int => x.2.2 = 0 → InM (k + 3) x.1) (fun h h' => absurd h' h) (fun _ _ => ?_)
  have hp := (jM (k := k + 1) (a := m.pc) hm1 hI).mono (show k + 1 + 1 ≤ k + 3 by omega)
  have hpp := zbq { m with steps := m.steps + 1 } (xu m m.pc).1 m.pc
  dsimp only at hpp
  exact ⟨hp.regs, ⟨by show _ ≤ (zS _ _ _).1.pc + 2; omega, by show (zS _ _ _).1.pc + 2 ≤ _; omega⟩, hp.pr, hp.base, hp.len, hp.syms, hp.told, hp.steps⟩
 ·obtain ⟨h1, h2, h3, h4⟩ := zhT (k := k + 1) hm1 hI
  refine iteInduction (motive := fun x : zG × Bool × Int => x.2.2 = 0 → InM (k + 3) x.1) (fun _ => ?_) (fun _ _ => ?_)
  ·exact zuF (k := k + 2) h1 (by omega) (by omega)
  ·have hp := h1.mono (show k + 1 + 1 ≤ k + 3 by omega)
   exact ⟨hp.regs, ⟨by show _ ≤ (xf _ _).2.1; omega, by show (xf _ _).2.1 ≤ _; omega⟩, hp.pr, hp.base, hp.len, hp.syms, hp.told, hp.steps⟩
def zx3 : List D := [.int .i64 0, .int .i64 0, .int .i64 0, .int .i64 0, .int .i64 0, .int .i64 0, .int .i64 0, .int .i64 0, .int .i64 0, .int .i64 0, .int .i64 0, .int .i64 0, .int .i64 0, .int .i64 0, .int .i64 0, .int .i64 0, .ff, .int .i64 0, .int .i64 0, .int .i64 0, .nilsl, .nilsl, .nilsl, .int .i64 0]
def kH (m : zG) (most : Int) : zG × Int := if most < 0 ∨ most > 2000 then (wC, 3) else yC most.toNat m
attribute [local irreducible] xq
theorem zs6 : za Tryz.prog zrJ (zz (fun ((m, most) : zG × Int) => InM 0 m) (fun (m, most) => [zbV m, .int .i64 most]) fun (m, most) => .tup [zbV (kH m most).1, .int .i64 (kH m most).2]) := by
 refine zf zj Tryz.func28 rfl (by decide) ?_
 rintro ⟨m, most⟩ hm
 have hm : InM 0 m := hm
 have htold := hm.told
 refine ⟨Nat.le_refl _, by simp [Tryz.f28], fun E hE => ?_⟩
 refine ze _ ?_
 (all_goals refine qgv ?_ <;> (repeat' first | exact trivial | intro hc | refine And.intro ?_ ?_) <;> refine Lf.mk ?_)
 ·have hR : kH m most = (wC, 3) := by unfold kH; rw [if_pos (by omega)]
  refine zd (VS.mk ?_)
  (try dsimp only); rw [hR]
  (first | exact LeL.refl _ | (repeat' (first | exact LeL.nil | exact LeD.refl _ | exact LeD.nil _ | exact LeD.strip _ _ _ | refine LeL.cons ?_ ?_ | refine LeD.tup ?_ | refine LeD.agg ?_)))
  all_goals first | exact LeD.ff rfl | skip
 ·have hR : kH m most = (wC, 3) := by unfold kH; rw [if_pos (by omega)]
  refine zd (VS.mk ?_)
  (try dsimp only); rw [hR]
  (first | exact LeL.refl _ | (repeat' (first | exact LeL.nil | exact LeD.refl _ | exact LeD.nil _ | exact LeD.strip _ _ _ | refine LeL.cons ?_ ?_ | refine LeD.tup ?_ | refine LeD.agg ?_)))
  all_goals first | exact LeD.ff rfl | skip
 have hR : kH m most = yC most.toNat m := by unfold kH; rw [if_neg (by omega)]
 refine zb zjb m ⟨hm.len, hm.syms, by omega⟩ (VS.mk (LeL.of_eq rfl)) ?_
 (all_goals refine qgv (Lf.mk ?_))
 refine yb (α := Nat × zG) (fun p => (p.1 : Int) ≤ most ∧ InM (3 * p.1) p.2 ∧ yC (most.toNat - p.1) p.2 = yC most.toNat m)
  (fun p => [(19, .int .i64 most), (20, .int .i64 p.1), (6, .loc 2 0), (4, .loc 1 0)])
  (fun p => [.cells (vu m), .cells zx3, .cells (vu p.2)]) (fun p => most.toNat - p.1) (fun _ => by simp [hE]) (0, m) ⟨by omega, hm, by rw [Nat.sub_zero]⟩ ?_ ?_
 ·(repeat' (first | (refine VS.mk ?_) | exact trivial | exact rfl | refine And.intro ?_ ?_))
 rintro ⟨k, x⟩ ⟨hk, hx, hrun⟩
 dsimp only at hk hx hrun
 refine ze _ ?_
 (all_goals refine qgv ?_ <;> (repeat' first | exact trivial | intro hc | refine And.intro ?_ ?_) <;> refine Lf.mk ?_)
 ·refine zb zrh x (hx.mono (by omega)) (VS.mk (LeL.of_eq rfl)) ?_
  have hin := zuG hx
  obtain ⟨y, en, e, hy⟩ : ∃ y en e, xq x = (y, en, e) := ⟨_, _, _, rfl⟩
  have hst : yC (most.toNat - k) x = if e ≠ 0 then (wC, e) else if en = true then (y, 0) else yC (most.toNat - (k + 1)) y := by
   rw [show most.toNat - k = (most.toNat - (k + 1)) + 1 by omega, yC, hy]
  rw [hy] at hin
  unfold vb
  rw [hy]
  dsimp only at hin ⊢
  (all_goals refine qgv ?_ <;> (repeat' first | exact trivial | intro hc | refine And.intro ?_ ?_) <;> refine Lf.mk ?_)
  ·rw [if_pos hc] at hst
   refine zd (VS.mk ?_)
   (try dsimp only); rw [hR, ← hrun, hst]
   (first | exact LeL.refl _ | (repeat' (first | exact LeL.nil | exact LeD.refl _ | exact LeD.nil _ | exact LeD.strip _ _ _ | refine LeL.cons ?_ ?_ | refine LeD.tup ?_ | refine LeD.agg ?_)))
   all_goals first | exact LeD.ff rfl | skip
  ·rw [if_neg (by omega), if_pos hc] at hst
   refine zd (VS.mk ?_)
   (try dsimp only); rw [hR, ← hrun, hst]
   (first | exact LeL.refl _ | (repeat' (first | exact LeL.nil | exact LeD.refl _ | exact LeD.nil _ | exact LeD.strip _ _ _ | refine LeL.cons ?_ ?_ | refine LeD.tup ?_ | refine LeD.agg ?_)))
  ·rw [if_neg (by omega), if_neg (by rw [hc]; decide)] at hst
   refine zA (k + 1, y) ⟨by dsimp only; omega, by dsimp only; exact (hin (by assumption)).mono (by omega), by dsimp only; rw [← hst, hrun]⟩ (by dsimp only; omega) ?_
   (repeat' (first | (refine VS.mk ?_) | exact trivial | exact rfl | refine And.intro ?_ ?_))
 ·have hst : yC (most.toNat - k) x = (wC, 13) := by rw [show most.toNat - k = 0 by omega]; rfl
  refine zd (VS.mk ?_)
  (try dsimp only); rw [hR, ← hrun, hst]
  (first | exact LeL.refl _ | (repeat' (first | exact LeL.nil | exact LeD.refl _ | exact LeD.nil _ | exact LeD.strip _ _ _ | refine LeL.cons ?_ ?_ | refine LeD.tup ?_ | refine LeD.agg ?_)))
  all_goals first | exact LeD.ff rfl | skip
end Go.Proofs.YthmdddenbfbefaaGreatDoor
namespace Go.Proofs.YthmdddenbfbefaaGreatDoor
open Go Go.Plat
set_option linter.unusedVariables false
set_option linter.unusedSimpArgs false
set_option maxRecDepth 100000
set_option maxHeartbeats 2000000
attribute [local irreducible] AWP zC yg zJ zo yw z8 zH z1 z6 zt za zP yx zp z7 yt yu yi yk zw zx zy
structure zri (o : xc) : Prop where
 right : wu o = 0
 rels : ∀ r ∈ o.rels, -9223372036854775808 ≤ r.at_ ∧ r.at_ ≤ 9223372036854775807 ∧ r.name.length ≤ 1000000000
 syms : ∀ s ∈ o.syms, s.name.length ≤ 1000000000
abbrev Src := List UInt8 × xc
def okD (o : xc) : D := .tup [qP o, .agg [.int .i64 0, .int .i64 0]]
def zlQ (U : Src → Prop) : Prop := za Tryz.prog zej (zz (fun x : Src => U x) (fun x => [vC x.1]) fun x => okD x.2)
theorem zlz : zlQ (fun x => zi5 x.1 ∧ zdg x.1 = (x.2, 0, 0)) := by
 refine ziF zq4 ?_
 rintro av L d L' ⟨x, ⟨h1, h2⟩, h3, h4, h5⟩
 refine ⟨x.1, h1, h3, h4, h5.1.trans ?_, h5.2⟩
 dsimp only
 rw [h2]
 rfl
attribute [local irreducible] wu x3
theorem zn1 {U : Src → Prop} (hU : zlQ U) : za Tryz.prog zmE (zz (fun ((l, base) : List Src × Int) => l.length ≤ 1000 ∧ (∀ x ∈ l, U x ∧ zri x.2) ∧ -9223372036854775808 ≤ base ∧ base ≤ 9223372036854775807)
  (fun (l, base) => [.sl 1 (l.map fun x => vC x.1) none, .int .i64 base]) fun (l, base) => zj5 (x3 (l.map (·.2)) base)) := by
 refine zf zj Tryz.func48 rfl (by decide) ?_
 rintro ⟨l, base⟩ ⟨hl, hx, hb0, hb1⟩
 have hl : l.length ≤ 1000 := hl
 refine ⟨Nat.le_refl _, by simp [Tryz.f48], fun E hE => ?_⟩
 refine ze _ ?_
 (all_goals refine qgp (Lf.mk ?_))
 refine wP (kq 6 3 rfl) ?_
 refine yb (α := Nat) (fun k => k ≤ l.length) (fun k => [(1, .int .i64 base), (4, .loc 0 0), (5, .loc 1 0), (11, .sl 1 (l.map fun x => vC x.1) none), (12, .int .i64 l.length), (13, .int .i64 k), (6, .sl 3 (((l.take k).map (·.2)).map qP) (some 2))])
  (fun k => [.cells [.int .i64 0, .nilsl, .nilsl], .cells [.int .i64 0, .int .i64 0], .spare ((l.take k).map (·.2)).length]) (fun k => l.length - k) (fun _ => by simp [hE]) 0 (Nat.zero_le _) ?_ ?_
 ·(repeat' (first | (refine VS.mk ?_) | exact trivial | exact rfl | refine And.intro ?_ ?_))
 intro k hk
 have hk : k ≤ l.length := hk
 refine ze _ ?_
 (all_goals refine qgp ?_ <;> (repeat' first | exact trivial | intro hc | refine And.intro ?_ ?_) <;> refine Lf.mk ?_)
 ·obtain ⟨x, hxk⟩ := yj (l := l) (k := k) (by omega)
  have hkl : k < l.length := by omega
  obtain ⟨hu, ho⟩ := hx x (List.mem_of_getElem? hxk)
  have htk : (l.take (k + 1)).map (·.2) = (l.take k).map (·.2) ++ [x.2] := by rw [List.take_add_one, hxk]; simp
  refine zk (enc := fun x : Src => vC x.1) x (by omega) (by simpa using hxk) ?_
  (all_goals refine qgp ?_ <;> (repeat' first | exact trivial | intro hc | refine And.intro ?_ ?_) <;> refine Lf.mk ?_)
  refine zb hU x hu (VS.mk (LeL.of_eq rfl)) ?_
  (all_goals refine qgp ?_ <;> (repeat' first | exact trivial | intro hc | refine And.intro ?_ ?_) <;> refine Lf.mk ?_)
  unfold okD qP
  (all_goals refine qgp ?_ <;> (repeat' first | exact trivial | intro hc | refine And.intro ?_ ?_) <;> refine Lf.mk ?_)
  all_goals first
   | (exfalso; exact (by assumption : ¬ True) trivial)
   | skip
  refine zb zfS x.2 ⟨ho.rels, ho.syms⟩ (VS.mk (LeL.of_eq rfl)) ?_
  dsimp only
  rw [ho.right]
  (all_goals refine qgp ?_ <;> (repeat' first | exact trivial | intro hc | refine And.intro ?_ ?_) <;> refine Lf.mk ?_)
  all_goals first
   | (exfalso; exact (by assumption : ¬ True) trivial)
   | skip
  refine zA (k + 1) (by show k + 1 ≤ _; omega) (by omega) ?_
  rw [htk, List.map_append]
  (repeat' (first | (refine VS.mk ?_) | exact trivial | exact rfl | refine And.intro ?_ ?_))
  simp
 ·have hk2 : k = l.length := by omega
  rw [hk2, List.take_length]
  refine zb zrc (l.map (·.2), base) ⟨hb0, hb1, by show (l.map (·.2)).length ≤ _; rw [List.length_map]; omega, fun o ho => ?_, fun o ho => ?_⟩ (VS.mk (LeL.of_eq rfl)) ?_
  ·obtain ⟨x, hx1, rfl⟩ := List.mem_map.1 ho
   exact (hx x hx1).2.rels
  ·obtain ⟨x, hx1, rfl⟩ := List.mem_map.1 ho
   exact (hx x hx1).2.syms
  dsimp only
  generalize x3 (l.map (·.2)) base = X
  obtain ⟨⟨ib, ibs, iss⟩, e, a⟩ := X
  unfold zj5 zjP zuw
  dsimp only
  (all_goals refine qgp ?_ <;> (repeat' first | exact trivial | intro hc | refine And.intro ?_ ?_) <;> refine Lf.mk ?_)
  exact zd (VS.mk (LeD.refl _))
structure zlR (U : Src → Prop) (l : List (List UInt8 × xc)) (base : Int) (img : j8) (m : zG) (e : Int) : Prop where
 len : l.length ≤ 4
 ok : ∀ x ∈ l, U x ∧ zri x.2
 bas : 0 ≤ base ∧ base ≤ 1048576
 link : x3 (l.map (·.2)) base = (img, 0, 0)
 ibase : img.base = base
 ilen : img.bytes.length ≤ 1000000
 isym : img.syms.length ≤ 1000000
 run : kH (zbH img) 2000 = (m, e)
theorem zxz {i : j8} (h : 0 ≤ i.base ∧ i.base ≤ 1048576) (h1 : i.bytes.length ≤ 1000000) (h2 : i.syms.length ≤ 1000000) : InM 0 (zbH i) :=
 ⟨fun _ _ => ⟨by show (-2147483648 : Int) ≤ 0; decide, by show (0 : Int) ≤ 2147483647; decide⟩, ⟨by show _ ≤ i.base; omega, by show i.base ≤ _; omega⟩, ⟨by show _ ≤ (-1 : Int); decide, by show (-1 : Int) ≤ _; decide⟩, h, by show i.bytes.length ≤ _; omega, by show i.syms.length ≤ _; omega, by show 0 ≤ _; decide, ⟨by show (0 : Int) ≤ 0; decide, by show (0 : Int) ≤ _; decide⟩⟩
attribute [local irreducible] kH zbH
theorem zjd {U : Src → Prop} (hU : zlQ U) : za Tryz.prog zmC (zz (fun ((l, base, img, m, e) : List Src × Int × j8 × zG × Int) => zlR U l base img m e) (fun (l, base, _) => [.int .i64 base, .sl 1 (l.map fun x => .str x.1) none]) fun (_, _, _, m, e) => .tup [.sl 1 (m.told.map zhx) none, .int .i64 e]) := by
 refine zf zj Tryz.func25 rfl (by decide) ?_
 rintro ⟨l, base, img, m, e⟩ h
 have h : zlR U l base img m e := h
 have hl := h.len
 have hb := h.bas
 refine ⟨Nat.le_refl _, by simp [Tryz.f25], fun E hE => ?_⟩
 refine ze _ ?_
 (all_goals refine qgp ?_ <;> (repeat' first | exact trivial | intro hc | refine And.intro ?_ ?_) <;> refine Lf.mk ?_)
 refine wP (kq 6 1 rfl) ?_
 refine yb (α := Nat) (fun k => k ≤ l.length) (fun k => [(0, .int .i64 base), (13, .sl 1 (l.map fun x => .str x.1) none), (14, .int .i64 l.length), (15, .int .i64 k), (6, .sl 1 ((l.take k).map fun x => vC x.1) (some 0))])
  (fun k => [.spare (l.take k).length]) (fun k => l.length - k) (fun _ => by simp [hE]) 0 (Nat.zero_le _) ?_ ?_
 ·(repeat' (first | (refine VS.mk ?_) | exact trivial | exact rfl | refine And.intro ?_ ?_))
 intro k hk
 have hk : k ≤ l.length := hk
 refine ze _ ?_
 (all_goals refine qgp ?_ <;> (repeat' first | exact trivial | intro hc | refine And.intro ?_ ?_) <;> refine Lf.mk ?_)
 ·obtain ⟨x, hxk⟩ := yj (l := l) (k := k) (by omega)
  have hkl : k < l.length := by omega
  have htk : l.take (k + 1) = l.take k ++ [x] := by rw [List.take_add_one, hxk]; rfl
  refine zk (enc := fun x : Src => D.str x.1) x (by omega) (by simpa using hxk) ?_
  (all_goals refine qgp ?_ <;> (repeat' first | exact trivial | intro hc | refine And.intro ?_ ?_) <;> refine Lf.mk ?_)
  refine zA (k + 1) (by show k + 1 ≤ _; omega) (by omega) ?_
  rw [htk, List.map_append]
  (repeat' (first | (refine VS.mk ?_) | exact trivial | exact rfl | refine And.intro ?_ ?_))
  simp
 ·have hk2 : k = l.length := by omega
  rw [hk2, List.take_length]
  refine zb (zn1 hU) (l, base) ⟨by show l.length ≤ 1000; omega, h.ok, by show _ ≤ base; omega, by show base ≤ _; omega⟩ (VS.mk (LeL.of_eq rfl)) ?_
  dsimp only
  rw [h.link]
  unfold zj5 zjP zuw
  dsimp only
  (all_goals refine qgp ?_ <;> (repeat' first | exact trivial | intro hc | refine And.intro ?_ ?_) <;> refine Lf.mk ?_)
  all_goals first
   | (exfalso; exact (by assumption : ¬ True) trivial)
   | skip
  refine zb zs3 img ⟨by have := h.ilen; omega, by have := h.isym; omega⟩ (VS.mk (LeL.of_eq rfl)) ?_
  unfold zbV vu
  (all_goals refine qgp ?_ <;> (repeat' first | exact trivial | intro hc | refine And.intro ?_ ?_) <;> refine Lf.mk ?_)
  refine zb zs6 (zbH img, 2000) (zxz (by rw [h.ibase]; exact hb) h.ilen h.isym) (VS.mk (LeL.of_eq rfl)) ?_
  dsimp only
  rw [h.run]
  unfold zbV vu
  dsimp only
  (all_goals refine qgp ?_ <;> (repeat' first | exact trivial | intro hc | refine And.intro ?_ ?_) <;> refine Lf.mk ?_)
  exact zd (VS.mk (LeD.refl _))
end Go.Proofs.YthmdddenbfbefaaGreatDoor
namespace Go.Proofs.YthmdddenbfbefaaGreatDoor
open Go Go.Plat
set_option linter.unusedVariables false
set_option linter.unusedSimpArgs false
set_option maxRecDepth 100000
set_option maxHeartbeats 2000000
attribute [local irreducible] AWP zC yg zJ zo yw z8 zH z1 z6 zt za zP yx zp z7 yt yu yi yk zw zx zy
def zhU (u : Nat) : List UInt8 := if u < 10 then [UInt8.ofNat (48 + u)] else if u < 100 then [UInt8.ofNat (48 + u / 10), UInt8.ofNat (48 + u % 10)] else [UInt8.ofNat (48 + u / 10 / 10), UInt8.ofNat (48 + u / 10 % 10), UInt8.ofNat (48 + u % 10)]
def kI (n : Int) : List UInt8 := if n < 0 then 45 :: zhU n.natAbs else zhU n.toNat
theorem zs7 {u : Nat} (h : u < 1000) : Lib.decDigits u = zhU u := by
 unfold zhU
 split
 ·exact Lib.decDigits_one (by assumption)
 split
 ·exact Lib.decDigits_two (by assumption) (by assumption)
 ·rw [Lib.decDigits, dif_neg (by assumption), Lib.decDigits_two (by omega) (by omega)]
  rfl
theorem zhV {n : Int} (h0 : -1000 < n) (h1 : n < 1000) : Lib.itoa n = kI n := by
 unfold Lib.itoa kI
 rw [zs7 (by omega), zs7 (by omega)]
def zu8 (x : zN) : Bool := decide (wA (vt x)) && decide (x.toks.length ≤ 1000000000) && decide (wt (x.toks.map tk) ≤ 1048576)
def zje (b : List UInt8) : Bool := decide (b.length ≤ 1000000000) && decide ((yF b).1.length ≤ 200) && decide (kE (yF b).1 ≤ 9000) && (yF b).1.all zu8
theorem zs8 {b : List UInt8} (h : zje b = true) : zi5 b := by
 unfold zje at h
 simp only [Bool.and_eq_true, decide_eq_true_eq, List.all_eq_true] at h
 obtain ⟨⟨⟨h1, h2⟩, h3⟩, h4⟩ := h
 have h5 : ∀ x ∈ (yF b).1, wA (vt x) ∧ x.toks.length ≤ 1000000000 ∧ wt (x.toks.map tk) ≤ 1048576 := fun x hx => by
  have := h4 x hx
  unfold zu8 at this
  simp only [Bool.and_eq_true, decide_eq_true_eq] at this
  exact ⟨this.1.1, this.1.2, this.2⟩
 exact ⟨h1, ⟨h2, fun x hx => ⟨(h5 x hx).1, (h5 x hx).2.1⟩⟩, h3, fun x hx => (h5 x hx).2.2⟩
def obC (o : xc) : Bool := decide (wu o = 0) && o.rels.all (fun r => decide (-9223372036854775808 ≤ r.at_ ∧ r.at_ ≤ 9223372036854775807 ∧ r.name.length ≤ 1000000000)) && o.syms.all fun s => decide (s.name.length ≤ 1000000000)
theorem zxA {o : xc} (h : obC o = true) : zri o := by
 unfold obC at h
 simp only [Bool.and_eq_true, decide_eq_true_eq, List.all_eq_true] at h
 exact ⟨h.1.1, h.1.2, h.2⟩
theorem zjf {α β : Type} {f g : α → β} {l : List α} (h : l.map f = l.map g) {x : α} (hx : x ∈ l) : f x = g x := by
 induction l with
 | nil => cases hx
 | cons y l ih =>
  rw [List.map_cons, List.map_cons] at h
  injection h with h1 h2
  rcases List.mem_cons.1 hx with rfl | hx
  ·exact h1
  ·exact ih h2 hx
def zuH (b : List UInt8) (o : xc) : (xc × Int × Int) × Bool × Bool := (zdg b, zje b, obC o)
def yz : List UInt8 := [97, 103, 97, 105, 110]
def zbI (k n : Int) (r : UInt8) : zN := ⟨k, [⟨1, 0, [109, 111, 118]⟩, ⟨3, 0, [35]⟩, ⟨2, n, []⟩, ⟨3, 0, [44]⟩, ⟨1, 0, [114, r]⟩]⟩
def agL : zN := ⟨3, [⟨1, 0, yz⟩, ⟨3, 0, [58]⟩, ⟨1, 0, [97, 100, 100]⟩, ⟨3, 0, [35]⟩, ⟨2, 1, []⟩, ⟨3, 0, [44]⟩, ⟨1, 0, [114, 48]⟩]⟩
def dtL : zN := ⟨7, [⟨1, 0, [100, 116]⟩, ⟨1, 0, [114, 49]⟩]⟩
def bfL : zN := ⟨8, [⟨1, 0, [98, 102]⟩, ⟨1, 0, yz⟩]⟩
def trL (k n : Int) : zN := ⟨k, [⟨1, 0, [116, 114, 97, 112, 97]⟩, ⟨3, 0, [35]⟩, ⟨2, n, []⟩]⟩
def zrj : List UInt8 := [109, 111, 118, 32, 35, 48, 44, 114, 48, 10, 109, 111, 118, 32, 35]
def zrk : List UInt8 := [44, 114, 49, 10, 97, 103, 97, 105, 110, 58, 32, 97, 100, 100, 32, 35, 49, 44, 114, 48, 10, 46, 114, 101, 112, 116, 32]
def zrl : List UInt8 := [10, 110, 111, 112, 10, 46, 101, 110, 100, 114, 10, 100, 116, 32, 114, 49, 10, 98, 102, 32, 97, 103, 97, 105, 110, 10, 116, 114, 97, 112, 97, 32, 35, 49, 10, 116, 114, 97, 112, 97, 32, 35, 48, 10]
def zbW (a b : List UInt8) : List UInt8 := (((zrj ++ a) ++ zrk) ++ b) ++ zrl
def zgJ (t u : Nat) : List Seg := [.pl (zbI 1 0 48), .pl (zbI 2 t 49), .pl agL, .rp ⟨zq6 4 u, u, [zaD 5], zlM 6⟩, .pl dtL, .pl bfL, .pl (trL 9 1), .pl (trL 10 0)]
def zeM (t u : Nat) : List zN := [zbI 1 0 48, zbI 2 t 49, agL] ++ (List.replicate u (zaD 5) ++ [dtL, bfL, trL 9 1, trL 10 0])
theorem zgK (t u : Nat) : x8 (zgJ t u) = zeM t u := by
 have h : x8 (zgJ t u) = [zbI 1 0 48, zbI 2 t 49, agL] ++ ((List.replicate u [zaD 5]).flatten ++ [dtL, bfL, trL 9 1, trL 10 0]) := rfl
 have e : ∀ n : Nat, (List.replicate n [zaD 5]).flatten = List.replicate n (zaD 5) := fun n => by
  induction n with
  | zero => rfl
  | succ n ih => rw [List.replicate_succ, List.flatten_cons, ih]; rfl
 rw [h, e]
 rfl
def zj9 (s : List UInt8) : List UInt8 := [109, 111, 118, 32, 35] ++ (s ++ [44, 114, 49])
theorem zwo : (List.range 10).map (fun t : Nat => (vT (zj9 (kI (t : Int))), (zj9 (kI (t : Int))).all (fun c => c != 10))) = (List.range 10).map fun t : Nat => (((zbI 2 t 49).toks, 0), true) := by kernel_rfl
theorem zwp {t : Nat} (h : t < 10) : vT (zj9 (kI (t : Int))) = ((zbI 2 t 49).toks, 0) ∧ (zj9 (kI (t : Int))).all (fun c => c != 10) = true := by
 have := zjf zwo (List.mem_range.2 h)
 rw [Prod.mk.injEq] at this
 exact this
theorem zwq (a b : List UInt8) : zbW a b = [109, 111, 118, 32, 35, 48, 44, 114, 48] ++ 10 :: (zj9 a ++ 10 :: ([97, 103, 97, 105, 110, 58, 32, 97, 100, 100, 32, 35, 49, 44, 114, 48] ++ 10 :: ((x7 ++ 32 :: b) ++ 10 :: ([110, 111, 112] ++ 10 :: (zad ++ 10 :: ([100, 116, 32, 114, 49] ++ 10 :: ([98, 102, 32, 97, 103, 97, 105, 110] ++ 10 ::
  ([116, 114, 97, 112, 97, 32, 35, 49] ++ 10 :: ([116, 114, 97, 112, 97, 32, 35, 48] ++ 10 :: []))))))))) := by
 unfold zbW zrj zrk zrl zj9 x7 zad
 simp
theorem zn2 {t u : Nat} (ht : t < 10) (hu : u < 1000) : (zbW (kI (t : Int)) (Lib.itoa (u : Int))).length ≤ 200 := by
 have h1 := (znN (u := u) (by omega)).2.1
 have h2 : (kI (t : Int)).length ≤ 10 := by
  unfold kI zhU
  rw [if_neg (by omega), if_pos (by omega)]
  show 1 ≤ 10
  decide
 unfold x7 at h1
 unfold zbW zrj zrk zrl
 simp only [List.length_append, List.length_cons, List.length_nil] at h1 ⊢
 omega
theorem zrm {t u : Nat} (ht : t < 10) (hu : u < 1000) : yF (zbW (kI (t : Int)) (Lib.itoa (u : Int))) = (qg (zgJ t u), 0, 0) := by
 have hl := zn2 ht hu
 obtain ⟨a1, _, a3⟩ := znN (u := u) (by omega)
 obtain ⟨b1, b2⟩ := zwp ht
 unfold yF
 rw [if_neg (by omega), zwq, zae (ts := (zbI 1 0 48).toks) _ _ _ (by kernel_rfl) (by kernel_rfl) (Nat.succ_ne_zero 4), zae _ _ _ b2 b1 (Nat.succ_ne_zero 4), zae (ts := agL.toks) _ _ _ (by kernel_rfl) (by kernel_rfl) (Nat.succ_ne_zero 6), zkS _ _ _ a3 a1 (Nat.succ_ne_zero 1),
  zae (t := [110, 111, 112]) (ts := (zaD 0).toks) _ _ _ (by kernel_rfl) (by kernel_rfl) (by decide), zae (t := zad) (ts := (zlM 0).toks) _ _ _ (by kernel_rfl) (by kernel_rfl) (by decide), zae (ts := dtL.toks) _ _ _ (by kernel_rfl) (by kernel_rfl) (by decide), zae (ts := bfL.toks) _ _ _ (by kernel_rfl) (by kernel_rfl) (by decide),
  zae (ts := (trL 9 1).toks) _ _ _ (by kernel_rfl) (by kernel_rfl) (by decide), zae (ts := (trL 10 0).toks) _ _ _ (by kernel_rfl) (by kernel_rfl) (by decide)]
 show vE [[]] _ _ = _
 rw [zdq, if_neg (by decide +kernel), if_pos (by decide +kernel)]
 rfl
theorem zwr {t u : Nat} (ht : t < 10) (hu : u ≤ 180) : zq9 (zbW (kI (t : Int)) (Lib.itoa (u : Int))) (zgJ t u) := by
 have hl := zn2 ht (u := u) (by omega)
 have hr : zj3 ⟨zq6 4 u, u, [zaD 5], zlM 6⟩ := ⟨rfl, by show (0 : Int) ≤ (u : Int); omega, by show (u : Int) ≤ 200; omega, rfl, fun x hx => by rw [List.mem_singleton.1 hx]; exact ⟨by show wA [110, 111, 112]; decide, by show 1 ≤ _; decide⟩⟩
 have ho : (zeM t u).length = u + 7 := by unfold zeM; simp
 have hk : (rpO ⟨zq6 4 (u : Int), u, [zaD 5], zlM 6⟩).length = u := by
  show ((List.replicate (u : Int).toNat [zaD 5]).flatten).length = u
  rw [Int.toNat_natCast]; simp
 have htot : kE (List.replicate u (zaD 5) ++ [dtL, bfL, trL 9 1, trL 10 0]) = u + 10 := by
  clear hl hr ho hk hu
  induction u with
  | zero => rfl
  | succ u ih => rw [List.replicate_succ, List.cons_append, kE, ih]; show 1 + _ = _; omega
 refine ⟨by omega, zrm ht (by omega), ⟨fun s hs => ?_, ?_, ?_, ?_⟩, ?_, ?_⟩
 ·simp only [zgJ, List.mem_cons, List.not_mem_nil, or_false] at hs
  rcases hs with rfl | rfl | rfl | rfl | rfl | rfl | rfl | rfl
  ·exact ⟨by show wA [109, 111, 118]; decide, by show 5 ≤ _; decide⟩
  ·exact ⟨by show wA [109, 111, 118]; decide, by show 5 ≤ _; decide⟩
  ·exact ⟨by show wA yz; decide, by show 7 ≤ _; decide⟩
  ·exact hr
  ·exact ⟨by show wA [100, 116]; decide, by show 2 ≤ _; decide⟩
  ·exact ⟨by show wA [98, 102]; decide, by show 2 ≤ _; decide⟩
  ·exact ⟨by show wA [116, 114, 97, 112, 97]; decide, by show 3 ≤ _; decide⟩
  ·exact ⟨by show wA [116, 114, 97, 112, 97]; decide, by show 3 ≤ _; decide⟩
 ·show 10 ≤ _; decide
 ·rw [zgK, ho]; omega
 ·show 1 + (1 + (1 + ((1 + (rpO _).length) + (1 + (1 + (1 + (1 + 0))))))) ≤ _
  rw [hk]; omega
 ·rw [zgK]
  show 5 + (5 + (7 + kE (List.replicate u (zaD 5) ++ [dtL, bfL, trL 9 1, trL 10 0]))) ≤ _
  rw [htot]; omega
 ·rw [zgK]
  intro x hx
  unfold zeM at hx
  rcases List.mem_append.1 hx with hx | hx
  ·simp only [List.mem_cons, List.not_mem_nil, or_false] at hx
   rcases hx with rfl | rfl | rfl
   ·decide
   ·show wt ((zbI 2 0 49).toks.map tk) ≤ _; decide
   ·decide
  rcases List.mem_append.1 hx with hx | hx
  ·rw [(List.mem_replicate.1 hx).2]; decide
  ·simp only [List.mem_cons, List.not_mem_nil, or_false] at hx
   rcases hx with rfl | rfl | rfl | rfl <;> decide
def itI (k op n imm : Int) : zn := ⟨1, 0, k, ⟨op, n, 0, imm⟩, false, 0, ⟨[], imm⟩, 0, 0⟩
def dtI : zn := ⟨1, 0, 7, ⟨16, 1, 0, 0⟩, false, 0, noV, 0, 0⟩
def bfI : zn := ⟨2, 0, 8, ⟨18, 0, 0, 0⟩, false, 0, ⟨yz, 0⟩, 0, 0⟩
theorem zuI : (List.range 10).map (fun t : Nat => xB [] [zbI 1 0 48, zbI 2 t 49, agL] b0) = (List.range 10).map fun t : Nat => bI [itI 1 3 0 0, itI 2 3 1 t, itI 3 4 0 1] [⟨yz, 0⟩] [2] := by kernel_rfl
theorem zs9 (its : List zn) (sy : List zu) (mk : List Int) : xB [] [dtL, bfL, trL 9 1, trL 10 0] (bI its sy mk) = bI ((((its ++ [dtI]) ++ [bfI]) ++ [itI 9 27 0 1]) ++ [itI 10 27 0 0]) sy mk := by kernel_rfl
theorem zta {t : Nat} (ht : t < 10) (u : Nat) : xB [] (zeM t u) b0 = bI ((itI 1 3 0 0 :: itI 2 3 1 t :: itI 3 4 0 1 :: (List.replicate u (znO 5 1) ++ [dtI])) ++ [bfI, itI 9 27 0 1, itI 10 27 0 0]) [⟨yz, 0⟩] [2] := by
 have h := zjf zuI (List.mem_range.2 ht)
 unfold zeM
 rw [zi6, h, zi6, zkT, zs9]
 simp
theorem zhW {x : zn} (h : x.kind = 1) (a : Int) : y7 [] x a = 2 := by unfold y7; rw [if_neg (by omega), if_neg (by omega), if_neg (by omega), if_neg (by omega)]
def bsz (lg : Bool) : Int := if lg = true then 6 else 2
theorem zws {x : zn} (h : x.kind = 2) (a : Int) : y7 [] x a = bsz x.long := by
 unfold y7 bsz
 by_cases hl : x.long = true
 ·rw [if_pos ⟨h, hl⟩, if_pos hl]
 ·rw [if_neg (fun e => hl e.2), if_neg (by omega), if_neg (by omega), if_neg (by omega), if_neg hl]
theorem zwt {W : List UInt8} {x : zn} {op m t : Int} (hk : x.kind = 2) (hl : x.long = false) (ho : op = 17 ∨ op = 18) (hx : x.ins.op = op) (hv : x.val = ⟨W, 0⟩) (ht : t = x.at_ + 4 + 2 * m) (h0 : 0 ≤ t) (h1 : t ≤ 100000) (ha : 0 ≤ x.at_) (ha' : x.at_ ≤ 100000) (hW : W ≠ [] := by decide) :
  xz [⟨W, t⟩] x = decide (m < -128 ∨ 127 < m) := by
 unfold xz
 rw [hv, zi8 t h0 (by omega) hW, hx]
 dsimp only
 rw [zpJ ho ht ha ha' (by omega) (by omega)]
 by_cases hm : m < -128 ∨ 127 < m
 ·rw [if_pos hm, decide_eq_true hm, decide_eq_true ⟨hk, hl, rfl, rfl⟩]
 ·rw [if_neg hm, decide_eq_false hm]
  exact decide_eq_false fun e => absurd e.2.2.2 (by dsimp only; decide)
def brC (op m : Int) (lg : Bool) : List UInt8 := if lg = true then vI (yI ⟨35 - op, 0, 0, 1⟩) ++ vI (yI ⟨19, 0, 0, m⟩) ++ [0, 9] else vI (yI ⟨op, 0, 0, m⟩)
theorem zwu {W : List UInt8} {its : List zn} {x : zn} {op m t : Int} {c : List UInt8} (hk : x.kind = 2) (ho : op = 17 ∨ op = 18) (hx : x.ins = ⟨op, 0, 0, 0⟩) (hv : x.val = ⟨W, 0⟩) (ha : x.at_ % 2 = 0) (h0 : 0 ≤ t) (h1 : t ≤ 90000) (ha0 : 0 ≤ x.at_) (ha1 : x.at_ ≤ 90000)
  (ht : if x.long = true then t = x.at_ + 2 + 4 + 2 * m ∧ -2048 ≤ m ∧ m ≤ 2047 else t = x.at_ + 4 + 2 * m ∧ -128 ≤ m ∧ m ≤ 127) (hW : W ≠ [] := by decide) : wT [] its [⟨W, t⟩] ⟨c, [], 0, 0⟩ x = ⟨c ++ brC op m x.long, [], 0, 0⟩ := by
 unfold wT
 rw [if_neg (by omega), if_neg (by omega), if_neg (by omega), if_neg (by omega), if_neg (by omega), if_neg (by omega), hv, zi8 t h0 (by omega) hW, if_neg (fun h => h rfl), if_pos hk]
 unfold qf brC
 rw [hx]
 cases hl : x.long with
 | false =>
  rw [hl, if_neg (by decide)] at ht
  have hb := zq8 ho ht.2.1 ht.2.2
  rw [if_pos rfl, if_neg (by decide)]
  exact zpK (by rw [zpJ ho ht.1 ha0 (by omega) (by omega) (by omega), if_neg (by omega)]) hb.right
 | true =>
  rw [hl, if_pos rfl] at ht
  have hb := zsO ht.2.1 ht.2.2
  have hw : w64 (35 - op) = 35 - op := zi7 (by omega) (by omega)
  have ho' : 35 - op = 17 ∨ 35 - op = 18 := by omega
  have hv' := zq8 (imm := 1) ho' (by decide) (by decide)
  rw [if_neg (fun h => Bool.noConfusion h), if_pos rfl]
  dsimp only
  rw [hw, zgI hv'.right, zpK (i := ⟨19, 0, 0, 0⟩) (m := m) (zus ht.1 (by omega) (by omega) ht.2.1 ht.2.2) hb.right, zgI (i := ⟨1, 0, 0, 0⟩) (by kernel_rfl)]
  have : vI (yI ⟨1, 0, 0, 0⟩) = [0, 9] := by kernel_rfl
  rw [this, List.append_assoc, List.append_assoc, List.append_assoc]
def One (x : zn) : Prop := x.kind = 1 ∧ zU x.ins = 0
theorem zjg : ∀ (F : List zn) (a : Int) (tl : List zn), (∀ x ∈ F, One x) → yn [] (F ++ tl) a = (yN F a ++ (yn [] tl (a + 2 * (F.length : Int))).1, (yn [] tl (a + 2 * (F.length : Int))).2)
 | [], a, tl, _ => by
  rw [List.nil_append, show a + 2 * (([] : List zn).length : Int) = a by simp]
  rfl
 | x :: F, a, tl, h => by
  rw [List.cons_append, yn, zhW (h x List.mem_cons_self).1, zjg F (a + 2) tl fun y hy => h y (List.mem_cons_of_mem _ hy),
   show a + 2 + 2 * (F.length : Int) = a + 2 * ((x :: F).length : Int) by simp only [List.length_cons]; omega]
  rfl
theorem zdz : ∀ (F : List zn) (a : Int), (∀ x ∈ F, One x) → ∀ x ∈ yN F a, One x
 | [], a, _ => fun x hx => by cases hx
 | y :: F, a, h => fun x hx => by
  rw [yN] at hx
  rcases List.mem_cons.1 hx with rfl | hx
  ·exact h y List.mem_cons_self
  ·exact zdz F (a + 2) (fun z hz => h z (List.mem_cons_of_mem _ hz)) x hx
theorem zbX (syms : List zu) : ∀ F : List zn, (∀ x ∈ F, One x) → F.any (xz syms) = false ∧ F.map (yQ syms) = F ∧ xH F = 0
 | [], _ => ⟨rfl, rfl, rfl⟩
 | x :: F, h => by
  obtain ⟨h1, h2, h3⟩ := zbX syms F fun y hy => h y (List.mem_cons_of_mem _ hy)
  have hk := (h x List.mem_cons_self).1
  obtain ⟨hm, hg⟩ := zlN (syms := syms) (x := x) (.inl (by omega))
  refine ⟨by rw [List.any_cons, hm, h1]; rfl, by rw [List.map_cons, hg, h2], ?_⟩
  unfold xH at h3 ⊢
  rw [List.filter_cons, if_neg (by rw [decide_eq_true_eq]; omega)]
  exact h3
def zn3 (F : List zn) : List UInt8 := (F.map fun x => vI (yI x.ins)).flatten
theorem zka {its : List zn} {syms : List zu} {x : zn} {c : List UInt8} (h : One x) (ha : x.at_ % 2 = 0) : wT [] its syms ⟨c, [], 0, 0⟩ x = ⟨c ++ vI (yI x.ins), [], 0, 0⟩ := by
 obtain ⟨h1, h2⟩ := h
 unfold wT
 rw [if_neg (by omega), if_neg (by omega), if_neg (by omega), if_neg (by omega), if_pos h1, zgI h2]
theorem zkZ (its : List zn) (syms : List zu) : ∀ (F : List zn) (a : Int) (c : List UInt8), (∀ x ∈ F, One x) → a % 2 = 0 →
  (yN F a).foldl (fun o x => if o.fe = 0 then wT [] its syms o x else o) ⟨c, [], 0, 0⟩ = ⟨c ++ zn3 F, [], 0, 0⟩
 | [], a, c, _, _ => by rw [yN, List.foldl_nil]; show _ = (⟨c ++ [], [], 0, 0⟩ : Out); rw [List.append_nil]
 | x :: F, a, c, h, ha => by
  rw [yN, List.foldl_cons, if_pos rfl, zka (x := atI x a) (h x List.mem_cons_self) ha, zkZ its syms F (a + 2) _ (fun y hy => h y (List.mem_cons_of_mem _ hy)) (by omega), List.append_assoc]
  rfl
theorem zjh (x0 x1 x2 x u v : zn) (F : List zn) (s : Int) (hF : ∀ y ∈ x0 :: x1 :: x2 :: F, One y) (hx : x.kind = 2) (hu : One u) (hv : One v) :
  yR [] [2] ⟨(x0 :: x1 :: x2 :: F) ++ [x, u, v], [⟨yz, s⟩]⟩ = (⟨yN (x0 :: x1 :: x2 :: F) 0 ++ [atI x (2 * ((F.length : Int) + 3)), atI u (2 * ((F.length : Int) + 3) + bsz x.long), atI v (2 * ((F.length : Int) + 3) + bsz x.long + 2)], [⟨yz, 4⟩]⟩, 2 * ((F.length : Int) + 3) + bsz x.long + 4) := by
 have hp : yn [] ((x0 :: x1 :: x2 :: F) ++ [x, u, v]) 0 = (yN (x0 :: x1 :: x2 :: F) 0 ++ [atI x (2 * ((F.length : Int) + 3)), atI u (2 * ((F.length : Int) + 3) + bsz x.long), atI v (2 * ((F.length : Int) + 3) + bsz x.long + 2)], 2 * ((F.length : Int) + 3) + bsz x.long + 4) := by
  rw [zjg _ _ _ hF, show (0 : Int) + 2 * ((x0 :: x1 :: x2 :: F).length : Int) = 2 * ((F.length : Int) + 3) by simp only [List.length_cons]; omega, yn, zws hx, yn, zhW hu.1, yn, zhW hv.1, yn, show 2 * ((F.length : Int) + 3) + bsz x.long + 2 + 2 = 2 * ((F.length : Int) + 3) + bsz x.long + 4 by omega]
  rfl
 unfold yR
 dsimp only
 rw [hp]
 dsimp only
 have hm : j9 (yN (x0 :: x1 :: x2 :: F) 0 ++ [atI x (2 * ((F.length : Int) + 3)), atI u (2 * ((F.length : Int) + 3) + bsz x.long), atI v (2 * ((F.length : Int) + 3) + bsz x.long + 2)]) (2 * ((F.length : Int) + 3) + bsz x.long + 4) 2 = 4 := by
  unfold j9 itA
  rw [if_pos (by rw [List.length_append, zeG]; simp only [List.length_cons]; omega)]
  rfl
 rw [wx, hm, wx]
 all_goals simp
theorem zrn (x0 x1 x2 u v : zn) (F : List zn) (hF : ∀ y ∈ x0 :: x1 :: x2 :: F, One y) (hu : One u) (hv : One v) (hn : F.length ≤ 200) (lg : Bool) (hlg : lg = decide (125 < F.length)) :
  yK [] [2] ⟨(x0 :: x1 :: x2 :: F) ++ [bfI, u, v], [⟨yz, 0⟩]⟩ = (⟨yN (x0 :: x1 :: x2 :: F) 0 ++ [{ atI bfI (2 * ((F.length : Int) + 3)) with long := lg }, atI u (2 * ((F.length : Int) + 3) + bsz lg), atI v (2 * ((F.length : Int) + 3) + bsz lg + 2)], [⟨yz, 4⟩]⟩, 2 * ((F.length : Int) + 3) + bsz lg + 4) := by
 have hs : xH ((x0 :: x1 :: x2 :: F) ++ [bfI, u, v]) = 1 := by
  have h2 := (zbX [] [u, v] fun y hy => by
   simp only [List.mem_cons, List.not_mem_nil, or_false] at hy
   rcases hy with rfl | rfl
   ·exact hu
   ·exact hv).2.2
  rw [show (x0 :: x1 :: x2 :: F) ++ [bfI, u, v] = (x0 :: x1 :: x2 :: F) ++ ([bfI] ++ [u, v]) from rfl, zkU, zkU, (zbX [] _ hF).2.2, h2]
  rfl
 unfold yK
 dsimp only
 rw [hs, zaN, zjh x0 x1 x2 bfI u v F 0 hF rfl hu hv]
 dsimp only
 obtain ⟨s1, s2, _⟩ := zbX [⟨yz, 4⟩] (yN (x0 :: x1 :: x2 :: F) 0) (zdz _ _ hF)
 have hT : ∀ y1 y2 : zn, y1.kind = 1 → y2.kind = 1 → [y1, y2].any (xz [⟨yz, 4⟩]) = false ∧ [y1, y2].map (yQ [⟨yz, 4⟩]) = [y1, y2] := fun y1 y2 h1 h2 => by
  obtain ⟨a1, a2⟩ := zlN (syms := [⟨yz, 4⟩]) (x := y1) (.inl (by omega))
  obtain ⟨b1, b2⟩ := zlN (syms := [⟨yz, 4⟩]) (x := y2) (.inl (by omega))
  exact ⟨by rw [List.any_cons, a1, List.any_cons, b1]; rfl, by rw [List.map_cons, a2, List.map_cons, b2]; rfl⟩
 have hb : bsz bfI.long = 2 := rfl
 rw [hb]
 have hm : xz [⟨yz, 4⟩] (atI bfI (2 * ((F.length : Int) + 3))) = lg := by
  rw [zwt (W := yz) (op := 18) (m := -3 - (F.length : Int)) rfl rfl (.inr rfl) rfl rfl (by show _ = 2 * ((F.length : Int) + 3) + 4 + _; omega) (by decide) (by decide) (by show 0 ≤ 2 * ((F.length : Int) + 3); omega) (by show 2 * ((F.length : Int) + 3) ≤ _; omega), hlg]
  by_cases h : 125 < F.length
  ·rw [decide_eq_true h]; exact decide_eq_true (by omega)
  ·rw [decide_eq_false h]; exact decide_eq_false (by omega)
 obtain ⟨t1, t2⟩ := hT (atI u (2 * ((F.length : Int) + 3) + 2)) (atI v (2 * ((F.length : Int) + 3) + 2 + 2)) hu.1 hv.1
 have ea : ∀ (p : List zn) (y z w : zn), p ++ [y, z, w] = p ++ ([y] ++ [z, w]) := fun p y z w => rfl
 rw [ea, List.any_append, s1, List.any_append, t1, List.map_append, s2, List.map_append, t2, List.any_cons, hm, List.map_cons]
 cases lg with
 | false =>
  rw [if_pos (.inl rfl)]
  unfold yQ
  rw [hm, if_neg (by decide)]
  rfl
 | true =>
  rw [if_neg (fun h => h.elim (fun h => Bool.noConfusion h) (fun h => by omega))]
  have hg : yQ [⟨yz, 4⟩] (atI bfI (2 * ((F.length : Int) + 3))) = { atI bfI (2 * ((F.length : Int) + 3)) with long := true } := by unfold yQ; rw [hm, if_pos rfl]
  have hfp := zjh (atI x0 0) (atI x1 2) (atI x2 4) { atI bfI (2 * ((F.length : Int) + 3)) with long := true } (atI u (2 * ((F.length : Int) + 3) + 2)) (atI v (2 * ((F.length : Int) + 3) + 2 + 2)) (yN F 6) 4 (zdz _ 0 hF) rfl hu hv
  have ep : ∀ a, yN (atI x0 0 :: atI x1 2 :: atI x2 4 :: yN F 6) a = yN (x0 :: x1 :: x2 :: F) a := fun a => zf5 (x0 :: x1 :: x2 :: F) 0 a
  rw [zeG, ep] at hfp
  have e0 : yN (x0 :: x1 :: x2 :: F) 0 = atI x0 0 :: atI x1 2 :: atI x2 4 :: yN F 6 := rfl
  rw [hg, List.map_nil, zaN, e0]
  have hb6 : bsz ({ atI bfI (2 * ((F.length : Int) + 3)) with long := true } : zn).long = 6 := rfl
  rw [hb6] at hfp
  rw [show (atI x0 0 :: atI x1 2 :: atI x2 4 :: yN F 6) ++ ([({ atI bfI (2 * ((F.length : Int) + 3)) with long := true } : zn)] ++ [atI u (2 * ((F.length : Int) + 3) + 2), atI v (2 * ((F.length : Int) + 3) + 2 + 2)]) = (atI x0 0 :: atI x1 2 :: atI x2 4 :: yN F 6) ++ [({ atI bfI (2 * ((F.length : Int) + 3)) with long := true } : zn), atI u (2 * ((F.length : Int) + 3) + 2), atI v (2 * ((F.length : Int) + 3) + 2 + 2)] from rfl, hfp]
  dsimp only
  obtain ⟨v1, v2⟩ := hT (atI (atI u (2 * ((F.length : Int) + 3) + 2)) (2 * ((F.length : Int) + 3) + 6)) (atI (atI v (2 * ((F.length : Int) + 3) + 2 + 2)) (2 * ((F.length : Int) + 3) + 6 + 2)) hu.1 hv.1
  obtain ⟨w1, w2⟩ := zlN (syms := [⟨yz, 4⟩]) (x := atI { atI bfI (2 * ((F.length : Int) + 3)) with long := true } (2 * ((F.length : Int) + 3))) (.inr rfl)
  rw [ea, List.any_append, s1, List.any_append, v1, List.map_append, s2, List.map_append, v2, List.any_cons, w1, List.map_cons, w2, if_pos (.inl rfl)]
  rfl
theorem ztb {n : Int} (h : n % 4 = 0) : upI n = n := by unfold upI; omega
theorem zwv {base n : Int} {o : xc} {l : List xc} {i : Nat} {bs bs' : List UInt8} {ss ss' : List zu} (h1 : upI n = n) (h2 : zaE n o.syms ss = some ss') (h3 : zaf bs (n - base).toNat o.code = bs') :
  lay base (o :: l) n i bs ss = lay base l (n + o.code.length) (i + 1) bs' ss' := by rw [lay, h1, h2, h3]
theorem zww {base n : Int} {o : xc} {l : List xc} {i : Nat} {bs bs' : List UInt8} {ss : List zu} (h1 : upI n = n) (h2 : zbG base n ss o.rels bs = .inr bs') :
  fix base ss (o :: l) n i bs = fix base ss l (n + o.code.length) (i + 1) bs' := by rw [fix, h1, h2]
theorem zuJ {m : zG} {base k w : Int} {i : Ins} (hb : m.img.base = base) (h2 : base % 4 = 0) (hk : 0 ≤ k) (hk2 : k % 2 = 0) (hl : k + 2 ≤ m.img.bytes.length) (hg : y8 m.img.bytes k 2 = w) (hd : wk w = (i, 0)) : xu m (base + k) = (i, 0) := by
 unfold xu inM
 rw [hb, if_pos (decide_eq_true ⟨by omega, by omega, by omega⟩), show base + k - base = k by omega, hg, hd]
theorem zcE {n : Nat} {m x : zG} {base k : Int} {i : Ins} (k' : Int) (hpc : m.pc = base + k) (hf : xu m (base + k) = (i, 0)) (h1 : ¬ (i.op = 27 ∧ i.imm = 0)) (h2 : wO i.op = false) (hp : zS { m with steps := m.steps + 1 } i (base + k) = (x, 0)) (hx : x.pc + 2 = base + k') :
  yC (n + 1) m = yC n { x with pc := base + k' } := by
 have hs : xq m = ({ x with pc := base + k' }, false, 0) := by
  unfold xq
  rw [hpc, hf]
  dsimp only
  rw [hpc] at hp
  rw [if_neg (fun h => h rfl), if_neg h1, if_pos h2, hp]
  dsimp only
  rw [if_neg (fun h => h rfl), hx]
 rw [yC, hs]
 dsimp only
 rw [if_neg (fun h => h rfl), if_neg (by decide)]
theorem zwx {n : Nat} {m m2 x : zG} {base k : Int} {i j : Ins} (k2 k3 : Int) (hpc : m.pc = base + k) (hf : xu m (base + k) = (i, 0)) (h1 : i.op ≠ 27) (h2 : wO i.op = true) (hl : xf { m with steps := m.steps + 1 } i = (m2, base + k2, true)) (hm : m2.pc + 2 = base + k3)
  (hj : xu m2 (base + k3) = (j, 0)) (hj1 : wO j.op = false) (hj2 : j.op ≠ 27) (hp : zS m2 j (base + k3) = (x, 0)) : yC (n + 1) m = yC n { x with pc := base + k2 } := by
 have hs : xq m = ({ x with pc := base + k2 }, false, 0) := by
  unfold xq
  rw [hpc, hf]
  dsimp only
  rw [hpc] at hl
  rw [if_neg (fun h => h rfl), if_neg (fun h => h1 h.1), if_neg (by rw [h2]; decide), hl]
  dsimp only
  rw [if_pos rfl]
  unfold wE
  rw [hm, hj]
  dsimp only
  rw [if_neg (fun h => h rfl), if_neg (by rintro (h | h); · rw [hj1] at h; cases h
                                          ·exact hj2 h), hp]
  dsimp only
  rw [if_neg (fun h => h rfl)]
 rw [yC, hs]
 dsimp only
 rw [if_neg (fun h => h rfl), if_neg (by decide)]
theorem zxB {n : Nat} {m : zG} {base k : Int} {i : Ins} (hpc : m.pc = base + k) (hf : xu m (base + k) = (i, 0)) (h1 : i.op = 27 ∧ i.imm = 0) : yC (n + 1) m = ({ m with steps := m.steps + 1 }, 0) := by
 have hs : xq m = ({ m with steps := m.steps + 1 }, true, 0) := by
  unfold xq
  rw [hpc, hf]
  dsimp only
  rw [if_neg (fun h => h rfl), if_pos h1]
 rw [yC, hs]
 dsimp only
 rw [if_neg (fun h => h rfl), if_pos rfl]
theorem zk0 {n : Int} (h0 : -1000 ≤ n) (h1 : n ≤ 1000) : zg n 32 = n := by
 have h : zg n 32 = if n % 4294967296 / 2147483648 = 1 then n % 4294967296 - 4294967296 else n % 4294967296 := rfl
 rw [h]
 split <;> omega
theorem zk1 (m : zG) (n a at_ : Int) : zS m ⟨3, n, 0, a⟩ at_ = (xI m n a, 0) := by unfold zS; dsimp only; rw [if_pos rfl]
theorem ztc {m : zG} {b at_ s : Int} (h : zg (m.r 0 + b) 32 = s) : zS m ⟨4, 0, 0, b⟩ at_ = (xI m 0 s, 0) := by
 unfold zS
 dsimp only
 rw [if_neg (by decide), if_pos rfl, show m.r (0 : Int).toNat = m.r 0 from rfl, h]
theorem zk2 (m : zG) (at_ : Int) : zS m ⟨1, 0, 0, 0⟩ at_ = (m, 0) := by
 unfold zS
 dsimp only
 rw [if_neg (by decide), if_neg (by decide), if_neg (by decide), if_neg (by decide), if_neg (by decide), if_neg (by decide), if_neg (by decide), if_neg (by decide)]
 unfold zeJ
 dsimp only
 rw [if_neg (by decide), if_neg (by decide), if_neg (by decide), if_neg (by decide), if_neg (by decide), if_neg (by decide), if_neg (by decide), if_neg (by decide), if_neg (by decide)]
theorem zro (m : zG) (at_ : Int) : zS m ⟨27, 0, 0, 1⟩ at_ = ({ m with told := m.told ++ [m.r 0] }, 0) := by
 unfold zS
 dsimp only
 rw [if_neg (by decide), if_neg (by decide), if_neg (by decide), if_neg (by decide), if_neg (by decide), if_neg (by decide), if_neg (by decide), if_pos rfl]
def yO (L : List Ins) : List UInt8 := (L.map fun i => vI (yI i)).flatten
theorem zdi (a b : List Ins) : yO (a ++ b) = yO a ++ yO b := by unfold yO; rw [List.map_append, List.flatten_append]
theorem kT (i : Ins) (l : List Ins) : yO (i :: l) = vI (yI i) ++ yO l := rfl
theorem zdj : ∀ L : List Ins, (yO L).length = 2 * L.length
 | [] => rfl
 | i :: l => by rw [kT, List.length_append, zdj l, show (vI (yI i)).length = 2 from rfl, List.length_cons]; omega
theorem zxC (F : List zn) : zn3 F = yO (F.map (·.ins)) := by unfold zn3 yO; rw [List.map_map]; rfl
def zeN : Ins := ⟨1, 0, 0, 0⟩
def zbY (lg : Bool) (u : Nat) : List Ins := if lg = true then [⟨17, 0, 0, 1⟩, ⟨19, 0, 0, -5 - (u : Int)⟩, zeN] else [⟨18, 0, 0, -4 - (u : Int)⟩]
def x4 (t u : Nat) (lg : Bool) : List Ins := [⟨3, 0, 0, 0⟩, ⟨3, 1, 0, t⟩, ⟨4, 0, 0, 1⟩] ++ (List.replicate u zeN ++ ([⟨16, 1, 0, 0⟩] ++ (zbY lg u ++ [⟨27, 0, 0, 1⟩, ⟨27, 0, 0, 0⟩])))
theorem zx4 (lg : Bool) (u : Nat) : brC 18 (if lg = true then -5 - (u : Int) else -4 - (u : Int)) lg = yO (zbY lg u) := by
 cases lg
 ·rw [if_neg (by decide)]
  unfold brC zbY
  rw [if_neg (by decide), if_neg (by decide), kT]
  exact (List.append_nil _).symm
 ·rw [if_pos rfl]
  unfold brC zbY
  rw [if_pos rfl, if_pos rfl, kT, kT, kT]
  have : vI (yI zeN) = [0, 9] := by kernel_rfl
  rw [this, List.append_assoc]
  rfl
theorem zk3 : (List.range 10).map (fun t : Nat => zU ⟨3, 1, 0, (t : Int)⟩) = (List.range 10).map fun _ => 0 := by kernel_rfl
theorem zuK {u : Nat} {x0 x1 x2 y z : zn} {F : List zn} {C : List UInt8} (lg : Bool) (hF : ∀ y ∈ x0 :: x1 :: x2 :: F, One y) (hy : One y) (hz : One z) (hfl : F.length = u + 1) (hu : u ≤ 180) (hlg : lg = decide (124 < u)) (hc : zn3 (x0 :: x1 :: x2 :: F) = C) :
  zj1 (bI ((x0 :: x1 :: x2 :: F) ++ [bfI, y, z]) [⟨yz, 0⟩] [2]) = (⟨((C ++ brC 18 (if lg = true then -5 - (u : Int) else -4 - (u : Int)) lg) ++ vI (yI y.ins)) ++ vI (yI z.ins), [⟨yz, 4⟩], []⟩, 0, 0) := by
 have hr := zrn x0 x1 x2 y z F hF hy hz (by omega) lg (by rw [hfl, hlg]; exact decide_eq_decide.2 (by omega))
 have hz6 : bsz lg ≤ 6 ∧ bsz lg % 2 = 0 := by cases lg <;> decide
 have he : ∀ its c, wT [] its [⟨yz, 4⟩] ⟨c, [], 0, 0⟩ { atI bfI (2 * ((F.length : Int) + 3)) with long := lg } = ⟨c ++ brC 18 (if lg = true then -5 - (u : Int) else -4 - (u : Int)) lg, [], 0, 0⟩ := fun its c =>
  zwu (W := yz) (x := { atI bfI (2 * ((F.length : Int) + 3)) with long := lg }) (op := 18) (m := if lg = true then -5 - (u : Int) else -4 - (u : Int)) rfl (.inr rfl) rfl rfl (by show (2 * ((F.length : Int) + 3)) % 2 = 0; omega) (by decide) (by decide)
   (by show 0 ≤ 2 * ((F.length : Int) + 3); omega) (by show 2 * ((F.length : Int) + 3) ≤ _; omega) (by
   dsimp only [atI]
   rw [hfl]
   cases lg with
   | true => rw [if_pos rfl, if_pos rfl]; have := of_decide_eq_true hlg.symm; omega
   | false => rw [if_neg (by decide), if_neg (by decide)]; have := of_decide_eq_false hlg.symm; omega)
 have hemit : ∀ its, (yN (x0 :: x1 :: x2 :: F) 0 ++ [{ atI bfI (2 * ((F.length : Int) + 3)) with long := lg }, atI y (2 * ((F.length : Int) + 3) + bsz lg), atI z (2 * ((F.length : Int) + 3) + bsz lg + 2)]).foldl (fun o x => if o.fe = 0 then wT [] its [⟨yz, 4⟩] o x else o) ⟨[], [], 0, 0⟩
   = ⟨((C ++ brC 18 (if lg = true then -5 - (u : Int) else -4 - (u : Int)) lg) ++ vI (yI y.ins)) ++ vI (yI z.ins), [], 0, 0⟩ := fun its => by
  rw [List.foldl_append, zkZ its _ _ 0 [] hF rfl, List.foldl_cons, if_pos rfl, he, List.foldl_cons, if_pos rfl, zka (x := atI y (2 * ((F.length : Int) + 3) + bsz lg)) hy (by show (2 * ((F.length : Int) + 3) + bsz lg) % 2 = 0; omega), List.foldl_cons, if_pos rfl,
   zka (x := atI z (2 * ((F.length : Int) + 3) + bsz lg + 2)) hz (by show (2 * ((F.length : Int) + 3) + bsz lg + 2) % 2 = 0; omega), List.foldl_nil, hc, List.nil_append]
  rfl
 unfold zj1 vA bI
 dsimp only
 rw [hr]
 dsimp only
 rw [hemit, if_neg (fun h => h rfl), if_neg (by rw [hfl]; omega), if_neg (fun h => h rfl)]
theorem ztd {t : Nat} (ht : t < 10) (u : Nat) : ∀ y ∈ itI 1 3 0 0 :: itI 2 3 1 t :: itI 3 4 0 1 :: (List.replicate u (znO 5 1) ++ [dtI]), One y := by
 have hw : zU ⟨3, 1, 0, (t : Int)⟩ = 0 := zjf zk3 (List.mem_range.2 ht)
 intro y hy
 rcases List.mem_cons.1 hy with rfl | hy
 ·exact ⟨rfl, by show zU ⟨3, 0, 0, 0⟩ = 0; kernel_rfl⟩
 rcases List.mem_cons.1 hy with rfl | hy
 ·exact ⟨rfl, hw⟩
 rcases List.mem_cons.1 hy with rfl | hy
 ·exact ⟨rfl, by show zU ⟨4, 0, 0, 1⟩ = 0; kernel_rfl⟩
 rcases List.mem_append.1 hy with hy | hy
 ·rw [(List.mem_replicate.1 hy).2]; exact ⟨rfl, by show zU ⟨1, 0, 0, 0⟩ = 0; kernel_rfl⟩
 ·rw [List.mem_singleton.1 hy]; exact ⟨rfl, by show zU ⟨16, 1, 0, 0⟩ = 0; kernel_rfl⟩
theorem zuL (t u : Nat) : zn3 (itI 1 3 0 0 :: itI 2 3 1 t :: itI 3 4 0 1 :: (List.replicate u (znO 5 1) ++ [dtI])) = yO ([⟨3, 0, 0, 0⟩, ⟨3, 1, 0, t⟩, ⟨4, 0, 0, 1⟩] ++ (List.replicate u zeN ++ [⟨16, 1, 0, 0⟩])) := by
 rw [zxC]
 refine congrArg yO ?_
 simp only [List.map_cons, List.map_append, List.map_replicate]
 rfl
theorem zte (t u : Nat) (lg : Bool) : ((yO ([⟨3, 0, 0, 0⟩, ⟨3, 1, 0, t⟩, ⟨4, 0, 0, 1⟩] ++ (List.replicate u zeN ++ [⟨16, 1, 0, 0⟩])) ++ yO (zbY lg u)) ++ vI (yI ⟨27, 0, 0, 1⟩)) ++ vI (yI ⟨27, 0, 0, 0⟩) = yO (x4 t u lg) := by
 have e : ∀ i : Ins, vI (yI i) = yO [i] := fun i => (List.append_nil _).symm
 rw [e, e, ← zdi, ← zdi, ← zdi]
 refine congrArg yO ?_
 unfold x4
 simp only [List.append_assoc]
 rfl
theorem zuM {t u : Nat} (ht : t < 10) (hu : u ≤ 180) (lg : Bool) (hlg : lg = decide (124 < u)) : wz [] (zeM t u) = (⟨yO (x4 t u lg), [⟨yz, 4⟩], []⟩, 0, 0) := by
 have hl := zuK (u := u) (y := itI 9 27 0 1) (z := itI 10 27 0 0) lg (ztd ht u) ⟨rfl, by show zU ⟨27, 0, 0, 1⟩ = 0; kernel_rfl⟩ ⟨rfl, by show zU ⟨27, 0, 0, 0⟩ = 0; kernel_rfl⟩ (by simp) hu hlg (zuL t u)
 rw [zx4, show (itI 9 27 0 1).ins = ⟨27, 0, 0, 1⟩ from rfl, show (itI 10 27 0 0).ins = ⟨27, 0, 0, 0⟩ from rfl, zte] at hl
 unfold wz
 rw [zta ht]
 have hp : ∀ its line, vP (bI its [⟨yz, 0⟩] [2]) line = bI its [⟨yz, 0⟩] [2] := fun its line => by unfold vP; rw [if_neg (fun h => Bool.noConfusion h)]
 rw [hp]
 exact hl
theorem zoY {c : List UInt8} (h1 : 4 ≤ c.length) (h2 : c.length ≤ 8000) : wu ⟨c, [⟨yz, 4⟩], []⟩ = 0 := by
 have hn : yL yz = true := by kernel_rfl
 have hs : w7 (c.length : Int) [⟨yz, 4⟩] [] = none := by
  rw [w7, if_neg (by rw [hn]; simp), if_neg (by dsimp only; omega), w7]
 unfold wu
 dsimp only
 rw [if_neg (by simp only [List.length_cons, List.length_nil]; omega), hs, kP]
theorem zrp {c : List UInt8} (hw : wu ⟨c, [⟨yz, 4⟩], []⟩ = 0) : x3 [⟨c, [⟨yz, 4⟩], []⟩] 0 = (⟨0, c, [⟨yz, 4⟩]⟩, 0, 0) := by
 have hl : lay 0 [⟨c, [⟨yz, 4⟩], []⟩] 0 0 [] [] = .inr (c, [⟨yz, 4⟩]) := by
  rw [zwv (bs' := c) (ss' := [⟨yz, 4⟩]) (ztb (by decide)) (by rw [zaE, if_neg (by rw [qS]; decide), zaE]; rfl) (by unfold zaf; simp), lay]
 have hf : fix 0 [⟨yz, 4⟩] [⟨c, [⟨yz, 4⟩], []⟩] 0 0 c = .inr c := by
  rw [zww (bs' := c) (ztb (by decide)) (by rw [zbG]), fix]
 unfold x3 zeI
 rw [if_neg (by omega), if_neg (by show ¬ (1 < 1 ∨ 4 < 1); omega), jf, if_pos hw, jf]
 dsimp only
 rw [hl]
 dsimp only
 rw [hf]
theorem zga (t u : Nat) (lg : Bool) (hu : u ≤ 180) : 4 ≤ (yO (x4 t u lg)).length ∧ (yO (x4 t u lg)).length ≤ 8000 := by
 rw [zdj]
 have hb : (zbY lg u).length ≤ 3 := by
  unfold zbY
  split
  ·exact Nat.le_refl 3
  ·exact Nat.le_succ_of_le (Nat.le_succ 1)
 unfold x4
 simp only [List.length_append, List.length_replicate, List.length_cons, List.length_nil]
 omega
theorem zkb {n : Nat} {m m2 : zG} {base k : Int} {i : Ins} (k2 : Int) (hpc : m.pc = base + k) (hf : xu m (base + k) = (i, 0)) (h1 : i.op ≠ 27) (h2 : wO i.op = true) (hl : xf { m with steps := m.steps + 1 } i = (m2, base + k2, false)) : yC (n + 1) m = yC n { m2 with pc := base + k2 } := by
 have hs : xq m = ({ m2 with pc := base + k2 }, false, 0) := by
  unfold xq
  rw [hpc, hf]
  dsimp only
  rw [hpc] at hl
  rw [if_neg (fun h => h rfl), if_neg (fun h => h1 h.1), if_neg (by rw [h2]; decide), hl]
  dsimp only
  rw [if_neg (by decide)]
 rw [yC, hs]
 dsimp only
 rw [if_neg (fun h => h rfl), if_neg (by decide)]
theorem zwy (m : zG) (imm : Int) : xf m ⟨18, 0, 0, imm⟩ = (m, if m.t = true then m.pc + 2 else m.pc + 4 + 2 * imm, false) := by
 have hs : wD 18 = 4 := by kernel_rfl
 unfold xf toM
 dsimp only
 rw [if_neg (by decide), if_pos rfl, hs, if_pos (show (4 : Int) = 4 ∨ (4 : Int) = 5 ∨ (4 : Int) = 7 from .inl rfl)]
theorem zx5 {m : zG} {imm to : Int} (h : (if m.t = true then m.pc + 2 else m.pc + 4 + 2 * imm) = to) : xf m ⟨18, 0, 0, imm⟩ = (m, to, false) := by rw [zwy, h]
theorem zwz (m : zG) (imm : Int) : xf m ⟨17, 0, 0, imm⟩ = (m, if m.t = true then m.pc + 4 + 2 * imm else m.pc + 2, false) := by
 have hs : wD 17 = 4 := by kernel_rfl
 unfold xf toM
 dsimp only
 rw [if_pos rfl, hs, if_pos (show (4 : Int) = 4 ∨ (4 : Int) = 5 ∨ (4 : Int) = 7 from .inl rfl)]
theorem zu9 {m : zG} {imm to : Int} (h : (if m.t = true then m.pc + 4 + 2 * imm else m.pc + 2) = to) : xf m ⟨17, 0, 0, imm⟩ = (m, to, false) := by rw [zwz, h]
theorem zuN (m : zG) (imm : Int) : xf m ⟨19, 0, 0, imm⟩ = (m, m.pc + 4 + 2 * imm, true) := by
 have hs : wD 19 = 5 := by kernel_rfl
 unfold xf toM
 dsimp only
 rw [if_neg (by decide), if_neg (by decide), if_neg (by decide), if_neg (by decide), if_neg (by decide), if_neg (by decide), hs, if_pos (show (5 : Int) = 4 ∨ (5 : Int) = 5 ∨ (5 : Int) = 7 from .inr (.inl rfl))]
theorem zxD {m : zG} {imm to : Int} (h : m.pc + 4 + 2 * imm = to) : xf m ⟨19, 0, 0, imm⟩ = (m, to, true) := by rw [zuN, h]
theorem zuO {m : zG} {at_ s : Int} (h : zg (m.r 1 - 1) 32 = s) : zS m ⟨16, 1, 0, 0⟩ at_ = (zcC (xI m 1 s) (decide (s = 0)), 0) := by
 unfold zS
 dsimp only
 rw [if_neg (by decide), if_neg (by decide), if_neg (by decide), if_neg (by decide), if_pos rfl, show m.r (1 : Int).toNat = m.r 1 from rfl, h]
theorem wF {L : List Ins} {ss : List zu} {m : zG} {j : Nat} {i : Ins} (hm : m.img = ⟨0, yO L, ss⟩) (hj : L[j]? = some i) (hw : zU i = 0) : xu m (0 + 2 * (j : Int)) = (i, 0) := by
 have hjl : j < L.length := (List.getElem?_eq_some_iff.1 hj).1
 have hs : L = L.take j ++ i :: L.drop (j + 1) := by
  have := List.getElem?_eq_some_iff.1 hj
  obtain ⟨h, e⟩ := this
  rw [← e, List.getElem_cons_drop h, List.take_append_drop]
 obtain ⟨h0, h1, hd⟩ := zu6 hw
 have hc : yO L = yO (L.take j) ++ (vI (yI i) ++ yO (L.drop (j + 1))) := by
  conv => lhs; rw [hs]
  rw [zdi, kT]
 have hlen : (yO (L.take j)).length = 2 * j := by rw [zdj, List.length_take]; omega
 have hg : y8 (yO L) (2 * (j : Int)) 2 = yI i := by
  rw [hc, show 2 * (j : Int) = (((yO (L.take j)).length : Nat) : Int) by omega]
  exact zwb h0 (by omega)
 have hcl := zdj L
 exact zuJ (base := 0) (by rw [hm]) (by decide) (by omega) (by omega) (by rw [hm]; show 2 * (j : Int) + 2 ≤ ((yO L).length : Int); omega) (by rw [hm]; exact hg) hd
theorem zk4 : zU zeN = 0 := by kernel_rfl
attribute [local irreducible] yC xu zS xf wk xq y8 xv yO
theorem zn4 {L : List Ins} {ss : List zu} (r : Nat → Int) (tf : Bool) : ∀ (c j : Nat) (st : Int), (∀ i : Nat, i < c → L[j + i]? = some zeN) →
  ∃ st', ∀ n : Nat, yC (n + c) ⟨r, tf, 0 + 2 * (j : Int), -1, ⟨0, yO L, ss⟩, [], st⟩ = yC n ⟨r, tf, 0 + 2 * ((j + c : Nat) : Int), -1, ⟨0, yO L, ss⟩, [], st'⟩
 | 0, j, st, _ => ⟨st, fun _ => rfl⟩
 | c + 1, j, st, h => by
  have hf := h 0 (by omega)
  rw [Nat.add_zero] at hf
  obtain ⟨st', ih⟩ := zn4 (L := L) (ss := ss) r tf c (j + 1) (st + 1) fun i hi => by have := h (i + 1) (by omega); rwa [show j + (i + 1) = j + 1 + i by omega] at this
  refine ⟨st', fun n => ?_⟩
  have e : yC ((n + c) + 1) ⟨r, tf, 0 + 2 * (j : Int), -1, ⟨0, yO L, ss⟩, [], st⟩ = yC (n + c) ⟨r, tf, 0 + 2 * ((j + 1 : Nat) : Int), -1, ⟨0, yO L, ss⟩, [], st + 1⟩ :=
   zcE (base := 0) (k := 2 * (j : Int)) (2 * ((j + 1 : Nat) : Int)) rfl (wF rfl hf zk4) (fun h => absurd h.1 (by decide)) (by kernel_rfl) (zk2 _ _) (by show 0 + 2 * (j : Int) + 2 = 0 + 2 * ((j + 1 : Nat) : Int); omega)
  rw [show n + (c + 1) = (n + c) + 1 by omega, e, ih, show j + 1 + c = j + (c + 1) by omega]
theorem zpN (t u : Nat) (lg : Bool) : (x4 t u lg)[0]? = some ⟨3, 0, 0, 0⟩ ∧ (x4 t u lg)[1]? = some ⟨3, 1, 0, t⟩ ∧ (x4 t u lg)[2]? = some ⟨4, 0, 0, 1⟩ ∧ (∀ i : Nat, i < u → (x4 t u lg)[3 + i]? = some zeN) ∧ (x4 t u lg)[3 + u]? = some ⟨16, 1, 0, 0⟩ ∧
  ∀ i : Nat, (x4 t u lg)[4 + u + i]? = (zbY lg u ++ [⟨27, 0, 0, 1⟩, ⟨27, 0, 0, 0⟩])[i]? := by
 have h3 : ∀ i : Nat, (x4 t u lg)[3 + i]? = (List.replicate u zeN ++ ([⟨16, 1, 0, 0⟩] ++ (zbY lg u ++ [⟨27, 0, 0, 1⟩, ⟨27, 0, 0, 0⟩])))[i]? := fun i => by
  unfold x4
  rw [List.getElem?_append_right (by show 3 ≤ 3 + i; omega), show 3 + i - ([⟨3, 0, 0, 0⟩, ⟨3, 1, 0, (t : Int)⟩, ⟨4, 0, 0, 1⟩] : List Ins).length = i by show 3 + i - 3 = i; omega]
 refine ⟨rfl, rfl, rfl, fun i hi => ?_, ?_, fun i => ?_⟩
 ·rw [h3, List.getElem?_append_left (by rw [List.length_replicate]; exact hi), List.getElem?_replicate, if_pos hi]
 ·rw [h3, List.getElem?_append_right (by rw [List.length_replicate]; exact Nat.le_refl _), List.length_replicate, Nat.sub_self]
  rfl
 ·rw [show 4 + u + i = 3 + (u + 1 + i) by omega, h3, List.getElem?_append_right (by rw [List.length_replicate]; omega), List.length_replicate, show u + 1 + i - u = i + 1 by omega]
  rfl
end Go.Proofs.YthmdddenbfbefaaGreatDoor
namespace Go.Proofs.YthmdddenbfbefaaGreatDoor
open Go Go.Plat
set_option linter.unusedVariables false
set_option linter.unusedSimpArgs false
set_option maxRecDepth 100000
set_option maxHeartbeats 2000000
attribute [local irreducible] AWP zC yg zJ zo yw z8 zH z1 z6 zt za zP yx zp z7 yt yu yi yk zw zx zy
theorem zwA {u : Nat} (hu : u ≤ 180) : zU ⟨19, 0, 0, -5 - (u : Int)⟩ = 0 := (zsO (by omega) (by omega)).right
theorem zwB {u : Nat} (hu : u ≤ 124) : zU ⟨18, 0, 0, -4 - (u : Int)⟩ = 0 := (zq8 (.inr rfl) (by omega) (by omega)).right
def vJ (lg : Bool) (u : Nat) : Nat := if lg = true then 7 + u else 5 + u
attribute [local irreducible] yC xu zS xf wk xq y8 xv yO x4
def mK (r : Nat → Int) (tf : Bool) (t u : Nat) (lg : Bool) (ss : List zu) (j : Nat) (st : Int) : zG := ⟨r, tf, 0 + 2 * (j : Int), -1, ⟨0, yO (x4 t u lg), ss⟩, [], st⟩
theorem zk5 {t u : Nat} {lg : Bool} {ss : List zu} (hu : u ≤ 180) (hlg : lg = decide (124 < u)) (r : Nat → Int) (tf : Bool) (st a b : Int) (ha : r 0 = a) (hb : r 1 = b) (ha0 : 0 ≤ a) (ha1 : a ≤ 100) (hb0 : 1 ≤ b) (hb1 : b ≤ 100) :
  ∃ c r' st', c ≤ u + 4 ∧ r' 0 = a + 1 ∧ r' 1 = b - 1 ∧ ∀ n, yC (n + c) (mK r tf t u lg ss 2 st) = yC n (mK r' (decide (b - 1 = 0)) t u lg ss (if b - 1 = 0 then vJ lg u else 2) st') := by
 obtain ⟨_, _, l2, ln, ld, lb⟩ := zpN t u lg
 have e1 : ∀ n, yC (n + 1) (mK r tf t u lg ss 2 st) = yC n (mK (up r 0 (a + 1)) tf t u lg ss 3 (st + 1)) := fun n =>
  zcE (base := 0) (k := 2 * ((2 : Nat) : Int)) (2 * ((3 : Nat) : Int)) rfl (wF rfl l2 (by kernel_rfl)) (fun h => absurd h.1 (by decide)) (by kernel_rfl) (ztc (s := a + 1) (by show zg (r 0 + 1) 32 = a + 1; rw [ha]; exact zk0 (by omega) (by omega))) (by show (0 : Int) + 2 * ((2 : Nat) : Int) + 2 = 0 + 2 * ((3 : Nat) : Int); decide)
 have e2 : ∃ s2, ∀ n, yC (n + u) (mK (up r 0 (a + 1)) tf t u lg ss 3 (st + 1)) = yC n (mK (up r 0 (a + 1)) tf t u lg ss (3 + u) s2) := zn4 (L := x4 t u lg) (ss := ss) (up r 0 (a + 1)) tf u 3 (st + 1) ln
 obtain ⟨s2, e2⟩ := e2
 have h10 : up r 0 (a + 1) 1 = b := by unfold up; rw [if_neg (by decide), hb]
 have e3 : ∀ n, yC (n + 1) (mK (up r 0 (a + 1)) tf t u lg ss (3 + u) s2) = yC n (mK (up (up r 0 (a + 1)) 1 (b - 1)) (decide (b - 1 = 0)) t u lg ss (4 + u) (s2 + 1)) := fun n =>
  zcE (base := 0) (k := 2 * ((3 + u : Nat) : Int)) (2 * ((4 + u : Nat) : Int)) rfl (wF rfl ld (by kernel_rfl)) (fun h => absurd h.1 (by decide)) (by kernel_rfl) (zuO (s := b - 1) (by show zg (up r 0 (a + 1) 1 - 1) 32 = b - 1; rw [h10]; exact zk0 (by omega) (by omega))) (by show (0 : Int) + 2 * ((3 + u : Nat) : Int) + 2 = 0 + 2 * ((4 + u : Nat) : Int); omega)
 have r0 : up (up r 0 (a + 1)) 1 (b - 1) 0 = a + 1 := by unfold up; rw [if_neg (by decide), if_pos (by decide)]
 have r1 : up (up r 0 (a + 1)) 1 (b - 1) 1 = b - 1 := by unfold up; rw [if_pos (by decide)]
 generalize up (up r 0 (a + 1)) 1 (b - 1) = r2 at *
 have hhead : ∀ n, yC (n + (u + 2)) (mK r tf t u lg ss 2 st) = yC n (mK r2 (decide (b - 1 = 0)) t u lg ss (4 + u) (s2 + 1)) := fun n => by
  rw [show n + (u + 2) = (n + 1 + u) + 1 by omega, e1, e2, e3]
 cases lg with
 | false =>
  have hu2 : u ≤ 124 := by have := of_decide_eq_false hlg.symm; omega
  have l0 := lb 0
  have e4 : ∀ n, yC (n + 1) (mK r2 (decide (b - 1 = 0)) t u false ss (4 + u) (s2 + 1)) = yC n (mK r2 (decide (b - 1 = 0)) t u false ss (if b - 1 = 0 then vJ false u else 2) (s2 + 1 + 1)) := fun n =>
   zkb (base := 0) (k := 2 * ((4 + u : Nat) : Int)) (2 * ((if b - 1 = 0 then vJ false u else 2 : Nat) : Int)) rfl (wF rfl l0 (zwB hu2)) (by show (18 : Int) ≠ 27; decide) (by show wO 18 = true; kernel_rfl) (zx5 (by
    show (if decide (b - 1 = 0) = true then (0 : Int) + 2 * ((4 + u : Nat) : Int) + 2 else 0 + 2 * ((4 + u : Nat) : Int) + 4 + 2 * (-4 - (u : Int))) = 0 + 2 * (((if b - 1 = 0 then vJ false u else 2) : Nat) : Int)
    by_cases h : b - 1 = 0
    ·rw [if_pos (decide_eq_true h), if_pos h]; show (0 : Int) + 2 * ((4 + u : Nat) : Int) + 2 = 0 + 2 * ((5 + u : Nat) : Int); omega
    ·rw [if_neg (by rw [decide_eq_false h]; decide), if_neg h]; show (0 : Int) + 2 * ((4 + u : Nat) : Int) + 4 + 2 * (-4 - (u : Int)) = 0 + 2 * ((2 : Nat) : Int); omega))
  exact ⟨u + 3, r2, _, by omega, r0, r1, fun n => by rw [show n + (u + 3) = (n + 1) + (u + 2) by omega, hhead, e4]⟩
 | true =>
  have l0 := lb 0
  have l1 := lb 1
  have l2 := lb 2
  by_cases h : b - 1 = 0
  ·have e4 : ∀ n, yC (n + 1) (mK r2 (decide (b - 1 = 0)) t u true ss (4 + u) (s2 + 1)) = yC n (mK r2 (decide (b - 1 = 0)) t u true ss (if b - 1 = 0 then vJ true u else 2) (s2 + 1 + 1)) := fun n =>
    zkb (base := 0) (k := 2 * ((4 + u : Nat) : Int)) (2 * ((if b - 1 = 0 then vJ true u else 2 : Nat) : Int)) rfl (wF rfl l0 (by kernel_rfl)) (by show (17 : Int) ≠ 27; decide) (by show wO 17 = true; kernel_rfl) (zu9 (by
     show (if decide (b - 1 = 0) = true then (0 : Int) + 2 * ((4 + u : Nat) : Int) + 4 + 2 * 1 else 0 + 2 * ((4 + u : Nat) : Int) + 2) = 0 + 2 * (((if b - 1 = 0 then vJ true u else 2) : Nat) : Int)
     rw [if_pos (decide_eq_true h), if_pos h]
     show (0 : Int) + 2 * ((4 + u : Nat) : Int) + 4 + 2 * 1 = 0 + 2 * ((7 + u : Nat) : Int)
     omega))
   exact ⟨u + 3, r2, _, by omega, r0, r1, fun n => by rw [show n + (u + 3) = (n + 1) + (u + 2) by omega, hhead, e4]⟩
  ·have e4 : ∀ n, yC (n + 1) (mK r2 (decide (b - 1 = 0)) t u true ss (4 + u) (s2 + 1)) = yC n (mK r2 (decide (b - 1 = 0)) t u true ss (5 + u) (s2 + 1 + 1)) := fun n =>
    zkb (base := 0) (k := 2 * ((4 + u : Nat) : Int)) (2 * ((5 + u : Nat) : Int)) rfl (wF rfl l0 (by kernel_rfl)) (by show (17 : Int) ≠ 27; decide) (by show wO 17 = true; kernel_rfl) (zu9 (by
     show (if decide (b - 1 = 0) = true then (0 : Int) + 2 * ((4 + u : Nat) : Int) + 4 + 2 * 1 else 0 + 2 * ((4 + u : Nat) : Int) + 2) = 0 + 2 * ((5 + u : Nat) : Int)
     rw [if_neg (by rw [decide_eq_false h]; decide)]
     show (0 : Int) + 2 * ((4 + u : Nat) : Int) + 2 = 0 + 2 * ((5 + u : Nat) : Int)
     omega))
   have e5 : ∀ n, yC (n + 1) (mK r2 (decide (b - 1 = 0)) t u true ss (5 + u) (s2 + 1 + 1)) = yC n (mK r2 (decide (b - 1 = 0)) t u true ss (if b - 1 = 0 then vJ true u else 2) (s2 + 1 + 1 + 1)) := fun n =>
    zwx (base := 0) (k := 2 * ((5 + u : Nat) : Int)) (2 * ((if b - 1 = 0 then vJ true u else 2 : Nat) : Int)) (2 * ((6 + u : Nat) : Int)) rfl (wF rfl (by rw [show 5 + u = 4 + u + 1 by omega]; exact l1) (zwA hu)) (by show (19 : Int) ≠ 27; decide) (by show wO 19 = true; kernel_rfl) (zxD (by
     dsimp only [mK]
     rw [if_neg h]
     show (0 : Int) + 2 * ((5 + u : Nat) : Int) + 4 + 2 * (-5 - (u : Int)) = 0 + 2 * ((2 : Nat) : Int)
     omega)) (by show (0 : Int) + 2 * ((5 + u : Nat) : Int) + 2 = 0 + 2 * ((6 + u : Nat) : Int); omega) (wF rfl (by rw [show 6 + u = 4 + u + 2 by omega]; exact l2) zk4) (by kernel_rfl) (by decide) (zk2 _ _)
   exact ⟨u + 4, r2, _, by omega, r0, r1, fun n => by rw [show n + (u + 4) = (n + 1 + 1) + (u + 2) by omega, hhead, e4, e5]⟩
end Go.Proofs.YthmdddenbfbefaaGreatDoor
namespace Go.Proofs.YthmdddenbfbefaaGreatDoor
open Go Go.Plat
set_option linter.unusedVariables false
set_option linter.unusedSimpArgs false
set_option maxRecDepth 100000
set_option maxHeartbeats 2000000
attribute [local irreducible] AWP zC yg zJ zo yw z8 zH z1 z6 zt za zP yx zp z7 yt yu yi yk zw zx zy
def zR : Nat → Int := fun _ => 0
attribute [local irreducible] yC xu zS xf wk xq y8 xv
end Go.Proofs.YthmdddenbfbefaaGreatDoor
namespace Go.Proofs.YthmdddenbfbefaaGreatDoor
open Go Go.Plat
set_option linter.unusedVariables false
set_option linter.unusedSimpArgs false
set_option maxRecDepth 100000
set_option maxHeartbeats 2000000
attribute [local irreducible] AWP zC yg zJ zo yw z8 zH z1 z6 zt za zP yx zp z7 yt yu yi yk zw zx zy
theorem zpO (u : Nat) : (zhU u).length ≤ 3 := by
 unfold zhU
 split
 ·show 1 ≤ 3; decide
 split
 ·show 2 ≤ 3; decide
 ·show 3 ≤ 3; decide
theorem zpP (n : Int) : (kI n).length ≤ 4 := by
 unfold kI
 split
 ·have := zpO n.natAbs; rw [List.length_cons]; omega
 ·have := zpO n.toNat; omega
theorem zgL {s t : List UInt8} {K : D → Prop} (p q : Nat) (hs : s.length ≤ p) (ht : t.length ≤ q) (hb : p + q ≤ 1000000) (h : ∀ y, y = s ++ t → y.length ≤ p + q → K (.str y)) : yw s t K :=
 ziu (by omega) (h _ rfl (by rw [List.length_append]; omega))
abbrev UP : Src → Prop := fun x => zi5 x.1 ∧ zdg x.1 = (x.2, 0, 0)
theorem zxE {b : List UInt8} {o : xc} (h : zuH b o = ((o, 0, 0), true, true)) : UP (b, o) ∧ zri o := by
 unfold zuH at h
 rw [Prod.mk.injEq, Prod.mk.injEq (zje b)] at h
 exact ⟨⟨zs8 h.2.1, h.1⟩, zxA h.2.2⟩
def zji : List UInt8 := [109, 111, 118, 32, 35, 53, 44, 114, 48, 10, 116, 114, 97, 112, 97, 32, 35, 49, 10, 116, 114, 97, 112, 97, 32, 35, 48, 10]
def zlS : xc := ⟨[224, 5, 195, 1, 195, 0], [], []⟩
theorem zuP : zuH zji zlS = ((zlS, 0, 0), true, true) := by kernel_rfl
def zjj : j8 := ⟨0, [224, 5, 195, 1, 195, 0], []⟩
theorem zwC : zlR UP [(zji, zlS)] 0 zjj (kH (zbH zjj) 2000).1 0 :=
 ⟨by decide, fun x hx => by rw [List.mem_singleton.1 hx]; exact zxE zuP, ⟨by decide, by decide⟩, by kernel_rfl, rfl, by decide, by decide, Prod.ext rfl (by kernel_rfl)⟩
theorem ztf : (kH (zbH zjj) 2000).1.told = [5] := by kernel_rfl
attribute [local irreducible] kH zbH kI zji
theorem zn5 : za Tryz.prog zlk (zz (fun _ : Unit => True) (fun _ => []) fun _ => .bool true) := by
 refine zf zj Tryz.func24 rfl (by decide) fun _ _ => ?_
 refine ⟨Nat.le_refl _, by simp [Tryz.f24], fun E hE => ?_⟩
 refine ze _ ?_
 (all_goals refine qgp ?_ <;> (repeat' first | exact trivial | intro hc | refine And.intro ?_ ?_) <;> refine Lf.mk ?_)
 refine zb (zjd zlz) ([(zji, zlS)], 0, zjj, (kH (zbH zjj) 2000).1, 0) zwC (VS.mk (LeL.of_eq (by unfold zji; rfl))) ?_
 dsimp only
 rw [ztf]
 (all_goals refine qgp ?_ <;> (repeat' first | exact trivial | intro hc | refine And.intro ?_ ?_) <;> refine Lf.mk ?_)
 ·exact zd (VS.mk (LeD.of_eq rfl))
 ·exact absurd trivial hc
end Go.Proofs.YthmdddenbfbefaaGreatDoor
namespace Go.Proofs.YthmdddenbfbefaaGreatDoor
open Go Go.Plat
set_option linter.unusedVariables false
set_option linter.unusedSimpArgs false
set_option maxRecDepth 100000
set_option maxHeartbeats 2000000
attribute [local irreducible] AWP zC yg zJ zo yw z8 zH z1 z6 zt za zP yx zp z7 yt yu yi yk zw zx zy yO wk xu y8 x4 xf mK zS xv yC xq
theorem zn6 {t u : Nat} {lg : Bool} {ss : List zu} (hu : u ≤ 180) (hlg : lg = decide (124 < u)) : ∀ (k : Nat) (r : Nat → Int) (tf : Bool) (st a : Int), r 0 = a → r 1 = (k : Int) + 1 → 0 ≤ a → a + (k : Int) ≤ 50 →
  ∃ c r' st', c ≤ (k + 1) * (u + 4) ∧ r' 0 = a + (k : Int) + 1 ∧ ∀ n, yC (n + c) (mK r tf t u lg ss 2 st) = yC n (mK r' true t u lg ss (vJ lg u) st')
 | 0, r, tf, st, a, ha, hb, h0, h1 => by
  obtain ⟨c, r', st', hc, hr0, _, he⟩ := zk5 (t := t) (ss := ss) hu hlg r tf st a 1 ha (by rw [hb]; rfl) h0 (by omega) (by decide) (by decide)
  refine ⟨c, r', st', by omega, by rw [hr0]; omega, fun n => ?_⟩
  rw [he n]
  rfl
 | k + 1, r, tf, st, a, ha, hb, h0, h1 => by
  obtain ⟨c, r', st', hc, hr0, hr1, he⟩ := zk5 (t := t) (ss := ss) hu hlg r tf st a ((k : Int) + 2) ha (by rw [hb]; omega) h0 (by omega) (by omega) (by omega)
  have hk : ¬ (k : Int) + 2 - 1 = 0 := by omega
  rw [if_neg hk] at he
  obtain ⟨c2, r2, st2, hc2, hr2, he2⟩ := zn6 (t := t) (ss := ss) hu hlg k r' (decide ((k : Int) + 2 - 1 = 0)) st' (a + 1) hr0 (by rw [hr1]; omega) (by omega) (by omega)
  have hm : (k + 1 + 1) * (u + 4) = (k + 1) * (u + 4) + (u + 4) := Nat.succ_mul _ _
  refine ⟨c2 + c, r2, st2, by omega, by rw [hr2]; omega, fun n => ?_⟩
  rw [← Nat.add_assoc, he, he2]
theorem zuQ (t u : Nat) (lg : Bool) (ss : List zu) : kH (zbH ⟨0, yO (x4 t u lg), ss⟩) 2000 = yC 2000 (mK zR false t u lg ss 0 0) := by
 unfold kH zbH mK
 rw [if_neg (by decide)]
 rfl
theorem zpQ {t u : Nat} {lg : Bool} {ss : List zu} {r r' : Nat → Int} {tf : Bool} {j : Nat} {st : Int} {i : Ins} (n : Nat) (hl : (x4 t u lg)[j]? = some i) (hw : zU i = 0) (h1 : ¬ (i.op = 27 ∧ i.imm = 0)) (h2 : wO i.op = false) (hp : ∀ m : zG, m.r = r → zS m i (0 + 2 * (j : Int)) = ({ m with r := r' }, 0)) :
  yC (n + 1) (mK r tf t u lg ss j st) = yC n (mK r' tf t u lg ss (j + 1) (st + 1)) := by
 unfold mK
 exact zcE (base := 0) (k := 2 * (j : Int)) (2 * ((j + 1 : Nat) : Int)) rfl (wF rfl hl hw) h1 h2 (hp _ rfl) (by show 0 + 2 * (j : Int) + 2 = 0 + 2 * ((j + 1 : Nat) : Int); omega)
theorem zuR {t u : Nat} (ht0 : 1 ≤ t) (ht : t < 10) (hu : u ≤ 180) (lg : Bool) (hlg : lg = decide (124 < u)) (ss : List zu) : ∃ m, kH (zbH ⟨0, yO (x4 t u lg), ss⟩) 2000 = (m, 0) ∧ m.told = [(t : Int)] := by
 obtain ⟨l0, l1, _, _, _, lb⟩ := zpN t u lg
 have hw1 : zU ⟨3, 1, 0, (t : Int)⟩ = 0 := zjf zk3 (List.mem_range.2 ht)
 have e1 : yC 2000 (mK zR false t u lg ss 0 0) = yC 1999 (mK (up zR 0 0) false t u lg ss 1 (0 + 1)) := zpQ 1999 l0 (by kernel_rfl) (fun h => absurd h.1 (by decide)) (by kernel_rfl) fun m hm => by rw [← hm]; exact zk1 m 0 0 _
 have e2 : yC 1999 (mK (up zR 0 0) false t u lg ss 1 (0 + 1)) = yC 1998 (mK (up (up zR 0 0) 1 t) false t u lg ss 2 (0 + 1 + 1)) := zpQ 1998 l1 hw1 (fun h => absurd h.1 (by show ¬ (3 : Int) = 27; decide)) (by show wO 3 = false; kernel_rfl) fun m hm => by rw [← hm]; exact zk1 m 1 t _
 obtain ⟨k, rfl⟩ : ∃ k, t = k + 1 := ⟨t - 1, by omega⟩
 obtain ⟨c, r', st', hc, hr, he⟩ := zn6 (t := k + 1) (ss := ss) hu hlg k (up (up zR 0 0) 1 ((k + 1 : Nat) : Int)) false (0 + 1 + 1) 0 (by unfold up; rw [if_neg (by decide), if_pos (by decide)]) (by unfold up; rw [if_pos (by decide)]; omega) (by decide) (by omega)
 have hcm : (k + 1) * (u + 4) ≤ 9 * 184 := Nat.mul_le_mul (by omega) (by omega)
 obtain ⟨n, hn⟩ : ∃ n, 1998 = (n + 2) + c := ⟨1998 - c - 2, by omega⟩
 have hends : (x4 (k + 1) u lg)[vJ lg u]? = some ⟨27, 0, 0, 1⟩ ∧ (x4 (k + 1) u lg)[vJ lg u + 1]? = some ⟨27, 0, 0, 0⟩ := by
  cases lg
  ·have a := lb 1
   have b := lb 2
   exact ⟨by rw [show vJ false u = 4 + u + 1 by show 5 + u = _; omega]; exact a, by rw [show vJ false u + 1 = 4 + u + 2 by show 5 + u + 1 = _; omega]; exact b⟩
  ·have a := lb 3
   have b := lb 4
   exact ⟨by rw [show vJ true u = 4 + u + 3 by show 7 + u = _; omega]; exact a, by rw [show vJ true u + 1 = 4 + u + 4 by show 7 + u + 1 = _; omega]; exact b⟩
 obtain ⟨q1, q2⟩ := hends
 rw [zuQ, e1, e2, hn, he]
 unfold mK
 have e3 : yC (n + 1 + 1) ⟨r', true, 0 + 2 * ((vJ lg u : Nat) : Int), -1, ⟨0, yO (x4 (k + 1) u lg), ss⟩, [], st'⟩ = yC (n + 1) ⟨r', true, 0 + 2 * ((vJ lg u + 1 : Nat) : Int), -1, ⟨0, yO (x4 (k + 1) u lg), ss⟩, [] ++ [r' 0], st' + 1⟩ :=
  zcE (base := 0) (k := 2 * ((vJ lg u : Nat) : Int)) (2 * ((vJ lg u + 1 : Nat) : Int)) rfl (wF rfl q1 (by kernel_rfl)) (fun h => absurd h.2 (by decide)) (by kernel_rfl) (zro _ _) (by show (0 : Int) + 2 * ((vJ lg u : Nat) : Int) + 2 = 0 + 2 * ((vJ lg u + 1 : Nat) : Int); omega)
 refine ⟨_, e3.trans (zxB (base := 0) (k := 2 * ((vJ lg u + 1 : Nat) : Int)) rfl (wF rfl q2 (by kernel_rfl)) ⟨rfl, rfl⟩), ?_⟩
 show [] ++ [r' 0] = [((k + 1 : Nat) : Int)]
 rw [hr, List.nil_append, show (0 : Int) + (k : Int) + 1 = ((k + 1 : Nat) : Int) by omega]
abbrev US : Src → Prop := fun x => ∃ l, zq9 x.1 l ∧ wz [] (x8 l) = (x.2, 0, 0)
theorem zn7 : zlQ US := by
 refine ziF zsS ?_
 rintro av L d L' ⟨x, ⟨l, h1, h2⟩, h3, h4, h5⟩
 refine ⟨(x.1, l), h1, h3, h4, h5.1.trans ?_, h5.2⟩
 dsimp only
 rw [h2]
 rfl
theorem zuS {t u : Nat} (ht0 : 1 ≤ t) (ht : t < 10) (hu : u ≤ 180) : ∃ o img m, zlR US [(zbW (kI (t : Int)) (Lib.itoa (u : Int)), o)] 0 img m 0 ∧ m.told = [(t : Int)] := by
 have hw := zoY (zga t u (decide (124 < u)) hu).1 (zga t u (decide (124 < u)) hu).2
 obtain ⟨m, hm, hto⟩ := zuR ht0 ht hu (decide (124 < u)) rfl [⟨yz, 4⟩]
 refine ⟨_, _, m, ⟨by show 1 ≤ 4; decide, fun x hx => ?_, ⟨by decide, by decide⟩, zrp hw, rfl, by have := (zga t u (decide (124 < u)) hu).2; show (yO (x4 t u (decide (124 < u)))).length ≤ _; omega, by show 1 ≤ _; decide, hm⟩, hto⟩
 rw [List.mem_singleton.1 hx]
 refine ⟨⟨zgJ t u, zwr ht hu, by rw [zgK]; exact zuM ht hu _ rfl⟩, hw, (fun r hr => by cases hr), fun s hs => ?_⟩
 rw [List.mem_singleton.1 hs]
 show 5 ≤ _
 decide
theorem zlA : za Tryz.prog w5 (zz (fun ((u, t) : Int × Int) => (-9223372036854775808 ≤ u ∧ u ≤ 9223372036854775807) ∧ -9223372036854775808 ≤ t ∧ t ≤ 9223372036854775807) (fun (u, t) => [.int .i64 u, .int .i64 t]) fun _ => .bool true) := by
 refine zf zj Tryz.func8 rfl (by decide) ?_
 rintro ⟨u, t⟩ ⟨⟨hu0, hu1⟩, ht0, ht1⟩
 have hu0 : -9223372036854775808 ≤ u := hu0
 have hu1 : u ≤ 9223372036854775807 := hu1
 have ht0 : -9223372036854775808 ≤ t := ht0
 have ht1 : t ≤ 9223372036854775807 := ht1
 refine ⟨Nat.le_refl _, by simp [Tryz.f8], fun E hE => ?_⟩
 refine ze _ ?_
 (all_goals refine qgp ?_ <;> (repeat' first | exact trivial | intro hc | refine And.intro ?_ ?_) <;> refine Lf.mk ?_)
 refine zb zn5 () trivial (VS.mk (LeL.of_eq rfl)) ?_
 (all_goals refine qgp ?_ <;> (repeat' first | exact trivial | intro hc | refine And.intro ?_ ?_) <;> refine Lf.mk ?_)
 (any_goals (first | (exfalso; refine Bool.false_ne_true ?_; assumption) | (exfalso; refine Bool.false_ne_true (Eq.symm ?_); assumption) | (exfalso; refine absurd trivial ?_; assumption) | skip))
 all_goals first
  | exact zd (VS.mk (LeD.tt rfl))
  | skip
 obtain ⟨v, rfl⟩ := Int.eq_ofNat_of_zero_le (show 0 ≤ u by omega)
 obtain ⟨s, rfl⟩ := Int.eq_ofNat_of_zero_le (show 0 ≤ t by omega)
 obtain ⟨o, img, m, hrun, hto⟩ := zuS (t := s) (u := v) (by omega) (by omega) (by omega)
 have hsa := zpP (s : Int)
 have hsb := zpP (v : Int)
 rw [zhV (by omega) (by omega)] at hrun
 refine zb zez (s : Int) ⟨ht0, ht1⟩ (VS.mk (LeL.of_eq rfl)) ?_
 rw [zhV (by omega) (by omega)]
 (all_goals refine qgp ?_ <;> (repeat' first | exact trivial | intro hc | refine And.intro ?_ ?_) <;> refine Lf.mk ?_)
 refine zgL 20 4 (by decide) hsa (by decide) fun y1 e1 l1 => ?_
 (all_goals refine qgp ?_ <;> (repeat' first | exact trivial | intro hc | refine And.intro ?_ ?_) <;> refine Lf.mk ?_)
 refine zgL 24 40 l1 (by decide) (by decide) fun y2 e2 l2 => ?_
 (all_goals refine qgp ?_ <;> (repeat' first | exact trivial | intro hc | refine And.intro ?_ ?_) <;> refine Lf.mk ?_)
 refine zb zez (v : Int) ⟨hu0, hu1⟩ (VS.mk (LeL.of_eq rfl)) ?_
 rw [zhV (by omega) (by omega)]
 (all_goals refine qgp ?_ <;> (repeat' first | exact trivial | intro hc | refine And.intro ?_ ?_) <;> refine Lf.mk ?_)
 refine zgL 64 4 l2 hsb (by decide) fun y3 e3 l3 => ?_
 (all_goals refine qgp ?_ <;> (repeat' first | exact trivial | intro hc | refine And.intro ?_ ?_) <;> refine Lf.mk ?_)
 refine zgL 68 60 l3 (by decide) (by decide) fun y4 e4 l4 => ?_
 (all_goals refine qgp ?_ <;> (repeat' first | exact trivial | intro hc | refine And.intro ?_ ?_) <;> refine Lf.mk ?_)
 refine zb (zjd zn7) ([(zbW (kI (s : Int)) (kI (v : Int)), o)], 0, img, m, 0) hrun (VS.mk (LeL.of_eq (by subst_vars; unfold zbW; rfl))) ?_
 dsimp only
 rw [hto]
 (all_goals refine qgp ?_ <;> (repeat' first | exact trivial | intro hc | refine And.intro ?_ ?_) <;> refine Lf.mk ?_)
 ·exact zd (VS.mk (LeD.of_eq (congrArg D.bool (beq_self_eq_true _))))
 ·exact absurd trivial hc
end Go.Proofs.YthmdddenbfbefaaGreatDoor
namespace Go.Proofs.YthmdddenbfbefaaGreatDoor
open Go Go.Plat
set_option linter.unusedVariables false
set_option linter.unusedSimpArgs false
set_option maxRecDepth 100000
set_option maxHeartbeats 2000000
attribute [local irreducible] AWP zC yg zJ zo yw z8 zH z1 z6 zt za zP yx zp z7 yt yu yi yk zw zx zy
theorem own : ownKnob Tryz.prog.godebug = none := by kernel_rfl
theorem zxF {H : Type} (d : DataW H) : 1 ≤ Rows.uptoBulk d := by
 cases d with
 | lit l => cases l <;> simp [Rows.uptoBulk]
 | nil => simp [Rows.uptoBulk]
 | ptr d => simp [Rows.uptoBulk]
 | slice el sp => simp [Rows.uptoBulk]
 | agg ps => simp [Rows.uptoBulk]
 | iface t d => simp [Rows.uptoBulk]
 | map es => simp [Rows.uptoBulk]
 | held h => simp [Rows.uptoBulk]
theorem length_le {H : Type} (l : List (DataW H)) : l.length ≤ Rows.uptoBulkAll l := by
 induction l with
 | nil => simp [Rows.uptoBulkAll]
 | cons x r ih => have := zxF x; simp only [Rows.uptoBulkAll, List.length_cons]; omega
end Go.Proofs.YthmdddenbfbefaaGreatDoor
namespace Go.Plat
open Go
set_option linter.unusedVariables false
set_option linter.unusedSimpArgs false
abbrev zlT (w : World) (F : Nat → Nat → Prop) (g : Nat) (cs : List D) : Prop := zB w F (.ptr cs) (.pointer (some ⟨g, 0, none⟩)) ∧
 (∀ off, ¬ F g off) ∧ (∃ row t z, w.heap[g]? = some (.cells row t z) ∧ (row.size = cs.length ∨ cs = [.any])) ∧
 (cs = [.any] → ∃ u v, w.cell? ⟨g, 0, none⟩ = some (.iface u v))
def zrq (w : World) (F : Nat → Nat → Prop) (l : List (Nat × Nat × List Nat)) : Prop := ∀ g cs, zdS l g = some cs → zlT w F g cs
theorem zuT {w : World} {F : Nat → Nat → Prop} : zrq w F [] := fun g cs h => by cases h
theorem zbr {w : World} {F : Nat → Nat → Prop} {h k : Nat} {ns : List Nat} {r : List (Nat × Nat × List Nat)} (hf : zlT w F h (zuV k ns)) (hr : zrq w F r) : zrq w F ((h, k, ns) :: r) := by
 intro g cs hg
 rw [zdS] at hg
 cases hb : Nat.beq h g with
 | false => rw [hb] at hg; exact hr g cs hg
 | true =>
  rw [hb] at hg
  have e := Nat.eq_of_beq_eq_true hb
  subst e
  cases hg
  exact hf
theorem zrr {P : Program} {w : World} {name : String} {g : Nat} {k : IntKind} {zs : List Int} {ns : List Nat} (hn : P.globalNamed name = some g) (h : Lib.TabIs P w name k zs)
  (hz : zs = ns.map fun n : Nat => (n : Int)) : zlT w F0 g (ns.map fun n => D.int k (n : Nat)) := by
 have hc := fun i hi => h.cell hn i hi
 refine ⟨.ptr _ _ _ (fun j => .int k (zs.getD j 0)) (fun j c hj => ⟨?_, fun f => f⟩) (fun j c hj => ?_), fun off f => f, ?_, fun e => absurd e (fun e => ?_)⟩
 ·have hjl : j < ns.length := by
   have := (List.getElem?_eq_some_iff.1 hj).1
   simpa using this
  rw [Nat.zero_add]
  exact hc j (by rw [hz]; simpa using hjl)
 ·have hjl : j < ns.length := by
   have := (List.getElem?_eq_some_iff.1 hj).1
   simpa using this
  rw [List.getElem?_map, List.getElem?_eq_getElem hjl] at hj
  cases hj
  have : zs.getD j 0 = (ns[j] : Int) := by
   rw [hz, List.getD_eq_getElem?_getD, List.getElem?_map, List.getElem?_eq_getElem hjl]; rfl
  dsimp only
  rw [this]
  exact .int _ _
 ·unfold Lib.TabIs World.var? at h
  rw [hn] at h
  dsimp only [Option.bind_some] at h
  split at h
  ·rename_i cs t z hh
   cases h
   exact ⟨_, _, _, hh, .inl (by rw [hz]; simp)⟩
  ·cases h
 ·match ns, e with
  | [], e => cases e
  | n :: r, e => cases (List.cons.inj e).1
theorem zdA {P : Program} {W : World} {name : String} {k : IntKind} {zs : List Int} {rest : List (String × DataW Unit)} {g : Nat} {t e : TypeId} {n : Nat} {ps : List MemPlace} {d : DataW Unit}
  (hg : P.globalNamed name = some g) (hty : (P.globals[g]?).map (·.type) = some t) (ht : P.underlying t = some (.array n e)) (he : P.underlying e = some (.int k)) (hce : P.cellsOf e = 1) (hct : P.cellsOf t = n)
  (hd : d = Lib.tabData k zs) (h : DataW.LaidVars P W ((name, d) :: rest) ps) : Lib.TabIs P W name k zs ∧ ∃ q, DataW.LaidVars P W rest q := by
 subst hd
 obtain ⟨g', t', cs, fuel, p, q, hg', ht', hvar, hd, hr, _⟩ := h
 obtain rfl := Option.some.inj (hg.symm.trans hg')
 obtain rfl := Option.some.inj (hty.symm.trans ht')
 refine ⟨?_, q, hr⟩
 unfold Lib.TabIs
 rw [hvar, ← Lib.cells_of_tab ht he hce hct hd]
theorem ztg {P : Program} {W : World} {x : String × DataW Unit} {rest : List (String × DataW Unit)} {ps : List MemPlace} (h : DataW.LaidVars P W (x :: rest) ps) : ∃ q, DataW.LaidVars P W rest q := by
 obtain ⟨g', t', cs, fuel, p, q, hg', ht', hvar, hd, hr, _⟩ := h
 exact ⟨q, hr⟩
def zyi : DataW Unit → Bool
 | .iface _ _ => true
 | _ => false
theorem zeT {P : Program} {W : World} {name : String} {rest : List (String × DataW Unit)} {g : Nat} {t : TypeId} {ps : List MemPlace} {d : DataW Unit}
  (hg : P.globalNamed name = some g) (hty : (P.globals[g]?).map (·.type) = some t) (ht : ((P.underlying t).map fun | .interface _ => true | _ => false) = some true)
  (hd : zyi d = true) (h : DataW.LaidVars P W ((name, d) :: rest) ps) : zlT W F0 g [.any] ∧ ∃ q, DataW.LaidVars P W rest q := by
 obtain ⟨g', t', cs, fuel, p, q, hg', ht', hvar, htr, hr, _⟩ := h
 obtain rfl := Option.some.inj (hg.symm.trans hg')
 obtain rfl := Option.some.inj (hty.symm.trans ht')
 refine ⟨?_, q, hr⟩
 cases d with
 | iface n x =>
  have hrow : ∃ u v, cs.toList = [Value.iface u v] := by
   cases fuel with
   | zero => simp [DataW.trod] at htr
   | succ fuel =>
    cases hun : P.underlying t with
    | none => rw [hun] at ht; cases ht
    | some dd =>
     rw [hun] at ht
     cases dd with
     | interface ms =>
      generalize cs.toList = l at htr
      unfold DataW.trod at htr
      rw [hun] at htr
      match l, htr with
      | [], htr => cases htr
      | [.nilIface], htr => cases htr
      | [.iface u v], htr => exact ⟨u, v, rfl⟩
      | a :: b :: r, htr => cases a <;> cases htr
      | [.bool _], htr | [.int _ _], htr | [.float _ _], htr | [.string _], htr | [.pointer _], htr | [.slice _ _ _], htr | [.map _], htr | [.chan _], htr | [.func _ _ _], htr | [.nilFunc], htr | [.agg _], htr | [.tuple _], htr => cases htr
     | _ => cases ht
  obtain ⟨u, v, hv⟩ := hrow
  have hcs : cs = #[Value.iface u v] := by
   apply Array.ext'
   rw [hv]
  subst hcs
  unfold World.var? at hvar
  rw [hg] at hvar
  dsimp only [Option.bind_some] at hvar
  split at hvar
  ·rename_i cs t z hh
   cases hvar
   have hcell : W.cell? ⟨g, 0, none⟩ = some (.iface u v) := by simp only [World.cell?, hh]; rfl
   refine ⟨.ptr _ _ _ (fun _ => .iface u v) (fun j c hj => ?_) (fun j c hj => ?_), fun off f => f, ⟨_, _, _, hh, .inl rfl⟩, fun _ => ⟨u, v, hcell⟩⟩
   ·cases j with
    | zero => exact ⟨hcell, fun f => f⟩
    | succ j => simp at hj
   ·cases j with
    | zero =>
     simp at hj
     subst hj
     exact .any _
    | succ j => simp at hj
  ·cases hvar
 | _ => cases hd
end Go.Plat
namespace Go.Proofs.YthmdddenbfbefaaGreatDoor
open Go Go.Plat
set_option linter.unusedVariables false
set_option linter.unusedSimpArgs false
set_option maxRecDepth 100000
set_option maxHeartbeats 2000000
open Go.ChangeShapes Go.WideShapes Go.ChangeAt Go.RowKit
attribute [local irreducible] AWP zC yg zJ zo yw z8 zH z1 z6 zt za zP yx zp z7 yt yu yi yk zw zx zy
theorem zuU {W : World} (h : laidMetH Tryz.prog Rows.asmNamesUptoRow.laid W) : GOk W F0 := by
 rw [MakeChecks.laidMetH_plain _ _ _ (by kernel_rfl)] at h
 obtain ⟨ps, h, _⟩ := h
 obtain ⟨h1, q1, h⟩ := zdA (k := .u8) (zs := [0, 1, 28, 2, 29, 14, 24, 3, 30, 22, 20, 15, 25, 17, 4, 8, 31, 27, 13, 23, 21, 19, 16, 7, 26, 12, 18, 6, 11, 5, 10, 9]) (g := 1) (t := 298) (e := 5) (n := 32) (by kernel_rfl) (by kernel_rfl) (by kernel_rfl) (by kernel_rfl) (by kernel_rfl) (by kernel_rfl) (by kernel_rfl) h
 obtain ⟨h2, q2, h⟩ := zdA (k := .u8) (zs := [0, 1, 56, 2, 57, 49, 28, 3, 61, 58, 42, 50, 38, 29, 17, 4, 62, 47, 59, 36, 45, 43, 51, 22, 53, 39, 33, 30, 24, 18, 12, 5, 63, 55, 48, 27, 60, 41, 37, 16, 46, 35, 44, 21, 52, 32, 23, 11, 54, 26, 40, 15, 34, 20, 31, 10, 25, 14, 19, 9, 13, 8, 7, 6]) (g := 2) (t := 299) (e := 5) (n := 64) (by kernel_rfl) (by kernel_rfl) (by kernel_rfl) (by kernel_rfl) (by kernel_rfl) (by kernel_rfl) (by kernel_rfl) h
 obtain ⟨h3, q3, h⟩ := zdA (k := .u64) (zs := Lib.pow10Tab) (g := 0) (t := 251) (e := 199) (n := 20) (by kernel_rfl) (by kernel_rfl) (by kernel_rfl) (by kernel_rfl) (by kernel_rfl) (by kernel_rfl) (by kernel_rfl) h
 obtain ⟨q4, h⟩ := ztg h
 obtain ⟨h5, q5, h⟩ := zeT (g := 7) (t := 258) (by kernel_rfl) (by kernel_rfl) (by kernel_rfl) rfl h
 obtain ⟨h6, q6, h⟩ := zeT (g := 6) (t := 258) (by kernel_rfl) (by kernel_rfl) (by kernel_rfl) rfl h
 show zrq W F0 zgc
 unfold zgc
 exact zbr (zrr (k := .u64) (by kernel_rfl) h3 (by kernel_rfl)) (zbr (zrr (k := .u8) (by kernel_rfl) h1 (by kernel_rfl)) (zbr (zrr (k := .u8) (by kernel_rfl) h2 (by kernel_rfl)) (zbr h6 (zbr h5 zuT))))
end Go.Proofs.YthmdddenbfbefaaGreatDoor
