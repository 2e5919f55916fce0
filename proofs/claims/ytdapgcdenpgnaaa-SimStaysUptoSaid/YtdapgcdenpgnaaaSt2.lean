/-
  A part of the proof: what the given program's functions answer, each once; conditions that are enough for it.
-/
import Derived.Test.YtdapgcdenpgnaaaSt1
import Derived.Test.YtdapgcdenpgnaaaFw3
import Derived.Test.YtdapgcdenpgnaaaRows
import Derived.WalkKit
import Derived.ProofKit
import Derived.OpenShut
import Derived.JoinedCond
/-
  The machine's plain instructions.
-/
namespace Go.Proofs.Ytdapgcdenpgnaaa
open Go Go.Plat
set_option linter.unusedVariables false
set_option linter.unusedSimpArgs false
set_option maxRecDepth 100000
set_option maxHeartbeats 2000000
attribute [local irreducible] NilS LookS NormM bitI BytesS NormL Arith QuoS RemS ShlS ShrS BitS CatS SplitS SideS IdxS CallS LoopEnd EndS ModeS DrawS AWP Meets
attribute [local irreducible] irows infoR decI signedI putN rrows rinfo shapeM inM up getN toM ldM and32M or32M xor32M

theorem and_u32 {n : Int} : bitI .and .i64 n 4294967295 = n % 4294967296 := and_mask (k := 32) (by decide) (by decide)
def machT (m : Mach) (t : D) : List D :=
  [.int .i64 (m.r 0), .int .i64 (m.r 1), .int .i64 (m.r 2), .int .i64 (m.r 3), .int .i64 (m.r 4), .int .i64 (m.r 5), .int .i64 (m.r 6), .int .i64 (m.r 7),
   .int .i64 (m.r 8), .int .i64 (m.r 9), .int .i64 (m.r 10), .int .i64 (m.r 11), .int .i64 (m.r 12), .int .i64 (m.r 13), .int .i64 (m.r 14), .int .i64 (m.r 15),
   t, .int .i64 m.pc, .int .i64 m.pr, .int .i64 m.img.base, bytesD m.img.bytes, .sl 2 (m.img.syms.map symD) none, .sl 1 (m.told.map intD) none, .int .i64 m.steps]
theorem machT_le (m : Mach) {t : D} {b : Bool} (ht : LeD t (.bool b)) : LeL (machT m t) (machC (setT m b)) := by
  unfold machT machC setT
  repeat (first | exact LeL.nil | refine LeL.cons (LeD.refl _) ?_ | refine LeL.cons ht ?_)
theorem end_T {n0 : Nat} (m : Mach) {t : D} (b : Bool) {r d : D} {L L' : List Ob} (ht : LeD t (.bool b)) (he : EndS n0 r d (.cells (machC (setT m b)) :: L) L') (hlen : n0 ≤ L'.length) :
    EndS n0 r d (.cells (machT m t) :: L) L' := end_cell 0 (machC (setT m b)) rfl (machT_le m ht) he hlen

theorem sum_meets : Meets Try.prog n_sim_sum (SpecF (fun ((m, i) : Mach × Ins) => InM 10000 m ∧ InI i)
    (fun (m, i) => [.loc 0 0, insD i]) (fun (m, _) => [.cells (machC m)]) (fun _ => .tup []) fun (m, i) => [.cells (machC (sumM m i))]) := by
  refine meets_f tabOk Try.func41 rfl (by decide) ?_
  rintro ⟨m, i⟩ ⟨hm, hi⟩
  obtain ⟨n0, n1⟩ := hi.n
  obtain ⟨m0, m1⟩ := hi.m
  have hrm := ixm hi.m hm
  have hrn := ixr hi.n hm
  refine ⟨Nat.le_refl _, by simp [Try.f41], fun E hE => ?_⟩
  refine vcOk _ ?_
  (all_goals refine qgvb ?_ <;> (repeat' first | exact trivial | intro hc | refine And.intro ?_ ?_) <;> refine Lf.mk ?_)
  all_goals try (refine call_p signed_meets2 _ trivial (VS.mk (LeL.of_eq rfl)) ?_)
  (all_goals refine qgvb ?_ <;> (repeat' first | exact trivial | intro hc | refine And.intro ?_ ?_) <;> refine Lf.mk ?_)
  all_goals first
    | (dsimp only; refine end_keep [0] rfl rfl ?_; (repeat' (first | (refine VS.mk ?_) | exact trivial | exact rfl | refine And.intro ?_ ?_)); all_goals (unfold sumM; dsimp only; (repeat (first | (rw [if_pos (by assumption)]) | (rw [if_neg (by assumption)]))); try rfl); done)
    | skip

theorem cloneIT_meets : Meets Try.prog n_slices_Clone_int_int (SpecF (fun ds : List D => ds.length ≤ 100000000 ∧ ∀ (i : Nat) d, ds[i]? = some d → d.cells.length = 1) (fun ds => [.sl 1 ds none]) (fun _ => []) (fun ds => .sl 1 ds (some 0)) fun ds => [.spare ds.length]) := by
  refine meets_f tabOk Try.func30 rfl (by decide) ?_
  rintro ds ⟨hds, hlen⟩
  refine ⟨by simp, by simp [Try.f30], fun E hE => ?_⟩
  refine vcOk _ ?_
  (all_goals refine qgo ?_ <;> (repeat' first | exact trivial | intro hc | refine And.intro ?_ ?_) <;> refine Lf.mk ?_)
  refine nil_mk (fun h => ?_) ?_
  · subst h
    (all_goals refine qgo ?_ <;> (repeat' first | exact trivial | intro hc | refine And.intro ?_ ?_) <;> refine Lf.mk ?_)
    refine end_nil (e := 1) (end_mk (r := .sl 1 [] (some 0)) ?_) (by decide)
    (repeat' (first | (refine VS.mk ?_) | exact trivial | exact rfl | refine And.intro ?_ ?_))
  (all_goals refine qgo ?_ <;> (repeat' first | exact trivial | intro hc | refine And.intro ?_ ?_) <;> refine Lf.mk ?_)
  refine end_mk ?_
  (repeat' (first | (refine VS.mk ?_) | exact trivial | exact rfl | refine And.intro ?_ ?_))

theorem plain_meets : Meets Try.prog n_sim_plain (SpecF (fun ((m, i, at_) : Mach × Ins × Int) => InM 10000 m ∧ InI i ∧ -2000000000000 ≤ at_ ∧ at_ ≤ 2000000000000)
    (fun (m, i, at_) => [.loc 0 0, insD i, .int .i64 at_]) (fun (m, _, _) => [.cells (machC m)]) (fun (m, i, at_) => .int .i64 (plainM m i at_).2) fun (m, i, at_) => [.cells (machC (plainM m i at_).1)]) := by
  refine meets_f tabOk Try.func23 rfl (by decide) ?_
  rintro ⟨m, i, at_⟩ ⟨hm, hi, h1, h2⟩
  obtain ⟨n0, n1⟩ := hi.n
  obtain ⟨m0, m1⟩ := hi.m
  obtain ⟨q0, q1⟩ := hi.imm
  have hrm := ixm hi.m hm
  have hrn := ixr hi.n hm
  have hr0 := hm.regs 0 (by decide)
  have htold := hm.told
  have hb := hm.base
  have hl := hm.len
  refine ⟨Nat.le_refl _, by simp [Try.f23], fun E hE => ?_⟩
  refine vcOk _ ?_
  (all_goals refine qgvb ?_ <;> (repeat' first | exact trivial | intro hc | refine And.intro ?_ ?_) <;> refine Lf.mk ?_)
  · have hP : plainM m i at_ = (setM m i.n i.imm, 0) := by unfold plainM; (repeat (first | (rw [if_pos (by assumption)]) | (rw [if_neg (by assumption)])))
    dsimp only; rw [hP]
    refine end_keep [0] rfl rfl ?_
    (repeat' (first | (refine VS.mk ?_) | exact trivial | exact rfl | refine And.intro ?_ ?_))
  · have hP : plainM m i at_ = (setM m i.n (signedI (m.r i.n.toNat + i.imm) 32), 0) := by unfold plainM; dsimp only; (repeat (first | (rw [if_pos (by assumption)]) | (rw [if_neg (by assumption)])))
    refine call_p signed_meets2 (m.r i.n.toNat + i.imm) trivial (VS.mk (LeL.of_eq rfl)) ?_
    (all_goals refine qgvb ?_ <;> (repeat' first | exact trivial | intro hc | refine And.intro ?_ ?_) <;> refine Lf.mk ?_)
    dsimp only; rw [hP]
    refine end_keep [0] rfl rfl ?_
    (repeat' (first | (refine VS.mk ?_) | exact trivial | exact rfl | refine And.intro ?_ ?_))
  · have hP : plainM m i at_ = (setT (setM m i.n (signedI (m.r i.n.toNat * 2) 32)) (decide (m.r i.n.toNat < 0)), 0) := by unfold plainM; dsimp only; (repeat (first | (rw [if_pos (by assumption)]) | (rw [if_neg (by assumption)])))
    refine call_p signed_meets2 (m.r i.n.toNat * 2) trivial (VS.mk (LeL.of_eq rfl)) ?_
    (all_goals refine qgvb ?_ <;> (repeat' first | exact trivial | intro hc | refine And.intro ?_ ?_) <;> refine Lf.mk ?_)
    dsimp only; rw [hP]
    refine end_keep [0] rfl rfl ?_
    (repeat' (first | (refine VS.mk ?_) | exact trivial | exact rfl | refine And.intro ?_ ?_))
  · have hP : plainM m i at_ = (setT (setM m i.n (m.r i.n.toNat % 4294967296 / 2)) (decide (m.r i.n.toNat % 2 = 1)), 0) := by unfold plainM; dsimp only; (repeat (first | (rw [if_pos (by assumption)]) | (rw [if_neg (by assumption)])))
    dsimp only; rw [hP]
    refine end_keep [0] rfl rfl ?_
    (repeat' (first | (refine VS.mk ?_) | exact trivial | exact rfl | refine And.intro ?_ ?_))
  · have hP : plainM m i at_ = (setT (setM m i.n (signedI (m.r i.n.toNat - 1) 32)) (decide (signedI (m.r i.n.toNat - 1) 32 = 0)), 0) := by unfold plainM; dsimp only; (repeat (first | (rw [if_pos (by assumption)]) | (rw [if_neg (by assumption)])))
    refine call_p signed_meets2 (m.r i.n.toNat - 1) trivial (VS.mk (LeL.of_eq rfl)) ?_
    (all_goals refine qgvb ?_ <;> (repeat' first | exact trivial | intro hc | refine And.intro ?_ ?_) <;> refine Lf.mk ?_)
    rw [up_at _ _ _ n0]
    dsimp only; rw [hP]
    refine end_keep [0] rfl rfl ?_
    (repeat' (first | (refine VS.mk ?_) | exact trivial | exact rfl | refine And.intro ?_ ?_))
  · have hP : plainM m i at_ = loadM m i at_ := by unfold plainM; dsimp only; rw [if_neg (by omega), if_neg (by omega), if_neg (by omega), if_neg (by omega), if_neg (by omega), if_pos (by omega)]
    refine call_f load_meets [0] [0] (m, i, at_) ⟨hm, hi, h1, h2⟩ rfl rfl ?_
    refine And.intro (VS.mk (LeL.of_eq rfl)) (And.intro (VS.mk rfl) ?_)
    (all_goals refine qgvb ?_ <;> (repeat' first | exact trivial | intro hc | refine And.intro ?_ ?_) <;> refine Lf.mk ?_)
    dsimp only; rw [hP]
    refine end_keep [0] rfl rfl ?_
    (repeat' (first | (refine VS.mk ?_) | exact trivial | exact rfl | refine And.intro ?_ ?_))
  · have hP : plainM m i at_ = loadM m i at_ := by unfold plainM; dsimp only; rw [if_neg (by omega), if_neg (by omega), if_neg (by omega), if_neg (by omega), if_neg (by omega), if_pos (by omega)]
    refine call_f load_meets [0] [0] (m, i, at_) ⟨hm, hi, h1, h2⟩ rfl rfl ?_
    refine And.intro (VS.mk (LeL.of_eq rfl)) (And.intro (VS.mk rfl) ?_)
    (all_goals refine qgvb ?_ <;> (repeat' first | exact trivial | intro hc | refine And.intro ?_ ?_) <;> refine Lf.mk ?_)
    dsimp only; rw [hP]
    refine end_keep [0] rfl rfl ?_
    (repeat' (first | (refine VS.mk ?_) | exact trivial | exact rfl | refine And.intro ?_ ?_))
  · have hP : plainM m i at_ = loadM m i at_ := by unfold plainM; dsimp only; rw [if_neg (by omega), if_neg (by omega), if_neg (by omega), if_neg (by omega), if_neg (by omega), if_pos (by omega)]
    refine call_f load_meets [0] [0] (m, i, at_) ⟨hm, hi, h1, h2⟩ rfl rfl ?_
    refine And.intro (VS.mk (LeL.of_eq rfl)) (And.intro (VS.mk rfl) ?_)
    (all_goals refine qgvb ?_ <;> (repeat' first | exact trivial | intro hc | refine And.intro ?_ ?_) <;> refine Lf.mk ?_)
    dsimp only; rw [hP]
    refine end_keep [0] rfl rfl ?_
    (repeat' (first | (refine VS.mk ?_) | exact trivial | exact rfl | refine And.intro ?_ ?_))
  · have hP : plainM m i at_ = putM m i := by unfold plainM; dsimp only; rw [if_neg (by omega), if_neg (by omega), if_neg (by omega), if_neg (by omega), if_neg (by omega), if_neg (by omega), if_pos (by omega)]
    refine call_f in_meets [0] [0] (m, m.r i.n.toNat, 4) ⟨hm, by omega, by omega, by decide⟩ rfl rfl ?_
    refine And.intro (VS.mk (LeL.of_eq rfl)) (And.intro (VS.mk rfl) ?_)
    (all_goals refine qgvb ?_ <;> (repeat' first | exact trivial | intro hc | refine And.intro ?_ ?_) <;> refine Lf.mk ?_)
    · have hQ : putM m i = (m, 3) := by unfold putM; rw [if_neg (by rw [hc]; decide)]
      dsimp only; rw [hP, hQ]
      refine end_keep [0] rfl rfl ?_
      (repeat' (first | (refine VS.mk ?_) | exact trivial | exact rfl | refine And.intro ?_ ?_))
    have hin := inM_eq.1 hc
    have hQ : putM m i = ({ m with img := { m.img with bytes := putN m.img.bytes (m.r i.n.toNat - m.img.base) 4 (m.r i.m.toNat) } }, 0) := by unfold putM; rw [if_pos hc]
    refine call_f put_meets [] [2] (m.img.bytes, m.r i.n.toNat - m.img.base, 4, m.r i.m.toNat) ⟨by omega, by omega, by decide, by omega⟩ rfl rfl ?_
    refine And.intro (VS.mk (by (first | exact LeL.refl _ | (repeat' (first | exact LeL.nil | exact LeD.refl _ | exact LeD.nil _ | exact LeD.strip _ _ _ | refine LeL.cons ?_ ?_ | refine LeD.tup ?_ | refine LeD.agg ?_))))) (And.intro (VS.mk rfl) ?_)
    (all_goals refine qgvb ?_ <;> (repeat' first | exact trivial | intro hc | refine And.intro ?_ ?_) <;> refine Lf.mk ?_)
    dsimp only; rw [hP, hQ]
    refine end_cell 0 (machC { m with img := { m.img with bytes := putN m.img.bytes (m.r i.n.toNat - m.img.base) 4 (m.r i.m.toNat) } }) rfl (by (first | exact LeL.refl _ | (repeat' (first | exact LeL.nil | exact LeD.refl _ | exact LeD.nil _ | exact LeD.strip _ _ _ | refine LeL.cons ?_ ?_ | refine LeD.tup ?_ | refine LeD.agg ?_)))) ?_ (Nat.le_refl _)
    refine end_keep [0] rfl rfl ?_
    (repeat' (first | (refine VS.mk ?_) | exact trivial | exact rfl | refine And.intro ?_ ?_))
  · have hP : plainM m i at_ = ({ m with told := m.told ++ [m.r 0] }, 0) := by unfold plainM; dsimp only; rw [if_neg (by omega), if_neg (by omega), if_neg (by omega), if_neg (by omega), if_neg (by omega), if_neg (by omega), if_neg (by omega), if_pos (by omega)]
    refine call_f cloneIT_meets [] [2] (m.told.map intD) ⟨by simp; omega, fun i d hd => ?_⟩ rfl rfl ?_
    · obtain ⟨c, _, rfl⟩ := List.mem_map.1 (List.mem_of_getElem? hd); rfl
    refine And.intro (VS.mk (LeL.of_eq rfl)) (And.intro (VS.mk rfl) ?_)
    (all_goals refine qgvb ?_ <;> (repeat' first | exact trivial | intro hc | refine And.intro ?_ ?_) <;> refine Lf.mk ?_)
    dsimp only; rw [hP]
    refine end_cell 0 (machC { m with told := m.told ++ [m.r 0] }) rfl (by (first | exact LeL.refl _ | (repeat' (first | exact LeL.nil | exact LeD.refl _ | exact LeD.nil _ | exact LeD.strip _ _ _ | refine LeL.cons ?_ ?_ | refine LeD.tup ?_ | refine LeD.agg ?_)))) ?_ (Nat.le_refl _)
    refine end_keep [0] rfl rfl ?_
    (repeat' (first | (refine VS.mk ?_) | exact trivial | exact rfl | refine And.intro ?_ ?_))
  · have hP : plainM m i at_ = (sumM m i, 0) := by unfold plainM; dsimp only; rw [if_neg (by omega), if_neg (by omega), if_neg (by omega), if_neg (by omega), if_neg (by omega), if_neg (by omega), if_neg (by omega), if_neg (by omega)]
    refine call_f sum_meets [0] [0] (m, i) ⟨hm, hi⟩ rfl rfl ?_
    refine And.intro (VS.mk (LeL.of_eq rfl)) (And.intro (VS.mk rfl) ?_)
    (all_goals refine qgvb ?_ <;> (repeat' first | exact trivial | intro hc | refine And.intro ?_ ?_) <;> refine Lf.mk ?_)
    dsimp only; rw [hP]
    refine end_keep [0] rfl rfl ?_
    (repeat' (first | (refine VS.mk ?_) | exact trivial | exact rfl | refine And.intro ?_ ?_))
end Go.Proofs.Ytdapgcdenpgnaaa

/-
  The machine's leaps, its step.
-/
namespace Go.Proofs.Ytdapgcdenpgnaaa
open Go Go.Plat
set_option linter.unusedVariables false
set_option linter.unusedSimpArgs false
set_option maxRecDepth 100000
set_option maxHeartbeats 2000000
attribute [local irreducible] NilS LookS NormM bitI BytesS NormL Arith QuoS RemS ShlS ShrS BitS CatS SplitS SideS IdxS CallS LoopEnd EndS ModeS DrawS AWP Meets
attribute [local irreducible] irows infoR decI signedI putN rrows rinfo shapeM inM up getN toM ldM and32M or32M xor32M leadsM fetchM plainM

theorem leap_meets : Meets Try.prog n_sim_leap (SpecF (fun ((m, i) : Mach × Ins) => InM 10000 m ∧ InI i)
    (fun (m, i) => [.loc 0 0, insD i]) (fun (m, _) => [.cells (machC m)]) (fun (m, i) => .tup [.int .i64 (leapM m i).2.1, .bool (leapM m i).2.2]) fun (m, i) => [.cells (machC (leapM m i).1)]) := by
  refine meets_f tabOk Try.func24 rfl (by decide) ?_
  rintro ⟨m, i⟩ ⟨hm, hi⟩
  obtain ⟨n0, n1⟩ := hi.n
  obtain ⟨m0, m1⟩ := hi.m
  obtain ⟨q0, q1⟩ := hi.imm
  have hrm := ixm hi.m hm
  have hrn := ixr hi.n hm
  have hpc := hm.pc
  have hpr := hm.pr
  refine ⟨Nat.le_refl _, by simp [Try.f24], fun E hE => ?_⟩
  refine vcOk _ ?_
  (all_goals refine qgv ?_ <;> (repeat' first | exact trivial | intro hc | refine And.intro ?_ ?_) <;> refine Lf.mk ?_)
  refine call_p to_meets (i, m.pc) ⟨q0, q1, by omega, by omega⟩ (VS.mk (LeL.of_eq rfl)) ?_
  (all_goals refine qgv ?_ <;> (repeat' first | exact trivial | intro hc | refine And.intro ?_ ?_) <;> refine Lf.mk ?_)
  all_goals
    have hn : ¬ (m.t = true) ∨ m.t = true := by cases m.t <;> simp
    refine end_le (r1 := .tup [.int .i64 (leapM m i).2.1, .bool (leapM m i).2.2]) (LeD.tup (.cons (LeD.of_eq (congrArg _ ?_)) (.cons ?_ .nil))) (end_keep [0] rfl rfl ?_) (Nat.le_refl _)
    · unfold leapM; (repeat (first | (rw [if_pos (by assumption)]) | (rw [if_neg (by assumption)]))); try (simp [*])
    · first | exact LeD.tt (by unfold leapM; (repeat (first | (rw [if_pos (by assumption)]) | (rw [if_neg (by assumption)])))) | exact LeD.ff (by unfold leapM; (repeat (first | (rw [if_pos (by assumption)]) | (rw [if_neg (by assumption)]))))
    · (repeat' (first | (refine VS.mk ?_) | exact trivial | exact rfl | refine And.intro ?_ ?_))
      all_goals (dsimp only; unfold leapM; (repeat (first | (rw [if_pos (by assumption)]) | (rw [if_neg (by assumption)]))); try rfl)

theorem sgnI_bd (n : Int) : (-128 ≤ signedI n 8 ∧ signedI n 8 ≤ 127) ∧ (-2048 ≤ signedI n 12 ∧ signedI n 12 ≤ 2047) := by
  have e8 : signedI n 8 = if n % 256 / 128 = 1 then n % 256 - 256 else n % 256 := by unfold signedI; rfl
  have e12 : signedI n 12 = if n % 4096 / 2048 = 1 then n % 4096 - 4096 else n % 4096 := by unfold signedI; rfl
  rw [e8, e12]
  constructor <;> split <;> omega
theorem decI_in (w : Int) : InI (decI w).1 := by
  unfold decI
  split
  · exact ⟨by decide, by decide, by decide⟩
  split
  · rename_i r _
    have h := sgnI_bd w
    refine ⟨?_, ?_, ?_⟩
    · show 0 ≤ (if uses1 r.shape = true then w / 256 % 16 else 0) ∧ (if uses1 r.shape = true then w / 256 % 16 else 0) < 16
      split <;> omega
    · show 0 ≤ (if uses2 r.shape = true then w / 16 % 16 else 0) ∧ (if uses2 r.shape = true then w / 16 % 16 else 0) < 16
      split <;> omega
    · show -4096 ≤ immOf w r.shape ∧ immOf w r.shape ≤ 4096
      unfold immOf
      (repeat' split) <;> omega
  · exact ⟨by decide, by decide, by decide⟩
theorem fetchM_in (m : Mach) (a : Int) : InI (fetchM m a).1 := by
  unfold fetchM
  split
  · exact decI_in _
  · exact ⟨by decide, by decide, by decide⟩
theorem and_bd (a b : Int) : -2147483648 ≤ and32M a b ∧ and32M a b ≤ 2147483647 := by unfold and32M; exact bit32_bd _ a b
theorem or_bd (a b : Int) : -2147483648 ≤ or32M a b ∧ or32M a b ≤ 2147483647 := by unfold or32M; exact bit32_bd _ a b
theorem xor_bd (a b : Int) : -2147483648 ≤ xor32M a b ∧ xor32M a b ≤ 2147483647 := by unfold xor32M; exact bit32_bd _ a b
theorem up_in {r : Nat → Int} {n v : Int} (h : ∀ j, j < 16 → -2147483648 ≤ r j ∧ r j ≤ 2147483647) (h1 : -2147483648 ≤ v) (h2 : v ≤ 2147483647) : ∀ j, j < 16 → -2147483648 ≤ up r n v j ∧ up r n v j ≤ 2147483647 := by
  intro j hj
  unfold up
  split
  · exact ⟨h1, h2⟩
  · exact h j hj
theorem setM_in {k : Nat} {m : Mach} {n v : Int} (h : InM k m) (h1 : -2147483648 ≤ v ∧ v ≤ 2147483647) : InM k (setM m n v) := ⟨up_in h.regs h1.1 h1.2, h.pc, h.pr, h.base, h.len, h.syms, h.told, h.steps⟩
theorem setT_in {k : Nat} {m : Mach} {t : Bool} (h : InM k m) : InM k (setT m t) := ⟨h.regs, h.pc, h.pr, h.base, h.len, h.syms, h.told, h.steps⟩
theorem loadM_in {k : Nat} {m : Mach} {i : Ins} {a : Int} (h : InM k m) : InM k (loadM m i a).1 := by
  unfold loadM
  refine iteInduction (motive := fun x : Mach × Int => InM k x.1) (fun _ => ?_) (fun _ => h)
  refine setM_in h ?_
  split <;> exact sg_bd _
theorem putM_in {k : Nat} {m : Mach} {i : Ins} (h : InM k m) : InM k (putM m i).1 := by
  unfold putM
  split
  · exact ⟨h.regs, h.pc, h.pr, h.base, by show (putN _ _ _ _).length ≤ _; rw [putN_len]; exact h.len, h.syms, h.told, h.steps⟩
  · exact h
theorem sumM_in {k : Nat} {m : Mach} {i : Ins} (h : InM k m) (hi : InI i) : InM k (sumM m i) := by
  have hrm := ixm hi.m h
  have hrn := ixr hi.n h
  unfold sumM
  dsimp only
  split
  · exact setM_in h hrm
  split
  · exact setM_in h (sg_bd _)
  split
  · exact setM_in h (sg_bd _)
  split
  · exact setM_in h (and_bd _ _)
  split
  · exact setM_in h (or_bd _ _)
  split
  · exact setM_in h (xor_bd _ _)
  split
  · exact setT_in h
  split
  · exact setT_in h
  split
  · exact setT_in h
  · exact h
theorem plainM_in {k : Nat} {m : Mach} {i : Ins} {a : Int} (h : InM k m) (hi : InI i) : InM (k + 1) (plainM m i a).1 := by
  have hrm := ixm hi.m h
  have hrn := ixr hi.n h
  have hq := hi.imm
  have hm := h.mono (Nat.le_add_right k 1)
  unfold plainM
  dsimp only
  split
  · exact setM_in hm (by omega)
  split
  · exact setM_in hm (sg_bd _)
  split
  · exact setT_in (setM_in hm (sg_bd _))
  split
  · exact setT_in (setM_in hm (by omega))
  split
  · exact setT_in (setM_in hm (sg_bd _))
  split
  · exact loadM_in hm
  split
  · exact putM_in hm
  split
  · exact ⟨h.regs, hm.pc, hm.pr, h.base, h.len, h.syms, by show (m.told ++ _).length ≤ _; rw [List.length_append, List.length_singleton]; have := h.told; omega, hm.steps⟩
  · exact sumM_in hm hi
theorem plainM_pc (m : Mach) (i : Ins) (a : Int) : (plainM m i a).1.pc = m.pc := by
  have hl : (loadM m i a).1.pc = m.pc := by
    unfold loadM
    exact iteInduction (motive := fun x : Mach × Int => x.1.pc = m.pc) (fun _ => rfl) (fun _ => rfl)
  have hp : (putM m i).1.pc = m.pc := by
    unfold putM
    exact iteInduction (motive := fun x : Mach × Int => x.1.pc = m.pc) (fun _ => rfl) (fun _ => rfl)
  have hs : (sumM m i).pc = m.pc := by
    unfold sumM
    dsimp only
    repeat' (first | rfl | refine iteInduction (motive := fun x : Mach => x.pc = m.pc) (fun _ => ?_) (fun _ => ?_))
  unfold plainM
  dsimp only
  repeat' (first | rfl | exact hl | exact hp | exact hs | refine iteInduction (motive := fun x : Mach × Int => x.1.pc = m.pc) (fun _ => ?_) (fun _ => ?_))
theorem leapM_in {k : Nat} {m : Mach} {i : Ins} (h : InM k m) (hi : InI i) : InM (k + 1) (leapM m i).1 ∧ (leapM m i).1.pc = m.pc ∧ -5000000000 - 100000 * (k + 1 : Int) ≤ (leapM m i).2.1 ∧ (leapM m i).2.1 ≤ 5000000000 + 100000 * (k + 1 : Int) := by
  have hm := h.mono (Nat.le_add_right k 1)
  have hpr := h.pr
  have hpc := h.pc
  have hrn := ixr hi.n h
  have hto := toM_bd (a := m.pc) hi.imm.1 hi.imm.2
  have hpr' : InM (k + 1) { m with pr := m.pc + 4 } := ⟨h.regs, hm.pc, by show _ ≤ m.pc + 4 ∧ m.pc + 4 ≤ _; omega, h.base, h.len, h.syms, hm.told, hm.steps⟩
  unfold leapM
  split
  · refine ⟨hm, rfl, ?_, ?_⟩ <;> (dsimp only; split <;> omega)
  split
  · refine ⟨hm, rfl, ?_, ?_⟩ <;> (dsimp only; split <;> omega)
  split
  · exact ⟨hm, rfl, by dsimp only; omega, by dsimp only; omega⟩
  split
  · exact ⟨hm, rfl, by dsimp only; omega, by dsimp only; omega⟩
  split
  · exact ⟨hpr', rfl, by dsimp only; omega, by dsimp only; omega⟩
  split
  · exact ⟨hpr', rfl, by dsimp only; omega, by dsimp only; omega⟩
  · exact ⟨hm, rfl, by dsimp only; omega, by dsimp only; omega⟩

def stepR (m : Mach) : D := .tup [machD (stepM m).1, .bool (stepM m).2.1, .int .i64 (stepM m).2.2]
theorem step_meets : Meets Try.prog n_sim_Step (SpecP (fun m : Mach => InM 9990 m) (fun m => [machD m]) stepR) := by
  refine meets_f tabOk Try.func7 rfl (by decide) ?_
  rintro m hm
  have hm' := hm.mono (show 9990 ≤ 10000 by decide)
  have hpc := hm.pc
  have hpr := hm.pr
  have htold := hm.told
  have hst := hm.steps
  have hm1 : InM 9991 { m with steps := m.steps + 1 } := ⟨hm.regs, by show _ ≤ m.pc ∧ m.pc ≤ _; omega, by show _ ≤ m.pr ∧ m.pr ≤ _; omega, hm.base, hm.len, hm.syms, by show m.told.length ≤ _; omega, by show _ ≤ m.steps + 1 ∧ m.steps + 1 ≤ _; omega⟩
  refine ⟨Nat.le_refl _, by simp [Try.f7], fun E hE => ?_⟩
  refine vcOk _ ?_
  (all_goals refine qgv ?_ <;> (repeat' first | exact trivial | intro hc | refine And.intro ?_ ?_) <;> refine Lf.mk ?_)
  refine call_p own_meets m ⟨hm.len, hm.syms, by omega⟩ (VS.mk (LeL.of_eq rfl)) ?_
  (all_goals refine qgv ?_ <;> (repeat' first | exact trivial | intro hc | refine And.intro ?_ ?_) <;> refine Lf.mk ?_)
  have hI := fetchM_in m m.pc
  obtain ⟨i, e, hie⟩ : ∃ i e, fetchM m m.pc = (i, e) := ⟨_, _, rfl⟩
  refine call_f fetch_meets [2] [2] (m, m.pc) ⟨hm', by omega, by omega⟩ rfl rfl ?_
  dsimp only
  rw [hie] at hI ⊢
  refine And.intro (VS.mk (LeL.of_eq rfl)) (And.intro (VS.mk rfl) ?_)
  (all_goals refine qgv ?_ <;> (repeat' first | exact trivial | intro hc | refine And.intro ?_ ?_) <;> refine Lf.mk ?_)
  · have hS : stepM m = (mach0, false, e) := by unfold stepM; rw [hie]; dsimp only; (repeat (first | (rw [if_pos (by assumption)]) | (rw [if_neg (by assumption)])))
    refine end_p (VS.mk ?_)
    unfold stepR; rw [hS]
    (first | exact LeL.refl _ | (repeat' (first | exact LeL.nil | exact LeD.refl _ | exact LeD.nil _ | exact LeD.strip _ _ _ | refine LeL.cons ?_ ?_ | refine LeD.tup ?_ | refine LeD.agg ?_)))
    all_goals first | exact LeD.ff rfl | skip
  · have hS : stepM m = ({ m with steps := m.steps + 1 }, true, 0) := by unfold stepM; rw [hie]; dsimp only; rw [if_neg (by omega), if_pos (by omega)]
    refine end_p (VS.mk ?_)
    unfold stepR; rw [hS]
    (first | exact LeL.refl _ | (repeat' (first | exact LeL.nil | exact LeD.refl _ | exact LeD.nil _ | exact LeD.strip _ _ _ | refine LeL.cons ?_ ?_ | refine LeD.tup ?_ | refine LeD.agg ?_)))
    all_goals first | exact LeD.tt rfl | skip
  all_goals
    refine call_p leads_meets i.op trivial (VS.mk (LeL.of_eq rfl)) ?_
    (all_goals refine qgv ?_ <;> (repeat' first | exact trivial | intro hc | refine And.intro ?_ ?_) <;> refine Lf.mk ?_)
  · have hP := plainM_in (k := 9991) (a := m.pc) hm1 hI
    have hpp := plainM_pc { m with steps := m.steps + 1 } i m.pc
    obtain ⟨x, f, hx⟩ : ∃ x f, plainM { m with steps := m.steps + 1 } i m.pc = (x, f) := ⟨_, _, rfl⟩
    rw [hx] at hP hpp
    have hS : stepM m = if f ≠ 0 then (mach0, false, f) else ({ x with pc := x.pc + 2 }, false, 0) := by unfold stepM; rw [hie]; dsimp only; rw [if_neg (by omega), if_neg (by omega), if_pos hc, hx]
    refine call_f plain_meets [2] [2] ({ m with steps := m.steps + 1 }, i, m.pc) ⟨hm1.mono (by decide), hI, by omega, by omega⟩ rfl rfl ?_
    dsimp only
    rw [hx]
    refine And.intro (VS.mk (LeL.of_eq rfl)) (And.intro (VS.mk rfl) ?_)
    have hxp := hP.pc
    (all_goals refine qgv ?_ <;> (repeat' first | exact trivial | intro hc | refine And.intro ?_ ?_) <;> refine Lf.mk ?_)
    · rw [if_pos hc] at hS
      refine end_p (VS.mk ?_)
      unfold stepR; rw [hS]
      (first | exact LeL.refl _ | (repeat' (first | exact LeL.nil | exact LeD.refl _ | exact LeD.nil _ | exact LeD.strip _ _ _ | refine LeL.cons ?_ ?_ | refine LeD.tup ?_ | refine LeD.agg ?_)))
      all_goals first | exact LeD.ff rfl | skip
    · rw [if_neg (by omega)] at hS
      refine end_p (VS.mk ?_)
      unfold stepR; rw [hS]
      (first | exact LeL.refl _ | (repeat' (first | exact LeL.nil | exact LeD.refl _ | exact LeD.nil _ | exact LeD.strip _ _ _ | refine LeL.cons ?_ ?_ | refine LeD.tup ?_ | refine LeD.agg ?_)))
      all_goals first | exact LeD.ff rfl | skip
  · have hL := leapM_in (k := 9991) hm1 hI
    obtain ⟨x, to, late, hx⟩ : ∃ x to late, leapM { m with steps := m.steps + 1 } i = (x, to, late) := ⟨_, _, _, rfl⟩
    rw [hx] at hL
    obtain ⟨hL1, hL2, hL3, hL4⟩ := hL
    dsimp only at hL1 hL2 hL3 hL4
    have hxp := hL1.pc
    have hS : stepM m = if late = true then lateM x to else ({ x with pc := to }, false, 0) := by unfold stepM; rw [hie]; dsimp only; rw [if_neg (by omega), if_neg (by omega), if_neg (by rw [hc]; decide), hx]
    refine call_f leap_meets [2] [2] ({ m with steps := m.steps + 1 }, i) ⟨hm1.mono (by decide), hI⟩ rfl rfl ?_
    dsimp only
    rw [hx]
    dsimp only
    refine And.intro (VS.mk (LeL.of_eq rfl)) (And.intro (VS.mk rfl) ?_)
    (all_goals refine qgv ?_ <;> (repeat' first | exact trivial | intro hc | refine And.intro ?_ ?_) <;> refine Lf.mk ?_)
    · rw [if_pos hc] at hS
      have hJ := fetchM_in x (x.pc + 2)
      obtain ⟨j, e', hj⟩ : ∃ j e', fetchM x (x.pc + 2) = (j, e') := ⟨_, _, rfl⟩
      refine call_f fetch_meets [2] [2] (x, x.pc + 2) ⟨hL1.mono (by decide), by omega, by omega⟩ rfl rfl ?_
      dsimp only
      rw [hj] at hJ ⊢
      dsimp only at hJ ⊢
      refine And.intro (VS.mk (LeL.of_eq rfl)) (And.intro (VS.mk rfl) ?_)
      (all_goals refine qgv ?_ <;> (repeat' first | exact trivial | intro hc | refine And.intro ?_ ?_) <;> refine Lf.mk ?_)
      · refine call_p leads_meets j.op trivial (VS.mk (LeL.of_eq rfl)) ?_
        (all_goals refine qgv ?_ <;> (repeat' first | exact trivial | intro hc | refine And.intro ?_ ?_) <;> refine Lf.mk ?_)
        · have hT : lateM x to = (mach0, false, 8) := by unfold lateM; rw [hj]; dsimp only; rw [if_neg (by omega), if_pos (.inl (by assumption))]
          refine end_p (VS.mk ?_)
          unfold stepR; rw [hS, hT]
          (first | exact LeL.refl _ | (repeat' (first | exact LeL.nil | exact LeD.refl _ | exact LeD.nil _ | exact LeD.strip _ _ _ | refine LeL.cons ?_ ?_ | refine LeD.tup ?_ | refine LeD.agg ?_)))
          all_goals first | exact LeD.ff rfl | skip
        · have hT : lateM x to = (mach0, false, 8) := by unfold lateM; rw [hj]; dsimp only; rw [if_neg (by omega), if_pos (.inr (by assumption))]
          refine end_p (VS.mk ?_)
          unfold stepR; rw [hS, hT]
          (first | exact LeL.refl _ | (repeat' (first | exact LeL.nil | exact LeD.refl _ | exact LeD.nil _ | exact LeD.strip _ _ _ | refine LeL.cons ?_ ?_ | refine LeD.tup ?_ | refine LeD.agg ?_)))
          all_goals first | exact LeD.ff rfl | skip
        have hnl : ¬ (leadsM j.op = true ∨ j.op = 27) := by
          rintro (h | h)
          · have h9 : leadsM j.op = false := by assumption
            rw [h] at h9; cases h9
          · omega
        have hP := plainM_in (k := 9992) (a := x.pc + 2) hL1 hJ
        have hpp := plainM_pc x j (x.pc + 2)
        obtain ⟨y, f, hy⟩ : ∃ y f, plainM x j (x.pc + 2) = (y, f) := ⟨_, _, rfl⟩
        rw [hy] at hP hpp
        have hT : lateM x to = if f ≠ 0 then (mach0, false, f) else ({ y with pc := to }, false, 0) := by unfold lateM; rw [hj]; dsimp only; rw [if_neg (by omega), if_neg hnl, hy]
        refine call_f plain_meets [2] [2] (x, j, x.pc + 2) ⟨hL1.mono (by decide), hJ, by omega, by omega⟩ rfl rfl ?_
        dsimp only
        rw [hy]
        refine And.intro (VS.mk (LeL.of_eq rfl)) (And.intro (VS.mk rfl) ?_)
        (all_goals refine qgv ?_ <;> (repeat' first | exact trivial | intro hc | refine And.intro ?_ ?_) <;> refine Lf.mk ?_)
        · rw [if_pos hc] at hT
          refine end_p (VS.mk ?_)
          unfold stepR; rw [hS, hT]
          (first | exact LeL.refl _ | (repeat' (first | exact LeL.nil | exact LeD.refl _ | exact LeD.nil _ | exact LeD.strip _ _ _ | refine LeL.cons ?_ ?_ | refine LeD.tup ?_ | refine LeD.agg ?_)))
          all_goals first | exact LeD.ff rfl | skip
        · rw [if_neg (by omega)] at hT
          refine end_p (VS.mk ?_)
          unfold stepR; rw [hS, hT]
          (first | exact LeL.refl _ | (repeat' (first | exact LeL.nil | exact LeD.refl _ | exact LeD.nil _ | exact LeD.strip _ _ _ | refine LeL.cons ?_ ?_ | refine LeD.tup ?_ | refine LeD.agg ?_)))
          all_goals first | exact LeD.ff rfl | skip
      · have hT : lateM x to = (mach0, false, e') := by unfold lateM; rw [hj]; dsimp only; rw [if_pos (by assumption)]
        refine end_p (VS.mk ?_)
        unfold stepR; rw [hS, hT]
        (first | exact LeL.refl _ | (repeat' (first | exact LeL.nil | exact LeD.refl _ | exact LeD.nil _ | exact LeD.strip _ _ _ | refine LeL.cons ?_ ?_ | refine LeD.tup ?_ | refine LeD.agg ?_)))
        all_goals first | exact LeD.ff rfl | skip
    · rw [if_neg (by rw [hc]; decide)] at hS
      refine end_p (VS.mk ?_)
      unfold stepR; rw [hS]
      (first | exact LeL.refl _ | (repeat' (first | exact LeL.nil | exact LeD.refl _ | exact LeD.nil _ | exact LeD.strip _ _ _ | refine LeL.cons ?_ ?_ | refine LeD.tup ?_ | refine LeD.agg ?_)))
      all_goals first | exact LeD.ff rfl | skip
  · have hP := plainM_in (k := 9991) (a := m.pc) hm1 hI
    have hpp := plainM_pc { m with steps := m.steps + 1 } i m.pc
    obtain ⟨x, f, hx⟩ : ∃ x f, plainM { m with steps := m.steps + 1 } i m.pc = (x, f) := ⟨_, _, rfl⟩
    rw [hx] at hP hpp
    have hS : stepM m = if f ≠ 0 then (mach0, false, f) else ({ x with pc := x.pc + 2 }, false, 0) := by unfold stepM; rw [hie]; dsimp only; rw [if_neg (by omega), if_neg (by omega), if_pos hc, hx]
    refine call_f plain_meets [2] [2] ({ m with steps := m.steps + 1 }, i, m.pc) ⟨hm1.mono (by decide), hI, by omega, by omega⟩ rfl rfl ?_
    dsimp only
    rw [hx]
    refine And.intro (VS.mk (LeL.of_eq rfl)) (And.intro (VS.mk rfl) ?_)
    have hxp := hP.pc
    (all_goals refine qgv ?_ <;> (repeat' first | exact trivial | intro hc | refine And.intro ?_ ?_) <;> refine Lf.mk ?_)
    · rw [if_pos hc] at hS
      refine end_p (VS.mk ?_)
      unfold stepR; rw [hS]
      (first | exact LeL.refl _ | (repeat' (first | exact LeL.nil | exact LeD.refl _ | exact LeD.nil _ | exact LeD.strip _ _ _ | refine LeL.cons ?_ ?_ | refine LeD.tup ?_ | refine LeD.agg ?_)))
      all_goals first | exact LeD.ff rfl | skip
    · rw [if_neg (by omega)] at hS
      refine end_p (VS.mk ?_)
      unfold stepR; rw [hS]
      (first | exact LeL.refl _ | (repeat' (first | exact LeL.nil | exact LeD.refl _ | exact LeD.nil _ | exact LeD.strip _ _ _ | refine LeL.cons ?_ ?_ | refine LeD.tup ?_ | refine LeD.agg ?_)))
      all_goals first | exact LeD.ff rfl | skip
  · have hL := leapM_in (k := 9991) hm1 hI
    obtain ⟨x, to, late, hx⟩ : ∃ x to late, leapM { m with steps := m.steps + 1 } i = (x, to, late) := ⟨_, _, _, rfl⟩
    rw [hx] at hL
    obtain ⟨hL1, hL2, hL3, hL4⟩ := hL
    dsimp only at hL1 hL2 hL3 hL4
    have hxp := hL1.pc
    have hS : stepM m = if late = true then lateM x to else ({ x with pc := to }, false, 0) := by unfold stepM; rw [hie]; dsimp only; rw [if_neg (by omega), if_neg (by omega), if_neg (by rw [hc]; decide), hx]
    refine call_f leap_meets [2] [2] ({ m with steps := m.steps + 1 }, i) ⟨hm1.mono (by decide), hI⟩ rfl rfl ?_
    dsimp only
    rw [hx]
    dsimp only
    refine And.intro (VS.mk (LeL.of_eq rfl)) (And.intro (VS.mk rfl) ?_)
    (all_goals refine qgv ?_ <;> (repeat' first | exact trivial | intro hc | refine And.intro ?_ ?_) <;> refine Lf.mk ?_)
    · rw [if_pos hc] at hS
      have hJ := fetchM_in x (x.pc + 2)
      obtain ⟨j, e', hj⟩ : ∃ j e', fetchM x (x.pc + 2) = (j, e') := ⟨_, _, rfl⟩
      refine call_f fetch_meets [2] [2] (x, x.pc + 2) ⟨hL1.mono (by decide), by omega, by omega⟩ rfl rfl ?_
      dsimp only
      rw [hj] at hJ ⊢
      dsimp only at hJ ⊢
      refine And.intro (VS.mk (LeL.of_eq rfl)) (And.intro (VS.mk rfl) ?_)
      (all_goals refine qgv ?_ <;> (repeat' first | exact trivial | intro hc | refine And.intro ?_ ?_) <;> refine Lf.mk ?_)
      · refine call_p leads_meets j.op trivial (VS.mk (LeL.of_eq rfl)) ?_
        (all_goals refine qgv ?_ <;> (repeat' first | exact trivial | intro hc | refine And.intro ?_ ?_) <;> refine Lf.mk ?_)
        · have hT : lateM x to = (mach0, false, 8) := by unfold lateM; rw [hj]; dsimp only; rw [if_neg (by omega), if_pos (.inl (by assumption))]
          refine end_p (VS.mk ?_)
          unfold stepR; rw [hS, hT]
          (first | exact LeL.refl _ | (repeat' (first | exact LeL.nil | exact LeD.refl _ | exact LeD.nil _ | exact LeD.strip _ _ _ | refine LeL.cons ?_ ?_ | refine LeD.tup ?_ | refine LeD.agg ?_)))
          all_goals first | exact LeD.ff rfl | skip
        · have hT : lateM x to = (mach0, false, 8) := by unfold lateM; rw [hj]; dsimp only; rw [if_neg (by omega), if_pos (.inr (by assumption))]
          refine end_p (VS.mk ?_)
          unfold stepR; rw [hS, hT]
          (first | exact LeL.refl _ | (repeat' (first | exact LeL.nil | exact LeD.refl _ | exact LeD.nil _ | exact LeD.strip _ _ _ | refine LeL.cons ?_ ?_ | refine LeD.tup ?_ | refine LeD.agg ?_)))
          all_goals first | exact LeD.ff rfl | skip
        have hnl : ¬ (leadsM j.op = true ∨ j.op = 27) := by
          rintro (h | h)
          · have h9 : leadsM j.op = false := by assumption
            rw [h] at h9; cases h9
          · omega
        have hP := plainM_in (k := 9992) (a := x.pc + 2) hL1 hJ
        have hpp := plainM_pc x j (x.pc + 2)
        obtain ⟨y, f, hy⟩ : ∃ y f, plainM x j (x.pc + 2) = (y, f) := ⟨_, _, rfl⟩
        rw [hy] at hP hpp
        have hT : lateM x to = if f ≠ 0 then (mach0, false, f) else ({ y with pc := to }, false, 0) := by unfold lateM; rw [hj]; dsimp only; rw [if_neg (by omega), if_neg hnl, hy]
        refine call_f plain_meets [2] [2] (x, j, x.pc + 2) ⟨hL1.mono (by decide), hJ, by omega, by omega⟩ rfl rfl ?_
        dsimp only
        rw [hy]
        refine And.intro (VS.mk (LeL.of_eq rfl)) (And.intro (VS.mk rfl) ?_)
        (all_goals refine qgv ?_ <;> (repeat' first | exact trivial | intro hc | refine And.intro ?_ ?_) <;> refine Lf.mk ?_)
        · rw [if_pos hc] at hT
          refine end_p (VS.mk ?_)
          unfold stepR; rw [hS, hT]
          (first | exact LeL.refl _ | (repeat' (first | exact LeL.nil | exact LeD.refl _ | exact LeD.nil _ | exact LeD.strip _ _ _ | refine LeL.cons ?_ ?_ | refine LeD.tup ?_ | refine LeD.agg ?_)))
          all_goals first | exact LeD.ff rfl | skip
        · rw [if_neg (by omega)] at hT
          refine end_p (VS.mk ?_)
          unfold stepR; rw [hS, hT]
          (first | exact LeL.refl _ | (repeat' (first | exact LeL.nil | exact LeD.refl _ | exact LeD.nil _ | exact LeD.strip _ _ _ | refine LeL.cons ?_ ?_ | refine LeD.tup ?_ | refine LeD.agg ?_)))
          all_goals first | exact LeD.ff rfl | skip
      · have hT : lateM x to = (mach0, false, e') := by unfold lateM; rw [hj]; dsimp only; rw [if_pos (by assumption)]
        refine end_p (VS.mk ?_)
        unfold stepR; rw [hS, hT]
        (first | exact LeL.refl _ | (repeat' (first | exact LeL.nil | exact LeD.refl _ | exact LeD.nil _ | exact LeD.strip _ _ _ | refine LeL.cons ?_ ?_ | refine LeD.tup ?_ | refine LeD.agg ?_)))
        all_goals first | exact LeD.ff rfl | skip
    · rw [if_neg (by rw [hc]; decide)] at hS
      refine end_p (VS.mk ?_)
      unfold stepR; rw [hS]
      (first | exact LeL.refl _ | (repeat' (first | exact LeL.nil | exact LeD.refl _ | exact LeD.nil _ | exact LeD.strip _ _ _ | refine LeL.cons ?_ ?_ | refine LeD.tup ?_ | refine LeD.agg ?_)))
      all_goals first | exact LeD.ff rfl | skip
end Go.Proofs.Ytdapgcdenpgnaaa

/-
  The machine's run; what steps keep.
-/
namespace Go.Proofs.Ytdapgcdenpgnaaa
open Go Go.Plat
set_option linter.unusedVariables false
set_option linter.unusedSimpArgs false
set_option maxRecDepth 100000
set_option maxHeartbeats 2000000
attribute [local irreducible] NilS LookS NormM bitI BytesS NormL Arith QuoS RemS ShlS ShrS BitS CatS SplitS SideS IdxS CallS LoopEnd EndS ModeS DrawS AWP Meets
attribute [local irreducible] irows infoR decI signedI putN rrows rinfo shapeM inM up getN toM ldM and32M or32M xor32M leadsM fetchM plainM leapM

theorem lateM_in {k : Nat} {m : Mach} {to : Int} (h : InM k m) (h1 : -5000000000 - 100000 * (k + 1 : Int) ≤ to) (h2 : to ≤ 5000000000 + 100000 * (k + 1 : Int)) : (lateM m to).2.2 = 0 → InM (k + 1) (lateM m to).1 := by
  unfold lateM
  dsimp only
  refine iteInduction (motive := fun x : Mach × Bool × Int => x.2.2 = 0 → InM (k + 1) x.1) (fun h h' => absurd h' h) (fun _ => ?_)
  refine iteInduction (motive := fun x : Mach × Bool × Int => x.2.2 = 0 → InM (k + 1) x.1) (fun _ h' => absurd h' (by decide)) (fun _ => ?_)
  refine iteInduction (motive := fun x : Mach × Bool × Int => x.2.2 = 0 → InM (k + 1) x.1) (fun h h' => absurd h' h) (fun _ _ => ?_)
  have hp := plainM_in (k := k) (a := m.pc + 2) h (fetchM_in m (m.pc + 2))
  exact ⟨hp.regs, ⟨by show _ ≤ to; omega, by show to ≤ _; omega⟩, hp.pr, hp.base, hp.len, hp.syms, hp.told, hp.steps⟩
theorem stepM_in {k : Nat} {m : Mach} (h : InM k m) : (stepM m).2.2 = 0 → InM (k + 3) (stepM m).1 := by
  have hI := fetchM_in m m.pc
  have hpc := h.pc
  have hpr := h.pr
  have htold := h.told
  have hst := h.steps
  have hm1 : InM (k + 1) { m with steps := m.steps + 1 } := ⟨h.regs, by show _ ≤ m.pc ∧ m.pc ≤ _; omega, by show _ ≤ m.pr ∧ m.pr ≤ _; omega, h.base, h.len, h.syms, by show m.told.length ≤ _; omega, by show _ ≤ m.steps + 1 ∧ m.steps + 1 ≤ _; omega⟩
  unfold stepM
  dsimp only
  refine iteInduction (motive := fun x : Mach × Bool × Int => x.2.2 = 0 → InM (k + 3) x.1) (fun h h' => absurd h' h) (fun _ => ?_)
  refine iteInduction (motive := fun x : Mach × Bool × Int => x.2.2 = 0 → InM (k + 3) x.1) (fun _ _ => hm1.mono (by omega)) (fun _ => ?_)
  refine iteInduction (motive := fun x : Mach × Bool × Int => x.2.2 = 0 → InM (k + 3) x.1) (fun _ => ?_) (fun _ => ?_)
  · refine iteInduction (motive := fun x : Mach × Bool × Int => x.2.2 = 0 → InM (k + 3) x.1) (fun h h' => absurd h' h) (fun _ _ => ?_)
    have hp := (plainM_in (k := k + 1) (a := m.pc) hm1 hI).mono (show k + 1 + 1 ≤ k + 3 by omega)
    have hpp := plainM_pc { m with steps := m.steps + 1 } (fetchM m m.pc).1 m.pc
    dsimp only at hpp
    exact ⟨hp.regs, ⟨by show _ ≤ (plainM _ _ _).1.pc + 2; omega, by show (plainM _ _ _).1.pc + 2 ≤ _; omega⟩, hp.pr, hp.base, hp.len, hp.syms, hp.told, hp.steps⟩
  · obtain ⟨h1, h2, h3, h4⟩ := leapM_in (k := k + 1) hm1 hI
    refine iteInduction (motive := fun x : Mach × Bool × Int => x.2.2 = 0 → InM (k + 3) x.1) (fun _ => ?_) (fun _ _ => ?_)
    · exact lateM_in (k := k + 2) h1 (by omega) (by omega)
    · have hp := h1.mono (show k + 1 + 1 ≤ k + 3 by omega)
      exact ⟨hp.regs, ⟨by show _ ≤ (leapM _ _).2.1; omega, by show (leapM _ _).2.1 ≤ _; omega⟩, hp.pr, hp.base, hp.len, hp.syms, hp.told, hp.steps⟩

def zeroC : List D := [.int .i64 0, .int .i64 0, .int .i64 0, .int .i64 0, .int .i64 0, .int .i64 0, .int .i64 0, .int .i64 0, .int .i64 0, .int .i64 0, .int .i64 0, .int .i64 0, .int .i64 0, .int .i64 0, .int .i64 0, .int .i64 0, .ff, .int .i64 0, .int .i64 0, .int .i64 0, .nilsl, .nilsl, .nilsl, .int .i64 0]
theorem zeroC_le : LeL zeroC (machC mach0) := by
  unfold zeroC machC mach0
  (first | exact LeL.refl _ | (repeat' (first | exact LeL.nil | exact LeD.refl _ | exact LeD.nil _ | exact LeD.strip _ _ _ | refine LeL.cons ?_ ?_ | refine LeD.tup ?_ | refine LeD.agg ?_)))
  all_goals first | exact LeD.ff rfl | skip
def runV (m : Mach) (most : Int) : Mach × Int := if most < 0 ∨ most > 2000 then (mach0, 3) else runM most.toNat m
attribute [local irreducible] stepM
theorem run_meets : Meets Try.prog n_sim_Run (SpecP (fun ((m, most) : Mach × Int) => InM 0 m) (fun (m, most) => [machD m, .int .i64 most]) fun (m, most) => .tup [machD (runV m most).1, .int .i64 (runV m most).2]) := by
  refine meets_f tabOk Try.func15 rfl (by decide) ?_
  rintro ⟨m, most⟩ hm
  have hm : InM 0 m := hm
  have htold := hm.told
  refine ⟨Nat.le_refl _, by simp [Try.f15], fun E hE => ?_⟩
  refine vcOk _ ?_
  (all_goals refine qgv ?_ <;> (repeat' first | exact trivial | intro hc | refine And.intro ?_ ?_) <;> refine Lf.mk ?_)
  · have hR : runV m most = (mach0, 3) := by unfold runV; rw [if_pos (by omega)]
    refine end_p (VS.mk ?_)
    (try dsimp only); rw [hR]
    (first | exact LeL.refl _ | (repeat' (first | exact LeL.nil | exact LeD.refl _ | exact LeD.nil _ | exact LeD.strip _ _ _ | refine LeL.cons ?_ ?_ | refine LeD.tup ?_ | refine LeD.agg ?_)))
    all_goals first | exact LeD.ff rfl | skip
  · have hR : runV m most = (mach0, 3) := by unfold runV; rw [if_pos (by omega)]
    refine end_p (VS.mk ?_)
    (try dsimp only); rw [hR]
    (first | exact LeL.refl _ | (repeat' (first | exact LeL.nil | exact LeD.refl _ | exact LeD.nil _ | exact LeD.strip _ _ _ | refine LeL.cons ?_ ?_ | refine LeD.tup ?_ | refine LeD.agg ?_)))
    all_goals first | exact LeD.ff rfl | skip
  have hR : runV m most = runM most.toNat m := by unfold runV; rw [if_neg (by omega)]
  refine call_p own_meets m ⟨hm.len, hm.syms, by omega⟩ (VS.mk (LeL.of_eq rfl)) ?_
  (all_goals refine qgv ?_ <;> (repeat' first | exact trivial | intro hc | refine And.intro ?_ ?_) <;> refine Lf.mk ?_)
  refine awp_loop (α := Nat × Mach) (fun p => (p.1 : Int) ≤ most ∧ InM (3 * p.1) p.2 ∧ runM (most.toNat - p.1) p.2 = runM most.toNat m)
    (fun p => [(19, .int .i64 most), (20, .int .i64 p.1), (6, .loc 2 0), (4, .loc 1 0)])
    (fun p => [.cells (machC m), .cells zeroC, .cells (machC p.2)]) (fun p => most.toNat - p.1) (fun _ => by simp [hE]) (0, m) ⟨by omega, hm, by rw [Nat.sub_zero]⟩ ?_ ?_
  · (repeat' (first | (refine VS.mk ?_) | exact trivial | exact rfl | refine And.intro ?_ ?_))
  rintro ⟨k, x⟩ ⟨hk, hx, hrun⟩
  dsimp only at hk hx hrun
  refine vcOk _ ?_
  (all_goals refine qgv ?_ <;> (repeat' first | exact trivial | intro hc | refine And.intro ?_ ?_) <;> refine Lf.mk ?_)
  · refine call_p step_meets x (hx.mono (by omega)) (VS.mk (LeL.of_eq rfl)) ?_
    have hin := stepM_in hx
    obtain ⟨y, en, e, hy⟩ : ∃ y en e, stepM x = (y, en, e) := ⟨_, _, _, rfl⟩
    have hst : runM (most.toNat - k) x = if e ≠ 0 then (mach0, e) else if en = true then (y, 0) else runM (most.toNat - (k + 1)) y := by
      rw [show most.toNat - k = (most.toNat - (k + 1)) + 1 by omega, runM, hy]
    rw [hy] at hin
    unfold stepR
    rw [hy]
    dsimp only at hin ⊢
    (all_goals refine qgv ?_ <;> (repeat' first | exact trivial | intro hc | refine And.intro ?_ ?_) <;> refine Lf.mk ?_)
    · rw [if_pos hc] at hst
      refine end_p (VS.mk ?_)
      (try dsimp only); rw [hR, ← hrun, hst]
      (first | exact LeL.refl _ | (repeat' (first | exact LeL.nil | exact LeD.refl _ | exact LeD.nil _ | exact LeD.strip _ _ _ | refine LeL.cons ?_ ?_ | refine LeD.tup ?_ | refine LeD.agg ?_)))
      all_goals first | exact LeD.ff rfl | skip
    · rw [if_neg (by omega), if_pos hc] at hst
      refine end_p (VS.mk ?_)
      (try dsimp only); rw [hR, ← hrun, hst]
      (first | exact LeL.refl _ | (repeat' (first | exact LeL.nil | exact LeD.refl _ | exact LeD.nil _ | exact LeD.strip _ _ _ | refine LeL.cons ?_ ?_ | refine LeD.tup ?_ | refine LeD.agg ?_)))
    · rw [if_neg (by omega), if_neg (by rw [hc]; decide)] at hst
      refine loop_end (k + 1, y) ⟨by dsimp only; omega, by dsimp only; exact (hin (by assumption)).mono (by omega), by dsimp only; rw [← hst, hrun]⟩ (by dsimp only; omega) ?_
      (repeat' (first | (refine VS.mk ?_) | exact trivial | exact rfl | refine And.intro ?_ ?_))
  · have hst : runM (most.toNat - k) x = (mach0, 13) := by rw [show most.toNat - k = 0 by omega]; rfl
    refine end_p (VS.mk ?_)
    (try dsimp only); rw [hR, ← hrun, hst]
    (first | exact LeL.refl _ | (repeat' (first | exact LeL.nil | exact LeD.refl _ | exact LeD.nil _ | exact LeD.strip _ _ _ | refine LeL.cons ?_ ?_ | refine LeD.tup ?_ | refine LeD.agg ?_)))
    all_goals first | exact LeD.ff rfl | skip
end Go.Proofs.Ytdapgcdenpgnaaa

/-
  Machines compared.
-/
namespace Go.Proofs.Ytdapgcdenpgnaaa
open Go Go.Plat
set_option linter.unusedVariables false
set_option linter.unusedSimpArgs false
set_option maxRecDepth 100000
set_option maxHeartbeats 2000000
attribute [local irreducible] NilS LookS NormM bitI BytesS NormL Arith QuoS RemS ShlS ShrS BitS CatS SplitS SideS IdxS CallS LoopEnd EndS ModeS DrawS AWP Meets
attribute [local irreducible] irows infoR decI signedI putN rrows rinfo shapeM inM up getN toM ldM and32M or32M xor32M leadsM fetchM plainM leapM stepM sameI

def regsOf (m : Mach) : List Int := [m.r 0, m.r 1, m.r 2, m.r 3, m.r 4, m.r 5, m.r 6, m.r 7, m.r 8, m.r 9, m.r 10, m.r 11, m.r 12, m.r 13, m.r 14, m.r 15]
structure EqM (a b : Mach) : Prop where
  regs : regsOf a = regsOf b
  t : a.t = b.t
  pc : a.pc = b.pc
  pr : a.pr = b.pr
  steps : a.steps = b.steps
  told : a.told = b.told
  img : a.img = b.img
theorem EqM.refl (a : Mach) : EqM a a := ⟨rfl, rfl, rfl, rfl, rfl, rfl, rfl⟩
theorem EqM.symm {a b : Mach} (h : EqM a b) : EqM b a := ⟨h.1.symm, h.2.symm, h.3.symm, h.4.symm, h.5.symm, h.6.symm, h.7.symm⟩
theorem sameI_eq {a b : OImg} : sameI a b = true ↔ a = b := by unfold sameI; exact decide_eq_true_iff
noncomputable def sameM (a b : Mach) : Bool := @decide (EqM a b) (Classical.propDecidable _)
theorem sameM_ff {a b : Mach} (h : ¬ EqM a b) : sameM a b = false := @decide_eq_false _ (Classical.propDecidable _) h
theorem sameM_tt {a b : Mach} (h : EqM a b) : sameM a b = true := @decide_eq_true _ (Classical.propDecidable _) h
theorem sameM_iff {a b : Mach} : sameM a b = true ↔ EqM a b := @decide_eq_true_iff _ (Classical.propDecidable _)

theorem samem_meets : Meets Try.prog n_plref6_SameMachine (SpecP (fun ((a, b) : Mach × Mach) => a.img.syms.length ≤ 4294967296 ∧ a.told.length ≤ 4294967296) (fun (a, b) => [machD a, machD b]) fun (a, b) => .bool (sameM a b)) := by
  refine meets_f tabOk Try.func9 rfl (by decide) ?_
  rintro ⟨a, b⟩ ⟨h1, h2⟩
  refine ⟨Nat.le_refl _, by simp [Try.f9], fun E hE => ?_⟩
  refine vcOk _ ?_
  (all_goals refine qgv ?_ <;> (repeat' first | exact trivial | intro hc | refine And.intro ?_ ?_) <;> refine Lf.mk ?_)
  refine eqS_array (e := 3) (n := 16) (k := .i64) (regsOf a) (regsOf b) tk3 (by kernel_rfl) (by kernel_rfl) (by kernel_rfl) (by kernel_rfl) rfl rfl rfl rfl ?_
  (all_goals refine qgv ?_ <;> (repeat' first | exact trivial | intro hc | refine And.intro ?_ ?_) <;> refine Lf.mk ?_)
  · exact end_p (VS.mk (LeD.ff (sameM_ff fun h => hc h.regs)))
  · exact end_p (VS.mk (LeD.ff (sameM_ff fun h => hc h.t)))
  · exact end_p (VS.mk (LeD.ff (sameM_ff fun h => hc h.pc)))
  · exact end_p (VS.mk (LeD.ff (sameM_ff fun h => hc h.pr)))
  · exact end_p (VS.mk (LeD.ff (sameM_ff fun h => hc h.steps)))
  · exact end_p (VS.mk (LeD.ff (sameM_ff fun h => hc (by rw [h.told]))))
  refine call_p sameimg_meets (a.img, b.img) h1 (VS.mk (LeL.of_eq rfl)) ?_
  (all_goals refine qgv ?_ <;> (repeat' first | exact trivial | intro hc | refine And.intro ?_ ?_) <;> refine Lf.mk ?_)
  · exact end_p (VS.mk (LeD.ff (sameM_ff fun h => by rw [sameI_eq.2 h.img] at hc; cases hc)))
  have himg : a.img = b.img := sameI_eq.1 hc
  have hlen : a.told.length = b.told.length := by omega
  refine awp_loop (α := Nat) (fun k => k ≤ a.told.length ∧ a.told.take k = b.told.take k)
    (fun k => [(58, .int .i64 a.told.length), (59, .int .i64 k), (2, .loc 0 0), (3, .loc 1 0)])
    (fun _ => [.cells (machC a), .cells (machC b)]) (fun k => a.told.length - k) (fun _ => by simp [hE]) 0 ⟨Nat.zero_le _, by simp⟩ ?_ ?_
  · (repeat' (first | (refine VS.mk ?_) | exact trivial | exact rfl | refine And.intro ?_ ?_))
  rintro k ⟨hk, hst⟩
  refine vcOk _ ?_
  (all_goals refine qgv ?_ <;> (repeat' first | exact trivial | intro hc | refine And.intro ?_ ?_) <;> refine Lf.mk ?_)
  · obtain ⟨s, hsk⟩ := at_of_lt (l := a.told) (k := k) (by omega)
    obtain ⟨t, htk⟩ := at_of_lt (l := b.told) (k := k) (by omega)
    refine ix_map s (by omega) (by simpa using hsk) ?_
    (all_goals refine qgv ?_ <;> (repeat' first | exact trivial | intro hc | refine And.intro ?_ ?_) <;> refine Lf.mk ?_)
    refine ix_map t (by omega) (by simpa using htk) ?_
    (all_goals refine qgv ?_ <;> (repeat' first | exact trivial | intro hc | refine And.intro ?_ ?_) <;> refine Lf.mk ?_)
    · refine end_p (VS.mk (LeD.ff (sameM_ff fun h => ?_)))
      rw [h.told, htk] at hsk
      exact hc (Option.some.inj hsk).symm
    · subst hc
      refine loop_end (k + 1) ⟨by omega, take_step2 hst hsk htk⟩ (by omega) ?_
      (repeat' (first | (refine VS.mk ?_) | exact trivial | exact rfl | refine And.intro ?_ ?_))
  · obtain rfl : k = a.told.length := by omega
    have htold : a.told = b.told := by rw [List.take_length, hlen, List.take_length] at hst; exact hst
    exact end_p (VS.mk (LeD.tt (sameM_tt ⟨by assumption, by assumption, by assumption, by assumption, by assumption, htold, himg⟩)))
end Go.Proofs.Ytdapgcdenpgnaaa

/-
  The document's machine: plain instructions.
-/
namespace Go.Proofs.Ytdapgcdenpgnaaa
open Go Go.Plat
set_option linter.unusedVariables false
set_option linter.unusedSimpArgs false
set_option maxRecDepth 100000
set_option maxHeartbeats 2000000
attribute [local irreducible] NilS LookS NormM bitI BytesS NormL Arith QuoS RemS ShlS ShrS BitS CatS SplitS SideS IdxS CallS LoopEnd EndS ModeS DrawS AWP Meets
attribute [local irreducible] irows infoR decI signedI putN rrows rinfo shapeM inM up getN toM ldM and32M or32M xor32M leadsM fetchM leapM stepM sameI
section
variable {a b n : Int} {K : D → Prop}
theorem bit_and32 (h : K (.int .i32 (and32M a b))) : BitS .and .i32 a b K := by unfold BitS; unfold and32M at h; exact h
theorem bit_or32 (h : K (.int .i32 (or32M a b))) : BitS .or .i32 a b K := by unfold BitS; unfold or32M at h; exact h
theorem bit_xor32 (h : K (.int .i32 (xor32M a b))) : BitS .xor .i32 a b K := by unfold BitS; unfold xor32M at h; exact h
theorem rem_2 (h : K (.int .i32 (n.tmod 2))) : RemS .i32 n 2 K := by unfold RemS; exact ⟨by decide, h⟩
theorem quo_2 (h0 : 0 ≤ n ∧ n ≤ 4294967295) (h : K (.int .u32 (n / 2))) : QuoS .u32 n 2 K := by
  unfold QuoS
  refine ⟨by decide, ?_⟩
  rw [Int.tdiv_eq_ediv_of_nonneg h0.1, wrap_u32 (by omega) (by omega)]
  exact h
end
theorem tmod2 (n : Int) : (!(n.tmod 2 == 0)) = decide (n % 2 = 1) := by
  have h : n.tmod 2 = 0 ↔ n % 2 = 0 := by rw [← Int.dvd_iff_tmod_eq_zero, Int.dvd_iff_emod_eq_zero]
  rw [Bool.eq_iff_iff, Bool.not_eq_true', beq_eq_false_iff_ne, decide_eq_true_iff, Ne, h]
  omega

theorem rplain_meets : Meets Try.prog n_plref6_Plain (SpecP (fun ((m, i, at_) : Mach × Ins × Int) => InM 10000 m ∧ InI i ∧ (1 ≤ i.op ∧ i.op ≤ 27 ∧ leadsM i.op = false) ∧ -2000000000000 ≤ at_ ∧ at_ ≤ 2000000000000)
    (fun (m, i, at_) => [machD m, insD i, .int .i64 at_]) (fun (m, i, at_) => .tup [machD (plainM m i at_).1, .int .i64 (plainM m i at_).2])) := by
  refine meets_f tabOk Try.func28 rfl (by decide) ?_
  rintro ⟨m, i, at_⟩ ⟨hm, hi, ⟨o1, o2, o3⟩, h1, h2⟩
  obtain ⟨n0, n1⟩ := hi.n
  obtain ⟨m0, m1⟩ := hi.m
  obtain ⟨q0, q1⟩ := hi.imm
  have hrm := ixm hi.m hm
  have hrn := ixr hi.n hm
  have hr0 := hm.regs 0 (by decide)
  have htold := hm.told
  have hb := hm.base
  have hl := hm.len
  have hld : ¬ (i.op = 2 ∨ 17 ≤ i.op ∧ i.op ≤ 22) := by unfold leadsM at o3; exact of_decide_eq_false o3
  refine ⟨Nat.le_refl _, by simp [Try.f28], fun E hE => ?_⟩
  refine vcOk _ ?_
  (all_goals refine qgvr ?_ <;> (repeat' first | exact trivial | intro hc | refine And.intro ?_ ?_) <;> refine Lf.mk ?_)
  · have hP : plainM m i at_ = (m, 0) := by unfold plainM sumM; simp only [hc, Int.reduceEq, reduceIte, or_self, or_false, false_or]
    refine end_p (VS.mk ?_)
    dsimp only; rw [hP]
    (first | exact LeL.refl _ | (repeat' (first | exact LeL.nil | exact LeD.refl _ | exact LeD.nil _ | exact LeD.strip _ _ _ | refine LeL.cons ?_ ?_ | refine LeD.tup ?_ | refine LeD.agg ?_)))
  · have hP : plainM m i at_ = (setM m i.n (i.imm), 0) := by unfold plainM sumM; simp only [hc, Int.reduceEq, reduceIte, or_self, or_false, false_or]
    have hv := (show -2147483648 ≤ i.imm ∧ i.imm ≤ 2147483647 by omega)
    refine call_f rset_meets [0, 1] [0, 1] (m, i, i.imm) ⟨n0, n1, hv.1, hv.2⟩ rfl rfl ?_
    refine And.intro (VS.mk (LeL.of_eq rfl)) (And.intro (VS.mk rfl) ?_)
    (all_goals refine qgvr ?_ <;> (repeat' first | exact trivial | intro hc | refine And.intro ?_ ?_) <;> refine Lf.mk ?_)
    refine end_p (VS.mk ?_)
    dsimp only; rw [hP]
    (first | exact LeL.refl _ | (repeat' (first | exact LeL.nil | exact LeD.refl _ | exact LeD.nil _ | exact LeD.strip _ _ _ | refine LeL.cons ?_ ?_ | refine LeD.tup ?_ | refine LeD.agg ?_)))
  · have hP : plainM m i at_ = (setM m i.n (signedI (m.r i.n.toNat + i.imm) 32), 0) := by unfold plainM sumM; simp only [hc, Int.reduceEq, reduceIte, or_self, or_false, false_or]
    have hv := sg_bd (m.r i.n.toNat + i.imm)
    refine call_f rset_meets [0, 1] [0, 1] (m, i, signedI (m.r i.n.toNat + i.imm) 32) ⟨n0, n1, hv.1, hv.2⟩ rfl rfl ?_
    refine And.intro (VS.mk (LeL.of_eq rfl)) (And.intro (VS.mk rfl) ?_)
    (all_goals refine qgvr ?_ <;> (repeat' first | exact trivial | intro hc | refine And.intro ?_ ?_) <;> refine Lf.mk ?_)
    refine end_p (VS.mk ?_)
    dsimp only; rw [hP]
    (first | exact LeL.refl _ | (repeat' (first | exact LeL.nil | exact LeD.refl _ | exact LeD.nil _ | exact LeD.strip _ _ _ | refine LeL.cons ?_ ?_ | refine LeD.tup ?_ | refine LeD.agg ?_)))
  · have hP : plainM m i at_ = (setM m i.n (m.r i.m.toNat), 0) := by unfold plainM sumM; simp only [hc, Int.reduceEq, reduceIte, or_self, or_false, false_or]
    have hv := hrm
    refine call_f rset_meets [0, 1] [0, 1] (m, i, m.r i.m.toNat) ⟨n0, n1, hv.1, hv.2⟩ rfl rfl ?_
    refine And.intro (VS.mk (LeL.of_eq rfl)) (And.intro (VS.mk rfl) ?_)
    (all_goals refine qgvr ?_ <;> (repeat' first | exact trivial | intro hc | refine And.intro ?_ ?_) <;> refine Lf.mk ?_)
    refine end_p (VS.mk ?_)
    dsimp only; rw [hP]
    (first | exact LeL.refl _ | (repeat' (first | exact LeL.nil | exact LeD.refl _ | exact LeD.nil _ | exact LeD.strip _ _ _ | refine LeL.cons ?_ ?_ | refine LeD.tup ?_ | refine LeD.agg ?_)))
  · have hP : plainM m i at_ = (setM m i.n (signedI (m.r i.n.toNat + m.r i.m.toNat) 32), 0) := by unfold plainM sumM; simp only [hc, Int.reduceEq, reduceIte, or_self, or_false, false_or]
    have hv := sg_bd (m.r i.n.toNat + m.r i.m.toNat)
    refine call_f rset_meets [0, 1] [0, 1] (m, i, signedI (m.r i.n.toNat + m.r i.m.toNat) 32) ⟨n0, n1, hv.1, hv.2⟩ rfl rfl ?_
    refine And.intro (VS.mk (LeL.of_eq rfl)) (And.intro (VS.mk rfl) ?_)
    (all_goals refine qgvr ?_ <;> (repeat' first | exact trivial | intro hc | refine And.intro ?_ ?_) <;> refine Lf.mk ?_)
    refine end_p (VS.mk ?_)
    dsimp only; rw [hP]
    (first | exact LeL.refl _ | (repeat' (first | exact LeL.nil | exact LeD.refl _ | exact LeD.nil _ | exact LeD.strip _ _ _ | refine LeL.cons ?_ ?_ | refine LeD.tup ?_ | refine LeD.agg ?_)))
  · have hP : plainM m i at_ = (setM m i.n (signedI (m.r i.n.toNat - m.r i.m.toNat) 32), 0) := by unfold plainM sumM; simp only [hc, Int.reduceEq, reduceIte, or_self, or_false, false_or]
    have hv := sg_bd (m.r i.n.toNat - m.r i.m.toNat)
    refine call_f rset_meets [0, 1] [0, 1] (m, i, signedI (m.r i.n.toNat - m.r i.m.toNat) 32) ⟨n0, n1, hv.1, hv.2⟩ rfl rfl ?_
    refine And.intro (VS.mk (LeL.of_eq rfl)) (And.intro (VS.mk rfl) ?_)
    (all_goals refine qgvr ?_ <;> (repeat' first | exact trivial | intro hc | refine And.intro ?_ ?_) <;> refine Lf.mk ?_)
    refine end_p (VS.mk ?_)
    dsimp only; rw [hP]
    (first | exact LeL.refl _ | (repeat' (first | exact LeL.nil | exact LeD.refl _ | exact LeD.nil _ | exact LeD.strip _ _ _ | refine LeL.cons ?_ ?_ | refine LeD.tup ?_ | refine LeD.agg ?_)))
  · have hP : plainM m i at_ = (setM m i.n (and32M (m.r i.n.toNat) (m.r i.m.toNat)), 0) := by unfold plainM sumM; simp only [hc, Int.reduceEq, reduceIte, or_self, or_false, false_or]
    have hv := and_bd (m.r i.n.toNat) (m.r i.m.toNat)
    refine call_f rset_meets [0, 1] [0, 1] (m, i, and32M (m.r i.n.toNat) (m.r i.m.toNat)) ⟨n0, n1, hv.1, hv.2⟩ rfl rfl ?_
    refine And.intro (VS.mk (LeL.of_eq rfl)) (And.intro (VS.mk rfl) ?_)
    (all_goals refine qgvr ?_ <;> (repeat' first | exact trivial | intro hc | refine And.intro ?_ ?_) <;> refine Lf.mk ?_)
    refine end_p (VS.mk ?_)
    dsimp only; rw [hP]
    (first | exact LeL.refl _ | (repeat' (first | exact LeL.nil | exact LeD.refl _ | exact LeD.nil _ | exact LeD.strip _ _ _ | refine LeL.cons ?_ ?_ | refine LeD.tup ?_ | refine LeD.agg ?_)))
  · have hP : plainM m i at_ = (setM m i.n (or32M (m.r i.n.toNat) (m.r i.m.toNat)), 0) := by unfold plainM sumM; simp only [hc, Int.reduceEq, reduceIte, or_self, or_false, false_or]
    have hv := or_bd (m.r i.n.toNat) (m.r i.m.toNat)
    refine call_f rset_meets [0, 1] [0, 1] (m, i, or32M (m.r i.n.toNat) (m.r i.m.toNat)) ⟨n0, n1, hv.1, hv.2⟩ rfl rfl ?_
    refine And.intro (VS.mk (LeL.of_eq rfl)) (And.intro (VS.mk rfl) ?_)
    (all_goals refine qgvr ?_ <;> (repeat' first | exact trivial | intro hc | refine And.intro ?_ ?_) <;> refine Lf.mk ?_)
    refine end_p (VS.mk ?_)
    dsimp only; rw [hP]
    (first | exact LeL.refl _ | (repeat' (first | exact LeL.nil | exact LeD.refl _ | exact LeD.nil _ | exact LeD.strip _ _ _ | refine LeL.cons ?_ ?_ | refine LeD.tup ?_ | refine LeD.agg ?_)))
  · have hP : plainM m i at_ = (setM m i.n (xor32M (m.r i.n.toNat) (m.r i.m.toNat)), 0) := by unfold plainM sumM; simp only [hc, Int.reduceEq, reduceIte, or_self, or_false, false_or]
    have hv := xor_bd (m.r i.n.toNat) (m.r i.m.toNat)
    refine call_f rset_meets [0, 1] [0, 1] (m, i, xor32M (m.r i.n.toNat) (m.r i.m.toNat)) ⟨n0, n1, hv.1, hv.2⟩ rfl rfl ?_
    refine And.intro (VS.mk (LeL.of_eq rfl)) (And.intro (VS.mk rfl) ?_)
    (all_goals refine qgvr ?_ <;> (repeat' first | exact trivial | intro hc | refine And.intro ?_ ?_) <;> refine Lf.mk ?_)
    refine end_p (VS.mk ?_)
    dsimp only; rw [hP]
    (first | exact LeL.refl _ | (repeat' (first | exact LeL.nil | exact LeD.refl _ | exact LeD.nil _ | exact LeD.strip _ _ _ | refine LeL.cons ?_ ?_ | refine LeD.tup ?_ | refine LeD.agg ?_)))
  · have hP : plainM m i at_ = (setT m (decide (and32M (m.r i.n.toNat) (m.r i.m.toNat) = 0)), 0) := by unfold plainM sumM; simp only [hc, Int.reduceEq, reduceIte, or_self, or_false, false_or]
    refine end_p (VS.mk ?_)
    dsimp only; rw [hP]
    (first | exact LeL.refl _ | (repeat' (first | exact LeL.nil | exact LeD.refl _ | exact LeD.nil _ | exact LeD.strip _ _ _ | refine LeL.cons ?_ ?_ | refine LeD.tup ?_ | refine LeD.agg ?_)))
  · have hP : plainM m i at_ = (setT m (decide (m.r i.n.toNat = m.r i.m.toNat)), 0) := by unfold plainM sumM; simp only [hc, Int.reduceEq, reduceIte, or_self, or_false, false_or]
    refine end_p (VS.mk ?_)
    dsimp only; rw [hP]
    (first | exact LeL.refl _ | (repeat' (first | exact LeL.nil | exact LeD.refl _ | exact LeD.nil _ | exact LeD.strip _ _ _ | refine LeL.cons ?_ ?_ | refine LeD.tup ?_ | refine LeD.agg ?_)))
  · have hP : plainM m i at_ = (setT m (decide (m.r i.n.toNat > m.r i.m.toNat)), 0) := by unfold plainM sumM; simp only [hc, Int.reduceEq, reduceIte, or_self, or_false, false_or]
    refine end_p (VS.mk ?_)
    dsimp only; rw [hP]
    (first | exact LeL.refl _ | (repeat' (first | exact LeL.nil | exact LeD.refl _ | exact LeD.nil _ | exact LeD.strip _ _ _ | refine LeL.cons ?_ ?_ | refine LeD.tup ?_ | refine LeD.agg ?_)))
  · have hP : plainM m i at_ = (setT (setM m i.n (signedI (m.r i.n.toNat * 2) 32)) (decide (m.r i.n.toNat < 0)), 0) := by unfold plainM sumM; simp only [hc, Int.reduceEq, reduceIte, or_self, or_false, false_or]
    have hv := sg_bd (m.r i.n.toNat * 2)
    rw [Int.mul_comm 2]
    refine call_f rset_meets [0, 1] [0, 1] (setT m (decide (m.r i.n.toNat < 0)), i, signedI (m.r i.n.toNat * 2) 32) ⟨n0, n1, hv.1, hv.2⟩ rfl rfl ?_
    refine And.intro (VS.mk (LeL.of_eq rfl)) (And.intro (VS.mk rfl) ?_)
    (all_goals refine qgvr ?_ <;> (repeat' first | exact trivial | intro hc | refine And.intro ?_ ?_) <;> refine Lf.mk ?_)
    refine end_p (VS.mk ?_)
    dsimp only; rw [hP]
    (first | exact LeL.refl _ | (repeat' (first | exact LeL.nil | exact LeD.refl _ | exact LeD.nil _ | exact LeD.strip _ _ _ | refine LeL.cons ?_ ?_ | refine LeD.tup ?_ | refine LeD.agg ?_)))
  · have hP : plainM m i at_ = (setT (setM m i.n (m.r i.n.toNat % 4294967296 / 2)) (decide (m.r i.n.toNat % 2 = 1)), 0) := by unfold plainM sumM; simp only [hc, Int.reduceEq, reduceIte, or_self, or_false, false_or]
    rw [show ((m.r i.n.toNat).tmod 2 != 0) = decide (m.r i.n.toNat % 2 = 1) from tmod2 _]
    refine call_f rset_meets [0, 1] [0, 1] (setT m (decide (m.r i.n.toNat % 2 = 1)), i, m.r i.n.toNat % 4294967296 / 2) ⟨n0, n1, by omega, by omega⟩ rfl rfl ?_
    refine And.intro (VS.mk (LeL.of_eq rfl)) (And.intro (VS.mk rfl) ?_)
    (all_goals refine qgvr ?_ <;> (repeat' first | exact trivial | intro hc | refine And.intro ?_ ?_) <;> refine Lf.mk ?_)
    refine end_p (VS.mk ?_)
    dsimp only; rw [hP]
    (first | exact LeL.refl _ | (repeat' (first | exact LeL.nil | exact LeD.refl _ | exact LeD.nil _ | exact LeD.strip _ _ _ | refine LeL.cons ?_ ?_ | refine LeD.tup ?_ | refine LeD.agg ?_)))
  · have hP : plainM m i at_ = (setT (setM m i.n (signedI (m.r i.n.toNat - 1) 32)) (decide (signedI (m.r i.n.toNat - 1) 32 = 0)), 0) := by unfold plainM sumM; simp only [hc, Int.reduceEq, reduceIte, or_self, or_false, false_or]
    have hv := sg_bd (m.r i.n.toNat - 1)
    refine call_f rset_meets [0, 1] [0, 1] (m, i, signedI (m.r i.n.toNat - 1) 32) ⟨n0, n1, hv.1, hv.2⟩ rfl rfl ?_
    refine And.intro (VS.mk (LeL.of_eq rfl)) (And.intro (VS.mk rfl) ?_)
    (all_goals refine qgvr ?_ <;> (repeat' first | exact trivial | intro hc | refine And.intro ?_ ?_) <;> refine Lf.mk ?_)
    refine end_p (VS.mk ?_)
    dsimp only; rw [hP]
    (first | exact LeL.refl _ | (repeat' (first | exact LeL.nil | exact LeD.refl _ | exact LeD.nil _ | exact LeD.strip _ _ _ | refine LeL.cons ?_ ?_ | refine LeD.tup ?_ | refine LeD.agg ?_)))
  · have hP : plainM m i at_ = ({ m with told := m.told ++ [m.r 0] }, 0) := by unfold plainM sumM; simp only [hc, Int.reduceEq, reduceIte, or_self, or_false, false_or]
    refine end_p (VS.mk ?_)
    dsimp only; rw [hP]
    (first | exact LeL.refl _ | (repeat' (first | exact LeL.nil | exact LeD.refl _ | exact LeD.nil _ | exact LeD.strip _ _ _ | refine LeL.cons ?_ ?_ | refine LeD.tup ?_ | refine LeD.agg ?_)))
  · have hP : plainM m i at_ = putM m i := by unfold plainM sumM; simp only [hc, Int.reduceEq, reduceIte, or_self, or_false, false_or]
    refine call_p has2_meets (m, m.r i.n.toNat, 4) ⟨hm, by omega, by omega, .inr rfl⟩ (VS.mk (LeL.of_eq rfl)) ?_
    (all_goals refine qgvr ?_ <;> (repeat' first | exact trivial | intro hc | refine And.intro ?_ ?_) <;> refine Lf.mk ?_)
    · have hQ : putM m i = (m, 3) := by unfold putM; rw [if_neg (by rw [show inM m (m.r i.n.toNat) 4 = false by assumption]; decide)]
      refine end_p (VS.mk ?_)
      dsimp only; rw [hP, hQ]
      (first | exact LeL.refl _ | (repeat' (first | exact LeL.nil | exact LeD.refl _ | exact LeD.nil _ | exact LeD.strip _ _ _ | refine LeL.cons ?_ ?_ | refine LeD.tup ?_ | refine LeD.agg ?_)))
    · have hin := inM_eq.1 (by assumption : inM m (m.r i.n.toNat) 4 = true)
      have hQ : putM m i = ({ m with img := { m.img with bytes := putN m.img.bytes (m.r i.n.toNat - m.img.base) 4 (m.r i.m.toNat) } }, 0) := by unfold putM; rw [if_pos (by assumption)]
      refine call_f put2_meets [] [3] (m.img.bytes, m.r i.n.toNat - m.img.base, 4, m.r i.m.toNat) ⟨by omega, by omega, by decide, by omega⟩ rfl rfl ?_
      refine And.intro (VS.mk (by (first | exact LeL.refl _ | (repeat' (first | exact LeL.nil | exact LeD.refl _ | exact LeD.nil _ | exact LeD.strip _ _ _ | refine LeL.cons ?_ ?_ | refine LeD.tup ?_ | refine LeD.agg ?_))))) (And.intro (VS.mk rfl) ?_)
      (all_goals refine qgvr ?_ <;> (repeat' first | exact trivial | intro hc | refine And.intro ?_ ?_) <;> refine Lf.mk ?_)
      refine end_p (VS.mk ?_)
      dsimp only; rw [hP, hQ]
      (first | exact LeL.refl _ | (repeat' (first | exact LeL.nil | exact LeD.refl _ | exact LeD.nil _ | exact LeD.strip _ _ _ | refine LeL.cons ?_ ?_ | refine LeD.tup ?_ | refine LeD.agg ?_)))
  · have hP : plainM m i at_ = loadM m i at_ := by unfold plainM; dsimp only; rw [if_neg (by omega), if_neg (by omega), if_neg (by omega), if_neg (by omega), if_neg (by omega), if_pos (by omega)]
    have hF : (if i.op = 26 then m.r i.m.toNat else toM i at_) = toM i at_ := if_neg (by assumption)
    have hto := toM_bd (a := at_) q0 q1
    refine call_p rto_meets (i, at_) ⟨q0, q1, by omega, by omega⟩ (VS.mk (LeL.of_eq rfl)) ?_
    (all_goals refine qgvr ?_ <;> (repeat' first | exact trivial | intro hc | refine And.intro ?_ ?_) <;> refine Lf.mk ?_)
    · have hS : (if i.op = 23 then (2 : Int) else 4) = 2 := if_pos (by assumption)
      refine call_p has2_meets (m, toM i at_, 2) ⟨hm, by omega, by omega, by omega⟩ (VS.mk (LeL.of_eq rfl)) ?_
      (all_goals refine qgvr ?_ <;> (repeat' first | exact trivial | intro hc | refine And.intro ?_ ?_) <;> refine Lf.mk ?_)
      · have hL : loadM m i at_ = (m, 3) := by unfold loadM; rw [hF, hS, if_neg (by rw [show inM m (toM i at_) 2 = false by assumption]; decide)]
        refine end_p (VS.mk ?_)
        dsimp only; rw [hP, hL]
        (first | exact LeL.refl _ | (repeat' (first | exact LeL.nil | exact LeD.refl _ | exact LeD.nil _ | exact LeD.strip _ _ _ | refine LeL.cons ?_ ?_ | refine LeD.tup ?_ | refine LeD.agg ?_)))
      have hin := inM_eq.1 (by assumption : inM m (toM i at_) 2 = true)
      have hL : loadM m i at_ = (setM m i.n (signedI (signedI (getN m.img.bytes (toM i at_ - m.img.base) 2) 16) 32), 0) := by unfold loadM; rw [hF, hS, if_pos (by assumption)]; rw [if_pos (by omega)]
      refine call_p get2_meets (m.img.bytes, toM i at_ - m.img.base, 2) ⟨by omega, by omega, by decide⟩ (VS.mk (by (first | exact LeL.refl _ | (repeat' (first | exact LeL.nil | exact LeD.refl _ | exact LeD.nil _ | exact LeD.strip _ _ _ | refine LeL.cons ?_ ?_ | refine LeD.tup ?_ | refine LeD.agg ?_))))) ?_
      have hg := sg16_bd (getN m.img.bytes (toM i at_ - m.img.base) 2)
      (all_goals refine qgvr ?_ <;> (repeat' first | exact trivial | intro hc | refine And.intro ?_ ?_) <;> refine Lf.mk ?_)
      (any_goals (first | (exfalso; refine hc ?_; simp; done) | (exfalso; exact Bool.noConfusion hc) | (exfalso; exact hc (by with_reducible rfl)) | (exfalso; exact hc rfl) | skip))
      rw [sg16_mod]
      refine call_f rset_meets [0, 1] [0, 1] (m, i, signedI (signedI (getN m.img.bytes (toM i at_ - m.img.base) 2) 16) 32) ⟨n0, n1, (sg_bd _).1, (sg_bd _).2⟩ rfl rfl ?_
      refine And.intro (VS.mk (LeL.of_eq rfl)) (And.intro (VS.mk rfl) ?_)
      (all_goals refine qgvr ?_ <;> (repeat' first | exact trivial | intro hc | refine And.intro ?_ ?_) <;> refine Lf.mk ?_)
      refine end_p (VS.mk ?_)
      dsimp only; rw [hP, hL]
      (first | exact LeL.refl _ | (repeat' (first | exact LeL.nil | exact LeD.refl _ | exact LeD.nil _ | exact LeD.strip _ _ _ | refine LeL.cons ?_ ?_ | refine LeD.tup ?_ | refine LeD.agg ?_)))
    · have hS : (if i.op = 23 then (2 : Int) else 4) = 4 := if_neg (by assumption)
      refine call_p has2_meets (m, toM i at_, 4) ⟨hm, by omega, by omega, by omega⟩ (VS.mk (LeL.of_eq rfl)) ?_
      (all_goals refine qgvr ?_ <;> (repeat' first | exact trivial | intro hc | refine And.intro ?_ ?_) <;> refine Lf.mk ?_)
      · have hL : loadM m i at_ = (m, 3) := by unfold loadM; rw [hF, hS, if_neg (by rw [show inM m (toM i at_) 4 = false by assumption]; decide)]
        refine end_p (VS.mk ?_)
        dsimp only; rw [hP, hL]
        (first | exact LeL.refl _ | (repeat' (first | exact LeL.nil | exact LeD.refl _ | exact LeD.nil _ | exact LeD.strip _ _ _ | refine LeL.cons ?_ ?_ | refine LeD.tup ?_ | refine LeD.agg ?_)))
      have hin := inM_eq.1 (by assumption : inM m (toM i at_) 4 = true)
      have hL : loadM m i at_ = (setM m i.n (signedI (getN m.img.bytes (toM i at_ - m.img.base) 4) 32), 0) := by unfold loadM; rw [hF, hS, if_pos (by assumption)]; rw [if_neg (by omega)]
      refine call_p get2_meets (m.img.bytes, toM i at_ - m.img.base, 4) ⟨by omega, by omega, by decide⟩ (VS.mk (by (first | exact LeL.refl _ | (repeat' (first | exact LeL.nil | exact LeD.refl _ | exact LeD.nil _ | exact LeD.strip _ _ _ | refine LeL.cons ?_ ?_ | refine LeD.tup ?_ | refine LeD.agg ?_))))) ?_
      have hg := sg_bd (getN m.img.bytes (toM i at_ - m.img.base) 4)
      (all_goals refine qgvr ?_ <;> (repeat' first | exact trivial | intro hc | refine And.intro ?_ ?_) <;> refine Lf.mk ?_)
      (any_goals (first | (exfalso; refine hc ?_; simp; done) | (exfalso; exact Bool.noConfusion hc) | (exfalso; exact hc (by with_reducible rfl)) | (exfalso; exact hc rfl) | skip))
      rw [sg_cong (Int.emod_emod (getN m.img.bytes (toM i at_ - m.img.base) 4) 4294967296)]
      refine call_f rset_meets [0, 1] [0, 1] (m, i, signedI (getN m.img.bytes (toM i at_ - m.img.base) 4) 32) ⟨n0, n1, (sg_bd _).1, (sg_bd _).2⟩ rfl rfl ?_
      refine And.intro (VS.mk (LeL.of_eq rfl)) (And.intro (VS.mk rfl) ?_)
      (all_goals refine qgvr ?_ <;> (repeat' first | exact trivial | intro hc | refine And.intro ?_ ?_) <;> refine Lf.mk ?_)
      refine end_p (VS.mk ?_)
      dsimp only; rw [hP, hL]
      (first | exact LeL.refl _ | (repeat' (first | exact LeL.nil | exact LeD.refl _ | exact LeD.nil _ | exact LeD.strip _ _ _ | refine LeL.cons ?_ ?_ | refine LeD.tup ?_ | refine LeD.agg ?_)))
  · have hP : plainM m i at_ = loadM m i at_ := by unfold plainM; dsimp only; rw [if_neg (by omega), if_neg (by omega), if_neg (by omega), if_neg (by omega), if_neg (by omega), if_pos (by omega)]
    have hF : (if i.op = 26 then m.r i.m.toNat else toM i at_) = m.r i.m.toNat := if_pos (by assumption)
    have hS : (if i.op = 23 then (2 : Int) else 4) = 4 := if_neg (by assumption)
    refine call_p has2_meets (m, m.r i.m.toNat, 4) ⟨hm, by omega, by omega, by omega⟩ (VS.mk (LeL.of_eq rfl)) ?_
    (all_goals refine qgvr ?_ <;> (repeat' first | exact trivial | intro hc | refine And.intro ?_ ?_) <;> refine Lf.mk ?_)
    · have hL : loadM m i at_ = (m, 3) := by unfold loadM; rw [hF, hS, if_neg (by rw [show inM m (m.r i.m.toNat) 4 = false by assumption]; decide)]
      refine end_p (VS.mk ?_)
      dsimp only; rw [hP, hL]
      (first | exact LeL.refl _ | (repeat' (first | exact LeL.nil | exact LeD.refl _ | exact LeD.nil _ | exact LeD.strip _ _ _ | refine LeL.cons ?_ ?_ | refine LeD.tup ?_ | refine LeD.agg ?_)))
    have hin := inM_eq.1 (by assumption : inM m (m.r i.m.toNat) 4 = true)
    have hL : loadM m i at_ = (setM m i.n (signedI (getN m.img.bytes (m.r i.m.toNat - m.img.base) 4) 32), 0) := by unfold loadM; rw [hF, hS, if_pos (by assumption)]; rw [if_neg (by omega)]
    refine call_p get2_meets (m.img.bytes, m.r i.m.toNat - m.img.base, 4) ⟨by omega, by omega, by decide⟩ (VS.mk (by (first | exact LeL.refl _ | (repeat' (first | exact LeL.nil | exact LeD.refl _ | exact LeD.nil _ | exact LeD.strip _ _ _ | refine LeL.cons ?_ ?_ | refine LeD.tup ?_ | refine LeD.agg ?_))))) ?_
    have hg := sg_bd (getN m.img.bytes (m.r i.m.toNat - m.img.base) 4)
    (all_goals refine qgvr ?_ <;> (repeat' first | exact trivial | intro hc | refine And.intro ?_ ?_) <;> refine Lf.mk ?_)
    (any_goals (first | (exfalso; refine hc ?_; simp; done) | (exfalso; exact Bool.noConfusion hc) | (exfalso; exact hc (by with_reducible rfl)) | (exfalso; exact hc rfl) | skip))
    rw [sg_cong (Int.emod_emod (getN m.img.bytes (m.r i.m.toNat - m.img.base) 4) 4294967296)]
    refine call_f rset_meets [0, 1] [0, 1] (m, i, signedI (getN m.img.bytes (m.r i.m.toNat - m.img.base) 4) 32) ⟨n0, n1, (sg_bd _).1, (sg_bd _).2⟩ rfl rfl ?_
    refine And.intro (VS.mk (LeL.of_eq rfl)) (And.intro (VS.mk rfl) ?_)
    (all_goals refine qgvr ?_ <;> (repeat' first | exact trivial | intro hc | refine And.intro ?_ ?_) <;> refine Lf.mk ?_)
    refine end_p (VS.mk ?_)
    dsimp only; rw [hP, hL]
    (first | exact LeL.refl _ | (repeat' (first | exact LeL.nil | exact LeD.refl _ | exact LeD.nil _ | exact LeD.strip _ _ _ | refine LeL.cons ?_ ?_ | refine LeD.tup ?_ | refine LeD.agg ?_)))
end Go.Proofs.Ytdapgcdenpgnaaa

/-
  The document's machine: step, run.
-/
namespace Go.Proofs.Ytdapgcdenpgnaaa
open Go Go.Plat
set_option linter.unusedVariables false
set_option linter.unusedSimpArgs false
set_option maxRecDepth 100000
set_option maxHeartbeats 2000000
attribute [local irreducible] NilS LookS NormM bitI BytesS NormL Arith QuoS RemS ShlS ShrS BitS CatS SplitS SideS IdxS CallS LoopEnd EndS ModeS DrawS AWP Meets
attribute [local irreducible] irows infoR signedI putN rrows rinfo shapeM inM up getN toM ldM and32M or32M xor32M leadsM leapM sameI

theorem decR_op {w : Nat} {r : IRow} (h : decR w = some r) : 1 ≤ r.op ∧ r.op ≤ 27 := by
  unfold decR at h
  have hm := List.mem_of_find?_eq_some h
  have : ∀ r ∈ irows, 1 ≤ r.op ∧ r.op ≤ 27 := by unfold irows; decide
  exact this r hm
theorem fetchM_op {m : Mach} {a : Int} (h : (fetchM m a).2 = 0) : 1 ≤ (fetchM m a).1.op ∧ (fetchM m a).1.op ≤ 27 := by
  have h2 := (fetchM_ok h).2
  rw [h2] at h ⊢
  generalize getN m.img.bytes (a - m.img.base) 2 = w at h ⊢
  unfold decI at h ⊢
  split
  · rw [if_pos (by assumption)] at h; exact absurd h (by decide)
  · rw [if_neg (by assumption)] at h
    split
    · rename_i hr; exact decR_op hr
    · rename_i hr; rw [hr] at h; exact absurd (show (12 : Int) = 0 from h) (by decide)
attribute [local irreducible] decI fetchM plainM stepM

theorem rstep_meets : Meets Try.prog n_plref6_Step (SpecP (fun m : Mach => InM 9990 m) (fun m => [machD m]) stepR) := by
  refine meets_f tabOk Try.func8 rfl (by decide) ?_
  rintro m hm
  have hm' := hm.mono (show 9990 ≤ 10000 by decide)
  have hpc := hm.pc
  have hpr := hm.pr
  have htold := hm.told
  have hst := hm.steps
  have hm1 : InM 9991 { m with steps := m.steps + 1 } := ⟨hm.regs, by show _ ≤ m.pc ∧ m.pc ≤ _; omega, by show _ ≤ m.pr ∧ m.pr ≤ _; omega, hm.base, hm.len, hm.syms, by show m.told.length ≤ _; omega, by show _ ≤ m.steps + 1 ∧ m.steps + 1 ≤ _; omega⟩
  refine ⟨Nat.le_refl _, by simp [Try.f8], fun E hE => ?_⟩
  refine vcOk _ ?_
  (all_goals refine qgv ?_ <;> (repeat' first | exact trivial | intro hc | refine And.intro ?_ ?_) <;> refine Lf.mk ?_)
  have hI := fetchM_in m m.pc
  have hO := fetchM_op (m := m) (a := m.pc)
  obtain ⟨i, e, hie⟩ : ∃ i e, fetchM m m.pc = (i, e) := ⟨_, _, rfl⟩
  refine call_p rfetch_meets (m, m.pc) ⟨hm', by omega, by omega⟩ (VS.mk (LeL.of_eq rfl)) ?_
  dsimp only
  rw [hie] at hI hO ⊢
  dsimp only at hI hO ⊢
  have hrn := ixr hI.n hm
  have hto := toM_bd (a := m.pc) hI.imm.1 hI.imm.2
  obtain ⟨q0, q1⟩ := hI.imm
  obtain ⟨n0, n1⟩ := hI.n
  (all_goals refine qgv ?_ <;> (repeat' first | exact trivial | intro hc | refine And.intro ?_ ?_) <;> refine Lf.mk ?_)
  · have hS : stepM m = (mach0, false, e) := by unfold stepM; rw [hie]; dsimp only; (repeat (first | (rw [if_pos (by assumption)]) | (rw [if_neg (by assumption)])))
    refine call_p rno_meets e trivial (VS.mk (LeL.of_eq rfl)) ?_
    (all_goals refine qgv ?_ <;> (repeat' first | exact trivial | intro hc | refine And.intro ?_ ?_) <;> refine Lf.mk ?_)
    refine end_p (VS.mk ?_)
    unfold stepR; rw [hS]
    (first | exact LeL.refl _ | (repeat' (first | exact LeL.nil | exact LeD.refl _ | exact LeD.nil _ | exact LeD.strip _ _ _ | refine LeL.cons ?_ ?_ | refine LeD.tup ?_ | refine LeD.agg ?_)))
    all_goals first | exact LeD.ff rfl | skip
  · have hS : stepM m = ({ m with steps := m.steps + 1 }, true, 0) := by unfold stepM; rw [hie]; dsimp only; rw [if_neg (by omega), if_pos (by omega)]
    refine end_p (VS.mk ?_)
    unfold stepR; rw [hS]
    (first | exact LeL.refl _ | (repeat' (first | exact LeL.nil | exact LeD.refl _ | exact LeD.nil _ | exact LeD.strip _ _ _ | refine LeL.cons ?_ ?_ | refine LeD.tup ?_ | refine LeD.agg ?_)))
    all_goals first | exact LeD.ff rfl | exact LeD.tt rfl | skip
  · skip
    refine call_p rleads_meets i.op trivial (VS.mk (LeL.of_eq rfl)) ?_
    (all_goals refine qgv ?_ <;> (repeat' first | exact trivial | intro hc | refine And.intro ?_ ?_) <;> refine Lf.mk ?_)
    · have hO := hO (by assumption)
      have hP := plainM_in (k := 9991) (a := m.pc) hm1 hI
      have hpp := plainM_pc { m with steps := m.steps + 1 } i m.pc
      obtain ⟨x, f, hx⟩ : ∃ x f, plainM { m with steps := m.steps + 1 } i m.pc = (x, f) := ⟨_, _, rfl⟩
      rw [hx] at hP hpp
      have hS : stepM m = if f ≠ 0 then (mach0, false, f) else ({ x with pc := x.pc + 2 }, false, 0) := by unfold stepM; rw [hie]; dsimp only; rw [if_neg (by omega), if_neg (by omega), if_pos hc, hx]
      refine call_p rplain_meets ({ m with steps := m.steps + 1 }, i, m.pc) ⟨hm1.mono (by decide), hI, ⟨hO.1, hO.2, hc⟩, by omega, by omega⟩ (VS.mk (LeL.of_eq rfl)) ?_
      dsimp only
      rw [hx]
      dsimp only at hP hpp ⊢
      have hxp := hP.pc
      (all_goals refine qgv ?_ <;> (repeat' first | exact trivial | intro hc | refine And.intro ?_ ?_) <;> refine Lf.mk ?_)
      · rw [if_pos hc] at hS
        refine call_p rno_meets f trivial (VS.mk (LeL.of_eq rfl)) ?_
        (all_goals refine qgv ?_ <;> (repeat' first | exact trivial | intro hc | refine And.intro ?_ ?_) <;> refine Lf.mk ?_)
        refine end_p (VS.mk ?_)
        unfold stepR; rw [hS]
        (first | exact LeL.refl _ | (repeat' (first | exact LeL.nil | exact LeD.refl _ | exact LeD.nil _ | exact LeD.strip _ _ _ | refine LeL.cons ?_ ?_ | refine LeD.tup ?_ | refine LeD.agg ?_)))
        all_goals first | exact LeD.ff rfl | skip
      · rw [if_neg (by omega), hpp] at hS
        refine end_p (VS.mk ?_)
        unfold stepR; rw [hS]
        (first | exact LeL.refl _ | (repeat' (first | exact LeL.nil | exact LeD.refl _ | exact LeD.nil _ | exact LeD.strip _ _ _ | refine LeL.cons ?_ ?_ | refine LeD.tup ?_ | refine LeD.agg ?_)))
        all_goals first | exact LeD.ff rfl | exact LeD.tt rfl | skip
    · exfalso; unfold leadsM at hc; have := of_decide_eq_true hc; omega
  refine call_p rleads_meets i.op trivial (VS.mk (LeL.of_eq rfl)) ?_
  (all_goals refine qgv ?_ <;> (repeat' first | exact trivial | intro hc | refine And.intro ?_ ?_) <;> refine Lf.mk ?_)
  · have hO := hO (by assumption)
    have hP := plainM_in (k := 9991) (a := m.pc) hm1 hI
    have hpp := plainM_pc { m with steps := m.steps + 1 } i m.pc
    obtain ⟨x, f, hx⟩ : ∃ x f, plainM { m with steps := m.steps + 1 } i m.pc = (x, f) := ⟨_, _, rfl⟩
    rw [hx] at hP hpp
    have hS : stepM m = if f ≠ 0 then (mach0, false, f) else ({ x with pc := x.pc + 2 }, false, 0) := by unfold stepM; rw [hie]; dsimp only; rw [if_neg (by omega), if_neg (by omega), if_pos hc, hx]
    refine call_p rplain_meets ({ m with steps := m.steps + 1 }, i, m.pc) ⟨hm1.mono (by decide), hI, ⟨hO.1, hO.2, hc⟩, by omega, by omega⟩ (VS.mk (LeL.of_eq rfl)) ?_
    dsimp only
    rw [hx]
    dsimp only at hP hpp ⊢
    have hxp := hP.pc
    (all_goals refine qgv ?_ <;> (repeat' first | exact trivial | intro hc | refine And.intro ?_ ?_) <;> refine Lf.mk ?_)
    · rw [if_pos hc] at hS
      refine call_p rno_meets f trivial (VS.mk (LeL.of_eq rfl)) ?_
      (all_goals refine qgv ?_ <;> (repeat' first | exact trivial | intro hc | refine And.intro ?_ ?_) <;> refine Lf.mk ?_)
      refine end_p (VS.mk ?_)
      unfold stepR; rw [hS]
      (first | exact LeL.refl _ | (repeat' (first | exact LeL.nil | exact LeD.refl _ | exact LeD.nil _ | exact LeD.strip _ _ _ | refine LeL.cons ?_ ?_ | refine LeD.tup ?_ | refine LeD.agg ?_)))
      all_goals first | exact LeD.ff rfl | skip
    · rw [if_neg (by omega), hpp] at hS
      refine end_p (VS.mk ?_)
      unfold stepR; rw [hS]
      (first | exact LeL.refl _ | (repeat' (first | exact LeL.nil | exact LeD.refl _ | exact LeD.nil _ | exact LeD.strip _ _ _ | refine LeL.cons ?_ ?_ | refine LeD.tup ?_ | refine LeD.agg ?_)))
      all_goals first | exact LeD.ff rfl | exact LeD.tt rfl | skip
  have hL : i.op = 2 ∨ 17 ≤ i.op ∧ i.op ≤ 22 := by unfold leadsM at hc; exact of_decide_eq_true hc
  refine call_p rto_meets (i, m.pc) ⟨q0, q1, by omega, by omega⟩ (VS.mk (LeL.of_eq rfl)) ?_
  (all_goals refine qgv ?_ <;> (repeat' first | exact trivial | intro hc | refine And.intro ?_ ?_) <;> refine Lf.mk ?_)
  · have hM : leapM { m with steps := m.steps + 1 } i = ({ m with steps := m.steps + 1 }, toM i m.pc, false) := by
      have hb : m.t = true := by rw [(by assumption : i.op = 17)] at hc; revert hc; cases m.t <;> decide
      unfold leapM; dsimp only; rw [hb]; (repeat (first | (rw [if_pos (by assumption)]) | (rw [if_neg (by assumption)]))); rfl
    have hS : stepM m = ({ m with steps := m.steps + 1, pc := toM i m.pc }, false, 0) := by unfold stepM; rw [hie]; dsimp only; rw [if_neg (by omega), if_neg (by omega), if_neg (by rw [(by assumption : leadsM i.op = true)]; decide), hM]; rfl
    refine end_p (VS.mk ?_)
    unfold stepR; rw [hS]
    (first | exact LeL.refl _ | (repeat' (first | exact LeL.nil | exact LeD.refl _ | exact LeD.nil _ | exact LeD.strip _ _ _ | refine LeL.cons ?_ ?_ | refine LeD.tup ?_ | refine LeD.agg ?_)))
    all_goals first | exact LeD.ff rfl | exact LeD.tt rfl | skip
  · have hM : leapM { m with steps := m.steps + 1 } i = ({ m with steps := m.steps + 1 }, m.pc + 2, false) := by
      have hb : m.t = false := by rw [(by assumption : i.op = 17)] at hc; revert hc; cases m.t <;> decide
      unfold leapM; dsimp only; rw [hb]; (repeat (first | (rw [if_pos (by assumption)]) | (rw [if_neg (by assumption)]))); rfl
    have hS : stepM m = ({ m with steps := m.steps + 1, pc := m.pc + 2 }, false, 0) := by unfold stepM; rw [hie]; dsimp only; rw [if_neg (by omega), if_neg (by omega), if_neg (by rw [(by assumption : leadsM i.op = true)]; decide), hM]; rfl
    refine end_p (VS.mk ?_)
    unfold stepR; rw [hS]
    (first | exact LeL.refl _ | (repeat' (first | exact LeL.nil | exact LeD.refl _ | exact LeD.nil _ | exact LeD.strip _ _ _ | refine LeL.cons ?_ ?_ | refine LeD.tup ?_ | refine LeD.agg ?_)))
    all_goals first | exact LeD.ff rfl | exact LeD.tt rfl | skip
  · have hM : leapM { m with steps := m.steps + 1 } i = ({ m with steps := m.steps + 1 }, toM i m.pc, false) := by
      have hb : m.t = false := by rw [(by assumption : i.op = 18)] at hc; revert hc; cases m.t <;> decide
      unfold leapM; dsimp only; rw [hb]; (repeat (first | (rw [if_pos (by assumption)]) | (rw [if_neg (by assumption)]))); rfl
    have hS : stepM m = ({ m with steps := m.steps + 1, pc := toM i m.pc }, false, 0) := by unfold stepM; rw [hie]; dsimp only; rw [if_neg (by omega), if_neg (by omega), if_neg (by rw [(by assumption : leadsM i.op = true)]; decide), hM]; rfl
    refine end_p (VS.mk ?_)
    unfold stepR; rw [hS]
    (first | exact LeL.refl _ | (repeat' (first | exact LeL.nil | exact LeD.refl _ | exact LeD.nil _ | exact LeD.strip _ _ _ | refine LeL.cons ?_ ?_ | refine LeD.tup ?_ | refine LeD.agg ?_)))
    all_goals first | exact LeD.ff rfl | exact LeD.tt rfl | skip
  · have hM : leapM { m with steps := m.steps + 1 } i = ({ m with steps := m.steps + 1 }, m.pc + 2, false) := by
      have hb : m.t = true := by rw [(by assumption : i.op = 18)] at hc; revert hc; cases m.t <;> decide
      unfold leapM; dsimp only; rw [hb]; (repeat (first | (rw [if_pos (by assumption)]) | (rw [if_neg (by assumption)]))); rfl
    have hS : stepM m = ({ m with steps := m.steps + 1, pc := m.pc + 2 }, false, 0) := by unfold stepM; rw [hie]; dsimp only; rw [if_neg (by omega), if_neg (by omega), if_neg (by rw [(by assumption : leadsM i.op = true)]; decide), hM]; rfl
    refine end_p (VS.mk ?_)
    unfold stepR; rw [hS]
    (first | exact LeL.refl _ | (repeat' (first | exact LeL.nil | exact LeD.refl _ | exact LeD.nil _ | exact LeD.strip _ _ _ | refine LeL.cons ?_ ?_ | refine LeD.tup ?_ | refine LeD.agg ?_)))
    all_goals first | exact LeD.ff rfl | exact LeD.tt rfl | skip
  · skip
    have hM : leapM { m with steps := m.steps + 1 } i = (({ m with steps := m.steps + 1 } : Mach), m.pr, true) := by unfold leapM; dsimp only; (repeat (first | (rw [if_pos (by assumption)]) | (rw [if_neg (by assumption)])))
    have hS : stepM m = lateM ({ m with steps := m.steps + 1 } : Mach) (m.pr) := by unfold stepM; rw [hie]; dsimp only; rw [if_neg (by omega), if_neg (by omega), if_neg (by rw [(by assumption : leadsM i.op = true)]; decide), hM]; rfl
    have hX : InM 9992 ({ m with steps := m.steps + 1 } : Mach) := hm1.mono (by decide)
    have hJ := fetchM_in ({ m with steps := m.steps + 1 } : Mach) (m.pc + 2)
    have hQ := fetchM_op (m := ({ m with steps := m.steps + 1 } : Mach)) (a := m.pc + 2)
    obtain ⟨j, e', hj⟩ : ∃ j e', fetchM ({ m with steps := m.steps + 1 } : Mach) (m.pc + 2) = (j, e') := ⟨_, _, rfl⟩
    have hL : lateM ({ m with steps := m.steps + 1 } : Mach) (m.pr) = if e' ≠ 0 then (mach0, false, e') else if leadsM j.op = true ∨ j.op = 27 then (mach0, false, 8) else if (plainM ({ m with steps := m.steps + 1 } : Mach) j (m.pc + 2)).2 ≠ 0 then (mach0, false, (plainM ({ m with steps := m.steps + 1 } : Mach) j (m.pc + 2)).2) else ({ (plainM ({ m with steps := m.steps + 1 } : Mach) j (m.pc + 2)).1 with pc := m.pr }, false, 0) := by unfold lateM; dsimp only; rw [hj]
    refine call_p rfetch_meets (({ m with steps := m.steps + 1 } : Mach), m.pc + 2) ⟨hX.mono (by decide), by omega, by omega⟩ (VS.mk (LeL.of_eq rfl)) ?_
    dsimp only
    rw [hj] at hJ hQ ⊢
    dsimp only at hJ hQ ⊢
    (all_goals refine qgv ?_ <;> (repeat' first | exact trivial | intro hc | refine And.intro ?_ ?_) <;> refine Lf.mk ?_)
    · rw [if_pos (by assumption)] at hL
      rw [hL] at hS
      refine call_p rno_meets e' trivial (VS.mk (LeL.of_eq rfl)) ?_
      (all_goals refine qgv ?_ <;> (repeat' first | exact trivial | intro hc | refine And.intro ?_ ?_) <;> refine Lf.mk ?_)
      refine end_p (VS.mk ?_)
      unfold stepR; rw [hS]
      (first | exact LeL.refl _ | (repeat' (first | exact LeL.nil | exact LeD.refl _ | exact LeD.nil _ | exact LeD.strip _ _ _ | refine LeL.cons ?_ ?_ | refine LeD.tup ?_ | refine LeD.agg ?_)))
      all_goals first | exact LeD.ff rfl | skip
    refine call_p rleads_meets j.op trivial (VS.mk (LeL.of_eq rfl)) ?_
    (all_goals refine qgv ?_ <;> (repeat' first | exact trivial | intro hc | refine And.intro ?_ ?_) <;> refine Lf.mk ?_)
    · rw [if_neg (by omega), if_pos (.inl (by assumption))] at hL
      rw [hL] at hS
      refine call_p rno_meets 8 trivial (VS.mk (LeL.of_eq rfl)) ?_
      (all_goals refine qgv ?_ <;> (repeat' first | exact trivial | intro hc | refine And.intro ?_ ?_) <;> refine Lf.mk ?_)
      refine end_p (VS.mk ?_)
      unfold stepR; rw [hS]
      (first | exact LeL.refl _ | (repeat' (first | exact LeL.nil | exact LeD.refl _ | exact LeD.nil _ | exact LeD.strip _ _ _ | refine LeL.cons ?_ ?_ | refine LeD.tup ?_ | refine LeD.agg ?_)))
      all_goals first | exact LeD.ff rfl | skip
    · rw [if_neg (by omega), if_pos (.inr (by assumption))] at hL
      rw [hL] at hS
      refine call_p rno_meets 8 trivial (VS.mk (LeL.of_eq rfl)) ?_
      (all_goals refine qgv ?_ <;> (repeat' first | exact trivial | intro hc | refine And.intro ?_ ?_) <;> refine Lf.mk ?_)
      refine end_p (VS.mk ?_)
      unfold stepR; rw [hS]
      (first | exact LeL.refl _ | (repeat' (first | exact LeL.nil | exact LeD.refl _ | exact LeD.nil _ | exact LeD.strip _ _ _ | refine LeL.cons ?_ ?_ | refine LeD.tup ?_ | refine LeD.agg ?_)))
      all_goals first | exact LeD.ff rfl | skip
    have hQ := hQ (by assumption)
    have hnl : leadsM j.op = false := by assumption
    have hno : ¬ (leadsM j.op = true ∨ j.op = 27) := by
      rintro (h | h)
      · rw [hnl] at h; cases h
      · omega
    rw [if_neg (by omega), if_neg hno] at hL
    obtain ⟨y, f, hy⟩ : ∃ y f, plainM ({ m with steps := m.steps + 1 } : Mach) j (m.pc + 2) = (y, f) := ⟨_, _, rfl⟩
    refine call_p rplain_meets (({ m with steps := m.steps + 1 } : Mach), j, m.pc + 2) ⟨hX.mono (by decide), hJ, ⟨hQ.1, hQ.2, hnl⟩, by omega, by omega⟩ (VS.mk (LeL.of_eq rfl)) ?_
    dsimp only
    rw [hy] at hL ⊢
    dsimp only at hL ⊢
    (all_goals refine qgv ?_ <;> (repeat' first | exact trivial | intro hc | refine And.intro ?_ ?_) <;> refine Lf.mk ?_)
    · rw [if_pos (by assumption)] at hL
      rw [hL] at hS
      refine call_p rno_meets f trivial (VS.mk (LeL.of_eq rfl)) ?_
      (all_goals refine qgv ?_ <;> (repeat' first | exact trivial | intro hc | refine And.intro ?_ ?_) <;> refine Lf.mk ?_)
      refine end_p (VS.mk ?_)
      unfold stepR; rw [hS]
      (first | exact LeL.refl _ | (repeat' (first | exact LeL.nil | exact LeD.refl _ | exact LeD.nil _ | exact LeD.strip _ _ _ | refine LeL.cons ?_ ?_ | refine LeD.tup ?_ | refine LeD.agg ?_)))
      all_goals first | exact LeD.ff rfl | skip
    · rw [if_neg (by omega)] at hL
      rw [hL] at hS
      refine end_p (VS.mk ?_)
      unfold stepR; rw [hS]
      (first | exact LeL.refl _ | (repeat' (first | exact LeL.nil | exact LeD.refl _ | exact LeD.nil _ | exact LeD.strip _ _ _ | refine LeL.cons ?_ ?_ | refine LeD.tup ?_ | refine LeD.agg ?_)))
      all_goals first | exact LeD.ff rfl | exact LeD.tt rfl | skip
  · skip
    have hM : leapM { m with steps := m.steps + 1 } i = (({ m with steps := m.steps + 1 } : Mach), m.r i.n.toNat, true) := by unfold leapM; dsimp only; (repeat (first | (rw [if_pos (by assumption)]) | (rw [if_neg (by assumption)])))
    have hS : stepM m = lateM ({ m with steps := m.steps + 1 } : Mach) (m.r i.n.toNat) := by unfold stepM; rw [hie]; dsimp only; rw [if_neg (by omega), if_neg (by omega), if_neg (by rw [(by assumption : leadsM i.op = true)]; decide), hM]; rfl
    have hX : InM 9992 ({ m with steps := m.steps + 1 } : Mach) := hm1.mono (by decide)
    have hJ := fetchM_in ({ m with steps := m.steps + 1 } : Mach) (m.pc + 2)
    have hQ := fetchM_op (m := ({ m with steps := m.steps + 1 } : Mach)) (a := m.pc + 2)
    obtain ⟨j, e', hj⟩ : ∃ j e', fetchM ({ m with steps := m.steps + 1 } : Mach) (m.pc + 2) = (j, e') := ⟨_, _, rfl⟩
    have hL : lateM ({ m with steps := m.steps + 1 } : Mach) (m.r i.n.toNat) = if e' ≠ 0 then (mach0, false, e') else if leadsM j.op = true ∨ j.op = 27 then (mach0, false, 8) else if (plainM ({ m with steps := m.steps + 1 } : Mach) j (m.pc + 2)).2 ≠ 0 then (mach0, false, (plainM ({ m with steps := m.steps + 1 } : Mach) j (m.pc + 2)).2) else ({ (plainM ({ m with steps := m.steps + 1 } : Mach) j (m.pc + 2)).1 with pc := m.r i.n.toNat }, false, 0) := by unfold lateM; dsimp only; rw [hj]
    refine call_p rfetch_meets (({ m with steps := m.steps + 1 } : Mach), m.pc + 2) ⟨hX.mono (by decide), by omega, by omega⟩ (VS.mk (LeL.of_eq rfl)) ?_
    dsimp only
    rw [hj] at hJ hQ ⊢
    dsimp only at hJ hQ ⊢
    (all_goals refine qgv ?_ <;> (repeat' first | exact trivial | intro hc | refine And.intro ?_ ?_) <;> refine Lf.mk ?_)
    · rw [if_pos (by assumption)] at hL
      rw [hL] at hS
      refine call_p rno_meets e' trivial (VS.mk (LeL.of_eq rfl)) ?_
      (all_goals refine qgv ?_ <;> (repeat' first | exact trivial | intro hc | refine And.intro ?_ ?_) <;> refine Lf.mk ?_)
      refine end_p (VS.mk ?_)
      unfold stepR; rw [hS]
      (first | exact LeL.refl _ | (repeat' (first | exact LeL.nil | exact LeD.refl _ | exact LeD.nil _ | exact LeD.strip _ _ _ | refine LeL.cons ?_ ?_ | refine LeD.tup ?_ | refine LeD.agg ?_)))
      all_goals first | exact LeD.ff rfl | skip
    refine call_p rleads_meets j.op trivial (VS.mk (LeL.of_eq rfl)) ?_
    (all_goals refine qgv ?_ <;> (repeat' first | exact trivial | intro hc | refine And.intro ?_ ?_) <;> refine Lf.mk ?_)
    · rw [if_neg (by omega), if_pos (.inl (by assumption))] at hL
      rw [hL] at hS
      refine call_p rno_meets 8 trivial (VS.mk (LeL.of_eq rfl)) ?_
      (all_goals refine qgv ?_ <;> (repeat' first | exact trivial | intro hc | refine And.intro ?_ ?_) <;> refine Lf.mk ?_)
      refine end_p (VS.mk ?_)
      unfold stepR; rw [hS]
      (first | exact LeL.refl _ | (repeat' (first | exact LeL.nil | exact LeD.refl _ | exact LeD.nil _ | exact LeD.strip _ _ _ | refine LeL.cons ?_ ?_ | refine LeD.tup ?_ | refine LeD.agg ?_)))
      all_goals first | exact LeD.ff rfl | skip
    · rw [if_neg (by omega), if_pos (.inr (by assumption))] at hL
      rw [hL] at hS
      refine call_p rno_meets 8 trivial (VS.mk (LeL.of_eq rfl)) ?_
      (all_goals refine qgv ?_ <;> (repeat' first | exact trivial | intro hc | refine And.intro ?_ ?_) <;> refine Lf.mk ?_)
      refine end_p (VS.mk ?_)
      unfold stepR; rw [hS]
      (first | exact LeL.refl _ | (repeat' (first | exact LeL.nil | exact LeD.refl _ | exact LeD.nil _ | exact LeD.strip _ _ _ | refine LeL.cons ?_ ?_ | refine LeD.tup ?_ | refine LeD.agg ?_)))
      all_goals first | exact LeD.ff rfl | skip
    have hQ := hQ (by assumption)
    have hnl : leadsM j.op = false := by assumption
    have hno : ¬ (leadsM j.op = true ∨ j.op = 27) := by
      rintro (h | h)
      · rw [hnl] at h; cases h
      · omega
    rw [if_neg (by omega), if_neg hno] at hL
    obtain ⟨y, f, hy⟩ : ∃ y f, plainM ({ m with steps := m.steps + 1 } : Mach) j (m.pc + 2) = (y, f) := ⟨_, _, rfl⟩
    refine call_p rplain_meets (({ m with steps := m.steps + 1 } : Mach), j, m.pc + 2) ⟨hX.mono (by decide), hJ, ⟨hQ.1, hQ.2, hnl⟩, by omega, by omega⟩ (VS.mk (LeL.of_eq rfl)) ?_
    dsimp only
    rw [hy] at hL ⊢
    dsimp only at hL ⊢
    (all_goals refine qgv ?_ <;> (repeat' first | exact trivial | intro hc | refine And.intro ?_ ?_) <;> refine Lf.mk ?_)
    · rw [if_pos (by assumption)] at hL
      rw [hL] at hS
      refine call_p rno_meets f trivial (VS.mk (LeL.of_eq rfl)) ?_
      (all_goals refine qgv ?_ <;> (repeat' first | exact trivial | intro hc | refine And.intro ?_ ?_) <;> refine Lf.mk ?_)
      refine end_p (VS.mk ?_)
      unfold stepR; rw [hS]
      (first | exact LeL.refl _ | (repeat' (first | exact LeL.nil | exact LeD.refl _ | exact LeD.nil _ | exact LeD.strip _ _ _ | refine LeL.cons ?_ ?_ | refine LeD.tup ?_ | refine LeD.agg ?_)))
      all_goals first | exact LeD.ff rfl | skip
    · rw [if_neg (by omega)] at hL
      rw [hL] at hS
      refine end_p (VS.mk ?_)
      unfold stepR; rw [hS]
      (first | exact LeL.refl _ | (repeat' (first | exact LeL.nil | exact LeD.refl _ | exact LeD.nil _ | exact LeD.strip _ _ _ | refine LeL.cons ?_ ?_ | refine LeD.tup ?_ | refine LeD.agg ?_)))
      all_goals first | exact LeD.ff rfl | exact LeD.tt rfl | skip
  · skip
    have hM : leapM { m with steps := m.steps + 1 } i = (({ m with steps := m.steps + 1, pr := m.pc + 4 } : Mach), m.r i.n.toNat, true) := by unfold leapM; dsimp only; (repeat (first | (rw [if_pos (by assumption)]) | (rw [if_neg (by assumption)])))
    have hS : stepM m = lateM ({ m with steps := m.steps + 1, pr := m.pc + 4 } : Mach) (m.r i.n.toNat) := by unfold stepM; rw [hie]; dsimp only; rw [if_neg (by omega), if_neg (by omega), if_neg (by rw [(by assumption : leadsM i.op = true)]; decide), hM]; rfl
    have hX : InM 9992 ({ m with steps := m.steps + 1, pr := m.pc + 4 } : Mach) := ⟨hm.regs, by show _ ≤ m.pc ∧ m.pc ≤ _; omega, by show _ ≤ m.pc + 4 ∧ m.pc + 4 ≤ _; omega, hm.base, hm.len, hm.syms, by show m.told.length ≤ _; omega, by show _ ≤ m.steps + 1 ∧ m.steps + 1 ≤ _; omega⟩
    have hJ := fetchM_in ({ m with steps := m.steps + 1, pr := m.pc + 4 } : Mach) (m.pc + 2)
    have hQ := fetchM_op (m := ({ m with steps := m.steps + 1, pr := m.pc + 4 } : Mach)) (a := m.pc + 2)
    obtain ⟨j, e', hj⟩ : ∃ j e', fetchM ({ m with steps := m.steps + 1, pr := m.pc + 4 } : Mach) (m.pc + 2) = (j, e') := ⟨_, _, rfl⟩
    have hL : lateM ({ m with steps := m.steps + 1, pr := m.pc + 4 } : Mach) (m.r i.n.toNat) = if e' ≠ 0 then (mach0, false, e') else if leadsM j.op = true ∨ j.op = 27 then (mach0, false, 8) else if (plainM ({ m with steps := m.steps + 1, pr := m.pc + 4 } : Mach) j (m.pc + 2)).2 ≠ 0 then (mach0, false, (plainM ({ m with steps := m.steps + 1, pr := m.pc + 4 } : Mach) j (m.pc + 2)).2) else ({ (plainM ({ m with steps := m.steps + 1, pr := m.pc + 4 } : Mach) j (m.pc + 2)).1 with pc := m.r i.n.toNat }, false, 0) := by unfold lateM; dsimp only; rw [hj]
    refine call_p rfetch_meets (({ m with steps := m.steps + 1, pr := m.pc + 4 } : Mach), m.pc + 2) ⟨hX.mono (by decide), by omega, by omega⟩ (VS.mk (LeL.of_eq rfl)) ?_
    dsimp only
    rw [hj] at hJ hQ ⊢
    dsimp only at hJ hQ ⊢
    (all_goals refine qgv ?_ <;> (repeat' first | exact trivial | intro hc | refine And.intro ?_ ?_) <;> refine Lf.mk ?_)
    · rw [if_pos (by assumption)] at hL
      rw [hL] at hS
      refine call_p rno_meets e' trivial (VS.mk (LeL.of_eq rfl)) ?_
      (all_goals refine qgv ?_ <;> (repeat' first | exact trivial | intro hc | refine And.intro ?_ ?_) <;> refine Lf.mk ?_)
      refine end_p (VS.mk ?_)
      unfold stepR; rw [hS]
      (first | exact LeL.refl _ | (repeat' (first | exact LeL.nil | exact LeD.refl _ | exact LeD.nil _ | exact LeD.strip _ _ _ | refine LeL.cons ?_ ?_ | refine LeD.tup ?_ | refine LeD.agg ?_)))
      all_goals first | exact LeD.ff rfl | skip
    refine call_p rleads_meets j.op trivial (VS.mk (LeL.of_eq rfl)) ?_
    (all_goals refine qgv ?_ <;> (repeat' first | exact trivial | intro hc | refine And.intro ?_ ?_) <;> refine Lf.mk ?_)
    · rw [if_neg (by omega), if_pos (.inl (by assumption))] at hL
      rw [hL] at hS
      refine call_p rno_meets 8 trivial (VS.mk (LeL.of_eq rfl)) ?_
      (all_goals refine qgv ?_ <;> (repeat' first | exact trivial | intro hc | refine And.intro ?_ ?_) <;> refine Lf.mk ?_)
      refine end_p (VS.mk ?_)
      unfold stepR; rw [hS]
      (first | exact LeL.refl _ | (repeat' (first | exact LeL.nil | exact LeD.refl _ | exact LeD.nil _ | exact LeD.strip _ _ _ | refine LeL.cons ?_ ?_ | refine LeD.tup ?_ | refine LeD.agg ?_)))
      all_goals first | exact LeD.ff rfl | skip
    · rw [if_neg (by omega), if_pos (.inr (by assumption))] at hL
      rw [hL] at hS
      refine call_p rno_meets 8 trivial (VS.mk (LeL.of_eq rfl)) ?_
      (all_goals refine qgv ?_ <;> (repeat' first | exact trivial | intro hc | refine And.intro ?_ ?_) <;> refine Lf.mk ?_)
      refine end_p (VS.mk ?_)
      unfold stepR; rw [hS]
      (first | exact LeL.refl _ | (repeat' (first | exact LeL.nil | exact LeD.refl _ | exact LeD.nil _ | exact LeD.strip _ _ _ | refine LeL.cons ?_ ?_ | refine LeD.tup ?_ | refine LeD.agg ?_)))
      all_goals first | exact LeD.ff rfl | skip
    have hQ := hQ (by assumption)
    have hnl : leadsM j.op = false := by assumption
    have hno : ¬ (leadsM j.op = true ∨ j.op = 27) := by
      rintro (h | h)
      · rw [hnl] at h; cases h
      · omega
    rw [if_neg (by omega), if_neg hno] at hL
    obtain ⟨y, f, hy⟩ : ∃ y f, plainM ({ m with steps := m.steps + 1, pr := m.pc + 4 } : Mach) j (m.pc + 2) = (y, f) := ⟨_, _, rfl⟩
    refine call_p rplain_meets (({ m with steps := m.steps + 1, pr := m.pc + 4 } : Mach), j, m.pc + 2) ⟨hX.mono (by decide), hJ, ⟨hQ.1, hQ.2, hnl⟩, by omega, by omega⟩ (VS.mk (LeL.of_eq rfl)) ?_
    dsimp only
    rw [hy] at hL ⊢
    dsimp only at hL ⊢
    (all_goals refine qgv ?_ <;> (repeat' first | exact trivial | intro hc | refine And.intro ?_ ?_) <;> refine Lf.mk ?_)
    · rw [if_pos (by assumption)] at hL
      rw [hL] at hS
      refine call_p rno_meets f trivial (VS.mk (LeL.of_eq rfl)) ?_
      (all_goals refine qgv ?_ <;> (repeat' first | exact trivial | intro hc | refine And.intro ?_ ?_) <;> refine Lf.mk ?_)
      refine end_p (VS.mk ?_)
      unfold stepR; rw [hS]
      (first | exact LeL.refl _ | (repeat' (first | exact LeL.nil | exact LeD.refl _ | exact LeD.nil _ | exact LeD.strip _ _ _ | refine LeL.cons ?_ ?_ | refine LeD.tup ?_ | refine LeD.agg ?_)))
      all_goals first | exact LeD.ff rfl | skip
    · rw [if_neg (by omega)] at hL
      rw [hL] at hS
      refine end_p (VS.mk ?_)
      unfold stepR; rw [hS]
      (first | exact LeL.refl _ | (repeat' (first | exact LeL.nil | exact LeD.refl _ | exact LeD.nil _ | exact LeD.strip _ _ _ | refine LeL.cons ?_ ?_ | refine LeD.tup ?_ | refine LeD.agg ?_)))
      all_goals first | exact LeD.ff rfl | exact LeD.tt rfl | skip
  · skip
    have hM : leapM { m with steps := m.steps + 1 } i = (({ m with steps := m.steps + 1, pr := m.pc + 4 } : Mach), toM i m.pc, true) := by unfold leapM; dsimp only; (repeat (first | (rw [if_pos (by assumption)]) | (rw [if_neg (by assumption)])))
    have hS : stepM m = lateM ({ m with steps := m.steps + 1, pr := m.pc + 4 } : Mach) (toM i m.pc) := by unfold stepM; rw [hie]; dsimp only; rw [if_neg (by omega), if_neg (by omega), if_neg (by rw [(by assumption : leadsM i.op = true)]; decide), hM]; rfl
    have hX : InM 9992 ({ m with steps := m.steps + 1, pr := m.pc + 4 } : Mach) := ⟨hm.regs, by show _ ≤ m.pc ∧ m.pc ≤ _; omega, by show _ ≤ m.pc + 4 ∧ m.pc + 4 ≤ _; omega, hm.base, hm.len, hm.syms, by show m.told.length ≤ _; omega, by show _ ≤ m.steps + 1 ∧ m.steps + 1 ≤ _; omega⟩
    have hJ := fetchM_in ({ m with steps := m.steps + 1, pr := m.pc + 4 } : Mach) (m.pc + 2)
    have hQ := fetchM_op (m := ({ m with steps := m.steps + 1, pr := m.pc + 4 } : Mach)) (a := m.pc + 2)
    obtain ⟨j, e', hj⟩ : ∃ j e', fetchM ({ m with steps := m.steps + 1, pr := m.pc + 4 } : Mach) (m.pc + 2) = (j, e') := ⟨_, _, rfl⟩
    have hL : lateM ({ m with steps := m.steps + 1, pr := m.pc + 4 } : Mach) (toM i m.pc) = if e' ≠ 0 then (mach0, false, e') else if leadsM j.op = true ∨ j.op = 27 then (mach0, false, 8) else if (plainM ({ m with steps := m.steps + 1, pr := m.pc + 4 } : Mach) j (m.pc + 2)).2 ≠ 0 then (mach0, false, (plainM ({ m with steps := m.steps + 1, pr := m.pc + 4 } : Mach) j (m.pc + 2)).2) else ({ (plainM ({ m with steps := m.steps + 1, pr := m.pc + 4 } : Mach) j (m.pc + 2)).1 with pc := toM i m.pc }, false, 0) := by unfold lateM; dsimp only; rw [hj]
    refine call_p rfetch_meets (({ m with steps := m.steps + 1, pr := m.pc + 4 } : Mach), m.pc + 2) ⟨hX.mono (by decide), by omega, by omega⟩ (VS.mk (LeL.of_eq rfl)) ?_
    dsimp only
    rw [hj] at hJ hQ ⊢
    dsimp only at hJ hQ ⊢
    (all_goals refine qgv ?_ <;> (repeat' first | exact trivial | intro hc | refine And.intro ?_ ?_) <;> refine Lf.mk ?_)
    · rw [if_pos (by assumption)] at hL
      rw [hL] at hS
      refine call_p rno_meets e' trivial (VS.mk (LeL.of_eq rfl)) ?_
      (all_goals refine qgv ?_ <;> (repeat' first | exact trivial | intro hc | refine And.intro ?_ ?_) <;> refine Lf.mk ?_)
      refine end_p (VS.mk ?_)
      unfold stepR; rw [hS]
      (first | exact LeL.refl _ | (repeat' (first | exact LeL.nil | exact LeD.refl _ | exact LeD.nil _ | exact LeD.strip _ _ _ | refine LeL.cons ?_ ?_ | refine LeD.tup ?_ | refine LeD.agg ?_)))
      all_goals first | exact LeD.ff rfl | skip
    refine call_p rleads_meets j.op trivial (VS.mk (LeL.of_eq rfl)) ?_
    (all_goals refine qgv ?_ <;> (repeat' first | exact trivial | intro hc | refine And.intro ?_ ?_) <;> refine Lf.mk ?_)
    · rw [if_neg (by omega), if_pos (.inl (by assumption))] at hL
      rw [hL] at hS
      refine call_p rno_meets 8 trivial (VS.mk (LeL.of_eq rfl)) ?_
      (all_goals refine qgv ?_ <;> (repeat' first | exact trivial | intro hc | refine And.intro ?_ ?_) <;> refine Lf.mk ?_)
      refine end_p (VS.mk ?_)
      unfold stepR; rw [hS]
      (first | exact LeL.refl _ | (repeat' (first | exact LeL.nil | exact LeD.refl _ | exact LeD.nil _ | exact LeD.strip _ _ _ | refine LeL.cons ?_ ?_ | refine LeD.tup ?_ | refine LeD.agg ?_)))
      all_goals first | exact LeD.ff rfl | skip
    · rw [if_neg (by omega), if_pos (.inr (by assumption))] at hL
      rw [hL] at hS
      refine call_p rno_meets 8 trivial (VS.mk (LeL.of_eq rfl)) ?_
      (all_goals refine qgv ?_ <;> (repeat' first | exact trivial | intro hc | refine And.intro ?_ ?_) <;> refine Lf.mk ?_)
      refine end_p (VS.mk ?_)
      unfold stepR; rw [hS]
      (first | exact LeL.refl _ | (repeat' (first | exact LeL.nil | exact LeD.refl _ | exact LeD.nil _ | exact LeD.strip _ _ _ | refine LeL.cons ?_ ?_ | refine LeD.tup ?_ | refine LeD.agg ?_)))
      all_goals first | exact LeD.ff rfl | skip
    have hQ := hQ (by assumption)
    have hnl : leadsM j.op = false := by assumption
    have hno : ¬ (leadsM j.op = true ∨ j.op = 27) := by
      rintro (h | h)
      · rw [hnl] at h; cases h
      · omega
    rw [if_neg (by omega), if_neg hno] at hL
    obtain ⟨y, f, hy⟩ : ∃ y f, plainM ({ m with steps := m.steps + 1, pr := m.pc + 4 } : Mach) j (m.pc + 2) = (y, f) := ⟨_, _, rfl⟩
    refine call_p rplain_meets (({ m with steps := m.steps + 1, pr := m.pc + 4 } : Mach), j, m.pc + 2) ⟨hX.mono (by decide), hJ, ⟨hQ.1, hQ.2, hnl⟩, by omega, by omega⟩ (VS.mk (LeL.of_eq rfl)) ?_
    dsimp only
    rw [hy] at hL ⊢
    dsimp only at hL ⊢
    (all_goals refine qgv ?_ <;> (repeat' first | exact trivial | intro hc | refine And.intro ?_ ?_) <;> refine Lf.mk ?_)
    · rw [if_pos (by assumption)] at hL
      rw [hL] at hS
      refine call_p rno_meets f trivial (VS.mk (LeL.of_eq rfl)) ?_
      (all_goals refine qgv ?_ <;> (repeat' first | exact trivial | intro hc | refine And.intro ?_ ?_) <;> refine Lf.mk ?_)
      refine end_p (VS.mk ?_)
      unfold stepR; rw [hS]
      (first | exact LeL.refl _ | (repeat' (first | exact LeL.nil | exact LeD.refl _ | exact LeD.nil _ | exact LeD.strip _ _ _ | refine LeL.cons ?_ ?_ | refine LeD.tup ?_ | refine LeD.agg ?_)))
      all_goals first | exact LeD.ff rfl | skip
    · rw [if_neg (by omega)] at hL
      rw [hL] at hS
      refine end_p (VS.mk ?_)
      unfold stepR; rw [hS]
      (first | exact LeL.refl _ | (repeat' (first | exact LeL.nil | exact LeD.refl _ | exact LeD.nil _ | exact LeD.strip _ _ _ | refine LeL.cons ?_ ?_ | refine LeD.tup ?_ | refine LeD.agg ?_)))
      all_goals first | exact LeD.ff rfl | exact LeD.tt rfl | skip
  · skip
    have hM : leapM { m with steps := m.steps + 1 } i = (({ m with steps := m.steps + 1 } : Mach), toM i m.pc, true) := by unfold leapM; dsimp only; (repeat (first | (rw [if_pos (by assumption)]) | (rw [if_neg (by assumption)])))
    have hS : stepM m = lateM ({ m with steps := m.steps + 1 } : Mach) (toM i m.pc) := by unfold stepM; rw [hie]; dsimp only; rw [if_neg (by omega), if_neg (by omega), if_neg (by rw [(by assumption : leadsM i.op = true)]; decide), hM]; rfl
    have hX : InM 9992 ({ m with steps := m.steps + 1 } : Mach) := hm1.mono (by decide)
    have hJ := fetchM_in ({ m with steps := m.steps + 1 } : Mach) (m.pc + 2)
    have hQ := fetchM_op (m := ({ m with steps := m.steps + 1 } : Mach)) (a := m.pc + 2)
    obtain ⟨j, e', hj⟩ : ∃ j e', fetchM ({ m with steps := m.steps + 1 } : Mach) (m.pc + 2) = (j, e') := ⟨_, _, rfl⟩
    have hL : lateM ({ m with steps := m.steps + 1 } : Mach) (toM i m.pc) = if e' ≠ 0 then (mach0, false, e') else if leadsM j.op = true ∨ j.op = 27 then (mach0, false, 8) else if (plainM ({ m with steps := m.steps + 1 } : Mach) j (m.pc + 2)).2 ≠ 0 then (mach0, false, (plainM ({ m with steps := m.steps + 1 } : Mach) j (m.pc + 2)).2) else ({ (plainM ({ m with steps := m.steps + 1 } : Mach) j (m.pc + 2)).1 with pc := toM i m.pc }, false, 0) := by unfold lateM; dsimp only; rw [hj]
    refine call_p rfetch_meets (({ m with steps := m.steps + 1 } : Mach), m.pc + 2) ⟨hX.mono (by decide), by omega, by omega⟩ (VS.mk (LeL.of_eq rfl)) ?_
    dsimp only
    rw [hj] at hJ hQ ⊢
    dsimp only at hJ hQ ⊢
    (all_goals refine qgv ?_ <;> (repeat' first | exact trivial | intro hc | refine And.intro ?_ ?_) <;> refine Lf.mk ?_)
    · rw [if_pos (by assumption)] at hL
      rw [hL] at hS
      refine call_p rno_meets e' trivial (VS.mk (LeL.of_eq rfl)) ?_
      (all_goals refine qgv ?_ <;> (repeat' first | exact trivial | intro hc | refine And.intro ?_ ?_) <;> refine Lf.mk ?_)
      refine end_p (VS.mk ?_)
      unfold stepR; rw [hS]
      (first | exact LeL.refl _ | (repeat' (first | exact LeL.nil | exact LeD.refl _ | exact LeD.nil _ | exact LeD.strip _ _ _ | refine LeL.cons ?_ ?_ | refine LeD.tup ?_ | refine LeD.agg ?_)))
      all_goals first | exact LeD.ff rfl | skip
    refine call_p rleads_meets j.op trivial (VS.mk (LeL.of_eq rfl)) ?_
    (all_goals refine qgv ?_ <;> (repeat' first | exact trivial | intro hc | refine And.intro ?_ ?_) <;> refine Lf.mk ?_)
    · rw [if_neg (by omega), if_pos (.inl (by assumption))] at hL
      rw [hL] at hS
      refine call_p rno_meets 8 trivial (VS.mk (LeL.of_eq rfl)) ?_
      (all_goals refine qgv ?_ <;> (repeat' first | exact trivial | intro hc | refine And.intro ?_ ?_) <;> refine Lf.mk ?_)
      refine end_p (VS.mk ?_)
      unfold stepR; rw [hS]
      (first | exact LeL.refl _ | (repeat' (first | exact LeL.nil | exact LeD.refl _ | exact LeD.nil _ | exact LeD.strip _ _ _ | refine LeL.cons ?_ ?_ | refine LeD.tup ?_ | refine LeD.agg ?_)))
      all_goals first | exact LeD.ff rfl | skip
    · rw [if_neg (by omega), if_pos (.inr (by assumption))] at hL
      rw [hL] at hS
      refine call_p rno_meets 8 trivial (VS.mk (LeL.of_eq rfl)) ?_
      (all_goals refine qgv ?_ <;> (repeat' first | exact trivial | intro hc | refine And.intro ?_ ?_) <;> refine Lf.mk ?_)
      refine end_p (VS.mk ?_)
      unfold stepR; rw [hS]
      (first | exact LeL.refl _ | (repeat' (first | exact LeL.nil | exact LeD.refl _ | exact LeD.nil _ | exact LeD.strip _ _ _ | refine LeL.cons ?_ ?_ | refine LeD.tup ?_ | refine LeD.agg ?_)))
      all_goals first | exact LeD.ff rfl | skip
    have hQ := hQ (by assumption)
    have hnl : leadsM j.op = false := by assumption
    have hno : ¬ (leadsM j.op = true ∨ j.op = 27) := by
      rintro (h | h)
      · rw [hnl] at h; cases h
      · omega
    rw [if_neg (by omega), if_neg hno] at hL
    obtain ⟨y, f, hy⟩ : ∃ y f, plainM ({ m with steps := m.steps + 1 } : Mach) j (m.pc + 2) = (y, f) := ⟨_, _, rfl⟩
    refine call_p rplain_meets (({ m with steps := m.steps + 1 } : Mach), j, m.pc + 2) ⟨hX.mono (by decide), hJ, ⟨hQ.1, hQ.2, hnl⟩, by omega, by omega⟩ (VS.mk (LeL.of_eq rfl)) ?_
    dsimp only
    rw [hy] at hL ⊢
    dsimp only at hL ⊢
    (all_goals refine qgv ?_ <;> (repeat' first | exact trivial | intro hc | refine And.intro ?_ ?_) <;> refine Lf.mk ?_)
    · rw [if_pos (by assumption)] at hL
      rw [hL] at hS
      refine call_p rno_meets f trivial (VS.mk (LeL.of_eq rfl)) ?_
      (all_goals refine qgv ?_ <;> (repeat' first | exact trivial | intro hc | refine And.intro ?_ ?_) <;> refine Lf.mk ?_)
      refine end_p (VS.mk ?_)
      unfold stepR; rw [hS]
      (first | exact LeL.refl _ | (repeat' (first | exact LeL.nil | exact LeD.refl _ | exact LeD.nil _ | exact LeD.strip _ _ _ | refine LeL.cons ?_ ?_ | refine LeD.tup ?_ | refine LeD.agg ?_)))
      all_goals first | exact LeD.ff rfl | skip
    · rw [if_neg (by omega)] at hL
      rw [hL] at hS
      refine end_p (VS.mk ?_)
      unfold stepR; rw [hS]
      (first | exact LeL.refl _ | (repeat' (first | exact LeL.nil | exact LeD.refl _ | exact LeD.nil _ | exact LeD.strip _ _ _ | refine LeL.cons ?_ ?_ | refine LeD.tup ?_ | refine LeD.agg ?_)))
      all_goals first | exact LeD.ff rfl | exact LeD.tt rfl | skip
end Go.Proofs.Ytdapgcdenpgnaaa

/-
  Machines, in plain words: step by step as at once; what is not written stays.
-/
namespace Go.Proofs.Ytdapgcdenpgnaaa
open Go Go.Plat
set_option linter.unusedVariables false
set_option linter.unusedSimpArgs false
set_option maxRecDepth 100000
attribute [local irreducible] irows infoR decI signedI putN rrows rinfo shapeM inM getN toM ldM and32M or32M xor32M sameI

theorem runM_succ (n : Nat) (m : Mach) : runM (n + 1) m = if (stepM m).2.2 ≠ 0 then (mach0, (stepM m).2.2) else if (stepM m).2.1 = true then ((stepM m).1, 0) else runM n (stepM m).1 := rfl
theorem runM_more {x : Mach} : ∀ {n k : Nat} {m : Mach}, runM n m = (x, 0) → n ≤ k → runM k m = (x, 0)
  | 0, k, m, h, _ => by
    have h2 : ((mach0, 13) : Mach × Int) = (x, 0) := h
    have h3 : (13 : Int) = 0 := congrArg Prod.snd h2
    exact absurd h3 (by decide)
  | n + 1, k, m, h, hk => by
    obtain ⟨k, rfl⟩ : ∃ j, k = j + 1 := ⟨k - 1, by omega⟩
    rw [runM_succ] at h ⊢
    by_cases h1 : (stepM m).2.2 ≠ 0
    · rw [if_pos h1] at h; exact absurd (congrArg Prod.snd h) h1
    · rw [if_neg h1] at h ⊢
      by_cases h2 : (stepM m).2.1 = true
      · rw [if_pos h2] at h ⊢; exact h
      · rw [if_neg h2] at h ⊢; exact runM_more h (by omega)
theorem runM_zero (m : Mach) : runM 0 m = (mach0, 13) := rfl

/-- no half word of it puts -/
def noPut (b : List UInt8) : Prop := ∀ k : Nat, 2 * k + 2 ≤ b.length → ¬ ((decI (getN b (2 * k : Int) 2)).2 = 0 ∧ (decI (getN b (2 * k : Int) 2)).1.op = 25)
theorem fetchM_np {m : Mach} {a : Int} (hb : m.img.base % 2 = 0) (hn : noPut m.img.bytes) (h : (fetchM m a).2 = 0) : (fetchM m a).1.op ≠ 25 := by
  obtain ⟨h1, h2⟩ := fetchM_ok h
  obtain ⟨i1, i2, i3⟩ := inM_eq.1 h1
  rw [h2] at h ⊢
  obtain ⟨k, hk⟩ := Int.eq_ofNat_of_zero_le (show 0 ≤ a - m.img.base by omega)
  have := hn (k / 2) (by omega)
  rw [show ((2 : Int) * ((k / 2 : Nat) : Int)) = a - m.img.base by omega] at this
  exact fun h3 => this ⟨h, h3⟩
theorem plainM_img {m : Mach} {i : Ins} {a : Int} (h : i.op ≠ 25) : (plainM m i a).1.img = m.img := by
  have hl : (loadM m i a).1.img = m.img := by
    unfold loadM
    exact iteInduction (motive := fun x : Mach × Int => x.1.img = m.img) (fun _ => rfl) (fun _ => rfl)
  have hs : (sumM m i).img = m.img := by
    unfold sumM
    dsimp only
    repeat' (first | rfl | refine iteInduction (motive := fun x : Mach => x.img = m.img) (fun _ => ?_) (fun _ => ?_))
  unfold plainM
  dsimp only
  repeat' (first | rfl | exact hl | exact hs | (exfalso; exact h (by assumption)) | refine iteInduction (motive := fun x : Mach × Int => x.1.img = m.img) (fun _ => ?_) (fun _ => ?_))
theorem leapM_img (m : Mach) (i : Ins) : (leapM m i).1.img = m.img := by
  unfold leapM
  repeat' (first | rfl | refine iteInduction (motive := fun x : Mach × Int × Bool => x.1.img = m.img) (fun _ => ?_) (fun _ => ?_))
theorem lateM_img {m : Mach} {to : Int} (hb : m.img.base % 2 = 0) (hn : noPut m.img.bytes) : (lateM m to).2.2 = 0 → (lateM m to).1.img = m.img := by
  unfold lateM
  dsimp only
  refine iteInduction (motive := fun x : Mach × Bool × Int => x.2.2 = 0 → x.1.img = m.img) (fun h h' => absurd h' h) (fun h => ?_)
  have hp := fetchM_np hb hn (Classical.not_not.1 h)
  refine iteInduction (motive := fun x : Mach × Bool × Int => x.2.2 = 0 → x.1.img = m.img) (fun _ h' => absurd h' (by decide)) (fun _ => ?_)
  refine iteInduction (motive := fun x : Mach × Bool × Int => x.2.2 = 0 → x.1.img = m.img) (fun h h' => absurd h' h) (fun _ _ => ?_)
  exact plainM_img hp
theorem stepM_img {m : Mach} (hb : m.img.base % 2 = 0) (hn : noPut m.img.bytes) : (stepM m).2.2 = 0 → (stepM m).1.img = m.img := by
  unfold stepM
  dsimp only
  refine iteInduction (motive := fun x : Mach × Bool × Int => x.2.2 = 0 → x.1.img = m.img) (fun h h' => absurd h' h) (fun h => ?_)
  have hp := fetchM_np hb hn (Classical.not_not.1 h)
  refine iteInduction (motive := fun x : Mach × Bool × Int => x.2.2 = 0 → x.1.img = m.img) (fun _ _ => rfl) (fun _ => ?_)
  refine iteInduction (motive := fun x : Mach × Bool × Int => x.2.2 = 0 → x.1.img = m.img) (fun _ => ?_) (fun _ => ?_)
  · refine iteInduction (motive := fun x : Mach × Bool × Int => x.2.2 = 0 → x.1.img = m.img) (fun h h' => absurd h' h) (fun _ _ => ?_)
    exact plainM_img (m := { m with steps := m.steps + 1 }) hp
  · have hl := leapM_img { m with steps := m.steps + 1 } (fetchM m m.pc).1
    refine iteInduction (motive := fun x : Mach × Bool × Int => x.2.2 = 0 → x.1.img = m.img) (fun _ => ?_) (fun _ _ => hl)
    have := @lateM_img (leapM { m with steps := m.steps + 1 } (fetchM m m.pc).1).1 (leapM { m with steps := m.steps + 1 } (fetchM m m.pc).1).2.1
    rw [hl] at this
    exact this hb hn
/-- where there is an error there is nothing -/
theorem lateM_bad {m : Mach} {to : Int} : (lateM m to).2.2 ≠ 0 → (lateM m to).1 = mach0 := by
  unfold lateM
  dsimp only
  refine iteInduction (motive := fun x : Mach × Bool × Int => x.2.2 ≠ 0 → x.1 = mach0) (fun _ _ => rfl) (fun _ => ?_)
  refine iteInduction (motive := fun x : Mach × Bool × Int => x.2.2 ≠ 0 → x.1 = mach0) (fun _ _ => rfl) (fun _ => ?_)
  exact iteInduction (motive := fun x : Mach × Bool × Int => x.2.2 ≠ 0 → x.1 = mach0) (fun _ _ => rfl) (fun _ h => absurd rfl h)
theorem stepM_bad {m : Mach} : (stepM m).2.2 ≠ 0 → (stepM m).1 = mach0 := by
  unfold stepM
  dsimp only
  refine iteInduction (motive := fun x : Mach × Bool × Int => x.2.2 ≠ 0 → x.1 = mach0) (fun _ _ => rfl) (fun _ => ?_)
  refine iteInduction (motive := fun x : Mach × Bool × Int => x.2.2 ≠ 0 → x.1 = mach0) (fun _ h => absurd rfl h) (fun _ => ?_)
  refine iteInduction (motive := fun x : Mach × Bool × Int => x.2.2 ≠ 0 → x.1 = mach0) (fun _ => ?_) (fun _ => ?_)
  · exact iteInduction (motive := fun x : Mach × Bool × Int => x.2.2 ≠ 0 → x.1 = mach0) (fun _ _ => rfl) (fun _ h => absurd rfl h)
  · exact iteInduction (motive := fun x : Mach × Bool × Int => x.2.2 ≠ 0 → x.1 = mach0) (fun _ => lateM_bad) (fun _ h => absurd rfl h)
end Go.Proofs.Ytdapgcdenpgnaaa

/-
  The document's run; what is asked of machines.
-/
namespace Go.Proofs.Ytdapgcdenpgnaaa
open Go Go.Plat
set_option linter.unusedVariables false
set_option linter.unusedSimpArgs false
set_option maxRecDepth 100000
set_option maxHeartbeats 2000000
attribute [local irreducible] NilS LookS NormM bitI BytesS NormL Arith QuoS RemS ShlS ShrS BitS CatS SplitS SideS IdxS CallS LoopEnd EndS ModeS DrawS AWP Meets
attribute [local irreducible] irows infoR decI signedI putN rrows rinfo shapeM inM getN toM ldM and32M or32M xor32M leadsM fetchM plainM leapM stepM sameI

theorem rrun_meets : Meets Try.prog n_plref6_Run (SpecP (fun ((m, most) : Mach × Int) => InM 0 m) (fun (m, most) => [machD m, .int .i64 most]) fun (m, most) => .tup [machD (runV m most).1, .int .i64 (runV m most).2]) := by
  refine meets_f tabOk Try.func16 rfl (by decide) ?_
  rintro ⟨m, most⟩ hm
  have hm : InM 0 m := hm
  have htold := hm.told
  refine ⟨Nat.le_refl _, by simp [Try.f16], fun E hE => ?_⟩
  refine vcOk _ ?_
  (all_goals refine qgv ?_ <;> (repeat' first | exact trivial | intro hc | refine And.intro ?_ ?_) <;> refine Lf.mk ?_)
  · have hR : runV m most = (mach0, 3) := by unfold runV; rw [if_pos (by omega)]
    refine end_p (VS.mk ?_)
    dsimp only; rw [hR]
    (first | exact LeL.refl _ | (repeat' (first | exact LeL.nil | exact LeD.refl _ | exact LeD.nil _ | exact LeD.strip _ _ _ | refine LeL.cons ?_ ?_ | refine LeD.tup ?_ | refine LeD.agg ?_)))
    all_goals first | exact LeD.ff rfl | skip
  · have hR : runV m most = (mach0, 3) := by unfold runV; rw [if_pos (by omega)]
    refine end_p (VS.mk ?_)
    dsimp only; rw [hR]
    (first | exact LeL.refl _ | (repeat' (first | exact LeL.nil | exact LeD.refl _ | exact LeD.nil _ | exact LeD.strip _ _ _ | refine LeL.cons ?_ ?_ | refine LeD.tup ?_ | refine LeD.agg ?_)))
    all_goals first | exact LeD.ff rfl | skip
  have hR : runV m most = runM most.toNat m := by unfold runV; rw [if_neg (by omega)]
  refine awp_loop (α := Nat × Mach) (fun p => (p.1 : Int) ≤ most ∧ InM (3 * p.1) p.2 ∧ runM (most.toNat - p.1) p.2 = runM most.toNat m)
    (fun p => [(16, .int .i64 most), (17, .int .i64 p.1), (2, .loc 0 0), (4, .loc 1 0)])
    (fun p => [.cells (machC p.2), .cells zeroC]) (fun p => most.toNat - p.1) (fun _ => by simp [hE]) (0, m) ⟨by omega, hm, by rw [Nat.sub_zero]⟩ ?_ ?_
  · (repeat' (first | (refine VS.mk ?_) | exact trivial | exact rfl | refine And.intro ?_ ?_))
  rintro ⟨k, x⟩ ⟨hk, hx, hrun⟩
  dsimp only at hk hx hrun
  refine vcOk _ ?_
  (all_goals refine qgv ?_ <;> (repeat' first | exact trivial | intro hc | refine And.intro ?_ ?_) <;> refine Lf.mk ?_)
  · refine call_p rstep_meets x (hx.mono (by omega)) (VS.mk (LeL.of_eq rfl)) ?_
    have hin := stepM_in hx
    obtain ⟨y, en, e, hy⟩ : ∃ y en e, stepM x = (y, en, e) := ⟨_, _, _, rfl⟩
    have hst : runM (most.toNat - k) x = if e ≠ 0 then (mach0, e) else if en = true then (y, 0) else runM (most.toNat - (k + 1)) y := by
      rw [show most.toNat - k = (most.toNat - (k + 1)) + 1 by omega, runM, hy]
    rw [hy] at hin
    unfold stepR
    rw [hy]
    dsimp only at hin ⊢
    (all_goals refine qgv ?_ <;> (repeat' first | exact trivial | intro hc | refine And.intro ?_ ?_) <;> refine Lf.mk ?_)
    · rw [if_pos hc] at hst
      refine end_p (VS.mk ?_)
      (try dsimp only); rw [hR, ← hrun, hst]
      (first | exact LeL.refl _ | (repeat' (first | exact LeL.nil | exact LeD.refl _ | exact LeD.nil _ | exact LeD.strip _ _ _ | refine LeL.cons ?_ ?_ | refine LeD.tup ?_ | refine LeD.agg ?_)))
      all_goals first | exact LeD.ff rfl | skip
    · rw [if_neg (by omega), if_pos hc] at hst
      refine end_p (VS.mk ?_)
      (try dsimp only); rw [hR, ← hrun, hst]
      (first | exact LeL.refl _ | (repeat' (first | exact LeL.nil | exact LeD.refl _ | exact LeD.nil _ | exact LeD.strip _ _ _ | refine LeL.cons ?_ ?_ | refine LeD.tup ?_ | refine LeD.agg ?_)))
    · rw [if_neg (by omega), if_neg (by rw [hc]; decide)] at hst
      refine loop_end (k + 1, y) ⟨by dsimp only; omega, by dsimp only; exact (hin (by assumption)).mono (by omega), by dsimp only; rw [← hst, hrun]⟩ (by dsimp only; omega) ?_
      (repeat' (first | (refine VS.mk ?_) | exact trivial | exact rfl | refine And.intro ?_ ?_))
  · have hst : runM (most.toNat - k) x = (mach0, 13) := by rw [show most.toNat - k = 0 by omega]; rfl
    refine end_p (VS.mk ?_)
    (try dsimp only); rw [hR, ← hrun, hst]
    (first | exact LeL.refl _ | (repeat' (first | exact LeL.nil | exact LeD.refl _ | exact LeD.nil _ | exact LeD.strip _ _ _ | refine LeL.cons ?_ ?_ | refine LeD.tup ?_ | refine LeD.agg ?_)))
    all_goals first | exact LeD.ff rfl | skip

def regsR (m : Mach) : Prop := ∀ j, j < 16 → m.r j = signedI (m.r j) 32
def okM (m : Mach) : Prop := regsR m ∧ (0 ≤ m.img.base ∧ m.img.base ≤ 1048576 ∧ 0 ≤ m.steps ∧ m.steps ≤ 1000000 ∧ m.pc = signedI m.pc 32 ∧ m.pr = signedI m.pr 32)
noncomputable def okB (m : Mach) : Bool := @decide (okM m) (Classical.propDecidable _)
theorem okB_ff {m : Mach} (h : ¬ okM m) : okB m = false := @decide_eq_false _ (Classical.propDecidable _) h
theorem okB_tt {m : Mach} (h : okM m) : okB m = true := @decide_eq_true _ (Classical.propDecidable _) h
theorem okB_iff {m : Mach} : okB m = true ↔ okM m := @decide_eq_true_iff _ (Classical.propDecidable _)
theorem rsigned2 : Meets Try.prog n_plref1_Signed (SpecP (fun _ : Int => True) (fun n => [.int .i64 n]) fun n => .int .i64 (signedI n 32)) := by
  have h : (fun n : Int => D.int .i64 (signedI n 32)) = fun n => .int .i64 (if n % 4294967296 / 2147483648 = 1 then n % 4294967296 - 4294967296 else n % 4294967296) := by
    funext n; unfold signedI; rfl
  rw [h]; exact rsigned_meets
theorem right_meets : Meets Try.prog n_pllaw9_right (SpecP (fun _ : Mach => True) (fun m => [machD m]) fun m => .bool (okB m)) := by
  refine meets_f tabOk Try.func6 rfl (by decide) fun m _ => ?_
  refine ⟨Nat.le_refl _, by simp [Try.f6], fun E hE => ?_⟩
  refine vcOk _ ?_
  (all_goals refine qgv ?_ <;> (repeat' first | exact trivial | intro hc | refine And.intro ?_ ?_) <;> refine Lf.mk ?_)
  refine awp_loop (α := Nat) (fun k => k ≤ 16 ∧ ∀ j, j < k → m.r j = signedI (m.r j) 32) (fun k => [(6, .agg [.int .i64 (m.r 0), .int .i64 (m.r 1), .int .i64 (m.r 2), .int .i64 (m.r 3), .int .i64 (m.r 4), .int .i64 (m.r 5), .int .i64 (m.r 6), .int .i64 (m.r 7), .int .i64 (m.r 8), .int .i64 (m.r 9), .int .i64 (m.r 10), .int .i64 (m.r 11), .int .i64 (m.r 12), .int .i64 (m.r 13), .int .i64 (m.r 14), .int .i64 (m.r 15)]), (7, .int .i64 k), (1, .loc 0 0)]) (fun _ => [.cells (machC m)]) (fun k => 16 - k) (fun _ => by simp [hE]) 0 ⟨by omega, fun j h => by omega⟩ ?_ ?_
  · (repeat' (first | (refine VS.mk ?_) | exact trivial | exact rfl | refine And.intro ?_ ?_))
  rintro k ⟨hk, hall⟩
  refine vcOk _ ?_
  (all_goals refine qgv ?_ <;> (repeat' first | exact trivial | intro hc | refine And.intro ?_ ?_) <;> refine Lf.mk ?_)
  · refine reg_ixv (n := (k : Int)) (by omega) (by omega) ?_
    (all_goals refine qgv ?_ <;> (repeat' first | exact trivial | intro hc | refine And.intro ?_ ?_) <;> refine Lf.mk ?_)
    refine call_p rsigned2 (m.r k) trivial (VS.mk (LeL.of_eq rfl)) ?_
    (all_goals refine qgv ?_ <;> (repeat' first | exact trivial | intro hc | refine And.intro ?_ ?_) <;> refine Lf.mk ?_)
    · refine end_p (VS.mk (LeD.ff (okB_ff fun h => hc (h.1 k (by omega)))))
    · have hall2 : ∀ j, j < k + 1 → m.r j = signedI (m.r j) 32 := fun j hj => by
        rcases Nat.lt_or_ge j k with h | h
        · exact hall j h
        · rw [show j = k by omega]; exact hc
      refine loop_end (k + 1) ⟨by omega, hall2⟩ (by omega) ?_
      (repeat' (first | (refine VS.mk ?_) | exact trivial | exact rfl | refine And.intro ?_ ?_))
  · have hR : regsR m := fun j hj => hall j (by omega)
    refine call_p rsigned2 m.pc trivial (VS.mk (LeL.of_eq rfl)) ?_
    (all_goals refine qgv ?_ <;> (repeat' first | exact trivial | intro hc | refine And.intro ?_ ?_) <;> refine Lf.mk ?_)
    · refine call_p rsigned2 m.pr trivial (VS.mk (LeL.of_eq rfl)) ?_
      (all_goals refine qgv ?_ <;> (repeat' first | exact trivial | intro hc | refine And.intro ?_ ?_) <;> refine Lf.mk ?_)
      refine end_p (VS.mk (LeD.of_eq (congrArg D.bool ?_)))
      rw [Bool.eq_iff_iff, okB_iff, beq_iff_eq]
      exact ⟨fun h => ⟨hR, by assumption, by assumption, by assumption, by assumption, by assumption, h⟩, fun h => h.2.2.2.2.2.2⟩
    · exact end_p (VS.mk (LeD.ff (okB_ff fun h => hc h.2.2.2.2.2.1)))
  · exact end_p (VS.mk (LeD.ff (okB_ff fun h => hc h.2.2.2.2.1)))
  · exact end_p (VS.mk (LeD.ff (okB_ff fun h => hc h.2.2.2.1)))
  · exact end_p (VS.mk (LeD.ff (okB_ff fun h => hc h.2.2.1)))
  · exact end_p (VS.mk (LeD.ff (okB_ff fun h => hc h.2.1)))

theorem okM_in {m : Mach} (h : okM m) (h1 : m.img.bytes.length ≤ 1048576) (h2 : m.img.syms.length ≤ 1048576) (h3 : m.told.length ≤ 1048576) : InM 0 m := by
  obtain ⟨r, b0, b1, s0, s1, hp, hq⟩ := h
  have p := sg_bd m.pc
  have q := sg_bd m.pr
  refine ⟨fun j hj => by rw [r j hj]; exact sg_bd _, by omega, by omega, ⟨b0, b1⟩, h1, h2, by omega, by omega⟩
theorem EqM.run (m : Mach) : EqM m m := .refl m
theorem no_same {x : Mach} (h : sameM x x = false) : False := by rw [sameM_tt (.refl x)] at h; cases h
theorem no_sameI {x : OImg} (h : sameI x x = false) : False := by rw [sameI_eq.2 rfl] at h; cases h
theorem mach0_in (k : Nat) : InM k mach0 := ⟨fun j _ => ⟨by show -2147483648 ≤ (0 : Int); decide, by show (0 : Int) ≤ 2147483647; decide⟩, ⟨by show _ ≤ (0 : Int); omega, by show (0 : Int) ≤ _; omega⟩, ⟨by show _ ≤ (0 : Int); omega, by show (0 : Int) ≤ _; omega⟩, ⟨by show (0 : Int) ≤ 0; decide, by show (0 : Int) ≤ _; decide⟩, Nat.zero_le _, Nat.zero_le _, Nat.zero_le _, ⟨by show (0 : Int) ≤ 0; decide, by show (0 : Int) ≤ _; omega⟩⟩
theorem runM_in : ∀ {n k : Nat} {m : Mach}, InM k m → InM (k + 3 * n) (runM n m).1
  | 0, k, m, h => mach0_in _
  | n + 1, k, m, h => by
    rw [runM_succ]
    have hs := stepM_in h
    by_cases h1 : (stepM m).2.2 ≠ 0
    · rw [if_pos h1]; exact mach0_in _
    · rw [if_neg h1]
      have hs := hs (Classical.not_not.1 h1)
      by_cases h2 : (stepM m).2.1 = true
      · rw [if_pos h2]; exact hs.mono (by omega)
      · rw [if_neg h2]; exact (runM_in (n := n) hs).mono (by omega)
theorem runV_in {m : Mach} (h : InM 0 m) (most : Int) : InM 6000 (runV m most).1 := by
  unfold runV
  refine iteInduction (motive := fun x : Mach × Int => InM 6000 x.1) (fun _ => mach0_in _) (fun h' => ?_)
  exact (runM_in h).mono (by omega)
attribute [local irreducible] okB runV sameM
theorem stells_meets : Meets Try.prog n_pllaw9_SimTells (SpecP (fun ((m, most) : Mach × Int) => m.img.bytes.length ≤ 1048576 ∧ m.img.syms.length ≤ 1048576 ∧ m.told.length ≤ 1048576) (fun (m, most) => [machD m, .int .i64 most]) fun _ => .bool true) := by
  refine meets_f tabOk Try.func3 rfl (by decide) ?_
  rintro ⟨m, most⟩ ⟨h1, h2, h3⟩
  refine ⟨Nat.le_refl _, by simp [Try.f3], fun E hE => ?_⟩
  refine vcOk _ ?_
  (all_goals refine qgv ?_ <;> (repeat' first | exact trivial | intro hc | refine And.intro ?_ ?_) <;> refine Lf.mk ?_)
  refine call_p right_meets m trivial (VS.mk (LeL.of_eq rfl)) ?_
  (all_goals refine qgv ?_ <;> (repeat' first | exact trivial | intro hc | refine And.intro ?_ ?_) <;> refine Lf.mk ?_)
  · exact end_p (VS.mk (LeD.tt rfl))
  have hm := okM_in (okB_iff.1 (by assumption)) h1 h2 h3
  refine call_p step_meets m (hm.mono (by decide)) (VS.mk (LeL.of_eq rfl)) ?_
  unfold stepR
  have hx := stepM_in hm
  obtain ⟨x, en, e, hs⟩ : ∃ x en e, stepM m = (x, en, e) := ⟨_, _, _, rfl⟩
  rw [hs] at hx ⊢
  dsimp only at hx ⊢
  (all_goals refine qgv ?_ <;> (repeat' first | exact trivial | intro hc | refine And.intro ?_ ?_) <;> refine Lf.mk ?_)
  refine call_p rstep_meets m (hm.mono (by decide)) (VS.mk (LeL.of_eq rfl)) ?_
  unfold stepR
  rw [hs]
  dsimp only
  have hxs : x.img.syms.length ≤ 4294967296 ∧ x.told.length ≤ 4294967296 := by
    by_cases he : e = 0
    · have h := hx he
      exact ⟨by have := h.syms; omega, by have := h.told; omega⟩
    · have := stepM_bad (m := m)
      rw [hs] at this
      obtain rfl := this he
      exact ⟨Nat.zero_le _, Nat.zero_le _⟩
  (all_goals refine qgv ?_ <;> (repeat' first | exact trivial | intro hc | refine And.intro ?_ ?_) <;> refine Lf.mk ?_)
  all_goals try (exfalso; exact hc trivial)
  refine call_p samem_meets (x, x) hxs (VS.mk (LeL.of_eq rfl)) ?_
  (all_goals refine qgv ?_ <;> (repeat' first | exact trivial | intro hc | refine And.intro ?_ ?_) <;> refine Lf.mk ?_)
  all_goals try (exfalso; exact no_same hc)
  refine call_p own_meets m ⟨h1, h2, by omega⟩ (VS.mk (LeL.of_eq rfl)) ?_
  (all_goals refine qgv ?_ <;> (repeat' first | exact trivial | intro hc | refine And.intro ?_ ?_) <;> refine Lf.mk ?_)
  refine call_p samem_meets (m, m) ⟨by omega, by omega⟩ (VS.mk (LeL.of_eq rfl)) ?_
  (all_goals refine qgv ?_ <;> (repeat' first | exact trivial | intro hc | refine And.intro ?_ ?_) <;> refine Lf.mk ?_)
  all_goals try (exfalso; exact no_same hc)
  refine call_p new_meets m.img ⟨h1, h2⟩ (VS.mk (LeL.of_eq rfl)) ?_
  (all_goals refine qgv ?_ <;> (repeat' first | exact trivial | intro hc | refine And.intro ?_ ?_) <;> refine Lf.mk ?_)
  refine call_p rnew_meets m.img trivial (VS.mk (LeL.of_eq rfl)) ?_
  (all_goals refine qgv ?_ <;> (repeat' first | exact trivial | intro hc | refine And.intro ?_ ?_) <;> refine Lf.mk ?_)
  refine call_p samem_meets (newM m.img, newM m.img) ⟨by show m.img.syms.length ≤ _; omega, by show 0 ≤ _; omega⟩ (VS.mk (LeL.of_eq rfl)) ?_
  (all_goals refine qgv ?_ <;> (repeat' first | exact trivial | intro hc | refine And.intro ?_ ?_) <;> refine Lf.mk ?_)
  all_goals try (exfalso; exact no_same hc)
  refine call_p image_meets m.img ⟨h1, h2⟩ (VS.mk (LeL.of_eq rfl)) ?_
  (all_goals refine qgv ?_ <;> (repeat' first | exact trivial | intro hc | refine And.intro ?_ ?_) <;> refine Lf.mk ?_)
  refine call_p sameimg_meets (m.img, m.img) (by dsimp only; omega) (VS.mk (LeL.of_eq rfl)) ?_
  (all_goals refine qgv ?_ <;> (repeat' first | exact trivial | intro hc | refine And.intro ?_ ?_) <;> refine Lf.mk ?_)
  all_goals try (exfalso; exact no_sameI hc)
  refine call_p run_meets (m, most) hm (VS.mk (LeL.of_eq rfl)) ?_
  have hr := runV_in hm most
  obtain ⟨y, f, hy⟩ : ∃ y f, runV m most = (y, f) := ⟨_, _, rfl⟩
  dsimp only
  rw [hy] at hr ⊢
  dsimp only at hr ⊢
  (all_goals refine qgv ?_ <;> (repeat' first | exact trivial | intro hc | refine And.intro ?_ ?_) <;> refine Lf.mk ?_)
  refine call_p rrun_meets (m, most) hm (VS.mk (LeL.of_eq rfl)) ?_
  dsimp only
  rw [hy]
  dsimp only
  (all_goals refine qgv ?_ <;> (repeat' first | exact trivial | intro hc | refine And.intro ?_ ?_) <;> refine Lf.mk ?_)
  all_goals try (exfalso; exact hc trivial)
  refine call_p samem_meets (y, y) ⟨by have := hr.syms; omega, by have := hr.told; omega⟩ (VS.mk (LeL.of_eq rfl)) ?_
  (all_goals refine qgv ?_ <;> (repeat' first | exact trivial | intro hc | refine And.intro ?_ ?_) <;> refine Lf.mk ?_)
  refine end_p (VS.mk (LeD.of_eq (congrArg D.bool (sameM_tt (.refl y)))))
end Go.Proofs.Ytdapgcdenpgnaaa

/-
  What the bound on what is handed in gives.
-/
namespace Go.Proofs.Ytdapgcdenpgnaaa
open Go Go.Plat
set_option linter.unusedVariables false
set_option linter.unusedSimpArgs false
set_option maxRecDepth 100000
set_option maxHeartbeats 2000000
attribute [local irreducible] NilS LookS NormM bitI BytesS NormL Arith QuoS RemS ShlS ShrS BitS CatS SplitS SideS IdxS CallS LoopEnd EndS ModeS DrawS AWP Meets
theorem own : ownKnob Try.prog.godebug = none := by kernel_rfl

theorem one_le {H : Type} (d : DataW H) : 1 ≤ Rows.uptoBulk d := by
  cases d with
  | lit l => cases l <;> simp [Rows.uptoBulk]
  | nil => simp [Rows.uptoBulk]
  | ptr d => simp [Rows.uptoBulk]
  | slice el sp => simp [Rows.uptoBulk]
  | agg ps => simp [Rows.uptoBulk]
  | iface t d => simp [Rows.uptoBulk]
  | map es => simp [Rows.uptoBulk]
  | held h => simp [Rows.uptoBulk]
theorem part_le {H : Type} {d : DataW H} {l : List (DataW H)} (h : d ∈ l) : Rows.uptoBulk d ≤ Rows.uptoBulkAll l := by
  induction l with
  | nil => cases h
  | cons x r ih =>
    simp only [Rows.uptoBulkAll]
    cases List.mem_cons.1 h with
    | inl e => subst e; omega
    | inr e => have := ih e; omega
theorem length_le {H : Type} (l : List (DataW H)) : l.length ≤ Rows.uptoBulkAll l := by
  induction l with
  | nil => simp [Rows.uptoBulkAll]
  | cons x r ih => have := one_le x; simp only [Rows.uptoBulkAll, List.length_cons]; omega
theorem elems_all {H : Type} (d : DataW H) : Rows.uptoBulkAll (elems d) ≤ Rows.uptoBulk d := by
  cases d <;> simp only [elems, Rows.uptoBulk, Rows.uptoBulkAll] <;> omega
theorem elems_le {H : Type} (d : DataW H) : (elems d).length ≤ Rows.uptoBulk d := Nat.le_trans (length_le _) (elems_all d)
theorem bound {H : Type} {l : List (DataW H)} (hk : Rows.uptoSmall H l = true) : Rows.uptoBulkAll l ≤ 1048576 := of_decide_eq_true hk
end Go.Proofs.Ytdapgcdenpgnaaa

/-
  What machines read as.
-/
namespace Go.Proofs.Ytdapgcdenpgnaaa
open Go Go.Plat
set_option linter.unusedVariables false
set_option linter.unusedSimpArgs false
set_option maxRecDepth 100000
set_option maxHeartbeats 2000000
attribute [local irreducible] NilS LookS NormM bitI BytesS NormL Arith QuoS RemS ShlS ShrS BitS CatS SplitS SideS IdxS CallS LoopEnd EndS ModeS DrawS AWP Meets

abbrev i64Sh : Sh := .int .i64
abbrev bytesSh : Sh := .sl 1 (.int .u8)
def symSh : Sh := .fld .str (.fld i64Sh .fin)
def imgSh : Sh := .fld i64Sh (.fld bytesSh (.fld (.sl 2 symSh) .fin))
def machSh : Sh := .fld (.arr 16 i64Sh) (.fld .bool (.fld i64Sh (.fld i64Sh (.fld imgSh (.fld (.sl 1 i64Sh) (.fld i64Sh .fin))))))
theorem fit_sym {H : Type} {d : DataW H} (h : fit symSh (.inl d)) : ∃ s : OSym, rd symSh d = symD s ∧ s.name.length ≤ Rows.uptoBulk d := by
  obtain ⟨p0, r0, rfl, h0, k0⟩ := fit_fld h
  obtain ⟨p1, r1, rfl, h1, k1⟩ := fit_more k0
  obtain rfl := fit_fin k1
  obtain ⟨s, rfl, e0⟩ := fit_str h0
  obtain ⟨n, e1, _⟩ := fit_i64 h1
  refine ⟨⟨s, n⟩, ?_, ?_⟩
  · unfold symSh
    rw [rd_fld]
    simp only [rdF_cons, rdF_nil]
    rw [cl_one e0 rfl (by simp), cl_one e1 rfl (by simp)]
    rfl
  · simp only [Rows.uptoBulk, Rows.uptoBulkAll]
    omega
theorem fit_img {H : Type} {d : DataW H} (h : fit imgSh (.inl d)) : ∃ i : OImg, cl imgSh (.inl d) = [.int .i64 i.base, bytesD i.bytes, .sl 2 (i.syms.map symD) none] ∧ i.bytes.length ≤ Rows.uptoBulk d ∧ i.syms.length ≤ Rows.uptoBulk d := by
  obtain ⟨p0, r0, rfl, h0, k0⟩ := fit_fld h
  obtain ⟨p1, r1, rfl, h1, k1⟩ := fit_more k0
  obtain ⟨p2, r2, rfl, h2, k2⟩ := fit_more k1
  obtain rfl := fit_fin k2
  obtain ⟨n, e0, _⟩ := fit_i64 h0
  obtain ⟨b, e1, l1⟩ := fit_bytes h1
  obtain ⟨ss, e2, l2, q2⟩ := fit_sl (g := symD) (Q := fun d s => True) h2 fun x _ hx => by
    obtain ⟨s, hs, _⟩ := fit_sym hx
    exact ⟨s, hs, trivial⟩
  have b1 := elems_le p1
  have b2 := elems_le p2
  simp only [Rows.uptoBulk, Rows.uptoBulkAll]
  refine ⟨⟨n, b, ss⟩, ?_, by dsimp only; omega, by dsimp only; omega⟩
  unfold imgSh
  rw [cl_fld]
  simp only [rdF_cons, rdF_nil]
  rw [cl_one e0 rfl (by simp), cl_one e1 rfl (by simp [bytesD]), cl_one e2 rfl (by simp)]
  rfl
theorem fit_regs {H : Type} {d : DataW H} (h : fit (.arr 16 i64Sh) (.inl d)) : ∃ r : Nat → Int, cl (.arr 16 i64Sh) (.inl d) =
    [.int .i64 (r 0), .int .i64 (r 1), .int .i64 (r 2), .int .i64 (r 3), .int .i64 (r 4), .int .i64 (r 5), .int .i64 (r 6), .int .i64 (r 7), .int .i64 (r 8), .int .i64 (r 9), .int .i64 (r 10), .int .i64 (r 11), .int .i64 (r 12), .int .i64 (r 13), .int .i64 (r 14), .int .i64 (r 15)] := by
  have h : ∃ ps, d = .agg ps ∧ ps.length = 16 ∧ ∀ x ∈ ps, fit i64Sh (.inl x) := by simpa only [fit] using h
  obtain ⟨ps, rfl, hl, hf⟩ := h
  have key : ∀ l : List (DataW H), (∀ x ∈ l, fit i64Sh (.inl x)) → ∃ ns : List Int, ns.length = l.length ∧ (l.flatMap fun x => cl i64Sh (.inl x)) = ns.map (D.int .i64) := by
    intro l
    induction l with
    | nil => intro _; exact ⟨[], rfl, rfl⟩
    | cons x r ih =>
      intro hx
      obtain ⟨ns, h1, h2⟩ := ih fun y hy => hx y (List.mem_cons_of_mem _ hy)
      obtain ⟨n, e, _⟩ := fit_i64 (hx x (List.mem_cons_self ..))
      refine ⟨n :: ns, by simp [h1], ?_⟩
      rw [List.flatMap_cons, h2, cl_one e rfl (by simp)]
      rfl
  obtain ⟨ns, h1, h2⟩ := key ps hf
  rw [hl] at h1
  refine ⟨fun k => ns.getD k 0, ?_⟩
  have : cl (.arr 16 i64Sh) (.inl (.agg ps)) = ps.flatMap fun x => cl i64Sh (.inl x) := by simp only [cl]
  rw [this, h2]
  match ns, h1 with
  | [_, _, _, _, _, _, _, _, _, _, _, _, _, _, _, _], _ => rfl
theorem fit_mach {H : Type} {d : DataW H} (h : fit machSh (.inl d)) (hb : Rows.uptoBulk d ≤ 1048576) : ∃ m : Mach, rd machSh d = machD m ∧ m.img.bytes.length ≤ 1048576 ∧ m.img.syms.length ≤ 1048576 ∧ m.told.length ≤ 1048576 := by
  obtain ⟨p0, r0, rfl, h0, k0⟩ := fit_fld h
  obtain ⟨p1, r1, rfl, h1, k1⟩ := fit_more k0
  obtain ⟨p2, r2, rfl, h2, k2⟩ := fit_more k1
  obtain ⟨p3, r3, rfl, h3, k3⟩ := fit_more k2
  obtain ⟨p4, r4, rfl, h4, k4⟩ := fit_more k3
  obtain ⟨p5, r5, rfl, h5, k5⟩ := fit_more k4
  obtain ⟨p6, r6, rfl, h6, k6⟩ := fit_more k5
  obtain rfl := fit_fin k6
  obtain ⟨r, e0⟩ := fit_regs h0
  obtain ⟨t, e1⟩ := fit_bool h1
  obtain ⟨pc, e2, _⟩ := fit_i64 h2
  obtain ⟨pr, e3, _⟩ := fit_i64 h3
  obtain ⟨i, e4, l4, l4'⟩ := fit_img h4
  obtain ⟨ts, e5, l5, _⟩ := fit_sl (g := intD) (Q := fun d s => True) h5 fun x _ hx => by
    obtain ⟨s, hs, _⟩ := fit_i64 hx
    exact ⟨s, hs, trivial⟩
  obtain ⟨st, e6, _⟩ := fit_i64 h6
  have b5 := elems_le p5
  simp only [Rows.uptoBulk, Rows.uptoBulkAll] at hb
  refine ⟨⟨r, t, pc, pr, i, ts, st⟩, ?_, by dsimp only; omega, by dsimp only; omega, by dsimp only; omega⟩
  unfold machSh
  rw [rd_fld]
  simp only [rdF_cons, rdF_nil]
  rw [e0, e4, cl_one e1 rfl (by simp), cl_one e2 rfl (by simp), cl_one e3 rfl (by simp), cl_one e5 rfl (by simp), cl_one e6 rfl (by simp)]
  rfl
end Go.Proofs.Ytdapgcdenpgnaaa

/-
  Step by step as at once; what is not written stays.
-/
namespace Go.Proofs.Ytdapgcdenpgnaaa
open Go Go.Plat
set_option linter.unusedVariables false
set_option linter.unusedSimpArgs false
set_option maxRecDepth 100000
set_option maxHeartbeats 2000000
attribute [local irreducible] NilS LookS NormM bitI BytesS NormL Arith QuoS RemS ShlS ShrS BitS CatS SplitS SideS IdxS CallS LoopEnd EndS ModeS DrawS AWP Meets
attribute [local irreducible] irows infoR decI signedI putN rrows rinfo shapeM inM getN toM ldM and32M or32M xor32M leadsM fetchM plainM leapM stepM sameI okB runV sameM runM

def aliveImg : OImg := ⟨8, [225, 5, 195, 0], []⟩
theorem alive_in : InM 0 (newM aliveImg) := by
  refine ⟨fun j _ => ⟨by show -2147483648 ≤ (0 : Int); decide, by show (0 : Int) ≤ _; decide⟩, ⟨by decide, by decide⟩, ⟨by decide, by decide⟩, ⟨by decide, by decide⟩, by decide, by decide, by decide, ⟨by decide, by decide⟩⟩
theorem alive_run : (runV (newM aliveImg) 9).2 = 0 ∧ (runV (newM aliveImg) 9).1.r 1 = 5 ∧ (runV (newM aliveImg) 9).1.steps = 2 ∧ (runV (newM aliveImg) 9).1.img.bytes.length = 4 := ⟨by kernel_rfl, by kernel_rfl, by kernel_rfl, by kernel_rfl⟩
theorem alive_step : (stepM (newM aliveImg)).2.2 = 0 ∧ (stepM (newM aliveImg)).2.1 = false ∧ (stepM (newM aliveImg)).1.pc = 10 := ⟨by kernel_rfl, by kernel_rfl, by kernel_rfl⟩

theorem alive9_meets : Meets Try.prog n_pllaw9_alive (SpecP (fun _ : Unit => True) (fun _ => []) fun _ => .bool true) := by
  refine meets_f tabOk Try.func17 rfl (by decide) fun _ _ => ?_
  refine ⟨Nat.le_refl _, by simp [Try.f17], fun E hE => ?_⟩
  refine vcOk _ ?_
  (all_goals refine qgv ?_ <;> (repeat' first | exact trivial | intro hc | refine And.intro ?_ ?_) <;> refine Lf.mk ?_)
  refine call_p new_meets aliveImg ⟨by decide, by decide⟩ (VS.mk (by (first | exact LeL.refl _ | (repeat' (first | exact LeL.nil | exact LeD.refl _ | exact LeD.nil _ | exact LeD.strip _ _ _ | refine LeL.cons ?_ ?_ | refine LeD.tup ?_ | refine LeD.agg ?_))))) ?_
  (all_goals refine qgv ?_ <;> (repeat' first | exact trivial | intro hc | refine And.intro ?_ ?_) <;> refine Lf.mk ?_)
  obtain ⟨a1, a2, a3, a4⟩ := alive_run
  have hr := runV_in alive_in 9
  refine call_p run_meets (newM aliveImg, 9) alive_in (VS.mk (LeL.of_eq rfl)) ?_
  obtain ⟨y, f, hy⟩ : ∃ y f, runV (newM aliveImg) 9 = (y, f) := ⟨_, _, rfl⟩
  dsimp only
  rw [hy] at hr a1 a2 a3 a4 ⊢
  dsimp only at hr a1 a2 a3 a4 ⊢
  subst a1
  (all_goals refine qgv ?_ <;> (repeat' first | exact trivial | intro hc | refine And.intro ?_ ?_) <;> refine Lf.mk ?_)
  refine call_p new_meets aliveImg ⟨by decide, by decide⟩ (VS.mk (by (first | exact LeL.refl _ | (repeat' (first | exact LeL.nil | exact LeD.refl _ | exact LeD.nil _ | exact LeD.strip _ _ _ | refine LeL.cons ?_ ?_ | refine LeD.tup ?_ | refine LeD.agg ?_))))) ?_
  (all_goals refine qgv ?_ <;> (repeat' first | exact trivial | intro hc | refine And.intro ?_ ?_) <;> refine Lf.mk ?_)
  obtain ⟨b1, b2, b3⟩ := alive_step
  refine call_p step_meets (newM aliveImg) (alive_in.mono (by decide)) (VS.mk (LeL.of_eq rfl)) ?_
  unfold stepR
  obtain ⟨x, en, e, hs⟩ : ∃ x en e, stepM (newM aliveImg) = (x, en, e) := ⟨_, _, _, rfl⟩
  rw [hs] at b1 b2 b3 ⊢
  dsimp only at b1 b2 b3 ⊢
  subst b1 b2
  (all_goals refine qgv ?_ <;> (repeat' first | exact trivial | intro hc | refine And.intro ?_ ?_) <;> refine Lf.mk ?_)
  all_goals try (exfalso; first | (cases hc; done) | exact hc trivial | exact hc a2 | exact hc a3 | exact hc b3)
  refine call_p own_meets y ⟨hr.len, hr.syms, by have := hr.told; omega⟩ (VS.mk (LeL.of_eq rfl)) ?_
  (all_goals refine qgv ?_ <;> (repeat' first | exact trivial | intro hc | refine And.intro ?_ ?_) <;> refine Lf.mk ?_)
  all_goals try (exfalso; omega)
  refine call_p image_meets aliveImg ⟨by decide, by decide⟩ (VS.mk (by (first | exact LeL.refl _ | (repeat' (first | exact LeL.nil | exact LeD.refl _ | exact LeD.nil _ | exact LeD.strip _ _ _ | refine LeL.cons ?_ ?_ | refine LeD.tup ?_ | refine LeD.agg ?_))))) ?_
  (all_goals refine qgv ?_ <;> (repeat' first | exact trivial | intro hc | refine And.intro ?_ ?_) <;> refine Lf.mk ?_)
  exact end_p (VS.mk (LeD.of_eq rfl))

theorem sparts_meets : Meets Try.prog n_pllaw9_SimParts (SpecP (fun ((m, most, more) : Mach × Int × Int) => m.img.bytes.length ≤ 1048576 ∧ m.img.syms.length ≤ 1048576 ∧ m.told.length ≤ 1048576) (fun (m, most, more) => [machD m, .int .i64 most, .int .i64 more]) fun _ => .bool true) := by
  refine meets_f tabOk Try.func4 rfl (by decide) ?_
  rintro ⟨m, most, more⟩ ⟨h1, h2, h3⟩
  refine ⟨Nat.le_refl _, by simp [Try.f4], fun E hE => ?_⟩
  refine vcOk _ ?_
  (all_goals refine qgv ?_ <;> (repeat' first | exact trivial | intro hc | refine And.intro ?_ ?_) <;> refine Lf.mk ?_)
  refine call_p alive9_meets () trivial (VS.mk (LeL.of_eq rfl)) ?_
  (all_goals refine qgv ?_ <;> (repeat' first | exact trivial | intro hc | refine And.intro ?_ ?_) <;> refine Lf.mk ?_)
  (any_goals (first | (exfalso; refine hc ?_; simp; done) | (exfalso; exact Bool.noConfusion hc) | (exfalso; exact hc (by with_reducible rfl)) | (exfalso; exact hc rfl) | skip))
  refine call_p right_meets m trivial (VS.mk (LeL.of_eq rfl)) ?_
  (all_goals refine qgv ?_ <;> (repeat' first | exact trivial | intro hc | refine And.intro ?_ ?_) <;> refine Lf.mk ?_)
  all_goals try (first | exact end_p (VS.mk (LeD.tt rfl)) | skip)
  have hm := okM_in (okB_iff.1 (by assumption)) h1 h2 h3
  refine call_p run_meets (m, most) hm (VS.mk (LeL.of_eq rfl)) ?_
  have hr := runV_in hm most
  obtain ⟨x, e, hx⟩ : ∃ x e, runV m most = (x, e) := ⟨_, _, rfl⟩
  dsimp only
  rw [hx] at hr ⊢
  dsimp only at hr ⊢
  (all_goals refine qgv ?_ <;> (repeat' first | exact trivial | intro hc | refine And.intro ?_ ?_) <;> refine Lf.mk ?_)
  · exact end_p (VS.mk (LeD.tt rfl))
  have he : e = 0 := by assumption
  subst he
  have hx1 : runM most.toNat m = (x, 0) := by rw [← hx]; unfold runV; rw [if_neg (by omega)]
  have hx2 : runV m more = (x, 0) := by unfold runV; rw [if_neg (by omega)]; exact runM_more hx1 (by omega)
  refine call_p run_meets (m, more) hm (VS.mk (LeL.of_eq rfl)) ?_
  dsimp only
  rw [hx2]
  dsimp only
  (all_goals refine qgv ?_ <;> (repeat' first | exact trivial | intro hc | refine And.intro ?_ ?_) <;> refine Lf.mk ?_)
  all_goals try (exfalso; exact hc trivial)
  refine call_p samem_meets (x, x) ⟨by have := hr.syms; omega, by have := hr.told; omega⟩ (VS.mk (LeL.of_eq rfl)) ?_
  (all_goals refine qgv ?_ <;> (repeat' first | exact trivial | intro hc | refine And.intro ?_ ?_) <;> refine Lf.mk ?_)
  all_goals try (exfalso; exact no_same hc)
  refine awp_loop (α := Nat × Mach) (fun p => (p.1 : Int) < most ∧ InM (3 * p.1) p.2 ∧ runM (most.toNat - p.1) p.2 = (x, 0) ∧ ∀ j, runM (p.1 + j) m = runM j p.2)
    (fun p => [(10, .int .i64 p.1), (11, .loc 3 0), (3, .loc 0 0), (7, .loc 1 0), (1, .int .i64 most)])
    (fun p => [.cells (machC m), .cells (machC x), .cells (machC x), .cells (machC p.2)]) (fun p => most.toNat - p.1) (fun _ => by simp [hE]) (0, m) ?_ ?_ ?_
  · have h0 : most.toNat ≠ 0 := fun h => by rw [h, runM_zero] at hx1; exact absurd (show (13 : Int) = 0 from congrArg Prod.snd hx1) (by decide)
    exact ⟨by dsimp only; omega, hm, by dsimp only; rw [Nat.sub_zero]; exact hx1, fun j => by dsimp only; rw [Nat.zero_add]⟩
  · (repeat' (first | (refine VS.mk ?_) | exact trivial | exact rfl | refine And.intro ?_ ?_))
  rintro ⟨n, z⟩ ⟨q1, q2, q3, q4⟩
  dsimp only at q1 q2 q3 q4
  refine vcOk _ ?_
  (all_goals refine qgv ?_ <;> (repeat' first | exact trivial | intro hc | refine And.intro ?_ ?_) <;> refine Lf.mk ?_)
  refine call_p step_meets z (q2.mono (by omega)) (VS.mk (LeL.of_eq rfl)) ?_
  unfold stepR
  have hin := stepM_in q2
  have hst := runM_succ (most.toNat - (n + 1)) z
  rw [show most.toNat - (n + 1) + 1 = most.toNat - n by omega, q3] at hst
  have hq := q4
  obtain ⟨y, en, e, hs⟩ : ∃ y en e, stepM z = (y, en, e) := ⟨_, _, _, rfl⟩
  rw [hs] at hin hst ⊢
  dsimp only at hin hst ⊢
  have he : e = 0 := Classical.byContradiction fun h => by
    rw [if_pos h] at hst
    exact h (congrArg Prod.snd hst).symm
  subst he
  have hin := hin rfl
  rw [if_neg (by decide)] at hst
  have hnext : en = false → ∀ j, runM (n + 1 + j) m = runM j y := fun hen j => by
    rw [show n + 1 + j = n + (j + 1) by omega, q4, runM_succ, hs]
    dsimp only
    rw [if_neg (by decide), if_neg (by rw [hen]; decide)]
  (all_goals refine qgv ?_ <;> (repeat' first | exact trivial | intro hc | refine And.intro ?_ ?_) <;> refine Lf.mk ?_)
  all_goals try (exfalso; exact hc trivial)
  · have hxy : x = y := by rw [if_pos (by assumption)] at hst; exact congrArg Prod.fst hst
    subst hxy
    have hf : runV m ((n : Int) + 1 - 1) = (mach0, 13) := by
      unfold runV
      rw [if_neg (by omega), show ((n : Int) + 1 - 1).toNat = n + 0 by omega, q4 0, runM_zero]
    refine call_p run_meets (m, (n : Int) + 1 - 1) hm (VS.mk (LeL.of_eq rfl)) ?_
    dsimp only
    rw [hf]
    dsimp only
    (all_goals refine qgv ?_ <;> (repeat' first | exact trivial | intro hc | refine And.intro ?_ ?_) <;> refine Lf.mk ?_)
    refine call_p samem_meets (x, x) ⟨by have := hr.syms; omega, by have := hr.told; omega⟩ (VS.mk (LeL.of_eq rfl)) ?_
    (all_goals refine qgv ?_ <;> (repeat' first | exact trivial | intro hc | refine And.intro ?_ ?_) <;> refine Lf.mk ?_)
    all_goals try (exfalso; exact no_same hc)
    exact end_p (VS.mk (LeD.of_eq rfl))
  · have hen : en = false := by assumption
    rw [if_neg (by rw [hen]; decide)] at hst
    have hlt : (n : Int) + 1 < most := by
      refine Classical.byContradiction fun h => ?_
      rw [show most.toNat - (n + 1) = 0 by omega, runM_zero] at hst
      exact absurd (show (0 : Int) = 13 from congrArg Prod.snd hst) (by decide)
    refine loop_end (n + 1, y) ⟨by dsimp only; omega, by dsimp only; exact hin.mono (by omega), by dsimp only; exact hst.symm, by dsimp only; exact hnext hen⟩ (by dsimp only; omega) ?_
    (repeat' (first | (refine VS.mk ?_) | exact trivial | exact rfl | refine And.intro ?_ ?_))

theorem sstays_meets : Meets Try.prog n_pllaw9_SimStays (SpecP (fun ((m, n) : Mach × Int) => m.img.bytes.length ≤ 1048576 ∧ m.img.syms.length ≤ 1048576 ∧ m.told.length ≤ 1048576) (fun (m, n) => [machD m, .int .i64 n]) fun _ => .bool true) := by
  refine meets_f tabOk Try.func5 rfl (by decide) ?_
  rintro ⟨m, n⟩ ⟨h1, h2, h3⟩
  refine ⟨Nat.le_refl _, by simp [Try.f5], fun E hE => ?_⟩
  refine vcOk _ ?_
  (all_goals refine qgv ?_ <;> (repeat' first | exact trivial | intro hc | refine And.intro ?_ ?_) <;> refine Lf.mk ?_)
  refine call_p alive9_meets () trivial (VS.mk (LeL.of_eq rfl)) ?_
  (all_goals refine qgv ?_ <;> (repeat' first | exact trivial | intro hc | refine And.intro ?_ ?_) <;> refine Lf.mk ?_)
  (any_goals (first | (exfalso; refine hc ?_; simp; done) | (exfalso; exact Bool.noConfusion hc) | (exfalso; exact hc (by with_reducible rfl)) | (exfalso; exact hc rfl) | skip))
  refine call_p right_meets m trivial (VS.mk (LeL.of_eq rfl)) ?_
  (all_goals refine qgv ?_ <;> (repeat' first | exact trivial | intro hc | refine And.intro ?_ ?_) <;> refine Lf.mk ?_)
  all_goals try (first | exact end_p (VS.mk (LeD.tt rfl)) | skip)
  have hm := okM_in (okB_iff.1 (by assumption)) h1 h2 h3
  have hb := hm.base
  refine awp_loop (α := Nat) (fun k => 2 * k ≤ m.img.bytes.length + 1 ∧ ∀ j : Nat, j < k → ¬ ((decI (getN m.img.bytes (2 * j : Int) 2)).2 = 0 ∧ (decI (getN m.img.bytes (2 * j : Int) 2)).1.op = 25))
    (fun k => [(5, .int .i64 (2 * k : Int)), (2, .loc 0 0), (1, .int .i64 n)])
    (fun p => [.cells (machC m)]) (fun k => m.img.bytes.length + 2 - 2 * k) (fun _ => by simp [hE]) 0 ⟨by omega, fun j h => by omega⟩ ?_ ?_
  · (repeat' (first | (refine VS.mk ?_) | exact trivial | exact rfl | refine And.intro ?_ ?_))
  rintro k ⟨q1, q2⟩
  refine vcOk _ ?_
  (all_goals refine qgv ?_ <;> (repeat' first | exact trivial | intro hc | refine And.intro ?_ ?_) <;> refine Lf.mk ?_)
  · refine call_p get2_meets (m.img.bytes, 2 * k, 2) ⟨by omega, by omega, by decide⟩ (VS.mk (by (first | exact LeL.refl _ | (repeat' (first | exact LeL.nil | exact LeD.refl _ | exact LeD.nil _ | exact LeD.strip _ _ _ | refine LeL.cons ?_ ?_ | refine LeD.tup ?_ | refine LeD.agg ?_))))) ?_
    (all_goals refine qgv ?_ <;> (repeat' first | exact trivial | intro hc | refine And.intro ?_ ?_) <;> refine Lf.mk ?_)
    refine call_p rdecode (getN m.img.bytes (2 * k : Int) 2) trivial (VS.mk (by (first | exact LeL.refl _ | (repeat' (first | exact LeL.nil | exact LeD.refl _ | exact LeD.nil _ | exact LeD.strip _ _ _ | refine LeL.cons ?_ ?_ | refine LeD.tup ?_ | refine LeD.agg ?_))))) ?_
    (all_goals refine qgv ?_ <;> (repeat' first | exact trivial | intro hc | refine And.intro ?_ ?_) <;> refine Lf.mk ?_)
    · exact end_p (VS.mk (LeD.tt rfl))
    · have q3 : ∀ j : Nat, j < k + 1 → ¬ ((decI (getN m.img.bytes (2 * j : Int) 2)).2 = 0 ∧ (decI (getN m.img.bytes (2 * j : Int) 2)).1.op = 25) := fun j hj => by
        rcases Nat.lt_or_ge j k with h | h
        · exact q2 j h
        · rw [show j = k by omega]; exact fun h => hc h.2
      refine loop_end (k + 1) ⟨by omega, q3⟩ (by omega) ?_
      rw [show (2 * ((k + 1 : Nat) : Int)) = 2 * (k : Int) + 2 by omega]
      (repeat' (first | (refine VS.mk ?_) | exact trivial | exact rfl | refine And.intro ?_ ?_))
    · have q3 : ∀ j : Nat, j < k + 1 → ¬ ((decI (getN m.img.bytes (2 * j : Int) 2)).2 = 0 ∧ (decI (getN m.img.bytes (2 * j : Int) 2)).1.op = 25) := fun j hj => by
        rcases Nat.lt_or_ge j k with h | h
        · exact q2 j h
        · rw [show j = k by omega]; exact fun h => hc h.1
      refine loop_end (k + 1) ⟨by omega, q3⟩ (by omega) ?_
      rw [show (2 * ((k + 1 : Nat) : Int)) = 2 * (k : Int) + 2 by omega]
      (repeat' (first | (refine VS.mk ?_) | exact trivial | exact rfl | refine And.intro ?_ ?_))
  · exact end_p (VS.mk (LeD.tt rfl))
  have hbase : m.img.base % 2 = 0 := by assumption
  have hnp : noPut m.img.bytes := fun j hj => q2 j (by omega)
  refine awp_loop (α := Nat × Mach) (fun p => (p.1 : Int) ≤ n ∧ InM (3 * p.1) p.2 ∧ p.2.img = m.img)
    (fun p => [(58, .int .i64 n), (59, .int .i64 p.1), (8, .loc 1 0), (2, .loc 0 0)])
    (fun p => [.cells (machC m), .cells (machC p.2)]) (fun p => n.toNat - p.1) (fun _ => by simp [hE]) (0, m) ⟨by dsimp only; omega, hm, rfl⟩ ?_ ?_
  · (repeat' (first | (refine VS.mk ?_) | exact trivial | exact rfl | refine And.intro ?_ ?_))
  rintro ⟨r, x⟩ ⟨p1, p2, p3⟩
  dsimp only at p1 p2 p3
  refine vcOk _ ?_
  (all_goals refine qgv ?_ <;> (repeat' first | exact trivial | intro hc | refine And.intro ?_ ?_) <;> refine Lf.mk ?_)
  · refine call_p step_meets x (p2.mono (by omega)) (VS.mk (LeL.of_eq rfl)) ?_
    unfold stepR
    have hin := stepM_in p2
    have hbad := stepM_bad (m := x)
    have himg := stepM_img (m := x) (by rw [p3]; exact hbase) (by rw [p3]; exact hnp)
    obtain ⟨y, en, e, hs⟩ : ∃ y en e, stepM x = (y, en, e) := ⟨_, _, _, rfl⟩
    rw [hs] at hin hbad himg ⊢
    dsimp only at hin hbad himg ⊢
    (all_goals refine qgv ?_ <;> (repeat' first | exact trivial | intro hc | refine And.intro ?_ ?_) <;> refine Lf.mk ?_)
    · obtain rfl := hbad hc
      refine call_p samem_meets (mach0, mach0) ⟨by decide, by decide⟩ (VS.mk (.cons (.refl _) (.cons (LeD.agg zeroC_le) .nil))) ?_
      (all_goals refine qgv ?_ <;> (repeat' first | exact trivial | intro hc | refine And.intro ?_ ?_) <;> refine Lf.mk ?_)
      exact end_p (VS.mk (LeD.of_eq (congrArg D.bool (sameM_tt (.refl _)))))
    have he : e = 0 := by assumption
    have hin := hin he
    have himg := (himg he).trans p3
    refine call_p sameimg_meets (m.img, m.img) (by dsimp only; omega) (VS.mk (by rw [← himg]; exact LeL.of_eq (by rw [himg]; rfl))) ?_
    (all_goals refine qgv ?_ <;> (repeat' first | exact trivial | intro hc | refine And.intro ?_ ?_) <;> refine Lf.mk ?_)
    all_goals try (exfalso; exact no_sameI hc)
    have hyr : ∀ j, j < 16 → y.r j = signedI (y.r j) 32 := fun j hj => by
      have := hin.regs j hj
      rw [sg_id this.1 this.2]
    refine awp_loop (α := Nat) (fun j => j ≤ 16) (fun j => [(79, .agg [.int .i64 (y.r 0), .int .i64 (y.r 1), .int .i64 (y.r 2), .int .i64 (y.r 3), .int .i64 (y.r 4), .int .i64 (y.r 5), .int .i64 (y.r 6), .int .i64 (y.r 7), .int .i64 (y.r 8), .int .i64 (y.r 9), .int .i64 (y.r 10), .int .i64 (y.r 11), .int .i64 (y.r 12), .int .i64 (y.r 13), .int .i64 (y.r 14), .int .i64 (y.r 15)]), (80, .int .i64 j), (9, .loc 2 0), (10, .bool en), (58, .int .i64 n), (59, .int .i64 r), (8, .loc 1 0), (2, .loc 0 0)])
      (fun _ => [.cells (machC m), .cells (machC x), .cells (machC y)]) (fun k => 16 - k) (fun _ => by simp [hE]) 0 (by omega) ?_ ?_
    · (repeat' (first | (refine VS.mk ?_) | exact trivial | exact rfl | refine And.intro ?_ ?_))
    intro j hj
    refine vcOk _ ?_
    (all_goals refine qgv ?_ <;> (repeat' first | exact trivial | intro hc | refine And.intro ?_ ?_) <;> refine Lf.mk ?_)
    · refine reg_ixv (n := (j : Int)) (by omega) (by omega) ?_
      (all_goals refine qgv ?_ <;> (repeat' first | exact trivial | intro hc | refine And.intro ?_ ?_) <;> refine Lf.mk ?_)
      refine call_p rsigned2 (y.r j) trivial (VS.mk (LeL.of_eq rfl)) ?_
      (all_goals refine qgv ?_ <;> (repeat' first | exact trivial | intro hc | refine And.intro ?_ ?_) <;> refine Lf.mk ?_)
      · exfalso; exact hc (hyr j (by omega))
      · refine loop_end (j + 1) (by omega) (by omega) ?_
        (repeat' (first | (refine VS.mk ?_) | exact trivial | exact rfl | refine And.intro ?_ ?_))
    · exact end_p (VS.mk (LeD.tt rfl))
    · refine loop_end (r + 1, y) ⟨by dsimp only; omega, by dsimp only; exact hin, himg⟩ (by dsimp only; omega) ?_
      (repeat' (first | (refine VS.mk ?_) | exact trivial | exact rfl | refine And.intro ?_ ?_))
  · exact end_p (VS.mk (LeD.tt rfl))
end Go.Proofs.Ytdapgcdenpgnaaa
