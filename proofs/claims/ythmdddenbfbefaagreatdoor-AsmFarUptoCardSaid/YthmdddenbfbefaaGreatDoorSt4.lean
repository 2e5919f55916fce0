/-
  A part of the proof: what the given program's functions answer, each once; conditions that are enough for it.
-/
import Derived.Test.YthmdddenbfbefaaGreatDoorSt3
import Derived.Test.YthmdddenbfbefaaGreatDoorFw3
import Derived.Test.YthmdddenbfbefaaGreatDoorSt2
import Derived.Test.YthmdddenbfbefaaGreatDoorSt1
import Derived.Test.YthmdddenbfbefaaGreatDoorRows
import Derived.WalkKit
import Derived.ProofKit
import Derived.OpenShut
import Derived.JoinedCond
import Derived.Deep.DeepHandedRow
import Derived.Lay
import Derived.Test.YthmdddenbfbefaaGreatDoorTie
namespace Go.Proofs.YthmdddenbfbefaaGreatDoor
open Go Go.Plat
set_option linter.unusedVariables false
set_option linter.unusedSimpArgs false
set_option maxRecDepth 100000
set_option maxHeartbeats 2000000
attribute [local irreducible] AWP Arith BitS BytesS CallS CatS DrawS EndS IdxS LookS LoopEnd Meets ModeS NilS NormL NormM QuoS RemS ShlS ShrS SideS SplitS bitI
theorem rops : rrows.map (·.op) = (List.range 27).map fun j : Nat => ((j : Int) + 1) := by unfold rrows; rfl
theorem iops : irows.map (·.op) = (List.range 27).map fun j : Nat => ((j : Int) + 1) := by unfold irows; rfl
attribute [local irreducible] rrows irows rowsB infoR rinfo decR
theorem same_row {op : Int} {r : IRow} {q : RRow} (hi : infoR op = some r) (hq : rinfo op = some q) : ∃ j : Nat, j < 27 ∧ irows[j]? = some r ∧ rrows[j]? = some q := by
 obtain ⟨h1, h2⟩ := infoR_mem hi
 obtain ⟨h3, h4⟩ := rinfo_mem hq
 obtain ⟨j, hj⟩ := List.getElem?_of_mem h1
 obtain ⟨k, hk⟩ := List.getElem?_of_mem h3
 have e1 : (irows.map (·.op))[j]? = some r.op := by rw [List.getElem?_map, hj]; rfl
 have e2 : (rrows.map (·.op))[k]? = some q.op := by rw [List.getElem?_map, hk]; rfl
 have hjl : j < 27 := by have := (List.getElem?_eq_some_iff.1 hj).1; rwa [irows_len] at this
 have hkl : k < 27 := by
  have := (List.getElem?_eq_some_iff.1 e2).1
  rw [rops] at this
  simpa using this
 rw [iops, List.getElem?_map, List.getElem?_range hjl] at e1
 rw [rops, List.getElem?_map, List.getElem?_range hkl] at e2
 simp at e1 e2
 have : j = k := by omega
 subst this
 exact ⟨j, hjl, hj, hk⟩
end Go.Proofs.YthmdddenbfbefaaGreatDoor
namespace Go.Proofs.YthmdddenbfbefaaGreatDoor
open Go Go.Plat
set_option linter.unusedVariables false
set_option linter.unusedSimpArgs false
set_option maxRecDepth 100000
set_option maxHeartbeats 2000000
attribute [local irreducible] AWP Arith BitS BytesS CallS CatS DrawS EndS IdxS LookS LoopEnd Meets ModeS NilS NormL NormM QuoS RemS ShlS ShrS SideS SplitS bitI
def bitW (W : Int) (k : Nat) : Int := W / 2 ^ (15 - k) % 2
def preB (s : List UInt8) (W : Int) (k : Nat) : List (UInt8 × Int) := (List.range k).map fun j => (s.getD j 0, bitW W j)
def fitP (p : UInt8 × Int) : Bool := match p.1 == 48 with
 | true => p.2 == 0
 | false => match p.1 == 49 with
  | true => p.2 == 1
  | false => true
def fitF (l : List (UInt8 × Int)) : Bool := l.all fitP
def tnumF (f : UInt8 → Bool) (l : List (UInt8 × Int)) (x : Int) : Int := l.foldl (fun x p => match f p.1 with | true => 2 * x + p.2 | false => x) x
def isImm (c : UInt8) : Bool := !(c == 48) && !(c == 49) && !(c == 110) && !(c == 109)
def widF (l : List (UInt8 × Int)) : Nat := (l.filter fun p => isImm p.1).length
theorem preB_succ (s : List UInt8) (W : Int) (k : Nat) : preB s W (k + 1) = preB s W k ++ [(s.getD k 0, bitW W k)] := by simp [preB, List.range_succ]
theorem bitW_01 (W : Int) (k : Nat) : bitW W k = 0 ∨ bitW W k = 1 := by unfold bitW; omega
theorem numF_bd (f : UInt8 → Bool) (s : List UInt8) (W : Int) : ∀ k, 0 ≤ tnumF f (preB s W k) 0 ∧ tnumF f (preB s W k) 0 < 2 ^ k
 | 0 => by simp [tnumF, preB]
 | k + 1 => by
  have h := numF_bd f s W k
  have hp : (2 : Int) ^ (k + 1) = 2 ^ k * 2 := Int.pow_succ _ _
  have hb := bitW_01 W k
  have e : tnumF f (preB s W (k + 1)) 0 = match f (s.getD k 0) with | true => 2 * tnumF f (preB s W k) 0 + bitW W k | false => tnumF f (preB s W k) 0 := by
   rw [preB_succ]; simp [tnumF, List.foldl_append]
  rw [e, hp]
  generalize tnumF f (preB s W k) 0 = x at *
  generalize bitW W k = b at *
  generalize (2 : Int) ^ k = p at *
  split
  ·rcases hb with rfl | rfl
   ·show 0 ≤ 2 * x + 0 ∧ 2 * x + 0 < p * 2
    omega
   ·show 0 ≤ 2 * x + 1 ∧ 2 * x + 1 < p * 2
    omega
  ·show 0 ≤ x ∧ x < p * 2
   omega
theorem widF_bd (s : List UInt8) (W : Int) (k : Nat) : widF (preB s W k) ≤ k := by
 have := List.length_filter_le (fun p : UInt8 × Int => isImm p.1) (preB s W k)
 simp only [widF]
 simp only [preB, List.length_map, List.length_range] at this
 exact this
theorem numF_step (f : UInt8 → Bool) (s : List UInt8) (W : Int) (k : Nat) : tnumF f (preB s W (k + 1)) 0 = match f (s.getD k 0) with | true => 2 * tnumF f (preB s W k) 0 + bitW W k | false => tnumF f (preB s W k) 0 := by
 rw [preB_succ]; simp [tnumF, List.foldl_append]
theorem fitF_step (s : List UInt8) (W : Int) (k : Nat) : fitF (preB s W (k + 1)) = (fitF (preB s W k) && fitP (s.getD k 0, bitW W k)) := by
 rw [preB_succ]; simp [fitF]
theorem widF_step (s : List UInt8) (W : Int) (k : Nat) : widF (preB s W (k + 1)) = widF (preB s W k) + (match isImm (s.getD k 0) with | true => 1 | false => 0) := by
 rw [preB_succ]
 unfold widF
 rw [List.filter_append, List.length_append]
 congr 1
 cases h : isImm (s.getD k 0) <;> simp only [List.filter, h] <;> rfl
theorem tshr_var {n : Int} {k : Nat} (hk : k ≤ 15) {K : D → Prop} (h : K (.int .i64 (n / 2 ^ (15 - k)))) : ShrS .i64 n (15 - (k : Int)) K :=
 shr_lit (s := 15 - k) (m := 2 ^ (15 - k)) (by omega) (by show 15 - k ≤ 64; omega) rfl h
theorem fit_0 (s : List UInt8) (W : Int) : fitF (preB s W 0) = true := rfl
theorem num_0 (f : UInt8 → Bool) (s : List UInt8) (W : Int) : tnumF f (preB s W 0) 0 = 0 := rfl
theorem wid_0 (s : List UInt8) (W : Int) : widF (preB s W 0) = 0 := rfl
theorem shl_one {d : Nat} {y : Int} (hy : y = d) (hd : d ≤ 16) {K : D → Prop} (h : K (.int .i64 (2 ^ d))) : ShlS .i64 1 y K := by
 have := pow_bd hd
 refine shl_lit (s := d) (m := 2 ^ d) hy (by omega) rfl (by omega) (by omega) ?_
 rwa [Int.one_mul]
theorem fit_48 (b : Int) : fitP (48, b) = (b == 0) := rfl
theorem fit_49 (b : Int) : fitP (49, b) = (b == 1) := rfl
theorem fit_110 (b : Int) : fitP (110, b) = true := rfl
theorem fit_109 (b : Int) : fitP (109, b) = true := rfl
theorem imm_48 : isImm 48 = false := rfl
theorem imm_49 : isImm 49 = false := rfl
theorem imm_110 : isImm 110 = false := rfl
theorem imm_109 : isImm 109 = false := rfl
theorem imm_char {c : UInt8} {b : Int} (h1 : ¬ c = 48) (h2 : ¬ c = 49) (h3 : ¬ c = 110) (h4 : ¬ c = 109) : fitP (c, b) = true ∧ (c == 110) = false ∧ (c == 109) = false ∧ isImm c = true := by
 have e1 : (c == 48) = false := beq_eq_false_iff_ne.2 h1
 have e2 : (c == 49) = false := beq_eq_false_iff_ne.2 h2
 have e3 : (c == 110) = false := beq_eq_false_iff_ne.2 h3
 have e4 : (c == 109) = false := beq_eq_false_iff_ne.2 h4
 exact ⟨by simp only [fitP, e1, e2], e3, e4, by simp only [isImm, e1, e2, e3, e4]; rfl⟩
attribute [local irreducible] RenM irows infoR rowsB allB decR wrongI encV decI signedI findI lowI highI rrows rinfo rrowsM fitF tnumF widF preB bitW isImm
structure RowDec (W : Nat) (r : IRow) (q : RRow) : Prop where
 fits : fitF (preB q.bits W 16) = fitsR W r
 num : fitsR W r = true → tnumF (fun c => c == 110) (preB q.bits W 16) 0 = (insOf W r).n ∧ tnumF (fun c => c == 109) (preB q.bits W 16) 0 = (insOf W r).m
 imm : fitsR W r = true → (lowI r.shape < 0 → 1 ≤ widF (preB q.bits W 16)) ∧ (insOf W r).imm = (if lowI r.shape < 0 ∧ (2 : Int) ^ (widF (preB q.bits W 16) - 1) ≤ tnumF isImm (preB q.bits W 16) 0 then tnumF isImm (preB q.bits W 16) 0 - 2 ^ widF (preB q.bits W 16) else tnumF isImm (preB q.bits W 16) 0)
theorem rdecode_meets (hrow : ∀ (W j : Nat) r q, W < 65536 → irows[j]? = some r → rrows[j]? = some q → RowDec W r q) : Meets Tryz.prog n_plref1_Decode (SpecP (fun _ : Int => True) (fun w => [.int .i64 w]) fun w => .tup [insD (decI w).1, .int .i64 (decI w).2]) := by
 refine meets_f tabOk Tryz.func14 rfl (by decide) fun w _ => ?_
 refine ⟨Nat.le_refl _, by simp [Tryz.f14], fun E hE => ?_⟩
 refine vcOk _ ?_
 (all_goals refine qgo ?_ <;> (repeat' first | exact trivial | intro hc | refine And.intro ?_ ?_) <;> refine Lf.mk ?_)
 ·refine end_p (VS.mk (LeD.of_eq ?_))
  rw [show decI w = (ins0, 3) by unfold decI; rw [if_pos (by omega)]]
  rfl
 ·refine end_p (VS.mk (LeD.of_eq ?_))
  rw [show decI w = (ins0, 3) by unfold decI; rw [if_pos (by omega)]]
  rfl
 obtain ⟨W, hW⟩ := Int.eq_ofNat_of_zero_le (show 0 ≤ w by omega)
 subst hW
 have hWl : W < 65536 := by omega
 refine awp_loop (α := Nat) (fun m => m ≤ 27 ∧ ∀ (i : Nat) r, i < m → irows[i]? = some r → fitsR W r = false) (fun m => [(4, .int .i64 ((m : Int) + 1)), (0, .int .i64 W), (2, .loc 0 0)])
  (fun _ => [.cells [.int .i64 0, .int .i64 0, .int .i64 0, .int .i64 0]]) (fun m => 27 - m) (fun _ => by simp [hE]) 0 ⟨Nat.zero_le _, by simp⟩ ?_ ?_
 ·(repeat' (first | (refine VS.mk ?_) | exact trivial | exact rfl | refine And.intro ?_ ?_))
 rintro m ⟨hm, hno⟩
 refine vcOk _ ?_
 (all_goals refine qgo ?_ <;> (repeat' first | exact trivial | intro hc | refine And.intro ?_ ?_) <;> refine Lf.mk ?_)
 ·obtain ⟨r, hr⟩ := at_of_lt (l := irows) (k := m) (by rw [irows_len]; omega)
  obtain ⟨q, hq⟩ : ∃ q, rrows[m]? = some q := by
   have : (rrows.map (·.op)).length = 27 := by rw [rops]; rfl
   exact at_of_lt (by rw [List.length_map] at this; omega)
  have hrop : r.op = (m : Int) + 1 := by
   have e1 : (irows.map (·.op))[m]? = some r.op := by rw [List.getElem?_map, hr]; rfl
   rw [iops, List.getElem?_map, List.getElem?_range (by omega)] at e1
   simpa using e1.symm
  have hri : rinfo ((m : Int) + 1) = some q := by
   obtain ⟨q', h1, _⟩ := rinfo_some (irow_info r (List.mem_of_getElem? hr))
   rw [hrop] at h1
   obtain ⟨j, _, h2, h3⟩ := same_row (by have := irow_info r (List.mem_of_getElem? hr); rwa [hrop] at this) h1
   have e2 : (rrows.map (·.op))[j]? = some q'.op := by rw [List.getElem?_map, h3]; rfl
   have hj : j < 27 := by assumption
   rw [rops, List.getElem?_map, List.getElem?_range hj] at e2
   have := (rinfo_mem h1).2
   simp at e2
   have : j = m := by omega
   subst this
   rw [hq] at h3
   cases h3
   exact h1
  have hg : getM (.int .i64 ((m : Int) + 1)) rrowsM = some (rrowD q) := by rw [getM_rows, hri]; rfl
  have hqm := rbits_len q (rinfo_mem hri).1
  have hrd := hrow W m r q hWl hr hq
  refine call_f rrows_meets [] [1] () trivial rfl rfl ?_
  refine And.intro (VS.mk (LeL.refl _)) (And.intro (VS.mk rfl) ?_)
  (all_goals refine qgo (Lf.mk ?_))
  refine renM_rows ?_
  (repeat' (first | (refine lk_none hg ?_) | (refine lk_some hg ?_) | (refine VS.mk ?_) | (refine dr_mk ?_) | (refine md_l ?_) | ((first | refine sp_not_dec ?_ ?_ | refine sp_dec ?_ ?_ | refine sp_beq ?_ ?_ | refine sp_bne ?_ ?_ | refine sp_seq ?_ ?_ | refine sp_sne ?_ ?_ | refine sp_not ?_ ?_ | refine sp_any ?_ ?_) <;> (intro hc; try simp only [List.length_map, List.length_append, List.length_cons, List.length_nil, Bool.and_true, Bool.and_eq_true, beq_iff_eq, Bool.and_eq_false_iff, beq_eq_false_iff_ne, Bool.true_and, ne_eq] at hc)) | (with_reducible first | refine norm_one ?_ | refine norm_app ?_ | refine norm_cutEnd ?_ | refine norm_cut ?_ | refine norm_bytes1 ?_ | refine norm_bytes2 ?_ | refine norm_setByte ?_ | refine norm_int1 ?_ | refine norm_mk ?_) | (with_reducible refine bytes_mk ?_) | (refine ar_byte ?_) | (refine ar_i64 (by omega) (by omega) ?_) | (refine ar_low ?_) | (refine ix_byteN (by omega) ?_) | (refine ix_byteK (by simp only [Int.reduceToNat]; exact rfl) (by decide) (by omega) ?_) | (refine ix_byte (by omega) (by omega) ?_) | (refine ix_rfl (by decide) rfl ?_) | (refine sd_mk rfl ?_) | (refine sd_mk (by decide +kernel) ?_) | (refine sd_mk (by first | (simp only [List.length_map, List.length_append, List.length_cons, List.length_nil]; done) | ((try simp only [List.length_map, List.length_append, List.length_cons, List.length_nil, List.length_set, List.length_replicate, List.length_drop, List.length_take, true_and, and_true]); omega) | (dsimp only; omega)) ?_) | (first | refine shl8 (by omega) (by omega) ?_ | refine shl4 (by omega) (by omega) ?_ | refine shl1 (by omega) (by omega) ?_ | refine shl16 (by omega) (by omega) ?_ | refine shl24 (by omega) (by omega) ?_ | refine shr8 (by decide) ?_ | refine shr4 (by decide) ?_ | refine shr1 (by decide) ?_ | refine shr16 (by decide) ?_ | refine shr24 (by decide) ?_) | (with_reducible first | refine bit_mk and_1 ?_ | refine bit_mk and_15 ?_ | refine bit_mk and_255 ?_ | refine bit_mk and_4095 ?_ | refine bit_mk and_65535 ?_) | (refine quo_pos (by omega) (by omega) (by omega) ?_) | (refine rem_pos (by omega) (by omega) ?_)))
  refine awp_weak (weak_le 7 (.bool true) (show LeD .tt (.bool true) from LeD.tt rfl)) ?_
  refine awp_loop (α := Nat) (fun k => k ≤ 16) (fun k => [(29, .int .i64 k), (4, .int .i64 ((m : Int) + 1)), (0, .int .i64 W), (2, .loc 0 0), (5, .loc 2 0), (6, .loc 3 0), (7, .bool (fitF (preB q.bits W k))), (8, .int .i64 (widF (preB q.bits W k)))])
   (fun k => [.cells [.int .i64 0, .int .i64 0, .int .i64 0, .int .i64 0], .map rrowsM, .cells [.str q.name, .int .i64 q.shape, .str q.bits], .cells [.int .i64 ((m : Int) + 1), .int .i64 (tnumF (fun c => c == 110) (preB q.bits W k) 0), .int .i64 (tnumF (fun c => c == 109) (preB q.bits W k) 0), .int .i64 (tnumF isImm (preB q.bits W k) 0)]])
   (fun k => 16 - k) (fun _ => by simp [hE]) 0 (Nat.zero_le _) ?_ ?_
  ·(repeat' (first | (refine VS.mk ?_) | exact trivial | exact rfl | refine And.intro ?_ ?_))
   ·refine renM_rows ?_
    refine VS.mk ?_
    rw [num_0, num_0, num_0]
   all_goals first | (rw [fit_0]) | (rw [wid_0]; rfl)
  intro k hk
  have hb1 := numF_bd (fun c => c == 110) q.bits W k
  have hb2 := numF_bd (fun c => c == 109) q.bits W k
  have hb3 := numF_bd isImm q.bits W k
  have hb4 := widF_bd q.bits W k
  have hb5 := bitW_01 W k
  have hpow := pow_bd hk
  have hbw : (W : Int) / 2 ^ (15 - k) % 2 = bitW W k := by unfold bitW; rfl
  have hidx : ((k : Int)).toNat = k := Int.toNat_natCast k
  have s1 := fitF_step q.bits W k
  have s2 := numF_step (fun c => c == 110) q.bits W k
  have s3 := numF_step (fun c => c == 109) q.bits W k
  have s4 := numF_step isImm q.bits W k
  have s5 := widF_step q.bits W k
  have hlen : E.L.length ≤ 4 := by simp [hE]
  have char : ∀ {c d : UInt8}, ((c.toNat : Nat) : Int) = ((d.toNat : Nat) : Int) → c = d := fun h => UInt8.toNat_inj.1 (by exact_mod_cast h)
  refine vcOk _ ?_
  (all_goals refine qgo ?_ <;> (repeat' first | exact trivial | intro hc | refine And.intro ?_ ?_) <;> refine Lf.mk ?_)
  ·refine tshr_var (by omega) ?_
   refine VS.mk ?_
   refine bit_mk and_1 ?_
   rw [hbw]
   (all_goals refine qgo ?_ <;> (repeat' first | exact trivial | intro hc | refine And.intro ?_ ?_) <;> refine Lf.mk ?_)
   ·rw [hidx] at *
    have hch : q.bits.getD k 0 = 48 := char (by assumption)
    rw [hch] at s1 s2 s3 s4 s5
    rw [fit_48] at s1
    rw [imm_48] at s4 s5
    have s2 : tnumF (fun c => c == 110) (preB q.bits W (k + 1)) 0 = tnumF (fun c => c == 110) (preB q.bits W k) 0 := s2
    have s3 : tnumF (fun c => c == 109) (preB q.bits W (k + 1)) 0 = tnumF (fun c => c == 109) (preB q.bits W k) 0 := s3
    have s4 : tnumF isImm (preB q.bits W (k + 1)) 0 = tnumF isImm (preB q.bits W k) 0 := s4
    have s5 : widF (preB q.bits W (k + 1)) = widF (preB q.bits W k) + 0 := s5
    refine loop_end_weak (k + 1) (by omega) (by omega) (weak_le 7 (.bool (fitF (preB q.bits W (k + 1)))) ?_) hlen ?_
    ·refine LeD.of_eq (congrArg D.bool ?_)
     rw [s1, hc, Bool.true_and]
    ·(repeat' (first | (refine VS.mk ?_) | exact trivial | exact rfl | refine And.intro ?_ ?_))
     ·refine renM_rows ?_
      refine VS.mk ?_
      rw [s2, s3, s4]
     all_goals first | rfl | (rw [s5]; rfl) | (rw [s5]; congr 1; omega)
   ·rw [hidx] at *
    have hch : q.bits.getD k 0 = 48 := char (by assumption)
    rw [hch] at s1 s2 s3 s4 s5
    rw [fit_48] at s1
    rw [imm_48] at s4 s5
    have s2 : tnumF (fun c => c == 110) (preB q.bits W (k + 1)) 0 = tnumF (fun c => c == 110) (preB q.bits W k) 0 := s2
    have s3 : tnumF (fun c => c == 109) (preB q.bits W (k + 1)) 0 = tnumF (fun c => c == 109) (preB q.bits W k) 0 := s3
    have s4 : tnumF isImm (preB q.bits W (k + 1)) 0 = tnumF isImm (preB q.bits W k) 0 := s4
    have s5 : widF (preB q.bits W (k + 1)) = widF (preB q.bits W k) + 0 := s5
    refine loop_end_weak (k + 1) (by omega) (by omega) (weak_le 7 (.bool (fitF (preB q.bits W (k + 1)))) ?_) hlen ?_
    ·exact LeD.ff (by rw [s1, hc]; rfl)
    ·(repeat' (first | (refine VS.mk ?_) | exact trivial | exact rfl | refine And.intro ?_ ?_))
     ·refine renM_rows ?_
      refine VS.mk ?_
      rw [s2, s3, s4]
     all_goals first | rfl | (rw [s5]; rfl) | (rw [s5]; congr 1; omega)
   ·rw [hidx] at *
    have hch : q.bits.getD k 0 = 49 := char (by assumption)
    rw [hch] at s1 s2 s3 s4 s5
    rw [fit_49] at s1
    rw [imm_49] at s4 s5
    have s2 : tnumF (fun c => c == 110) (preB q.bits W (k + 1)) 0 = tnumF (fun c => c == 110) (preB q.bits W k) 0 := s2
    have s3 : tnumF (fun c => c == 109) (preB q.bits W (k + 1)) 0 = tnumF (fun c => c == 109) (preB q.bits W k) 0 := s3
    have s4 : tnumF isImm (preB q.bits W (k + 1)) 0 = tnumF isImm (preB q.bits W k) 0 := s4
    have s5 : widF (preB q.bits W (k + 1)) = widF (preB q.bits W k) + 0 := s5
    refine loop_end_weak (k + 1) (by omega) (by omega) (weak_le 7 (.bool (fitF (preB q.bits W (k + 1)))) ?_) hlen ?_
    ·refine LeD.of_eq (congrArg D.bool ?_)
     rw [s1, hc, Bool.true_and]
    ·(repeat' (first | (refine VS.mk ?_) | exact trivial | exact rfl | refine And.intro ?_ ?_))
     ·refine renM_rows ?_
      refine VS.mk ?_
      rw [s2, s3, s4]
     all_goals first | rfl | (rw [s5]; rfl) | (rw [s5]; congr 1; omega)
   ·rw [hidx] at *
    have hch : q.bits.getD k 0 = 49 := char (by assumption)
    rw [hch] at s1 s2 s3 s4 s5
    rw [fit_49] at s1
    rw [imm_49] at s4 s5
    have s2 : tnumF (fun c => c == 110) (preB q.bits W (k + 1)) 0 = tnumF (fun c => c == 110) (preB q.bits W k) 0 := s2
    have s3 : tnumF (fun c => c == 109) (preB q.bits W (k + 1)) 0 = tnumF (fun c => c == 109) (preB q.bits W k) 0 := s3
    have s4 : tnumF isImm (preB q.bits W (k + 1)) 0 = tnumF isImm (preB q.bits W k) 0 := s4
    have s5 : widF (preB q.bits W (k + 1)) = widF (preB q.bits W k) + 0 := s5
    refine loop_end_weak (k + 1) (by omega) (by omega) (weak_le 7 (.bool (fitF (preB q.bits W (k + 1)))) ?_) hlen ?_
    ·exact LeD.ff (by rw [s1, hc]; rfl)
    ·(repeat' (first | (refine VS.mk ?_) | exact trivial | exact rfl | refine And.intro ?_ ?_))
     ·refine renM_rows ?_
      refine VS.mk ?_
      rw [s2, s3, s4]
     all_goals first | rfl | (rw [s5]; rfl) | (rw [s5]; congr 1; omega)
   ·rw [hidx] at *
    have hch : q.bits.getD k 0 = 110 := char (by assumption)
    rw [hch] at s1 s2 s3 s4 s5
    rw [fit_110] at s1
    rw [imm_110] at s4 s5
    have s2 : tnumF (fun c => c == 110) (preB q.bits W (k + 1)) 0 = 2 * tnumF (fun c => c == 110) (preB q.bits W k) 0 + bitW W k := s2
    have s3 : tnumF (fun c => c == 109) (preB q.bits W (k + 1)) 0 = tnumF (fun c => c == 109) (preB q.bits W k) 0 := s3
    have s4 : tnumF isImm (preB q.bits W (k + 1)) 0 = tnumF isImm (preB q.bits W k) 0 := s4
    have s5 : widF (preB q.bits W (k + 1)) = widF (preB q.bits W k) + 0 := s5
    refine loop_end_weak (k + 1) (by omega) (by omega) (weak_le 7 (.bool (fitF (preB q.bits W (k + 1)))) ?_) hlen ?_
    ·refine LeD.of_eq (congrArg D.bool ?_)
     rw [s1, Bool.and_true]
    ·(repeat' (first | (refine VS.mk ?_) | exact trivial | exact rfl | refine And.intro ?_ ?_))
     ·refine renM_rows ?_
      refine VS.mk ?_
      rw [s2, s3, s4]
     all_goals first | rfl | (rw [s5]; rfl) | (rw [s5]; congr 1; omega)
   ·rw [hidx] at *
    have hch : q.bits.getD k 0 = 109 := char (by assumption)
    rw [hch] at s1 s2 s3 s4 s5
    rw [fit_109] at s1
    rw [imm_109] at s4 s5
    have s2 : tnumF (fun c => c == 110) (preB q.bits W (k + 1)) 0 = tnumF (fun c => c == 110) (preB q.bits W k) 0 := s2
    have s3 : tnumF (fun c => c == 109) (preB q.bits W (k + 1)) 0 = 2 * tnumF (fun c => c == 109) (preB q.bits W k) 0 + bitW W k := s3
    have s4 : tnumF isImm (preB q.bits W (k + 1)) 0 = tnumF isImm (preB q.bits W k) 0 := s4
    have s5 : widF (preB q.bits W (k + 1)) = widF (preB q.bits W k) + 0 := s5
    refine loop_end_weak (k + 1) (by omega) (by omega) (weak_le 7 (.bool (fitF (preB q.bits W (k + 1)))) ?_) hlen ?_
    ·refine LeD.of_eq (congrArg D.bool ?_)
     rw [s1, Bool.and_true]
    ·(repeat' (first | (refine VS.mk ?_) | exact trivial | exact rfl | refine And.intro ?_ ?_))
     ·refine renM_rows ?_
      refine VS.mk ?_
      rw [s2, s3, s4]
     all_goals first | rfl | (rw [s5]; rfl) | (rw [s5]; congr 1; omega)
   ·rw [hidx] at *
    have n48 : ¬ q.bits.getD k 0 = 48 := fun e => absurd (by rw [e]; rfl) (by assumption : ¬ (((q.bits.getD k 0).toNat : Nat) : Int) = 48)
    have n49 : ¬ q.bits.getD k 0 = 49 := fun e => absurd (by rw [e]; rfl) (by assumption : ¬ (((q.bits.getD k 0).toNat : Nat) : Int) = 49)
    have n110 : ¬ q.bits.getD k 0 = 110 := fun e => absurd (by rw [e]; rfl) (by assumption : ¬ (((q.bits.getD k 0).toNat : Nat) : Int) = 110)
    have n109 : ¬ q.bits.getD k 0 = 109 := fun e => absurd (by rw [e]; rfl) (by assumption : ¬ (((q.bits.getD k 0).toNat : Nat) : Int) = 109)
    obtain ⟨i1, i2, i3, i4⟩ := imm_char n48 n49 n110 n109 (b := bitW W k)
    rw [i1] at s1
    simp only [i2] at s2
    simp only [i3] at s3
    rw [i4] at s4 s5
    have s2 : tnumF (fun c => c == 110) (preB q.bits W (k + 1)) 0 = tnumF (fun c => c == 110) (preB q.bits W k) 0 := s2
    have s3 : tnumF (fun c => c == 109) (preB q.bits W (k + 1)) 0 = tnumF (fun c => c == 109) (preB q.bits W k) 0 := s3
    have s4 : tnumF isImm (preB q.bits W (k + 1)) 0 = 2 * tnumF isImm (preB q.bits W k) 0 + bitW W k := s4
    have s5 : widF (preB q.bits W (k + 1)) = widF (preB q.bits W k) + 1 := s5
    refine loop_end_weak (k + 1) (by omega) (by omega) (weak_le 7 (.bool (fitF (preB q.bits W (k + 1)))) ?_) hlen ?_
    ·refine LeD.of_eq (congrArg D.bool ?_)
     rw [s1, Bool.and_true]
    ·(repeat' (first | (refine VS.mk ?_) | exact trivial | exact rfl | refine And.intro ?_ ?_))
     ·refine renM_rows ?_
      refine VS.mk ?_
      rw [s2, s3, s4]
     all_goals first | rfl | (rw [s5]; rfl) | (rw [s5]; congr 1; omega)
  ·have hk16 : k = 16 := by omega
   subst hk16
   have hf : fitsR W r = false := by rw [← hrd.fits]; exact hc
   refine loop_end (m + 1) ⟨by omega, no_step hno hr hf⟩ (by omega) ?_
   (repeat' (first | (refine VS.mk ?_) | exact trivial | exact rfl | refine And.intro ?_ ?_))
  have hk16 : k = 16 := by omega
  subst hk16
  have hf : fitsR W r = true := by rw [← hrd.fits]; exact hc
  obtain ⟨n1, n2⟩ := hrd.num hf
  obtain ⟨i1, i2⟩ := hrd.imm hf
  have hfind := find_at hr hf hno
  have hd : decI (W : Int) = (insOf W r, 0) := by
   unfold decI
   rw [if_neg (by omega)]
   simp only [Int.toNat_natCast, decR, hfind]
  have hqs : q.shape = r.shape := by
   obtain ⟨q', h1, _, h2, _⟩ := rinfo_some (irow_info r (List.mem_of_getElem? hr))
   rw [hrop, hri] at h1
   cases h1
   exact h2
  have hiop : (insOf W r).op = r.op := rfl
  clear s1 s2 s3 s4 s5 hb5 hbw hidx
  generalize tnumF isImm (preB q.bits W 16) 0 = xi at *
  generalize widF (preB q.bits W 16) = wd at *
  generalize tnumF (fun c => c == 110) (preB q.bits W 16) 0 = xn at *
  generalize tnumF (fun c => c == 109) (preB q.bits W 16) 0 = xm at *
  have hpw : (2 : Int) ^ 16 = 65536 := rfl
  have fin : ∀ v : Int, (insOf W r).imm = v → D.agg [.int .i64 ((m : Int) + 1), .int .i64 xn, .int .i64 xm, .int .i64 v] = insD (insOf W r) := by
   intro v hv
   unfold insD
   rw [hiop, hrop, ← n1, ← n2, hv]
  refine call_p range2_meets q.shape trivial (VS.mk (by (first | exact LeL.refl _ | (repeat' (first | exact LeL.nil | exact LeD.refl _ | exact LeD.nil _ | exact LeD.strip _ _ _ | refine LeL.cons ?_ ?_ | refine LeD.tup ?_ | refine LeD.agg ?_))))) ?_
  rw [hqs]
  rw [show (if r.shape = 1 ∨ r.shape = 4 then (-128 : Int) else if r.shape = 5 then -2048 else 0) = lowI r.shape from (low_eq r.shape).symm, show (if r.shape = 1 ∨ r.shape = 4 then (127 : Int) else if r.shape = 5 then 2047 else if r.shape = 7 ∨ r.shape = 8 ∨ r.shape = 11 then 255 else 0) = highI r.shape from (high_eq r.shape).symm]
  (all_goals refine qgo ?_ <;> (repeat' first | exact trivial | intro hc | refine And.intro ?_ ?_) <;> refine Lf.mk ?_)
  ·have hwd := i1 hc
   have hpa := pow_bd (k := wd - 1) (by omega)
   have hpb := pow_bd (k := wd) (by omega)
   refine shl_one (d := wd - 1) (by omega) (by omega) ?_
   (all_goals refine qgo ?_ <;> (repeat' first | exact trivial | intro hc | refine And.intro ?_ ?_) <;> refine Lf.mk ?_)
   ·skip
    refine shl_one (d := wd) rfl (by omega) ?_
    (all_goals refine qgo (Lf.mk ?_))
    refine end_p (VS.mk (LeD.of_eq ?_))
    rw [hd, fin (xi - 2 ^ wd) (by rw [i2, if_pos ⟨by assumption, hc⟩])]
   ·refine end_p (VS.mk (LeD.of_eq ?_))
    rw [hd, fin xi (by rw [i2, if_neg (fun h => hc h.2)])]
  ·refine end_p (VS.mk (LeD.of_eq ?_))
   rw [hd, fin xi (by rw [i2, if_neg (fun h => hc h.1)])]
 ·have hf := no_end hno (by rw [irows_len]; omega)
  have hd : decI (W : Int) = (ins0, 12) := by
   unfold decI
   rw [if_neg (by omega)]
   simp only [Int.toNat_natCast, decR, hf]
  refine end_p (VS.mk (LeD.of_eq ?_))
  rw [hd]
  rfl
end Go.Proofs.YthmdddenbfbefaaGreatDoor
namespace Go.Proofs.YthmdddenbfbefaaGreatDoor
open Go Go.Plat
set_option linter.unusedVariables false
set_option linter.unusedSimpArgs false
set_option maxRecDepth 100000
set_option maxHeartbeats 2000000
attribute [local irreducible] AWP Arith BitS BytesS CallS CatS DrawS EndS IdxS LookS LoopEnd Meets ModeS NilS NormL NormM QuoS RemS ShlS ShrS SideS SplitS bitI
def preH (s : List UInt8) (h : Nat) : List (UInt8 × Int) := (List.range 8).map fun j => (s.getD j 0, (h : Int) / 2 ^ (7 - j) % 2)
def preL (s : List UInt8) (l : Nat) : List (UInt8 × Int) := (List.range 8).map fun j => (s.getD (8 + j) 0, (l : Int) / 2 ^ (7 - j) % 2)
theorem pre_split (s : List UInt8) (W : Nat) : preB s W 16 = preH s (W / 256) ++ preL s (W % 256) := by
 unfold preB preH preL bitW
 have hh : ∀ j, j < 8 → (W : Int) / 2 ^ (15 - j) % 2 = ((W / 256 : Nat) : Int) / 2 ^ (7 - j) % 2 := fun j hj => by
  match j, hj with
  | 0, _ => simp; omega
  | 1, _ => simp; omega
  | 2, _ => simp; omega
  | 3, _ => simp; omega
  | 4, _ => simp; omega
  | 5, _ => simp; omega
  | 6, _ => simp; omega
  | 7, _ => simp
 have hl : ∀ j, j < 8 → (W : Int) / 2 ^ (15 - (8 + j)) % 2 = ((W % 256 : Nat) : Int) / 2 ^ (7 - j) % 2 := fun j hj => by
  match j, hj with
  | 0, _ => simp; omega
  | 1, _ => simp; omega
  | 2, _ => simp; omega
  | 3, _ => simp; omega
  | 4, _ => simp; omega
  | 5, _ => simp; omega
  | 6, _ => simp; omega
  | 7, _ => simp
 rw [show (16 : Nat) = 8 + 8 from rfl, List.range_add, List.map_append, List.map_map]
 congr 1
 ·apply List.map_congr_left
  intro j hj
  rw [hh j (by simpa using hj)]
 ·apply List.map_congr_left
  intro j hj
  simp only [Function.comp_apply]
  rw [hl j (by simpa using hj)]
def isFar (s : Nat) : Bool := s == 5
def isNear (s : Nat) : Bool := s == 1 || s == 4 || s == 7 || s == 8 || s == 11
def chkH (p : Nat × Nat × Nat) (s : List UInt8) (h : Nat) : Bool :=
 (fitF (preH s h) == Nat.beq (h &&& (p.2.1 / 256)) (p.2.2 / 256)) &&
 decide (tnumF (fun c => c == 110) (preH s h) 0 = if uses1 p.1 = true then ((h % 16 : Nat) : Int) else 0) &&
 decide (tnumF (fun c => c == 109) (preH s h) 0 = 0) &&
 decide (tnumF isImm (preH s h) 0 = if isFar p.1 = true then ((h % 16 : Nat) : Int) else 0) &&
 decide (widF (preH s h) = if isFar p.1 = true then 4 else 0)
def chkL (p : Nat × Nat × Nat) (s : List UInt8) (l : Nat) : Bool :=
 (fitF (preL s l) == Nat.beq (l &&& (p.2.1 % 256)) (p.2.2 % 256)) &&
 decide (tnumF (fun c => c == 109) (preL s l) 0 = if uses2 p.1 = true then ((l / 16 : Nat) : Int) else 0) &&
 (match isFar p.1 with
   | true => allB (fun x => decide (tnumF isImm (preL s l) (x : Int) = (x : Int) * 256 + (l : Int))) 16
   | false => decide (tnumF isImm (preL s l) 0 = if isNear p.1 = true then (l : Int) else 0)) &&
 decide (widF (preL s l) = if isFar p.1 = true ∨ isNear p.1 = true then 8 else 0)
def chkD (p : Nat × Nat × Nat) (s : List UInt8) : Bool :=
 allB (chkH p s) 256 && allB (chkL p s) 256 && (s.drop 8).all (fun c => !(c == 110))
def rowD (j : Nat) : Bool := match rowsB[j]? with | some p => (match rrows[j]? with | some q => chkD p q.bits | none => false) | none => false
theorem rowD_0 : rowD 0 = true := by kernel_rfl
theorem rowD_1 : rowD 1 = true := by kernel_rfl
theorem rowD_2 : rowD 2 = true := by kernel_rfl
theorem rowD_3 : rowD 3 = true := by kernel_rfl
theorem rowD_4 : rowD 4 = true := by kernel_rfl
theorem rowD_5 : rowD 5 = true := by kernel_rfl
theorem rowD_6 : rowD 6 = true := by kernel_rfl
theorem rowD_7 : rowD 7 = true := by kernel_rfl
theorem rowD_8 : rowD 8 = true := by kernel_rfl
theorem rowD_9 : rowD 9 = true := by kernel_rfl
theorem rowD_10 : rowD 10 = true := by kernel_rfl
theorem rowD_11 : rowD 11 = true := by kernel_rfl
theorem rowD_12 : rowD 12 = true := by kernel_rfl
theorem rowD_13 : rowD 13 = true := by kernel_rfl
theorem rowD_14 : rowD 14 = true := by kernel_rfl
theorem rowD_15 : rowD 15 = true := by kernel_rfl
theorem rowD_16 : rowD 16 = true := by kernel_rfl
theorem rowD_17 : rowD 17 = true := by kernel_rfl
theorem rowD_18 : rowD 18 = true := by kernel_rfl
theorem rowD_19 : rowD 19 = true := by kernel_rfl
theorem rowD_20 : rowD 20 = true := by kernel_rfl
theorem rowD_21 : rowD 21 = true := by kernel_rfl
theorem rowD_22 : rowD 22 = true := by kernel_rfl
theorem rowD_23 : rowD 23 = true := by kernel_rfl
theorem rowD_24 : rowD 24 = true := by kernel_rfl
theorem rowD_25 : rowD 25 = true := by kernel_rfl
theorem rowD_26 : rowD 26 = true := by kernel_rfl
attribute [local irreducible] allB decR fitF highI infoR irows isImm lowI preB preH preL rinfo rowsB rrows signedI tnumF widF
theorem rowD_all (j : Nat) (hj : j < 27) : rowD j = true := by
 have h : j = 0 ∨ j = 1 ∨ j = 2 ∨ j = 3 ∨ j = 4 ∨ j = 5 ∨ j = 6 ∨ j = 7 ∨ j = 8 ∨ j = 9 ∨ j = 10 ∨ j = 11 ∨ j = 12 ∨ j = 13 ∨ j = 14 ∨ j = 15 ∨ j = 16 ∨ j = 17 ∨ j = 18 ∨ j = 19 ∨ j = 20 ∨ j = 21 ∨ j = 22 ∨ j = 23 ∨ j = 24 ∨ j = 25 ∨ j = 26 := by omega
 rcases h with rfl | rfl | rfl | rfl | rfl | rfl | rfl | rfl | rfl | rfl | rfl | rfl | rfl | rfl | rfl | rfl | rfl | rfl | rfl | rfl | rfl | rfl | rfl | rfl | rfl | rfl | rfl
 ·exact rowD_0
 ·exact rowD_1
 ·exact rowD_2
 ·exact rowD_3
 ·exact rowD_4
 ·exact rowD_5
 ·exact rowD_6
 ·exact rowD_7
 ·exact rowD_8
 ·exact rowD_9
 ·exact rowD_10
 ·exact rowD_11
 ·exact rowD_12
 ·exact rowD_13
 ·exact rowD_14
 ·exact rowD_15
 ·exact rowD_16
 ·exact rowD_17
 ·exact rowD_18
 ·exact rowD_19
 ·exact rowD_20
 ·exact rowD_21
 ·exact rowD_22
 ·exact rowD_23
 ·exact rowD_24
 ·exact rowD_25
 ·exact rowD_26
theorem row_chkD {r : IRow} {q : RRow} {j : Nat} (hj : irows[j]? = some r) (hq : rrows[j]? = some q) : chkD (toB r) q.bits = true := by
 have hjl : j < 27 := by have := (List.getElem?_eq_some_iff.1 hj).1; rwa [irows_len] at this
 have h := rowD_all j hjl
 unfold rowD at h
 rw [← rowsB_eq, List.getElem?_map, hj, hq] at h
 exact h
end Go.Proofs.YthmdddenbfbefaaGreatDoor
namespace Go.Proofs.YthmdddenbfbefaaGreatDoor
open Go Go.Plat
set_option linter.unusedVariables false
set_option linter.unusedSimpArgs false
set_option maxRecDepth 100000
set_option maxHeartbeats 2000000
attribute [local irreducible] AWP Arith BitS BytesS CallS CatS DrawS EndS IdxS LookS LoopEnd Meets ModeS NilS NormL NormM QuoS RemS ShlS ShrS SideS SplitS bitI
theorem fitF_app (a b : List (UInt8 × Int)) : fitF (a ++ b) = (fitF a && fitF b) := by unfold fitF; exact List.all_append
theorem numF_app (f : UInt8 → Bool) (a b : List (UInt8 × Int)) (x : Int) : tnumF f (a ++ b) x = tnumF f b (tnumF f a x) := by unfold tnumF; exact List.foldl_append
theorem widF_app (a b : List (UInt8 × Int)) : widF (a ++ b) = widF a + widF b := by unfold widF; rw [List.filter_append, List.length_append]
theorem numF_id (f : UInt8 → Bool) : ∀ (l : List (UInt8 × Int)) (x : Int), (∀ p ∈ l, f p.1 = false) → tnumF f l x = x
 | [], x, _ => rfl
 | p :: l, x, h => by
  have h0 := h p (by simp)
  show tnumF f l (match f p.1 with | true => 2 * x + p.2 | false => x) = x
  rw [h0]
  exact numF_id f l x fun q hq => h q (by simp [hq])
theorem preL_char {s : List UInt8} {l : Nat} {p : UInt8 × Int} (hs : s.length = 16) (h : p ∈ preL s l) : p.1 ∈ s.drop 8 := by
 unfold preL at h
 obtain ⟨j, hj, rfl⟩ := List.mem_map.1 h
 have hj : j < 8 := by simpa using hj
 rw [List.getD_eq_getElem?_getD, List.getElem?_eq_getElem (by omega)]
 simp only [Option.getD_some]
 have : (s.drop 8)[j]'(by simp; omega) = s[8 + j] := List.getElem_drop ..
 rw [← this]
 exact List.getElem_mem _
theorem and_halves {W m b : Nat} (hW : W < 65536) (hm : m < 65536) (hb : b < 65536) : (W &&& m) = b ↔ ((W / 256) &&& (m / 256)) = b / 256 ∧ ((W % 256) &&& (m % 256)) = b % 256 := by
 have h1 : (W &&& m) % 2 ^ 8 = (W % 2 ^ 8) &&& (m % 2 ^ 8) := Nat.and_mod_two_pow ..
 have h2 : (W &&& m) / 2 ^ 8 = (W / 2 ^ 8) &&& (m / 2 ^ 8) := Nat.and_div_two_pow ..
 have e : (2 : Nat) ^ 8 = 256 := rfl
 rw [e] at h1 h2
 rw [← h1, ← h2]
 omega
attribute [local irreducible] rrows irows rowsB infoR rinfo decR fitF tnumF widF preH preL preB isImm allB
theorem row_dec {W : Nat} {r : IRow} {q : RRow} (hW : W < 65536) (hm : r ∈ irows) (hqm : q.bits.length = 16) (hc : chkD (toB r) q.bits = true) : RowDec W r q := by
 simp only [chkD, Bool.and_eq_true] at hc
 obtain ⟨⟨c1, c2⟩, c3⟩ := hc
 have d1 := allB_at c1 (W / 256) (by omega)
 have d2 := allB_at c2 (W % 256) (by omega)
 simp only [chkH, chkL, Bool.and_eq_true, beq_iff_eq] at d1 d2
 obtain ⟨⟨⟨⟨h1, h2⟩, h3⟩, h4⟩, h5⟩ := d1
 obtain ⟨⟨⟨l1, l2⟩, l3⟩, l4⟩ := d2
 obtain ⟨_, b2, b3⟩ := irow_bits r hm
 have hmb := mask_bd r.shape
 have hn : ∀ x, tnumF (fun c => c == 110) (preL q.bits (W % 256)) x = x := fun x => numF_id _ _ _ fun p hp => by
  have := List.all_eq_true.1 c3 p.1 (preL_char hqm hp)
  simpa using this
 have hsn : ((r.shape.toNat : Nat) : Int) = r.shape := by
  have := irow_shape r hm
  omega
 have hsn : (((toB r).1 : Nat) : Int) = r.shape := hsn
 have h2 := of_decide_eq_true h2
 have h3 := of_decide_eq_true h3
 have h4 := of_decide_eq_true h4
 have h5 := of_decide_eq_true h5
 have l2 := of_decide_eq_true l2
 have l4 := of_decide_eq_true l4
 simp only [hsn] at h2 l2
 have hs1 : (toB r).1 = r.shape.toNat := rfl
 have hs2 : (toB r).2.1 = (maskI r.shape).toNat := rfl
 have hs3 : (toB r).2.2 = r.bits.toNat := rfl
 simp only [hs1, hs2, hs3] at h1 h4 h5 l1 l3 l4
 have efit : fitF (preB q.bits W 16) = fitsR W r := by
  rw [pre_split, fitF_app, h1, l1]
  unfold fitsR
  rw [Bool.eq_iff_iff, Bool.and_eq_true]
  have hh := and_halves (W := W) (m := (maskI r.shape).toNat) (b := r.bits.toNat) hW (by omega) (by omega)
  constructor
  ·rintro ⟨ha, hb⟩
   have h := hh.2 ⟨Nat.eq_of_beq_eq_true ha, Nat.eq_of_beq_eq_true hb⟩
   rw [h, Int.toNat_of_nonneg b2]
   exact beq_self_eq_true _
  ·intro h
   have h := LawfulBEq.eq_of_beq h
   obtain ⟨ha, hb⟩ := hh.1 (by omega)
   exact ⟨by rw [ha]; exact Nat.beq_refl _, by rw [hb]; exact Nat.beq_refl _⟩
 have enum : tnumF (fun c => c == 110) (preB q.bits W 16) 0 = (insOf W r).n := by
  rw [pre_split, numF_app, hn, h2]
  show _ = if uses1 r.shape = true then (W : Int) / 256 % 16 else 0
  split <;> omega
 have emum : tnumF (fun c => c == 109) (preB q.bits W 16) 0 = (insOf W r).m := by
  rw [pre_split, numF_app, h3, l2]
  show _ = if uses2 r.shape = true then (W : Int) / 16 % 16 else 0
  split <;> omega
 have ewid : widF (preB q.bits W 16) = (if isFar r.shape.toNat = true then 4 else 0) + (if isFar r.shape.toNat = true ∨ isNear r.shape.toNat = true then 8 else 0) := by
  rw [pre_split, widF_app, h5, l4]
 have eimm : tnumF isImm (preB q.bits W 16) 0 = if r.shape = 5 then (W : Int) % 4096 else if isNear r.shape.toNat = true then (W : Int) % 256 else 0 := by
  rw [pre_split, numF_app, h4]
  cases hf : isFar r.shape.toNat with
  | true =>
   rw [hf] at l3
   have hs5 : r.shape = 5 := by
    unfold isFar at hf
    have := LawfulBEq.eq_of_beq hf
    omega
   have := of_decide_eq_true (allB_at l3 (W / 256 % 16) (by omega))
   rw [if_pos rfl, this, if_pos hs5]
   omega
  | false =>
   rw [hf] at l3
   have hs5 : ¬ r.shape = 5 := by
    intro e
    rw [e] at hf
    exact absurd hf (by decide)
   have := of_decide_eq_true l3
   rw [if_neg (by decide), this, if_neg hs5]
   split <;> omega
 refine ⟨efit, fun _ => ⟨enum, emum⟩, fun _ => ?_⟩
 show _ ∧ immOf W r.shape = _
 have hsh := irow_shape r hm
 rcases hsh with hs | ⟨hs, hb⟩ | ⟨hs, hb⟩ | ⟨hs, hb⟩ | ⟨hs, hb⟩ | ⟨hs, hb⟩
 ·have a1 : isFar r.shape.toNat = false := by rw [hs]; rfl
  have a2 : isNear r.shape.toNat = false := by rw [hs]; rfl
  have a3 : lowI r.shape = 0 := by rw [hs]; rfl
  simp only [a1, a2] at ewid eimm
  have ew : widF (preB q.bits W 16) = 0 := ewid
  have ei : tnumF isImm (preB q.bits W 16) 0 = 0 := by rw [eimm, if_neg (by omega)]; rfl
  rw [ew, ei, a3]
  refine ⟨fun h => absurd h (by decide), ?_⟩
  unfold immOf
  rw [if_neg (by omega), if_neg (by omega), if_neg (by omega), if_neg (by omega)]
 ·rcases hs with hs | hs | hs
  ·have a1 : isFar r.shape.toNat = false := by rw [hs]; rfl
   have a2 : isNear r.shape.toNat = true := by rw [hs]; rfl
   have a3 : lowI r.shape = -128 := by rw [hs]; rfl
   simp only [a1, a2] at ewid eimm
   have ew : widF (preB q.bits W 16) = 8 := ewid
   have ei : tnumF isImm (preB q.bits W 16) 0 = (W : Int) % 256 := by rw [eimm, if_neg (by omega)]; rfl
   rw [ew, ei, a3]
   refine ⟨fun h => by decide, ?_⟩
   unfold immOf
   rw [if_pos (by omega), signed8, show (2 : Int) ^ (8 - 1) = 128 from rfl, show (2 : Int) ^ 8 = 256 from rfl]
   split <;> split <;> omega
  ·have a1 : isFar r.shape.toNat = false := by rw [hs]; rfl
   have a2 : isNear r.shape.toNat = true := by rw [hs]; rfl
   have a3 : lowI r.shape = 0 := by rw [hs]; rfl
   simp only [a1, a2] at ewid eimm
   have ew : widF (preB q.bits W 16) = 8 := ewid
   have ei : tnumF isImm (preB q.bits W 16) 0 = (W : Int) % 256 := by rw [eimm, if_neg (by omega)]; rfl
   rw [ew, ei, a3]
   refine ⟨fun h => absurd h (by decide), ?_⟩
   unfold immOf
   rw [if_neg (by omega), if_neg (by omega), if_pos (by omega), if_neg (by omega)]
  ·have a1 : isFar r.shape.toNat = false := by rw [hs]; rfl
   have a2 : isNear r.shape.toNat = true := by rw [hs]; rfl
   have a3 : lowI r.shape = 0 := by rw [hs]; rfl
   simp only [a1, a2] at ewid eimm
   have ew : widF (preB q.bits W 16) = 8 := ewid
   have ei : tnumF isImm (preB q.bits W 16) 0 = (W : Int) % 256 := by rw [eimm, if_neg (by omega)]; rfl
   rw [ew, ei, a3]
   refine ⟨fun h => absurd h (by decide), ?_⟩
   unfold immOf
   rw [if_neg (by omega), if_neg (by omega), if_pos (by omega), if_neg (by omega)]
 ·rcases hs with hs | hs | hs
  ·have a1 : isFar r.shape.toNat = false := by rw [hs]; rfl
   have a2 : isNear r.shape.toNat = false := by rw [hs]; rfl
   have a3 : lowI r.shape = 0 := by rw [hs]; rfl
   simp only [a1, a2] at ewid eimm
   have ew : widF (preB q.bits W 16) = 0 := ewid
   have ei : tnumF isImm (preB q.bits W 16) 0 = 0 := by rw [eimm, if_neg (by omega)]; rfl
   rw [ew, ei, a3]
   refine ⟨fun h => absurd h (by decide), ?_⟩
   unfold immOf
   rw [if_neg (by omega), if_neg (by omega), if_neg (by omega), if_neg (by omega)]
  ·have a1 : isFar r.shape.toNat = false := by rw [hs]; rfl
   have a2 : isNear r.shape.toNat = false := by rw [hs]; rfl
   have a3 : lowI r.shape = 0 := by rw [hs]; rfl
   simp only [a1, a2] at ewid eimm
   have ew : widF (preB q.bits W 16) = 0 := ewid
   have ei : tnumF isImm (preB q.bits W 16) 0 = 0 := by rw [eimm, if_neg (by omega)]; rfl
   rw [ew, ei, a3]
   refine ⟨fun h => absurd h (by decide), ?_⟩
   unfold immOf
   rw [if_neg (by omega), if_neg (by omega), if_neg (by omega), if_neg (by omega)]
  ·have a1 : isFar r.shape.toNat = false := by rw [hs]; rfl
   have a2 : isNear r.shape.toNat = false := by rw [hs]; rfl
   have a3 : lowI r.shape = 0 := by rw [hs]; rfl
   simp only [a1, a2] at ewid eimm
   have ew : widF (preB q.bits W 16) = 0 := ewid
   have ei : tnumF isImm (preB q.bits W 16) 0 = 0 := by rw [eimm, if_neg (by omega)]; rfl
   rw [ew, ei, a3]
   refine ⟨fun h => absurd h (by decide), ?_⟩
   unfold immOf
   rw [if_neg (by omega), if_neg (by omega), if_neg (by omega), if_neg (by omega)]
 ·rcases hs with hs | hs
  ·have a1 : isFar r.shape.toNat = false := by rw [hs]; rfl
   have a2 : isNear r.shape.toNat = false := by rw [hs]; rfl
   have a3 : lowI r.shape = 0 := by rw [hs]; rfl
   simp only [a1, a2] at ewid eimm
   have ew : widF (preB q.bits W 16) = 0 := ewid
   have ei : tnumF isImm (preB q.bits W 16) 0 = 0 := by rw [eimm, if_neg (by omega)]; rfl
   rw [ew, ei, a3]
   refine ⟨fun h => absurd h (by decide), ?_⟩
   unfold immOf
   rw [if_neg (by omega), if_neg (by omega), if_neg (by omega), if_neg (by omega)]
  ·have a1 : isFar r.shape.toNat = false := by rw [hs]; rfl
   have a2 : isNear r.shape.toNat = false := by rw [hs]; rfl
   have a3 : lowI r.shape = 0 := by rw [hs]; rfl
   simp only [a1, a2] at ewid eimm
   have ew : widF (preB q.bits W 16) = 0 := ewid
   have ei : tnumF isImm (preB q.bits W 16) 0 = 0 := by rw [eimm, if_neg (by omega)]; rfl
   rw [ew, ei, a3]
   refine ⟨fun h => absurd h (by decide), ?_⟩
   unfold immOf
   rw [if_neg (by omega), if_neg (by omega), if_neg (by omega), if_neg (by omega)]
 ·rcases hs with hs | hs
  ·have a1 : isFar r.shape.toNat = false := by rw [hs]; rfl
   have a2 : isNear r.shape.toNat = true := by rw [hs]; rfl
   have a3 : lowI r.shape = -128 := by rw [hs]; rfl
   simp only [a1, a2] at ewid eimm
   have ew : widF (preB q.bits W 16) = 8 := ewid
   have ei : tnumF isImm (preB q.bits W 16) 0 = (W : Int) % 256 := by rw [eimm, if_neg (by omega)]; rfl
   rw [ew, ei, a3]
   refine ⟨fun h => by decide, ?_⟩
   unfold immOf
   rw [if_pos (by omega), signed8, show (2 : Int) ^ (8 - 1) = 128 from rfl, show (2 : Int) ^ 8 = 256 from rfl]
   split <;> split <;> omega
  ·have a1 : isFar r.shape.toNat = false := by rw [hs]; rfl
   have a2 : isNear r.shape.toNat = true := by rw [hs]; rfl
   have a3 : lowI r.shape = 0 := by rw [hs]; rfl
   simp only [a1, a2] at ewid eimm
   have ew : widF (preB q.bits W 16) = 8 := ewid
   have ei : tnumF isImm (preB q.bits W 16) 0 = (W : Int) % 256 := by rw [eimm, if_neg (by omega)]; rfl
   rw [ew, ei, a3]
   refine ⟨fun h => absurd h (by decide), ?_⟩
   unfold immOf
   rw [if_neg (by omega), if_neg (by omega), if_pos (by omega), if_neg (by omega)]
 ·have a1 : isFar r.shape.toNat = true := by rw [hs]; rfl
  have a2 : isNear r.shape.toNat = false := by rw [hs]; rfl
  have a3 : lowI r.shape = -2048 := by rw [hs]; rfl
  simp only [a1, a2] at ewid eimm
  have ew : widF (preB q.bits W 16) = 12 := ewid
  have ei : tnumF isImm (preB q.bits W 16) 0 = (W : Int) % 4096 := by rw [eimm, if_pos hs]
  rw [ew, ei, a3]
  refine ⟨fun h => by decide, ?_⟩
  unfold immOf
  rw [if_neg (by omega), if_pos hs, signed12, show (2 : Int) ^ (12 - 1) = 2048 from rfl, show (2 : Int) ^ 12 = 4096 from rfl]
  split <;> split <;> omega
end Go.Proofs.YthmdddenbfbefaaGreatDoor
namespace Go.Proofs.YthmdddenbfbefaaGreatDoor
open Go Go.Plat
set_option linter.unusedVariables false
set_option linter.unusedSimpArgs false
set_option maxRecDepth 100000
set_option maxHeartbeats 2000000
attribute [local irreducible] AWP Arith BitS BytesS CallS CatS DrawS EndS IdxS LookS LoopEnd Meets ModeS NilS NormL NormM QuoS RemS ShlS ShrS SideS SplitS allB bitI decR infoR irows rinfo rowsB rrows
theorem rdecode : Meets Tryz.prog n_plref1_Decode (SpecP (fun _ : Int => True) (fun w => [.int .i64 w]) fun w => .tup [insD (decI w).1, .int .i64 (decI w).2]) :=
 rdecode_meets fun W j r q hW hj hq => row_dec hW (List.mem_of_getElem? hj) (rbits_len q (List.mem_of_getElem? hq)) (row_chkD hj hq)
end Go.Proofs.YthmdddenbfbefaaGreatDoor
namespace Go.Proofs.YthmdddenbfbefaaGreatDoor
open Go Go.Plat
set_option linter.unusedVariables false
set_option linter.unusedSimpArgs false
set_option maxRecDepth 100000
set_option maxHeartbeats 2000000
attribute [local irreducible] AWP Arith BitS BytesS CallS CatS DrawS EndS IdxS Lib.itoa LookS LoopEnd Meets ModeS NilS NormL NormM QuoS RemS ShlS ShrS SideS SplitS bitI buildR decI encV farS fillS getN linesR
theorem far_case {u : Nat} {back not : Bool} {code : List UInt8} {to m : Int} (h : FarOk u back not code to m) (at_ op : Int) (lim : Nat) (ha : at_ = if back = true then 4 + 2 * (u : Int) else 0) (ho : op = opB not) (hl : lim = if back = true then 124 else 128) :
  -2048 ≤ m ∧ m ≤ 2047 ∧ ((u ≤ lim ∧ (code.length : Int) = 6 + 2 * (u : Int) ∧ decI (getN code at_ 2) = (⟨op, 0, 0, m⟩, 0) ∧ to = at_ + 4 + 2 * m) ∨
  (lim < u ∧ (code.length : Int) = 10 + 2 * (u : Int) ∧ decI (getN code at_ 2) = (⟨35 - op, 0, 0, 1⟩, 0) ∧ decI (getN code (at_ + 2) 2) = (⟨19, 0, 0, m⟩, 0) ∧ getN code (at_ + 4) 2 = 9 ∧ to = at_ + 6 + 2 * m)) := by
 obtain ⟨h1, h2, h3⟩ := h
 have e : (if back = true then u ≤ 124 else u ≤ 128) ↔ u ≤ lim := by rw [hl]; cases back <;> simp
 simp only [e] at h1 h2 h3
 rw [← ha, ← ho] at h2 h3
 by_cases hu : u ≤ lim
 ·obtain ⟨a, b, c, d⟩ := h2 hu
  rw [if_pos hu] at h1
  refine ⟨by omega, by omega, .inl ⟨hu, h1, ?_, d⟩⟩
  rw [a]
  exact (br_ok (ho ▸ opB_is not) b c).dec
 ·obtain ⟨a, b, c, d1, d2, d3⟩ := h3 hu
  rw [if_neg hu] at h1
  refine ⟨d1, d2, .inr ⟨by omega, h1, ?_, ?_, c, d3⟩⟩
  ·rw [a]
   have := opB_is not
   exact (br_ok (by omega) (by decide) (by decide)).dec
  ·rw [b]; exact (bra_ok d1 d2).dec
theorem cat_gen {s t : List UInt8} {K : D → Prop} (p q : Nat) (hs : s.length ≤ p) (ht : t.length ≤ q) (hb : p + q ≤ 1000000) (h : ∀ y, y = s ++ t → y.length ≤ p + q → K (.str y)) : CatS s t K :=
 cat_mk (by omega) (h _ rfl (by rw [List.length_append]; omega))
theorem asmfar_meets : Meets Tryz.prog n_pllaw5_AsmFar (SpecP (fun ((n, _, _) : Int × Bool × Bool) => -9223372036854775808 ≤ n ∧ n ≤ 9223372036854775807) (fun (n, back, not) => [.int .i64 n, .bool back, .bool not]) fun _ => .bool true) := by
 refine meets_f tabOk Tryz.func3 rfl (by decide) ?_
 rintro ⟨n, back, not⟩ ⟨hn0, hn1⟩
 have hn0 : -9223372036854775808 ≤ n := hn0
 have hn1 : n ≤ 9223372036854775807 := hn1
 refine ⟨Nat.le_refl _, by simp [Tryz.f3], fun E hE => ?_⟩
 refine vcOk _ ?_
 (all_goals refine qgp (Lf.mk ?_))
 refine call_p alive5_meets () trivial (VS.mk (LeL.of_eq rfl)) ?_
 (all_goals refine qgp ?_ <;> (repeat' first | exact trivial | intro hc | refine And.intro ?_ ?_) <;> refine Lf.mk ?_)
 (any_goals (first | (exfalso; refine Bool.false_ne_true ?_; assumption) | (exfalso; refine Bool.false_ne_true (Eq.symm ?_); assumption) | (exfalso; refine absurd trivial ?_; assumption) | skip))
 ·exact end_p (VS.mk (LeD.tt rfl))
 ·exact end_p (VS.mk (LeD.tt rfl))
 all_goals
  have hnot := hc
  obtain ⟨u, rfl⟩ := Int.eq_ofNat_of_zero_le (show 0 ≤ n by omega)
  have hA : ((u : Int) / 30) = ((u / 30 : Nat) : Int) := by omega
  have hB : ((u : Int) % 30) = ((u % 30 : Nat) : Int) := by omega
  have hu : 30 * (u / 30) + u % 30 = u := by omega
  have hin := far_in (A := u / 30) (B := u % 30) (by omega) (by omega) back not
  have hla := (lex_rept (u := u / 30) (by omega)).2.1
  have hlb := (lex_rept (u := u % 30) (by omega)).2.1
  obtain ⟨code, to, m, hob, hfar⟩ := far_obj (u / 30) (u % 30) back not (by omega)
  rw [hu] at hfar
  rw [hA]
  refine call_p itoa_meets ((u / 30 : Nat) : Int) ⟨by show _ ≤ ((u / 30 : Nat) : Int); omega, by show ((u / 30 : Nat) : Int) ≤ _; omega⟩ (VS.mk (LeL.of_eq rfl)) ?_
  have hla : (Lib.itoa ((u / 30 : Nat) : Int)).length ≤ 10 := by unfold reptW at hla; simp only [List.length_append, List.length_cons, List.length_nil] at hla; omega
  have hlb : (Lib.itoa ((u % 30 : Nat) : Int)).length ≤ 10 := by unfold reptW at hlb; simp only [List.length_append, List.length_cons, List.length_nil] at hlb; omega
  generalize Lib.itoa ((u / 30 : Nat) : Int) = a at *
  (all_goals refine qgp (Lf.mk ?_))
  refine cat_gen 6 10 (by decide) hla (by decide) fun y1 e1 l1 => ?_
  (all_goals refine qgp (Lf.mk ?_))
  refine cat_gen 16 100 l1 (by decide) (by decide) fun y2 e2 l2 => ?_
  (all_goals refine qgp (Lf.mk ?_))
  rw [hB]
  refine call_p itoa_meets ((u % 30 : Nat) : Int) ⟨by show _ ≤ ((u % 30 : Nat) : Int); omega, by show ((u % 30 : Nat) : Int) ≤ _; omega⟩ (VS.mk (LeL.of_eq rfl)) ?_
  generalize Lib.itoa ((u % 30 : Nat) : Int) = b at *
  (all_goals refine qgp (Lf.mk ?_))
  refine cat_gen 116 10 l2 hlb (by decide) fun y3 e3 l3 => ?_
  (all_goals refine qgp (Lf.mk ?_))
  refine cat_gen 126 20 l3 (by decide) (by decide) fun y4 e4 l4 => ?_
  (all_goals refine qgp (Lf.mk ?_))
  refine cat_gen 2 20 (by decide) (by decide) (by decide) fun y5 e5 l5 => ?_
  (all_goals refine qgp (Lf.mk ?_))
  refine cat_gen 22 146 l5 l4 (by decide) fun y6 e6 l6 => ?_
  (all_goals refine qgp (Lf.mk ?_))
  refine cat_gen 168 20 l6 (by decide) (by decide) fun y7 e7 l7 => ?_
  (all_goals refine qgp ?_ <;> (repeat' first | exact trivial | intro hc | refine And.intro ?_ ?_) <;> refine Lf.mk ?_)
  all_goals have hback := hc
  refine cat_gen 20 146 (by decide) l4 (by decide) fun y8 e8 l8 => ?_
  (all_goals refine qgp (Lf.mk ?_))
  refine cat_gen 166 2 l8 (by decide) (by decide) fun y9 e9 l9 => ?_
  (all_goals refine qgp (Lf.mk ?_))
  refine cat_gen 168 20 l9 (by decide) (by decide) fun y10 e10 l10 => ?_
  (all_goals refine qgp (Lf.mk ?_))
  all_goals refine call_p unit_segs (farS a b back not, farG (u / 30) (u % 30) back not) hin (VS.mk (LeL.of_eq (by subst_vars; unfold farS fillS nmB ninesT nineT; rfl))) ?_
  all_goals
   dsimp only
   rw [farG_O, hob]
   dsimp only
   subst hback
   have hl6 : 6 + 2 * (u : Int) ≤ (code.length : Int) := by rw [hfar.len]; split <;> omega
   have hl10 : (code.length : Int) ≤ 10 + 2 * (u : Int) := by rw [hfar.len]; split <;> omega
  (all_goals refine qgp ?_ <;> (repeat' first | exact trivial | intro hc | refine And.intro ?_ ?_) <;> refine Lf.mk ?_)
  all_goals first
   | (exfalso; exact (by assumption : ¬ True) trivial)
   | skip
 all_goals first
  | have hcase := far_case hfar (4 + 2 * (u : Int)) 18 124 rfl (by rw [hnot]; rfl) rfl
  | have hcase := far_case hfar (4 + 2 * (u : Int)) 17 124 rfl (by rw [hnot]; rfl) rfl
  | have hcase := far_case hfar 0 18 128 rfl (by rw [hnot]; rfl) rfl
  | have hcase := far_case hfar 0 17 128 rfl (by rw [hnot]; rfl) rfl
 all_goals
  clear hfar hob hin e1 e2 e3 e4 e5 e6 e7 l1 l2 l3 l4 l5 l6 l7
  refine call_p get2_meets (code, _, 2) ⟨by omega, by omega, by decide⟩ (VS.mk (LeL.of_eq rfl)) ?_
  dsimp only
  (all_goals refine qgp (Lf.mk ?_))
  refine call_p rdecode _ trivial (VS.mk (LeL.of_eq rfl)) ?_
  obtain ⟨hm0, hm1, ⟨q1, q2, q3, q4⟩ | ⟨q1, q2, q3, q4, q5, q6⟩⟩ := hcase
  ·rw [q3]
   dsimp only [insD]
   (all_goals refine qgp ?_ <;> (repeat' first | exact trivial | intro hc | refine And.intro ?_ ?_) <;> refine Lf.mk ?_)
   all_goals first
    | (exfalso; exact (by assumption : ¬ True) trivial)
    | (exfalso; refine hc ?_; rw [decide_eq_true (by omega)]; rfl)
    | exact end_p (VS.mk (LeD.of_eq (congrArg D.bool (beq_iff_eq.2 q4))))
  ·rw [q3]
   dsimp only [insD]
   (all_goals refine qgp ?_ <;> (repeat' first | exact trivial | intro hc | refine And.intro ?_ ?_) <;> refine Lf.mk ?_)
   all_goals first
    | (exfalso; exact (by assumption : ¬ True) trivial)
    | (exfalso; refine hc ?_; rw [decide_eq_false (by omega)]; rfl)
    | skip
   refine call_p get2_meets (code, _, 2) ⟨by omega, by omega, by decide⟩ (VS.mk (LeL.of_eq rfl)) ?_
   dsimp only
   (all_goals refine qgp (Lf.mk ?_))
   refine call_p rdecode _ trivial (VS.mk (LeL.of_eq rfl)) ?_
   rw [q4]
   dsimp only [insD]
   (all_goals refine qgp ?_ <;> (repeat' first | exact trivial | intro hc | refine And.intro ?_ ?_) <;> refine Lf.mk ?_)
   all_goals first
    | (exfalso; exact (by assumption : ¬ True) trivial)
    | skip
   refine call_p get2_meets (code, _, 2) ⟨by omega, by omega, by decide⟩ (VS.mk (LeL.of_eq rfl)) ?_
   dsimp only
   rw [q5]
   (all_goals refine qgp (Lf.mk ?_))
   exact end_p (VS.mk (LeD.of_eq rfl))
end Go.Proofs.YthmdddenbfbefaaGreatDoor
namespace Go.Proofs.YthmdddenbfbefaaGreatDoor
open Go Go.Plat
set_option linter.unusedVariables false
set_option linter.unusedSimpArgs false
set_option maxRecDepth 100000
set_option maxHeartbeats 2000000
attribute [local irreducible] AWP Arith BitS BytesS CallS CatS DrawS EndS IdxS LookS LoopEnd Meets ModeS NilS NormL NormM QuoS RemS ShlS ShrS SideS SplitS bitI
theorem own : ownKnob Tryz.prog.godebug = none := by kernel_rfl
theorem one_le {H : Type} (d : DataW H) : 1 ≤ Rows.uptoBulk d := by
 cases d with
 | lit l => cases l <;> simp [Rows.uptoBulk]
 | nil => simp [Rows.uptoBulk]
 | ptr d => simp [Rows.uptoBulk]
 | slice el sp => simp [Rows.uptoBulk]
 | agg ps => simp [Rows.uptoBulk]
 | iface t d => simp [Rows.uptoBulk]
 | map es => simp [Rows.uptoBulk]
 | held h => simp [Rows.uptoBulk]
theorem length_le {H : Type} (l : List (DataW H)) : l.length ≤ Rows.uptoBulkAll l := by
 induction l with
 | nil => simp [Rows.uptoBulkAll]
 | cons x r ih => have := one_le x; simp only [Rows.uptoBulkAll, List.length_cons]; omega
end Go.Proofs.YthmdddenbfbefaaGreatDoor
namespace Go.Plat
open Go
set_option linter.unusedVariables false
set_option linter.unusedSimpArgs false
abbrev GFact (w : World) (F : Nat → Nat → Prop) (g : Nat) (cs : List D) : Prop := RepP w F (.ptr cs) (.pointer (some ⟨g, 0, none⟩)) ∧
 (∀ off, ¬ F g off) ∧ (∃ row t z, w.heap[g]? = some (.cells row t z) ∧ (row.size = cs.length ∨ cs = [.any])) ∧
 (cs = [.any] → ∃ u v, w.cell? ⟨g, 0, none⟩ = some (.iface u v))
def GOkL (w : World) (F : Nat → Nat → Prop) (l : List (Nat × Nat × List Nat)) : Prop := ∀ g cs, findG l g = some cs → GFact w F g cs
theorem gokl_nil {w : World} {F : Nat → Nat → Prop} : GOkL w F [] := fun g cs h => by cases h
theorem gokl_cons {w : World} {F : Nat → Nat → Prop} {h k : Nat} {ns : List Nat} {r : List (Nat × Nat × List Nat)} (hf : GFact w F h (globD k ns)) (hr : GOkL w F r) : GOkL w F ((h, k, ns) :: r) := by
 intro g cs hg
 rw [findG] at hg
 cases hb : Nat.beq h g with
 | false => rw [hb] at hg; exact hr g cs hg
 | true =>
  rw [hb] at hg
  have e := Nat.eq_of_beq_eq_true hb
  subst e
  cases hg
  exact hf
theorem gfact {P : Program} {w : World} {name : String} {g : Nat} {k : IntKind} {zs : List Int} {ns : List Nat} (hn : P.globalNamed name = some g) (h : Lib.TabIs P w name k zs)
  (hz : zs = ns.map fun n : Nat => (n : Int)) : GFact w F0 g (ns.map fun n => D.int k (n : Nat)) := by
 have hc := fun i hi => h.cell hn i hi
 refine ⟨.ptr _ _ _ (fun j => .int k (zs.getD j 0)) (fun j c hj => ⟨?_, fun f => f⟩) (fun j c hj => ?_), fun off f => f, ?_, fun e => absurd e (fun e => ?_)⟩
 ·have hjl : j < ns.length := by
   have := (List.getElem?_eq_some_iff.1 hj).1
   simpa using this
  rw [Nat.zero_add]
  exact hc j (by rw [hz]; simpa using hjl)
 ·have hjl : j < ns.length := by
   have := (List.getElem?_eq_some_iff.1 hj).1
   simpa using this
  rw [List.getElem?_map, List.getElem?_eq_getElem hjl] at hj
  cases hj
  have : zs.getD j 0 = (ns[j] : Int) := by
   rw [hz, List.getD_eq_getElem?_getD, List.getElem?_map, List.getElem?_eq_getElem hjl]; rfl
  dsimp only
  rw [this]
  exact .int _ _
 ·unfold Lib.TabIs World.var? at h
  rw [hn] at h
  dsimp only [Option.bind_some] at h
  split at h
  ·rename_i cs t z hh
   cases h
   exact ⟨_, _, _, hh, .inl (by rw [hz]; simp)⟩
  ·cases h
 ·match ns, e with
  | [], e => cases e
  | n :: r, e => cases (List.cons.inj e).1
theorem tab_of_vars {P : Program} {W : World} {name : String} {k : IntKind} {zs : List Int} {rest : List (String × DataW Unit)} {g : Nat} {t e : TypeId} {n : Nat} {ps : List MemPlace} {d : DataW Unit}
  (hg : P.globalNamed name = some g) (hty : (P.globals[g]?).map (·.type) = some t) (ht : P.underlying t = some (.array n e)) (he : P.underlying e = some (.int k)) (hce : P.cellsOf e = 1) (hct : P.cellsOf t = n)
  (hd : d = Lib.tabData k zs) (h : DataW.LaidVars P W ((name, d) :: rest) ps) : Lib.TabIs P W name k zs ∧ ∃ q, DataW.LaidVars P W rest q := by
 subst hd
 obtain ⟨g', t', cs, fuel, p, q, hg', ht', hvar, hd, hr, _⟩ := h
 obtain rfl := Option.some.inj (hg.symm.trans hg')
 obtain rfl := Option.some.inj (hty.symm.trans ht')
 refine ⟨?_, q, hr⟩
 unfold Lib.TabIs
 rw [hvar, ← Lib.cells_of_tab ht he hce hct hd]
theorem laid_tail {P : Program} {W : World} {x : String × DataW Unit} {rest : List (String × DataW Unit)} {ps : List MemPlace} (h : DataW.LaidVars P W (x :: rest) ps) : ∃ q, DataW.LaidVars P W rest q := by
 obtain ⟨g', t', cs, fuel, p, q, hg', ht', hvar, hd, hr, _⟩ := h
 exact ⟨q, hr⟩
def isIf : DataW Unit → Bool
 | .iface _ _ => true
 | _ => false
theorem iface_of_vars {P : Program} {W : World} {name : String} {rest : List (String × DataW Unit)} {g : Nat} {t : TypeId} {ps : List MemPlace} {d : DataW Unit}
  (hg : P.globalNamed name = some g) (hty : (P.globals[g]?).map (·.type) = some t) (ht : ((P.underlying t).map fun | .interface _ => true | _ => false) = some true)
  (hd : isIf d = true) (h : DataW.LaidVars P W ((name, d) :: rest) ps) : GFact W F0 g [.any] ∧ ∃ q, DataW.LaidVars P W rest q := by
 obtain ⟨g', t', cs, fuel, p, q, hg', ht', hvar, htr, hr, _⟩ := h
 obtain rfl := Option.some.inj (hg.symm.trans hg')
 obtain rfl := Option.some.inj (hty.symm.trans ht')
 refine ⟨?_, q, hr⟩
 cases d with
 | iface n x =>
  have hrow : ∃ u v, cs.toList = [Value.iface u v] := by
   cases fuel with
   | zero => simp [DataW.trod] at htr
   | succ fuel =>
    cases hun : P.underlying t with
    | none => rw [hun] at ht; cases ht
    | some dd =>
     rw [hun] at ht
     cases dd with
     | interface ms =>
      generalize cs.toList = l at htr
      unfold DataW.trod at htr
      rw [hun] at htr
      match l, htr with
      | [], htr => cases htr
      | [.nilIface], htr => cases htr
      | [.iface u v], htr => exact ⟨u, v, rfl⟩
      | a :: b :: r, htr => cases a <;> cases htr
      | [.bool _], htr | [.int _ _], htr | [.float _ _], htr | [.string _], htr | [.pointer _], htr | [.slice _ _ _], htr | [.map _], htr | [.chan _], htr | [.func _ _ _], htr | [.nilFunc], htr | [.agg _], htr | [.tuple _], htr => cases htr
     | _ => cases ht
  obtain ⟨u, v, hv⟩ := hrow
  have hcs : cs = #[Value.iface u v] := by
   apply Array.ext'
   rw [hv]
  subst hcs
  unfold World.var? at hvar
  rw [hg] at hvar
  dsimp only [Option.bind_some] at hvar
  split at hvar
  ·rename_i cs t z hh
   cases hvar
   have hcell : W.cell? ⟨g, 0, none⟩ = some (.iface u v) := by simp only [World.cell?, hh]; rfl
   refine ⟨.ptr _ _ _ (fun _ => .iface u v) (fun j c hj => ?_) (fun j c hj => ?_), fun off f => f, ⟨_, _, _, hh, .inl rfl⟩, fun _ => ⟨u, v, hcell⟩⟩
   ·cases j with
    | zero => exact ⟨hcell, fun f => f⟩
    | succ j => simp at hj
   ·cases j with
    | zero =>
     simp at hj
     subst hj
     exact .any _
    | succ j => simp at hj
  ·cases hvar
 | _ => cases hd
end Go.Plat
namespace Go.Proofs.YthmdddenbfbefaaGreatDoor
open Go Go.Plat
set_option linter.unusedVariables false
set_option linter.unusedSimpArgs false
set_option maxRecDepth 100000
set_option maxHeartbeats 2000000
open Go.ChangeShapes Go.WideShapes Go.ChangeAt Go.RowKit
attribute [local irreducible] AWP Arith BitS BytesS CallS CatS DrawS EndS IdxS LookS LoopEnd Meets ModeS NilS NormL NormM QuoS RemS ShlS ShrS SideS SplitS bitI
theorem asm_glob {W : World} (h : laidMetH Tryz.prog Rows.asmNamesUptoRow.laid W) : GOk W F0 := by
 rw [MakeChecks.laidMetH_plain _ _ _ (by kernel_rfl)] at h
 obtain ⟨ps, h, _⟩ := h
 obtain ⟨h1, q1, h⟩ := tab_of_vars (k := .u8) (zs := [0, 1, 28, 2, 29, 14, 24, 3, 30, 22, 20, 15, 25, 17, 4, 8, 31, 27, 13, 23, 21, 19, 16, 7, 26, 12, 18, 6, 11, 5, 10, 9]) (g := 1) (t := 298) (e := 5) (n := 32) (by kernel_rfl) (by kernel_rfl) (by kernel_rfl) (by kernel_rfl) (by kernel_rfl) (by kernel_rfl) (by kernel_rfl) h
 obtain ⟨h2, q2, h⟩ := tab_of_vars (k := .u8) (zs := [0, 1, 56, 2, 57, 49, 28, 3, 61, 58, 42, 50, 38, 29, 17, 4, 62, 47, 59, 36, 45, 43, 51, 22, 53, 39, 33, 30, 24, 18, 12, 5, 63, 55, 48, 27, 60, 41, 37, 16, 46, 35, 44, 21, 52, 32, 23, 11, 54, 26, 40, 15, 34, 20, 31, 10, 25, 14, 19, 9, 13, 8, 7, 6]) (g := 2) (t := 299) (e := 5) (n := 64) (by kernel_rfl) (by kernel_rfl) (by kernel_rfl) (by kernel_rfl) (by kernel_rfl) (by kernel_rfl) (by kernel_rfl) h
 obtain ⟨h3, q3, h⟩ := tab_of_vars (k := .u64) (zs := Lib.pow10Tab) (g := 0) (t := 251) (e := 199) (n := 20) (by kernel_rfl) (by kernel_rfl) (by kernel_rfl) (by kernel_rfl) (by kernel_rfl) (by kernel_rfl) (by kernel_rfl) h
 obtain ⟨q4, h⟩ := laid_tail h
 obtain ⟨h5, q5, h⟩ := iface_of_vars (g := 7) (t := 258) (by kernel_rfl) (by kernel_rfl) (by kernel_rfl) rfl h
 obtain ⟨h6, q6, h⟩ := iface_of_vars (g := 6) (t := 258) (by kernel_rfl) (by kernel_rfl) (by kernel_rfl) rfl h
 show GOkL W F0 globs
 unfold globs
 exact gokl_cons (gfact (k := .u64) (by kernel_rfl) h3 (by kernel_rfl)) (gokl_cons (gfact (k := .u8) (by kernel_rfl) h1 (by kernel_rfl)) (gokl_cons (gfact (k := .u8) (by kernel_rfl) h2 (by kernel_rfl)) (gokl_cons h6 (gokl_cons h5 gokl_nil))))
end Go.Proofs.YthmdddenbfbefaaGreatDoor
