/-
  A part of the proof: what the given program's functions answer, each once; conditions that are enough for it.
-/
import Derived.Test.YthmdddenbfbefaaGreatDoorSt3
import Derived.Test.YthmdddenbfbefaaGreatDoorSt2
import Derived.Test.YthmdddenbfbefaaGreatDoorSt1
import Derived.Test.YthmdddenbfbefaaGreatDoorFw3
import Derived.Test.YthmdddenbfbefaaGreatDoorRows
import Derived.WalkKit
import Derived.ProofKit
import Derived.OpenShut
import Derived.JoinedCond
import Derived.Deep.DeepHandedRow
import Derived.Lay
import Derived.Test.YthmdddenbfbefaaGreatDoorTie
namespace Go.Proofs.YthmdddenbfbefaaGreatDoor
open Go Go.Plat
set_option linter.unusedVariables false
set_option linter.unusedSimpArgs false
set_option maxRecDepth 100000
set_option maxHeartbeats 2000000
attribute [local irreducible] AWP Arith BitS BytesS CallS CatS DrawS EndS IdxS LookS LoopEnd Meets ModeS NilS NormL NormM QuoS RemS ShlS ShrS SideS SplitS bitI
theorem upI_id {n : Int} (h : n % 4 = 0) : upI n = n := by unfold upI; omega
theorem upI_more {n : Int} (h : n % 4 = 0) (k : Nat) (hk : k % 4 = 0) : upI (n + (k : Int)) = n + (k : Int) := upI_id (by omega)
theorem lay_one {base n : Int} {o : OObj} {l : List OObj} {i : Nat} {bs bs' : List UInt8} {ss ss' : List OSym} (h1 : upI n = n) (h2 : addS n o.syms ss = some ss') (h3 : layB bs (n - base).toNat o.code = bs') :
  lay base (o :: l) n i bs ss = lay base l (n + o.code.length) (i + 1) bs' ss' := by rw [lay, h1, h2, h3]
theorem fix_one {base n : Int} {o : OObj} {l : List OObj} {i : Nat} {bs bs' : List UInt8} {ss : List OSym} (h1 : upI n = n) (h2 : fixR base n ss o.rels bs = .inr bs') :
  fix base ss (o :: l) n i bs = fix base ss l (n + o.code.length) (i + 1) bs' := by rw [fix, h1, h2]
theorem fixR_one {base b a : Int} {ss : List OSym} {r : ORel} {l : List ORel} {bs : List UInt8} (h1 : placeR b ss r = some a) (h2 : r.size = 4) (h3 : signedI (a + r.add) 32 = a + r.add) :
  fixR base b ss (r :: l) bs = fixR base b ss l (putN bs (b - base + r.at_) 4 (a + r.add)) := by
 rw [fixR, h1]
 dsimp only
 rw [if_neg (fun h => by have := h.1; omega), h2, h3]
 rfl
theorem s32_id {n : Int} (h0 : 0 ≤ n) (h1 : n ≤ 100000) : signedI n 32 = n := by rw [signed32 h0 (by omega), if_pos (by omega)]
def mainB (a b : Int) : List UInt8 := [224, lowByte a, 209, 2, 65, 11, 0, 9, 195, 1, 195, 0, 0, 0, 0, 0, 0, 11, 112, lowByte b]
theorem link_main {a b base : Int} (h0 : 0 ≤ base) (h1 : base ≤ 4000) (h4 : base % 4 = 0) (hm : wrongO (mainO a) = 0) (ho : wrongO (moreO b) = 0) :
  linkO [mainO a, moreO b] base = (⟨base, putN (mainB a b) 12 4 (base + 16), [⟨moreW, base + 16⟩]⟩, 0, 0) := by
 unfold linkO linkR
 rw [if_neg (by omega), if_neg (by show ¬ (2 < 1 ∨ 4 < 2); omega)]
 have hw : firstW [mainO a, moreO b] 0 = none := by rw [firstW, if_pos hm, firstW, if_pos ho, firstW]
 have e16 : base + ((mainO a).code.length : Int) = base + ((16 : Nat) : Int) := rfl
 have hl : lay base [mainO a, moreO b] base 0 [] [] = .inr (mainB a b, [⟨moreW, base + 16 + 0⟩]) := by
  rw [lay_one (bs' := (mainO a).code) (ss' := []) (upI_id h4) rfl (by rw [Int.sub_self]; rfl), e16,
   lay_one (bs' := mainB a b) (ss' := [⟨moreW, base + 16 + 0⟩]) (upI_more h4 16 rfl) rfl (by rw [show (base + ((16 : Nat) : Int) - base).toNat = 16 by omega]; rfl), lay]
 rw [Int.add_zero] at hl
 have hf : fix base [⟨moreW, base + 16⟩] [mainO a, moreO b] base 0 (mainB a b) = .inr (putN (mainB a b) 12 4 (base + 16)) := by
  rw [fix_one (bs' := putN (mainB a b) (base - base + 12) 4 (base + 16 + 0)) (upI_id h4) (by
   refine (fixR_one (a := base + 16) rfl rfl (s32_id (by show 0 ≤ base + 16 + 0; omega) (by show base + 16 + 0 ≤ _; omega))).trans ?_
   rfl), e16, fix_one (upI_more h4 16 rfl) rfl, fix, Int.sub_self, Int.zero_add, Int.add_zero]
 rw [hw, hl]
 dsimp only
 rw [hf]
def turnB (a b : Int) : List UInt8 := [209, 1, 65, 43, 0, 9, 0, 0, 0, 0, 0, 0, 0, 11, 112, lowByte b, 224, lowByte a, 209, 2, 65, 11, 0, 9, 195, 1, 195, 0, 0, 0, 0, 0]
theorem link_turn {a b base : Int} (h0 : 0 ≤ base) (h1 : base ≤ 4000) (h4 : base % 4 = 0) (hl0 : wrongO leadO = 0) (hm : wrongO (startO a) = 0) (ho : wrongO (moreO b) = 0) :
  linkO [leadO, moreO b, startO a] base = (⟨base, putN (putN (turnB a b) 8 4 (base + 16)) 28 4 (base + 12), [⟨moreW, base + 12⟩, ⟨startW, base + 16⟩]⟩, 0, 0) := by
 unfold linkO linkR
 rw [if_neg (by omega), if_neg (by show ¬ (3 < 1 ∨ 4 < 3); omega)]
 have hw : firstW [leadO, moreO b, startO a] 0 = none := by rw [firstW, if_pos hl0, firstW, if_pos ho, firstW, if_pos hm, firstW]
 have e12 : base + (leadO.code.length : Int) = base + ((12 : Nat) : Int) := rfl
 have e16 : base + ((12 : Nat) : Int) + ((moreO b).code.length : Int) = base + ((16 : Nat) : Int) := by show base + ((12 : Nat) : Int) + ((4 : Nat) : Int) = _; omega
 have hl : lay base [leadO, moreO b, startO a] base 0 [] [] = .inr (turnB a b, [⟨moreW, base + 12 + 0⟩, ⟨startW, base + 16 + 0⟩]) := by
  rw [lay_one (bs' := leadO.code) (ss' := []) (upI_id h4) rfl (by rw [Int.sub_self]; rfl), e12,
   lay_one (bs' := leadO.code ++ (moreO b).code) (ss' := [⟨moreW, base + 12 + 0⟩]) (upI_more h4 12 rfl) rfl (by rw [show (base + ((12 : Nat) : Int) - base).toNat = 12 by omega]; rfl), e16,
   lay_one (bs' := turnB a b) (ss' := [⟨moreW, base + 12 + 0⟩, ⟨startW, base + 16 + 0⟩]) (upI_more h4 16 rfl) rfl (by rw [show (base + ((16 : Nat) : Int) - base).toNat = 16 by omega]; rfl), lay]
 rw [Int.add_zero, Int.add_zero] at hl
 have hf : fix base [⟨moreW, base + 12⟩, ⟨startW, base + 16⟩] [leadO, moreO b, startO a] base 0 (turnB a b) = .inr (putN (putN (turnB a b) 8 4 (base + 16)) 28 4 (base + 12)) := by
  rw [fix_one (bs' := putN (turnB a b) (base - base + 8) 4 (base + 16 + 0)) (upI_id h4) (by
   refine (fixR_one (a := base + 16) rfl rfl (s32_id (by show 0 ≤ base + 16 + 0; omega) (by show base + 16 + 0 ≤ _; omega))).trans ?_
   rfl), e12, fix_one (upI_more h4 12 rfl) rfl, e16, fix_one (bs' := putN (putN (turnB a b) (base - base + 8) 4 (base + 16 + 0)) (base + ((16 : Nat) : Int) - base + 12) 4 (base + 12 + 0)) (upI_more h4 16 rfl) (by
   refine (fixR_one (a := base + 12) rfl rfl (s32_id (by show 0 ≤ base + 12 + 0; omega) (by show base + 12 + 0 ≤ _; omega))).trans ?_
   rfl), fix, Int.sub_self, Int.zero_add, Int.add_zero, Int.add_zero, show base + ((16 : Nat) : Int) - base + 12 = 28 by omega]
 rw [hw, hl]
 dsimp only
 rw [hf]
theorem fetch_at {m : Mach} {base k w : Int} {i : Ins} (hb : m.img.base = base) (h2 : base % 4 = 0) (hk : 0 ≤ k) (hk2 : k % 2 = 0) (hl : k + 2 ≤ m.img.bytes.length) (hg : getN m.img.bytes k 2 = w) (hd : decI w = (i, 0)) : fetchM m (base + k) = (i, 0) := by
 unfold fetchM inM
 rw [hb, if_pos (decide_eq_true ⟨by omega, by omega, by omega⟩), show base + k - base = k by omega, hg, hd]
theorem go_plain {n : Nat} {m x : Mach} {base k : Int} {i : Ins} (k' : Int) (hpc : m.pc = base + k) (hf : fetchM m (base + k) = (i, 0)) (h1 : ¬ (i.op = 27 ∧ i.imm = 0)) (h2 : leadsM i.op = false) (hp : plainM { m with steps := m.steps + 1 } i (base + k) = (x, 0)) (hx : x.pc + 2 = base + k') :
  runM (n + 1) m = runM n { x with pc := base + k' } := by
 have hs : stepM m = ({ x with pc := base + k' }, false, 0) := by
  unfold stepM
  rw [hpc, hf]
  dsimp only
  rw [hpc] at hp
  rw [if_neg (fun h => h rfl), if_neg h1, if_pos h2, hp]
  dsimp only
  rw [if_neg (fun h => h rfl), hx]
 rw [runM, hs]
 dsimp only
 rw [if_neg (fun h => h rfl), if_neg (by decide)]
theorem go_late {n : Nat} {m m2 x : Mach} {base k : Int} {i j : Ins} (k2 k3 : Int) (hpc : m.pc = base + k) (hf : fetchM m (base + k) = (i, 0)) (h1 : i.op ≠ 27) (h2 : leadsM i.op = true) (hl : leapM { m with steps := m.steps + 1 } i = (m2, base + k2, true)) (hm : m2.pc + 2 = base + k3)
  (hj : fetchM m2 (base + k3) = (j, 0)) (hj1 : leadsM j.op = false) (hj2 : j.op ≠ 27) (hp : plainM m2 j (base + k3) = (x, 0)) : runM (n + 1) m = runM n { x with pc := base + k2 } := by
 have hs : stepM m = ({ x with pc := base + k2 }, false, 0) := by
  unfold stepM
  rw [hpc, hf]
  dsimp only
  rw [hpc] at hl
  rw [if_neg (fun h => h rfl), if_neg (fun h => h1 h.1), if_neg (by rw [h2]; decide), hl]
  dsimp only
  rw [if_pos rfl]
  unfold lateM
  rw [hm, hj]
  dsimp only
  rw [if_neg (fun h => h rfl), if_neg (by rintro (h | h); · rw [hj1] at h; cases h
                                          ·exact hj2 h), hp]
  dsimp only
  rw [if_neg (fun h => h rfl)]
 rw [runM, hs]
 dsimp only
 rw [if_neg (fun h => h rfl), if_neg (by decide)]
theorem go_end {n : Nat} {m : Mach} {base k : Int} {i : Ins} (hpc : m.pc = base + k) (hf : fetchM m (base + k) = (i, 0)) (h1 : i.op = 27 ∧ i.imm = 0) : runM (n + 1) m = ({ m with steps := m.steps + 1 }, 0) := by
 have hs : stepM m = ({ m with steps := m.steps + 1 }, true, 0) := by
  unfold stepM
  rw [hpc, hf]
  dsimp only
  rw [if_neg (fun h => h rfl), if_pos h1]
 rw [runM, hs]
 dsimp only
 rw [if_neg (fun h => h rfl), if_pos rfl]
theorem load_at {m : Mach} {n imm at_ base k v : Int} (hb : m.img.base = base) (h4 : base % 4 = 0) (hk : 0 ≤ k) (hk4 : k % 4 = 0) (hl : k + 4 ≤ m.img.bytes.length) (ht : (at_ + 4) - (at_ + 4) % 4 + 4 * imm = base + k) (hg : getN m.img.bytes k 4 = v) (hs : signedI v 32 = v) :
  plainM m ⟨24, n, 0, imm⟩ at_ = (setM m n v, 0) := by
 have hto : toM ⟨24, n, 0, imm⟩ at_ = base + k := by
  unfold toM
  have hs : shapeM 24 = 8 := by kernel_rfl
  dsimp only
  rw [hs, if_neg (by decide), if_pos rfl, ht]
 unfold plainM
 dsimp only
 rw [if_neg (by decide), if_neg (by decide), if_neg (by decide), if_neg (by decide), if_neg (by decide), if_pos (.inr (.inl rfl))]
 unfold loadM
 dsimp only
 rw [if_neg (show ¬ (24 : Int) = 26 by decide), if_neg (show ¬ (24 : Int) = 23 by decide), if_neg (show ¬ (24 : Int) = 23 by decide), hto]
 unfold inM
 rw [hb, if_pos (decide_eq_true ⟨by omega, by omega, by omega⟩), show base + k - base = k by omega, hg, hs]
theorem put_len (l : List UInt8) (at_ : Int) (k : Nat) (n : Int) : (putN l at_ k n).length = l.length := putN_len _ _ _ _
theorem get_keep {l : List UInt8} {p n k : Int} {j : Nat} (h : k + j ≤ p ∨ p + 4 ≤ k) : getN (putN l p 4 n) k j = getN l k j := d_getN_congr j fun i h1 h2 => d_put_other p 4 l n i (by omega)
theorem dec_mov : (List.range 201).map (fun k : Nat => decI (57344 + ((lowByte ((k : Int) - 100)).toNat : Int))) = (List.range 201).map fun k : Nat => ((⟨3, 0, 0, (k : Int) - 100⟩ : Ins), 0) := by kernel_rfl
theorem dec_add : (List.range 201).map (fun k : Nat => decI (28672 + ((lowByte ((k : Int) - 100)).toNat : Int))) = (List.range 201).map fun k : Nat => ((⟨4, 0, 0, (k : Int) - 100⟩ : Ins), 0) := by kernel_rfl
theorem in201 {a : Int} (h0 : -100 ≤ a) (h1 : a ≤ 100) : ∃ k : Nat, k ∈ List.range 201 ∧ ((k : Int) - 100) = a := ⟨(a + 100).toNat, List.mem_range.2 (by omega), by omega⟩
theorem dec_mov_at {a : Int} (h0 : -100 ≤ a) (h1 : a ≤ 100) : decI (57344 + ((lowByte a).toNat : Int)) = (⟨3, 0, 0, a⟩, 0) := by
 obtain ⟨k, hk, rfl⟩ := in201 h0 h1
 exact at_map dec_mov hk
theorem dec_add_at {a : Int} (h0 : -100 ≤ a) (h1 : a ≤ 100) : decI (28672 + ((lowByte a).toNat : Int)) = (⟨4, 0, 0, a⟩, 0) := by
 obtain ⟨k, hk, rfl⟩ := in201 h0 h1
 exact at_map dec_add hk
theorem s32_small {n : Int} (h0 : -1000 ≤ n) (h1 : n ≤ 1000) : signedI n 32 = n := by
 have h : signedI n 32 = if n % 4294967296 / 2147483648 = 1 then n % 4294967296 - 4294967296 else n % 4294967296 := rfl
 rw [h]
 split <;> omega
theorem plain_mov (m : Mach) (n a at_ : Int) : plainM m ⟨3, n, 0, a⟩ at_ = (setM m n a, 0) := by unfold plainM; dsimp only; rw [if_pos rfl]
theorem plain_add {m : Mach} {b at_ s : Int} (h : signedI (m.r 0 + b) 32 = s) : plainM m ⟨4, 0, 0, b⟩ at_ = (setM m 0 s, 0) := by
 unfold plainM
 dsimp only
 rw [if_neg (by decide), if_pos rfl, show m.r (0 : Int).toNat = m.r 0 from rfl, h]
theorem plain_nop (m : Mach) (at_ : Int) : plainM m ⟨1, 0, 0, 0⟩ at_ = (m, 0) := by
 unfold plainM
 dsimp only
 rw [if_neg (by decide), if_neg (by decide), if_neg (by decide), if_neg (by decide), if_neg (by decide), if_neg (by decide), if_neg (by decide), if_neg (by decide)]
 unfold sumM
 dsimp only
 rw [if_neg (by decide), if_neg (by decide), if_neg (by decide), if_neg (by decide), if_neg (by decide), if_neg (by decide), if_neg (by decide), if_neg (by decide), if_neg (by decide)]
theorem plain_tell (m : Mach) (at_ : Int) : plainM m ⟨27, 0, 0, 1⟩ at_ = ({ m with told := m.told ++ [m.r 0] }, 0) := by
 unfold plainM
 dsimp only
 rw [if_neg (by decide), if_neg (by decide), if_neg (by decide), if_neg (by decide), if_neg (by decide), if_neg (by decide), if_neg (by decide), if_pos rfl]
theorem leap_jsr {m : Mach} {n t : Int} (h : m.r n.toNat = t) : leapM m ⟨22, n, 0, 0⟩ = ({ m with pr := m.pc + 4 }, t, true) := by
 unfold leapM
 dsimp only
 rw [if_neg (by decide), if_neg (by decide), if_neg (by decide), if_neg (by decide), if_pos rfl, h]
theorem leap_jmp {m : Mach} {n t : Int} (h : m.r n.toNat = t) : leapM m ⟨21, n, 0, 0⟩ = (m, t, true) := by
 unfold leapM
 dsimp only
 rw [if_neg (by decide), if_neg (by decide), if_neg (by decide), if_pos rfl, h]
theorem leap_rts {m : Mach} {t : Int} (h : m.pr = t) : leapM m ⟨2, 0, 0, 0⟩ = (m, t, true) := by
 unfold leapM
 dsimp only
 rw [if_neg (by decide), if_neg (by decide), if_pos rfl, h]
theorem dec_all : decI 53506 = (⟨24, 1, 0, 2⟩, 0) ∧ decI 53505 = (⟨24, 1, 0, 1⟩, 0) ∧ decI 16651 = (⟨22, 1, 0, 0⟩, 0) ∧ decI 16683 = (⟨21, 1, 0, 0⟩, 0) ∧ decI 9 = (⟨1, 0, 0, 0⟩, 0) ∧ decI 11 = (⟨2, 0, 0, 0⟩, 0) ∧ decI 49921 = (⟨27, 0, 0, 1⟩, 0) ∧ decI 49920 = (⟨27, 0, 0, 0⟩, 0) :=
 ⟨by kernel_rfl, by kernel_rfl, by kernel_rfl, by kernel_rfl, by kernel_rfl, by kernel_rfl, by kernel_rfl, by kernel_rfl⟩
theorem get2 {x y : Int} {l : List UInt8} {k v : Int} (hx : byteAt l (k + 0) = x) (hy : byteAt l (k + 1) = y) (h : x * 256 + y = v) : getN l k 2 = v := by
 show (0 * 256 + byteAt l (k + ((0 : Nat) : Int))) * 256 + byteAt l (k + ((1 : Nat) : Int)) = v
 rw [show k + ((0 : Nat) : Int) = k + 0 from rfl, show k + ((1 : Nat) : Int) = k + 1 from rfl, hx, hy]
 omega
theorem get_kept {l : List UInt8} {p n k w : Int} (h : k + ((2 : Nat) : Int) ≤ p ∨ p + 4 ≤ k) (hg : getN l k 2 = w) : getN (putN l p 4 n) k 2 = w := (get_keep h).trans hg
def zR : Nat → Int := fun _ => 0
attribute [local irreducible] runM fetchM plainM leapM decI stepM getN putN
theorem run_main {a b base : Int} (ha0 : -100 ≤ a) (ha1 : a ≤ 100) (hb0 : -100 ≤ b) (hb1 : b ≤ 100) (h0 : 0 ≤ base) (h1 : base ≤ 4000) (h4 : base % 4 = 0) (ss : List OSym) :
  ∃ m, runV (newM ⟨base, putN (mainB a b) 12 4 (base + 16), ss⟩) 2000 = (m, 0) ∧ m.told = [a + b] := by
 obtain ⟨d1, _, d3, _, d5, d6, d7, d8⟩ := dec_all
 have dm := dec_mov_at ha0 ha1
 have da := dec_add_at hb0 hb1
 have hBl : (putN (mainB a b) 12 4 (base + 16)).length = 20 := put_len _ _ _ _
 have g0 : getN (putN (mainB a b) 12 4 (base + 16)) 0 2 = 57344 + ((lowByte a).toNat : Int) := get_kept (by omega) (get2 (x := 224) (y := ((lowByte a).toNat : Int)) (by kernel_rfl) (by kernel_rfl) (by omega))
 have g2 : getN (putN (mainB a b) 12 4 (base + 16)) 2 2 = 53506 := get_kept (by omega) (by kernel_rfl)
 have g4 : getN (putN (mainB a b) 12 4 (base + 16)) 4 2 = 16651 := get_kept (by omega) (by kernel_rfl)
 have g6 : getN (putN (mainB a b) 12 4 (base + 16)) 6 2 = 9 := get_kept (by omega) (by kernel_rfl)
 have g8 : getN (putN (mainB a b) 12 4 (base + 16)) 8 2 = 49921 := get_kept (by omega) (by kernel_rfl)
 have g10 : getN (putN (mainB a b) 12 4 (base + 16)) 10 2 = 49920 := get_kept (by omega) (by kernel_rfl)
 have g16 : getN (putN (mainB a b) 12 4 (base + 16)) 16 2 = 11 := get_kept (by omega) (by kernel_rfl)
 have g18 : getN (putN (mainB a b) 12 4 (base + 16)) 18 2 = 28672 + ((lowByte b).toNat : Int) := get_kept (by omega) (get2 (x := 112) (y := ((lowByte b).toNat : Int)) (by kernel_rfl) (by kernel_rfl) (by omega))
 have g12 : getN (putN (mainB a b) 12 4 (base + 16)) 12 4 = base + 16 := d_get_put 12 (by decide) 4 _ _ (by show (12 : Int) + 4 ≤ 20; decide) (by omega) (by show base + 16 < 4294967296; omega)
 generalize putN (mainB a b) 12 4 (base + 16) = B at *
 have hI : ∃ img : OImg, img = ⟨base, B, ss⟩ := ⟨_, rfl⟩
 obtain ⟨img, hI⟩ := hI
 have F : ∀ {m : Mach} {k w : Int} {i : Ins}, m.img = img → 0 ≤ k → k % 2 = 0 → k + 2 ≤ 20 → getN B k 2 = w → decI w = (i, 0) → fetchM m (base + k) = (i, 0) := fun {m k w i} hm a1 a2 a3 a4 a5 => fetch_at (by rw [hm, hI]) h4 a1 a2 (by rw [hm, hI]; show k + 2 ≤ (B.length : Int); omega) (by rw [hm, hI]; exact a4) a5
 rw [← hI]
 have e0 : runV (newM img) 2000 = runM 2000 ⟨zR, false, base, -1, img, [], 0⟩ := by
  unfold runV newM
  rw [if_neg (by decide), hI]
  rfl
 have e1 : runM 2000 ⟨zR, false, base, -1, img, [], 0⟩ = runM 1999 ⟨up zR 0 a, false, base + 2, -1, img, [], 0 + 1⟩ :=
  go_plain (base := base) (k := 0) 2 (Int.add_zero base).symm (F rfl (by decide) (by decide) (by decide) g0 dm) (fun h => absurd h.1 (by show ¬ (3 : Int) = 27; decide)) (by show leadsM 3 = false; kernel_rfl) (plain_mov _ 0 a _) rfl
 have e2 : runM 1999 ⟨up zR 0 a, false, base + 2, -1, img, [], 0 + 1⟩ = runM 1998 ⟨up (up zR 0 a) 1 (base + 16), false, base + 4, -1, img, [], 0 + 1 + 1⟩ :=
  go_plain (base := base) (k := 2) 4 rfl (F rfl (by decide) (by decide) (by decide) g2 d1) (fun h => absurd h.1 (by decide)) (by kernel_rfl)
   (load_at (base := base) (k := 12) (v := base + 16) (by rw [hI]) h4 (by decide) (by decide) (by rw [hI]; show (12 : Int) + 4 ≤ (B.length : Int); omega) (by omega) (by rw [hI]; exact g12) (s32_id (by omega) (by omega))) (by show base + 2 + 2 = base + 4; omega)
 have e3 : runM 1998 ⟨up (up zR 0 a) 1 (base + 16), false, base + 4, -1, img, [], 0 + 1 + 1⟩ = runM 1997 ⟨up (up zR 0 a) 1 (base + 16), false, base + 16, base + 4 + 4, img, [], 0 + 1 + 1 + 1⟩ :=
  go_late (base := base) (k := 4) 16 6 rfl (F rfl (by decide) (by decide) (by decide) g4 d3) (by decide) (by kernel_rfl) (leap_jsr rfl) (by show base + 4 + 2 = base + 6; omega) (F rfl (by decide) (by decide) (by decide) g6 d5) (by kernel_rfl) (by decide) (plain_nop _ _)
 have e4 : runM 1997 ⟨up (up zR 0 a) 1 (base + 16), false, base + 16, base + 4 + 4, img, [], 0 + 1 + 1 + 1⟩ = runM 1996 ⟨up (up (up zR 0 a) 1 (base + 16)) 0 (a + b), false, base + 8, base + 4 + 4, img, [], 0 + 1 + 1 + 1 + 1⟩ :=
  go_late (base := base) (k := 16) 8 18 rfl (F rfl (by decide) (by decide) (by decide) g16 d6) (by decide) (by kernel_rfl) (leap_rts (by show base + 4 + 4 = base + 8; omega)) (by show base + 16 + 2 = base + 18; omega) (F rfl (by decide) (by decide) (by decide) g18 da) (by show leadsM 4 = false; kernel_rfl) (by show (4 : Int) ≠ 27; decide)
   (plain_add (s := a + b) (s32_small (by show -1000 ≤ a + b; omega) (by show a + b ≤ 1000; omega)))
 have e5 : runM 1996 ⟨up (up (up zR 0 a) 1 (base + 16)) 0 (a + b), false, base + 8, base + 4 + 4, img, [], 0 + 1 + 1 + 1 + 1⟩ = runM 1995 ⟨up (up (up zR 0 a) 1 (base + 16)) 0 (a + b), false, base + 10, base + 4 + 4, img, [] ++ [a + b], 0 + 1 + 1 + 1 + 1 + 1⟩ :=
  go_plain (base := base) (k := 8) 10 rfl (F rfl (by decide) (by decide) (by decide) g8 d7) (fun h => absurd h.2 (by decide)) (by kernel_rfl) (plain_tell _ _) (by show base + 8 + 2 = base + 10; omega)
 refine ⟨_, (((((e0.trans e1).trans e2).trans e3).trans e4).trans e5).trans (go_end (base := base) (k := 10) rfl (F rfl (by decide) (by decide) (by decide) g10 d8) ⟨rfl, rfl⟩), rfl⟩
theorem run_turn {a b base : Int} (ha0 : -100 ≤ a) (ha1 : a ≤ 100) (hb0 : -100 ≤ b) (hb1 : b ≤ 100) (h0 : 0 ≤ base) (h1 : base ≤ 4000) (h4 : base % 4 = 0) (ss : List OSym) :
  ∃ m, runV (newM ⟨base, putN (putN (turnB a b) 8 4 (base + 16)) 28 4 (base + 12), ss⟩) 2000 = (m, 0) ∧ m.told = [a + b] := by
 obtain ⟨d1, d2, d3, d4, d5, d6, d7, d8⟩ := dec_all
 have dm := dec_mov_at ha0 ha1
 have da := dec_add_at hb0 hb1
 have hBl : (putN (putN (turnB a b) 8 4 (base + 16)) 28 4 (base + 12)).length = 32 := by rw [put_len, put_len]; rfl
 have G : ∀ {k w : Int}, k + ((2 : Nat) : Int) ≤ 28 → (k + ((2 : Nat) : Int) ≤ 8 ∨ 12 ≤ k) → getN (turnB a b) k 2 = w → getN (putN (putN (turnB a b) 8 4 (base + 16)) 28 4 (base + 12)) k 2 = w := fun hk hk2 hg => get_kept (.inl hk) (get_kept (by omega) hg)
 have g0 := G (k := 0) (w := 53505) (by decide) (by decide) (by kernel_rfl)
 have g2 := G (k := 2) (w := 16683) (by decide) (by decide) (by kernel_rfl)
 have g4 := G (k := 4) (w := 9) (by decide) (by decide) (by kernel_rfl)
 have g12 := G (k := 12) (w := 11) (by decide) (by decide) (by kernel_rfl)
 have g14 := G (k := 14) (w := 28672 + ((lowByte b).toNat : Int)) (by decide) (by decide) (get2 (x := 112) (y := ((lowByte b).toNat : Int)) (by kernel_rfl) (by kernel_rfl) (by omega))
 have g16 := G (k := 16) (w := 57344 + ((lowByte a).toNat : Int)) (by decide) (by decide) (get2 (x := 224) (y := ((lowByte a).toNat : Int)) (by kernel_rfl) (by kernel_rfl) (by omega))
 have g18 := G (k := 18) (w := 53506) (by decide) (by decide) (by kernel_rfl)
 have g20 := G (k := 20) (w := 16651) (by decide) (by decide) (by kernel_rfl)
 have g22 := G (k := 22) (w := 9) (by decide) (by decide) (by kernel_rfl)
 have g24 := G (k := 24) (w := 49921) (by decide) (by decide) (by kernel_rfl)
 have g26 := G (k := 26) (w := 49920) (by decide) (by decide) (by kernel_rfl)
 have g28 : getN (putN (putN (turnB a b) 8 4 (base + 16)) 28 4 (base + 12)) 28 4 = base + 12 := d_get_put 28 (by decide) 4 _ _ (by rw [put_len]; show (28 : Int) + 4 ≤ 32; decide) (by omega) (by show base + 12 < 4294967296; omega)
 have g8 : getN (putN (putN (turnB a b) 8 4 (base + 16)) 28 4 (base + 12)) 8 4 = base + 16 := (get_keep (.inl (by decide))).trans (d_get_put 8 (by decide) 4 _ _ (by show (8 : Int) + 4 ≤ 32; decide) (by omega) (by show base + 16 < 4294967296; omega))
 clear G
 generalize putN (putN (turnB a b) 8 4 (base + 16)) 28 4 (base + 12) = B at *
 have hI : ∃ img : OImg, img = ⟨base, B, ss⟩ := ⟨_, rfl⟩
 obtain ⟨img, hI⟩ := hI
 have F : ∀ {m : Mach} {k w : Int} {i : Ins}, m.img = img → 0 ≤ k → k % 2 = 0 → k + 2 ≤ 32 → getN B k 2 = w → decI w = (i, 0) → fetchM m (base + k) = (i, 0) := fun {m k w i} hm a1 a2 a3 a4 a5 => fetch_at (by rw [hm, hI]) h4 a1 a2 (by rw [hm, hI]; show k + 2 ≤ (B.length : Int); omega) (by rw [hm, hI]; exact a4) a5
 rw [← hI]
 have e0 : runV (newM img) 2000 = runM 2000 ⟨zR, false, base, -1, img, [], 0⟩ := by
  unfold runV newM
  rw [if_neg (by decide), hI]
  rfl
 have e1 : runM 2000 ⟨zR, false, base, -1, img, [], 0⟩ = runM 1999 ⟨up zR 1 (base + 16), false, base + 2, -1, img, [], 0 + 1⟩ :=
  go_plain (base := base) (k := 0) 2 (Int.add_zero base).symm (F rfl (by decide) (by decide) (by decide) g0 d2) (fun h => absurd h.1 (by decide)) (by kernel_rfl)
   (load_at (base := base) (k := 8) (v := base + 16) (by rw [hI]) h4 (by decide) (by decide) (by rw [hI]; show (8 : Int) + 4 ≤ (B.length : Int); omega) (by omega) (by rw [hI]; exact g8) (s32_id (by omega) (by omega))) rfl
 have e2 : runM 1999 ⟨up zR 1 (base + 16), false, base + 2, -1, img, [], 0 + 1⟩ = runM 1998 ⟨up zR 1 (base + 16), false, base + 16, -1, img, [], 0 + 1 + 1⟩ :=
  go_late (base := base) (k := 2) 16 4 rfl (F rfl (by decide) (by decide) (by decide) g2 d4) (by decide) (by kernel_rfl) (leap_jmp rfl) (by show base + 2 + 2 = base + 4; omega) (F rfl (by decide) (by decide) (by decide) g4 d5) (by kernel_rfl) (by decide) (plain_nop _ _)
 have e3 : runM 1998 ⟨up zR 1 (base + 16), false, base + 16, -1, img, [], 0 + 1 + 1⟩ = runM 1997 ⟨up (up zR 1 (base + 16)) 0 a, false, base + 18, -1, img, [], 0 + 1 + 1 + 1⟩ :=
  go_plain (base := base) (k := 16) 18 rfl (F rfl (by decide) (by decide) (by decide) g16 dm) (fun h => absurd h.1 (by show ¬ (3 : Int) = 27; decide)) (by show leadsM 3 = false; kernel_rfl) (plain_mov _ 0 a _) (by show base + 16 + 2 = base + 18; omega)
 have e4 : runM 1997 ⟨up (up zR 1 (base + 16)) 0 a, false, base + 18, -1, img, [], 0 + 1 + 1 + 1⟩ = runM 1996 ⟨up (up (up zR 1 (base + 16)) 0 a) 1 (base + 12), false, base + 20, -1, img, [], 0 + 1 + 1 + 1 + 1⟩ :=
  go_plain (base := base) (k := 18) 20 rfl (F rfl (by decide) (by decide) (by decide) g18 d1) (fun h => absurd h.1 (by decide)) (by kernel_rfl)
   (load_at (base := base) (k := 28) (v := base + 12) (by rw [hI]) h4 (by decide) (by decide) (by rw [hI]; show (28 : Int) + 4 ≤ (B.length : Int); omega) (by omega) (by rw [hI]; exact g28) (s32_id (by omega) (by omega))) (by show base + 18 + 2 = base + 20; omega)
 have e5 : runM 1996 ⟨up (up (up zR 1 (base + 16)) 0 a) 1 (base + 12), false, base + 20, -1, img, [], 0 + 1 + 1 + 1 + 1⟩ = runM 1995 ⟨up (up (up zR 1 (base + 16)) 0 a) 1 (base + 12), false, base + 12, base + 20 + 4, img, [], 0 + 1 + 1 + 1 + 1 + 1⟩ :=
  go_late (base := base) (k := 20) 12 22 rfl (F rfl (by decide) (by decide) (by decide) g20 d3) (by decide) (by kernel_rfl) (leap_jsr rfl) (by show base + 20 + 2 = base + 22; omega) (F rfl (by decide) (by decide) (by decide) g22 d5) (by kernel_rfl) (by decide) (plain_nop _ _)
 have e6 : runM 1995 ⟨up (up (up zR 1 (base + 16)) 0 a) 1 (base + 12), false, base + 12, base + 20 + 4, img, [], 0 + 1 + 1 + 1 + 1 + 1⟩ = runM 1994 ⟨up (up (up (up zR 1 (base + 16)) 0 a) 1 (base + 12)) 0 (a + b), false, base + 24, base + 20 + 4, img, [], 0 + 1 + 1 + 1 + 1 + 1 + 1⟩ :=
  go_late (base := base) (k := 12) 24 14 rfl (F rfl (by decide) (by decide) (by decide) g12 d6) (by decide) (by kernel_rfl) (leap_rts (by show base + 20 + 4 = base + 24; omega)) (by show base + 12 + 2 = base + 14; omega) (F rfl (by decide) (by decide) (by decide) g14 da) (by show leadsM 4 = false; kernel_rfl) (by show (4 : Int) ≠ 27; decide)
   (plain_add (s := a + b) (s32_small (by show -1000 ≤ a + b; omega) (by show a + b ≤ 1000; omega)))
 have e7 : runM 1994 ⟨up (up (up (up zR 1 (base + 16)) 0 a) 1 (base + 12)) 0 (a + b), false, base + 24, base + 20 + 4, img, [], 0 + 1 + 1 + 1 + 1 + 1 + 1⟩ = runM 1993 ⟨up (up (up (up zR 1 (base + 16)) 0 a) 1 (base + 12)) 0 (a + b), false, base + 26, base + 20 + 4, img, [] ++ [a + b], 0 + 1 + 1 + 1 + 1 + 1 + 1 + 1⟩ :=
  go_plain (base := base) (k := 24) 26 rfl (F rfl (by decide) (by decide) (by decide) g24 d7) (fun h => absurd h.2 (by decide)) (by kernel_rfl) (plain_tell _ _) (by show base + 24 + 2 = base + 26; omega)
 refine ⟨_, (((((((e0.trans e1).trans e2).trans e3).trans e4).trans e5).trans e6).trans e7).trans (go_end (base := base) (k := 26) rfl (F rfl (by decide) (by decide) (by decide) g26 d8) ⟨rfl, rfl⟩), rfl⟩
end Go.Proofs.YthmdddenbfbefaaGreatDoor
namespace Go.Proofs.YthmdddenbfbefaaGreatDoor
open Go Go.Plat
set_option linter.unusedVariables false
set_option linter.unusedSimpArgs false
set_option maxRecDepth 100000
set_option maxHeartbeats 2000000
attribute [local irreducible] AWP Arith BitS BytesS CallS CatS DrawS EndS IdxS LookS LoopEnd Meets ModeS NilS NormL NormM QuoS RemS ShlS ShrS SideS SplitS bitI
theorem dig_len (u : Nat) : (digT u).length ≤ 3 := by
 unfold digT
 split
 ·show 1 ≤ 3; decide
 split
 ·show 2 ≤ 3; decide
 ·show 3 ≤ 3; decide
theorem str_len (n : Int) : (strT n).length ≤ 4 := by
 unfold strT
 split
 ·have := dig_len n.natAbs; rw [List.length_cons]; omega
 ·have := dig_len n.toNat; omega
theorem cat_gen {s t : List UInt8} {K : D → Prop} (p q : Nat) (hs : s.length ≤ p) (ht : t.length ≤ q) (hb : p + q ≤ 1000000) (h : ∀ y, y = s ++ t → y.length ≤ p + q → K (.str y)) : CatS s t K :=
 cat_mk (by omega) (h _ rfl (by rw [List.length_append]; omega))
abbrev UP : Src → Prop := fun x => PlainB x.1 ∧ unitP x.1 = (x.2, 0, 0)
theorem ask_ok {b : List UInt8} {o : OObj} (h : askT b o = ((o, 0, 0), true, true)) : UP (b, o) ∧ ObOk o := by
 unfold askT at h
 rw [Prod.mk.injEq, Prod.mk.injEq (plainC b)] at h
 exact ⟨⟨plainC_ok h.2.1, h.1⟩, obC_ok h.2.2⟩
theorem main_ok {a : Int} (h0 : -100 ≤ a) (h1 : a ≤ 100) : UP (mainS (strT a), mainO a) ∧ ObOk (mainO a) := by
 obtain ⟨k, hk, rfl⟩ := in201 h0 h1
 exact ask_ok (at_map main_all hk)
theorem start_ok {a : Int} (h0 : -100 ≤ a) (h1 : a ≤ 100) : UP (startT ++ mainS (strT a), startO a) ∧ ObOk (startO a) := by
 obtain ⟨k, hk, rfl⟩ := in201 h0 h1
 exact ask_ok (at_map start_all hk)
theorem more_ok {a : Int} (h0 : -100 ≤ a) (h1 : a ≤ 100) : UP (moreS (strT a), moreO a) ∧ ObOk (moreO a) := by
 obtain ⟨k, hk, rfl⟩ := in201 h0 h1
 exact ask_ok (at_map more_all hk)
def liveS : List UInt8 := [109, 111, 118, 32, 35, 53, 44, 114, 48, 10, 116, 114, 97, 112, 97, 32, 35, 49, 10, 116, 114, 97, 112, 97, 32, 35, 48, 10]
def liveO : OObj := ⟨[224, 5, 195, 1, 195, 0], [], []⟩
theorem live_ask : askT liveS liveO = ((liveO, 0, 0), true, true) := by kernel_rfl
def liveI : OImg := ⟨0, [224, 5, 195, 1, 195, 0], []⟩
theorem live_in : RunIn UP [(liveS, liveO)] 0 liveI (runV (newM liveI) 2000).1 0 :=
 ⟨by decide, fun x hx => by rw [List.mem_singleton.1 hx]; exact ask_ok live_ask, ⟨by decide, by decide⟩, by kernel_rfl, rfl, by decide, by decide, Prod.ext rfl (by kernel_rfl)⟩
theorem live_told : (runV (newM liveI) 2000).1.told = [5] := by kernel_rfl
theorem main_in {a b base : Int} (ha0 : -100 ≤ a) (ha1 : a ≤ 100) (hb0 : -100 ≤ b) (hb1 : b ≤ 100) (h0 : 0 ≤ base) (h1 : base ≤ 4000) (h4 : base % 4 = 0) :
  ∃ img m, RunIn UP [(mainS (strT a), mainO a), (moreS (strT b), moreO b)] base img m 0 ∧ m.told = [a + b] := by
 obtain ⟨m1, m2⟩ := main_ok ha0 ha1
 obtain ⟨n1, n2⟩ := more_ok hb0 hb1
 obtain ⟨m, hm, ht⟩ := run_main ha0 ha1 hb0 hb1 h0 h1 h4 [⟨moreW, base + 16⟩]
 refine ⟨_, m, ⟨by show 2 ≤ 4; decide, fun x hx => ?_, ⟨h0, by omega⟩, link_main h0 h1 h4 m2.right n2.right, rfl, by rw [put_len]; show 20 ≤ _; decide, by show 1 ≤ _; decide, hm⟩, ht⟩
 simp only [List.mem_cons, List.not_mem_nil, or_false] at hx
 rcases hx with rfl | rfl
 ·exact ⟨m1, m2⟩
 ·exact ⟨n1, n2⟩
theorem turn_in {a b base : Int} (ha0 : -100 ≤ a) (ha1 : a ≤ 100) (hb0 : -100 ≤ b) (hb1 : b ≤ 100) (h0 : 0 ≤ base) (h1 : base ≤ 4000) (h4 : base % 4 = 0) :
  ∃ img m, RunIn UP [(leadT, leadO), (moreS (strT b), moreO b), (startT ++ mainS (strT a), startO a)] base img m 0 ∧ m.told = [a + b] := by
 obtain ⟨m1, m2⟩ := start_ok ha0 ha1
 obtain ⟨n1, n2⟩ := more_ok hb0 hb1
 obtain ⟨l1, l2⟩ := ask_ok lead_all
 obtain ⟨m, hm, ht⟩ := run_turn ha0 ha1 hb0 hb1 h0 h1 h4 [⟨moreW, base + 12⟩, ⟨startW, base + 16⟩]
 refine ⟨_, m, ⟨by show 3 ≤ 4; decide, fun x hx => ?_, ⟨h0, by omega⟩, link_turn h0 h1 h4 l2.right m2.right n2.right, rfl, by rw [put_len, put_len]; show 32 ≤ _; decide, by show 2 ≤ _; decide, hm⟩, ht⟩
 simp only [List.mem_cons, List.not_mem_nil, or_false] at hx
 rcases hx with rfl | rfl | rfl
 ·exact ⟨l1, l2⟩
 ·exact ⟨n1, n2⟩
 ·exact ⟨m1, m2⟩
attribute [local irreducible] runV newM strT liveS mainS moreS
theorem aliveT_meets : Meets Tryz.prog n_pltop_alive (SpecP (fun _ : Unit => True) (fun _ => []) fun _ => .bool true) := by
 refine meets_f tabOk Tryz.func24 rfl (by decide) fun _ _ => ?_
 refine ⟨Nat.le_refl _, by simp [Tryz.f24], fun E hE => ?_⟩
 refine vcOk _ ?_
 (all_goals refine qgp ?_ <;> (repeat' first | exact trivial | intro hc | refine And.intro ?_ ?_) <;> refine Lf.mk ?_)
 refine call_p (told_meets unit_of_plain) ([(liveS, liveO)], 0, liveI, (runV (newM liveI) 2000).1, 0) live_in (VS.mk (LeL.of_eq (by unfold liveS; rfl))) ?_
 dsimp only
 rw [live_told]
 (all_goals refine qgp ?_ <;> (repeat' first | exact trivial | intro hc | refine And.intro ?_ ?_) <;> refine Lf.mk ?_)
 ·exact end_p (VS.mk (LeD.of_eq rfl))
 ·exact absurd trivial hc
theorem topcall_meets : Meets Tryz.prog n_pltop_TopCall (SpecP (fun ((a, b, _, base) : Int × Int × Bool × Int) => (-9223372036854775808 ≤ a ∧ a ≤ 9223372036854775807) ∧ (-9223372036854775808 ≤ b ∧ b ≤ 9223372036854775807) ∧ -9223372036854775808 ≤ base ∧ base ≤ 9223372036854775807) (fun (a, b, turned, base) => [.int .i64 a, .int .i64 b, .bool turned, .int .i64 base]) fun _ => .bool true) := by
 refine meets_f tabOk Tryz.func7 rfl (by decide) ?_
 rintro ⟨a, b, turned, base⟩ ⟨⟨ha0, ha1⟩, ⟨hb0, hb1⟩, hc0, hc1⟩
 have ha0 : -9223372036854775808 ≤ a := ha0
 have ha1 : a ≤ 9223372036854775807 := ha1
 have hb0 : -9223372036854775808 ≤ b := hb0
 have hb1 : b ≤ 9223372036854775807 := hb1
 have hc0 : -9223372036854775808 ≤ base := hc0
 have hc1 : base ≤ 9223372036854775807 := hc1
 refine ⟨Nat.le_refl _, by simp [Tryz.f7], fun E hE => ?_⟩
 refine vcOk _ ?_
 (all_goals refine qgp ?_ <;> (repeat' first | exact trivial | intro hc | refine And.intro ?_ ?_) <;> refine Lf.mk ?_)
 refine call_p aliveT_meets () trivial (VS.mk (LeL.of_eq rfl)) ?_
 (all_goals refine qgp ?_ <;> (repeat' first | exact trivial | intro hc | refine And.intro ?_ ?_) <;> refine Lf.mk ?_)
 (any_goals (first | (exfalso; refine Bool.false_ne_true ?_; assumption) | (exfalso; refine Bool.false_ne_true (Eq.symm ?_); assumption) | (exfalso; refine absurd trivial ?_; assumption) | skip))
 all_goals first
  | exact end_p (VS.mk (LeD.tt rfl))
  | skip
 obtain ⟨i1, m1, r1, t1⟩ := main_in (a := a) (b := b) (base := base) (by omega) (by omega) (by omega) (by omega) (by omega) (by omega) hc
 obtain ⟨i2, m2, r2, t2⟩ := turn_in (a := a) (b := b) (base := base) (by omega) (by omega) (by omega) (by omega) (by omega) (by omega) hc
 have hsa := str_len a
 have hsb := str_len b
 refine call_p itoa_meets a ⟨ha0, ha1⟩ (VS.mk (LeL.of_eq rfl)) ?_
 rw [itoa_str (by omega) (by omega)]
 (all_goals refine qgp ?_ <;> (repeat' first | exact trivial | intro hc | refine And.intro ?_ ?_) <;> refine Lf.mk ?_)
 refine cat_gen 5 4 (by decide) hsa (by decide) fun y1 e1 l1 => ?_
 (all_goals refine qgp ?_ <;> (repeat' first | exact trivial | intro hc | refine And.intro ?_ ?_) <;> refine Lf.mk ?_)
 refine cat_gen 9 80 l1 (by decide) (by decide) fun y2 e2 l2 => ?_
 (all_goals refine qgp ?_ <;> (repeat' first | exact trivial | intro hc | refine And.intro ?_ ?_) <;> refine Lf.mk ?_)
 refine call_p itoa_meets b ⟨hb0, hb1⟩ (VS.mk (LeL.of_eq rfl)) ?_
 rw [itoa_str (by omega) (by omega)]
 (all_goals refine qgp ?_ <;> (repeat' first | exact trivial | intro hc | refine And.intro ?_ ?_) <;> refine Lf.mk ?_)
 refine cat_gen 16 4 (by decide) hsb (by decide) fun y3 e3 l3 => ?_
 (all_goals refine qgp ?_ <;> (repeat' first | exact trivial | intro hc | refine And.intro ?_ ?_) <;> refine Lf.mk ?_)
 refine cat_gen 20 5 l3 (by decide) (by decide) fun y4 e4 l4 => ?_
 (all_goals refine qgp ?_ <;> (repeat' first | exact trivial | intro hc | refine And.intro ?_ ?_) <;> refine Lf.mk ?_)
 refine cat_gen 7 89 (by decide) l2 (by decide) fun y5 e5 l5 => ?_
 (all_goals refine qgp ?_ <;> (repeat' first | exact trivial | intro hc | refine And.intro ?_ ?_) <;> refine Lf.mk ?_)
 ·refine call_p (told_meets unit_of_plain) ([(leadT, leadO), (moreS (strT b), moreO b), (startT ++ mainS (strT a), startO a)], base, i2, m2, 0) r2 (VS.mk (LeL.of_eq (by subst_vars; unfold moreS mainS; rfl))) ?_
  dsimp only
  rw [t2]
  (all_goals refine qgp ?_ <;> (repeat' first | exact trivial | intro hc | refine And.intro ?_ ?_) <;> refine Lf.mk ?_)
  ·exact end_p (VS.mk (LeD.of_eq (congrArg D.bool (beq_self_eq_true _))))
  ·exact absurd trivial hc
 ·refine call_p (told_meets unit_of_plain) ([(mainS (strT a), mainO a), (moreS (strT b), moreO b)], base, i1, m1, 0) r1 (VS.mk (LeL.of_eq (by subst_vars; unfold moreS mainS; rfl))) ?_
  dsimp only
  rw [t1]
  (all_goals refine qgp ?_ <;> (repeat' first | exact trivial | intro hc | refine And.intro ?_ ?_) <;> refine Lf.mk ?_)
  ·exact end_p (VS.mk (LeD.of_eq (congrArg D.bool (beq_self_eq_true _))))
  ·exact absurd trivial hc
end Go.Proofs.YthmdddenbfbefaaGreatDoor
namespace Go.Proofs.YthmdddenbfbefaaGreatDoor
open Go Go.Plat
set_option linter.unusedVariables false
set_option linter.unusedSimpArgs false
set_option maxRecDepth 100000
set_option maxHeartbeats 2000000
attribute [local irreducible] AWP Arith BitS BytesS CallS CatS DrawS EndS IdxS LookS LoopEnd Meets ModeS NilS NormL NormM QuoS RemS ShlS ShrS SideS SplitS bitI
theorem own : ownKnob Tryz.prog.godebug = none := by kernel_rfl
theorem one_le {H : Type} (d : DataW H) : 1 ≤ Rows.uptoBulk d := by
 cases d with
 | lit l => cases l <;> simp [Rows.uptoBulk]
 | nil => simp [Rows.uptoBulk]
 | ptr d => simp [Rows.uptoBulk]
 | slice el sp => simp [Rows.uptoBulk]
 | agg ps => simp [Rows.uptoBulk]
 | iface t d => simp [Rows.uptoBulk]
 | map es => simp [Rows.uptoBulk]
 | held h => simp [Rows.uptoBulk]
theorem length_le {H : Type} (l : List (DataW H)) : l.length ≤ Rows.uptoBulkAll l := by
 induction l with
 | nil => simp [Rows.uptoBulkAll]
 | cons x r ih => have := one_le x; simp only [Rows.uptoBulkAll, List.length_cons]; omega
end Go.Proofs.YthmdddenbfbefaaGreatDoor
namespace Go.Plat
open Go
set_option linter.unusedVariables false
set_option linter.unusedSimpArgs false
abbrev GFact (w : World) (F : Nat → Nat → Prop) (g : Nat) (cs : List D) : Prop := RepP w F (.ptr cs) (.pointer (some ⟨g, 0, none⟩)) ∧
 (∀ off, ¬ F g off) ∧ (∃ row t z, w.heap[g]? = some (.cells row t z) ∧ (row.size = cs.length ∨ cs = [.any])) ∧
 (cs = [.any] → ∃ u v, w.cell? ⟨g, 0, none⟩ = some (.iface u v))
def GOkL (w : World) (F : Nat → Nat → Prop) (l : List (Nat × Nat × List Nat)) : Prop := ∀ g cs, findG l g = some cs → GFact w F g cs
theorem gokl_nil {w : World} {F : Nat → Nat → Prop} : GOkL w F [] := fun g cs h => by cases h
theorem gokl_cons {w : World} {F : Nat → Nat → Prop} {h k : Nat} {ns : List Nat} {r : List (Nat × Nat × List Nat)} (hf : GFact w F h (globD k ns)) (hr : GOkL w F r) : GOkL w F ((h, k, ns) :: r) := by
 intro g cs hg
 rw [findG] at hg
 cases hb : Nat.beq h g with
 | false => rw [hb] at hg; exact hr g cs hg
 | true =>
  rw [hb] at hg
  have e := Nat.eq_of_beq_eq_true hb
  subst e
  cases hg
  exact hf
theorem gfact {P : Program} {w : World} {name : String} {g : Nat} {k : IntKind} {zs : List Int} {ns : List Nat} (hn : P.globalNamed name = some g) (h : Lib.TabIs P w name k zs)
  (hz : zs = ns.map fun n : Nat => (n : Int)) : GFact w F0 g (ns.map fun n => D.int k (n : Nat)) := by
 have hc := fun i hi => h.cell hn i hi
 refine ⟨.ptr _ _ _ (fun j => .int k (zs.getD j 0)) (fun j c hj => ⟨?_, fun f => f⟩) (fun j c hj => ?_), fun off f => f, ?_, fun e => absurd e (fun e => ?_)⟩
 ·have hjl : j < ns.length := by
   have := (List.getElem?_eq_some_iff.1 hj).1
   simpa using this
  rw [Nat.zero_add]
  exact hc j (by rw [hz]; simpa using hjl)
 ·have hjl : j < ns.length := by
   have := (List.getElem?_eq_some_iff.1 hj).1
   simpa using this
  rw [List.getElem?_map, List.getElem?_eq_getElem hjl] at hj
  cases hj
  have : zs.getD j 0 = (ns[j] : Int) := by
   rw [hz, List.getD_eq_getElem?_getD, List.getElem?_map, List.getElem?_eq_getElem hjl]; rfl
  dsimp only
  rw [this]
  exact .int _ _
 ·unfold Lib.TabIs World.var? at h
  rw [hn] at h
  dsimp only [Option.bind_some] at h
  split at h
  ·rename_i cs t z hh
   cases h
   exact ⟨_, _, _, hh, .inl (by rw [hz]; simp)⟩
  ·cases h
 ·match ns, e with
  | [], e => cases e
  | n :: r, e => cases (List.cons.inj e).1
theorem tab_of_vars {P : Program} {W : World} {name : String} {k : IntKind} {zs : List Int} {rest : List (String × DataW Unit)} {g : Nat} {t e : TypeId} {n : Nat} {ps : List MemPlace} {d : DataW Unit}
  (hg : P.globalNamed name = some g) (hty : (P.globals[g]?).map (·.type) = some t) (ht : P.underlying t = some (.array n e)) (he : P.underlying e = some (.int k)) (hce : P.cellsOf e = 1) (hct : P.cellsOf t = n)
  (hd : d = Lib.tabData k zs) (h : DataW.LaidVars P W ((name, d) :: rest) ps) : Lib.TabIs P W name k zs ∧ ∃ q, DataW.LaidVars P W rest q := by
 subst hd
 obtain ⟨g', t', cs, fuel, p, q, hg', ht', hvar, hd, hr, _⟩ := h
 obtain rfl := Option.some.inj (hg.symm.trans hg')
 obtain rfl := Option.some.inj (hty.symm.trans ht')
 refine ⟨?_, q, hr⟩
 unfold Lib.TabIs
 rw [hvar, ← Lib.cells_of_tab ht he hce hct hd]
theorem laid_tail {P : Program} {W : World} {x : String × DataW Unit} {rest : List (String × DataW Unit)} {ps : List MemPlace} (h : DataW.LaidVars P W (x :: rest) ps) : ∃ q, DataW.LaidVars P W rest q := by
 obtain ⟨g', t', cs, fuel, p, q, hg', ht', hvar, hd, hr, _⟩ := h
 exact ⟨q, hr⟩
def isIf : DataW Unit → Bool
 | .iface _ _ => true
 | _ => false
theorem iface_of_vars {P : Program} {W : World} {name : String} {rest : List (String × DataW Unit)} {g : Nat} {t : TypeId} {ps : List MemPlace} {d : DataW Unit}
  (hg : P.globalNamed name = some g) (hty : (P.globals[g]?).map (·.type) = some t) (ht : ((P.underlying t).map fun | .interface _ => true | _ => false) = some true)
  (hd : isIf d = true) (h : DataW.LaidVars P W ((name, d) :: rest) ps) : GFact W F0 g [.any] ∧ ∃ q, DataW.LaidVars P W rest q := by
 obtain ⟨g', t', cs, fuel, p, q, hg', ht', hvar, htr, hr, _⟩ := h
 obtain rfl := Option.some.inj (hg.symm.trans hg')
 obtain rfl := Option.some.inj (hty.symm.trans ht')
 refine ⟨?_, q, hr⟩
 cases d with
 | iface n x =>
  have hrow : ∃ u v, cs.toList = [Value.iface u v] := by
   cases fuel with
   | zero => simp [DataW.trod] at htr
   | succ fuel =>
    cases hun : P.underlying t with
    | none => rw [hun] at ht; cases ht
    | some dd =>
     rw [hun] at ht
     cases dd with
     | interface ms =>
      generalize cs.toList = l at htr
      unfold DataW.trod at htr
      rw [hun] at htr
      match l, htr with
      | [], htr => cases htr
      | [.nilIface], htr => cases htr
      | [.iface u v], htr => exact ⟨u, v, rfl⟩
      | a :: b :: r, htr => cases a <;> cases htr
      | [.bool _], htr | [.int _ _], htr | [.float _ _], htr | [.string _], htr | [.pointer _], htr | [.slice _ _ _], htr | [.map _], htr | [.chan _], htr | [.func _ _ _], htr | [.nilFunc], htr | [.agg _], htr | [.tuple _], htr => cases htr
     | _ => cases ht
  obtain ⟨u, v, hv⟩ := hrow
  have hcs : cs = #[Value.iface u v] := by
   apply Array.ext'
   rw [hv]
  subst hcs
  unfold World.var? at hvar
  rw [hg] at hvar
  dsimp only [Option.bind_some] at hvar
  split at hvar
  ·rename_i cs t z hh
   cases hvar
   have hcell : W.cell? ⟨g, 0, none⟩ = some (.iface u v) := by simp only [World.cell?, hh]; rfl
   refine ⟨.ptr _ _ _ (fun _ => .iface u v) (fun j c hj => ?_) (fun j c hj => ?_), fun off f => f, ⟨_, _, _, hh, .inl rfl⟩, fun _ => ⟨u, v, hcell⟩⟩
   ·cases j with
    | zero => exact ⟨hcell, fun f => f⟩
    | succ j => simp at hj
   ·cases j with
    | zero =>
     simp at hj
     subst hj
     exact .any _
    | succ j => simp at hj
  ·cases hvar
 | _ => cases hd
end Go.Plat
namespace Go.Proofs.YthmdddenbfbefaaGreatDoor
open Go Go.Plat
set_option linter.unusedVariables false
set_option linter.unusedSimpArgs false
set_option maxRecDepth 100000
set_option maxHeartbeats 2000000
open Go.ChangeShapes Go.WideShapes Go.ChangeAt Go.RowKit
attribute [local irreducible] AWP Arith BitS BytesS CallS CatS DrawS EndS IdxS LookS LoopEnd Meets ModeS NilS NormL NormM QuoS RemS ShlS ShrS SideS SplitS bitI
theorem asm_glob {W : World} (h : laidMetH Tryz.prog Rows.asmNamesUptoRow.laid W) : GOk W F0 := by
 rw [MakeChecks.laidMetH_plain _ _ _ (by kernel_rfl)] at h
 obtain ⟨ps, h, _⟩ := h
 obtain ⟨h1, q1, h⟩ := tab_of_vars (k := .u8) (zs := [0, 1, 28, 2, 29, 14, 24, 3, 30, 22, 20, 15, 25, 17, 4, 8, 31, 27, 13, 23, 21, 19, 16, 7, 26, 12, 18, 6, 11, 5, 10, 9]) (g := 1) (t := 298) (e := 5) (n := 32) (by kernel_rfl) (by kernel_rfl) (by kernel_rfl) (by kernel_rfl) (by kernel_rfl) (by kernel_rfl) (by kernel_rfl) h
 obtain ⟨h2, q2, h⟩ := tab_of_vars (k := .u8) (zs := [0, 1, 56, 2, 57, 49, 28, 3, 61, 58, 42, 50, 38, 29, 17, 4, 62, 47, 59, 36, 45, 43, 51, 22, 53, 39, 33, 30, 24, 18, 12, 5, 63, 55, 48, 27, 60, 41, 37, 16, 46, 35, 44, 21, 52, 32, 23, 11, 54, 26, 40, 15, 34, 20, 31, 10, 25, 14, 19, 9, 13, 8, 7, 6]) (g := 2) (t := 299) (e := 5) (n := 64) (by kernel_rfl) (by kernel_rfl) (by kernel_rfl) (by kernel_rfl) (by kernel_rfl) (by kernel_rfl) (by kernel_rfl) h
 obtain ⟨h3, q3, h⟩ := tab_of_vars (k := .u64) (zs := Lib.pow10Tab) (g := 0) (t := 251) (e := 199) (n := 20) (by kernel_rfl) (by kernel_rfl) (by kernel_rfl) (by kernel_rfl) (by kernel_rfl) (by kernel_rfl) (by kernel_rfl) h
 obtain ⟨q4, h⟩ := laid_tail h
 obtain ⟨h5, q5, h⟩ := iface_of_vars (g := 7) (t := 258) (by kernel_rfl) (by kernel_rfl) (by kernel_rfl) rfl h
 obtain ⟨h6, q6, h⟩ := iface_of_vars (g := 6) (t := 258) (by kernel_rfl) (by kernel_rfl) (by kernel_rfl) rfl h
 show GOkL W F0 globs
 unfold globs
 exact gokl_cons (gfact (k := .u64) (by kernel_rfl) h3 (by kernel_rfl)) (gokl_cons (gfact (k := .u8) (by kernel_rfl) h1 (by kernel_rfl)) (gokl_cons (gfact (k := .u8) (by kernel_rfl) h2 (by kernel_rfl)) (gokl_cons h6 (gokl_cons h5 gokl_nil))))
end Go.Proofs.YthmdddenbfbefaaGreatDoor
