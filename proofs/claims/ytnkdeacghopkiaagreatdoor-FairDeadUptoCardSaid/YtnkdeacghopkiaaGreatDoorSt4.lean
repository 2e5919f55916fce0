/-
  A part of the proof: what the given program's functions answer, each once; conditions that are enough for it.
-/
import Derived.Test.YtnkdeacghopkiaaGreatDoorSt3
import Derived.Test.YtnkdeacghopkiaaGreatDoorSt1
import Derived.Test.YtnkdeacghopkiaaGreatDoorSt2
import Derived.Test.YtnkdeacghopkiaaGreatDoorFw3
import Derived.Test.YtnkdeacghopkiaaGreatDoorRows
import Derived.WalkKit
import Derived.ProofKit
import Derived.OpenShut
import Derived.JoinedCond
import Derived.Deep.DeepHandedRow
import Derived.Lay
import Derived.Test.YtnkdeacghopkiaaGreatDoorTie
namespace Go.Proofs.YtnkdeacghopkiaaGreatDoor
open Go Go.Plat
set_option linter.unusedVariables false
set_option linter.unusedSimpArgs false
set_option maxRecDepth 100000
set_option maxHeartbeats 2000000
attribute [local irreducible] AWP zN yv zU zo yC yh zG yb yf zx za zY yz zr yg yx yy yn yo zw zy zT
structure zdh (P : Int → zn → Prop) : Prop where
 mono : ∀ {B C : Int} {f : zn}, P B f → B ≤ C → P C f
 wait : ∀ {B : Int} {f : zn} {k : Nat}, P B f → k < f.jobs.length → P B (vR f k (wX (zB f k)))
 give : ∀ {B : Int} {f : zn} {k n : Nat}, P B f → k < f.jobs.length → n < f.dead.length → P (B + 1) (wY f k n)
 dead : ∀ {B : Int} {f : zn}, P B f → f.dead.length ≤ 3
theorem zr2 (f : zn) (m : Msg) : (qA f m).jobs = f.jobs ∧ (qA f m).dead = f.dead ∧ (qA f m).base = f.base := by
 unfold qA
 split
 ·exact ⟨rfl, rfl, rfl⟩
 ·exact ⟨rfl, rfl, rfl⟩
theorem zqq (f : zn) (k n : Nat) : (wY f k n).jobs.length = f.jobs.length ∧ (wY f k n).dead = f.dead ∧ (wY f k n).base = f.base := by
 unfold wY
 split
 ·exact ⟨rfl, rfl, rfl⟩
 ·obtain ⟨h1, h2, h3⟩ := zr2 (vR f k (jS (zB f k) (vD f k n) ((zB f k).turn + 1) 0)) ⟨1, vD f k n, k, (zB f k).turn + 1, 0, 0, (zB f k).src⟩
  exact ⟨by rw [h1, vd], h2, h3⟩
theorem zm8 {P : Int → zn → Prop} (h : zdh P) {B : Int} : ∀ (m k : Nat) (f : zn), k + m ≤ f.jobs.length → P B f → P B (ki m k f) ∧ (ki m k f).jobs.length = f.jobs.length ∧ (ki m k f).dead = f.dead
 | 0, k, f, _, hp => ⟨hp, rfl, rfl⟩
 | m + 1, k, f, hk, hp => by
  obtain ⟨h1, h2, h3⟩ := zm8 h m (k + 1) (vR f k (wX (zB f k))) (by rw [vd]; omega) (h.wait hp (by omega))
  rw [ki]
  exact ⟨h1, by rw [h2, vd], h3⟩
theorem zkf {P : Int → zn → Prop} (h : zdh P) : ∀ (m k n : Nat) (B : Int) (f : zn), k < f.jobs.length → n + m ≤ f.dead.length → P B f → P (B + (m : Int)) (ql m k n f) ∧ (ql m k n f).jobs.length = f.jobs.length ∧ (ql m k n f).dead = f.dead
 | 0, k, n, B, f, _, _, hp => ⟨h.mono hp (by omega), rfl, rfl⟩
 | m + 1, k, n, B, f, hk, hn, hp => by
  obtain ⟨s1, s2, _⟩ := zqq f k n
  obtain ⟨h1, h2, h3⟩ := zkf h m k (n + 1) (B + 1) (wY f k n) (by rw [s1]; exact hk) (by rw [s2]; omega) (h.give hp hk (by omega))
  rw [ql]
  exact ⟨h.mono h1 (by omega), by rw [h2, s1], by rw [h3, s2]⟩
theorem zkg {P : Int → zn → Prop} (h : zdh P) : ∀ (m k : Nat) (B : Int) (f : zn), k + m ≤ f.jobs.length → P B f → P (B + 3 * (m : Int)) (kj m k f) ∧ (kj m k f).jobs.length = f.jobs.length ∧ (kj m k f).dead = f.dead
 | 0, k, B, f, _, hp => ⟨h.mono hp (by omega), rfl, rfl⟩
 | m + 1, k, B, f, hk, hp => by
  have hd := h.dead hp
  obtain ⟨s0, s1, s2⟩ := zkf h f.dead.length k 0 B f (by omega) (by omega) hp
  obtain ⟨h1, h2, h3⟩ := zkg h m (k + 1) (B + 3) (ql f.dead.length k 0 f) (by rw [s1]; omega) (h.mono s0 (by omega))
  rw [kj]
  exact ⟨h.mono h1 (by omega), by rw [h2, s1], by rw [h3, s2]⟩
theorem zte {P : Int → zn → Prop} (h : zdh P) {B : Int} {f : zn} (hj : f.jobs.length ≤ 4) (hp : P B f) : P (B + 12) (qm f) ∧ (qm f).jobs.length = f.jobs.length ∧ (qm f).dead = f.dead := by
 obtain ⟨h1, h2, h3⟩ := zm8 h f.jobs.length 0 f (by omega) hp
 obtain ⟨k1, k2, k3⟩ := zkg h f.jobs.length 0 B (ki f.jobs.length 0 f) (by omega) h1
 unfold qm
 exact ⟨h.mono k1 (by omega), by rw [k2, h2], by rw [k3, h3]⟩
structure Lz (nj nd : Nat) (B : Int) (f : zn) : Prop where
 len : f.jobs.length = nj
 jobs : ∀ j ∈ f.jobs, j.done = false ∧ j.src.length ≤ 1200 ∧ j.obj = [] ∧ 0 ≤ j.turn ∧ j.turn ≤ B ∧ -1 ≤ j.worker ∧ j.worker < 3 ∧ 0 ≤ j.wait ∧ j.wait ≤ 4
 dead : f.dead = List.replicate nd true
 way : ∃ ms : List Msg, f.way = ms.map yc ∧ ms.length ≤ 12 ∧ ∀ m ∈ ms, yT m = 0 ∧ m.kind = 1 ∧ m.data.length ≤ 1200
attribute [local irreducible] yc yT we wM zef xz xA zhf
theorem zm9 {f : zn} {k : Nat} {j x : yP} (h : x ∈ (vR f k j).jobs) : x ∈ f.jobs ∨ x = j := List.mem_or_eq_of_mem_set h
theorem zr3 {nj nd : Nat} (h1 : 1 ≤ nd) (h3 : nd ≤ 3) : zdh (Lz nj nd) where
 mono h hb := ⟨h.len, fun j hj => by have := h.jobs j hj; exact ⟨this.1, this.2.1, this.2.2.1, by omega, by omega, by omega, by omega, by omega, by omega⟩, h.dead, h.way⟩
 wait {B f k} h hk := by
  obtain ⟨_, hm⟩ := zaj hk
  obtain ⟨a1, a2, a3, a4, a5, a6, a7, a8, a9⟩ := h.jobs _ hm
  refine ⟨by rw [vd]; exact h.len, fun j hj => ?_, h.dead, h.way⟩
  rcases zm9 hj with hj | rfl
  ·exact h.jobs j hj
  ·unfold wX
   split
   ·exact ⟨a1, a2, a3, a4, a5, a6, a7, a8, a9⟩
   split
   ·exact ⟨a1, a2, a3, a4, a5, by show (-1 : Int) ≤ -1; omega, by show (-1 : Int) < 3; omega, by show (0 : Int) ≤ 0; omega, by show (0 : Int) ≤ 4; omega⟩
   ·exact ⟨a1, a2, a3, a4, a5, a6, a7, by show 0 ≤ (zB f k).wait + 1; omega, by show (zB f k).wait + 1 ≤ 4; omega⟩
 give {B f k n} h hk hn := by
  obtain ⟨_, hm⟩ := zaj hk
  obtain ⟨a1, a2, a3, a4, a5, a6, a7, a8, a9⟩ := h.jobs _ hm
  have hdl : f.dead.length = nd := by rw [h.dead, List.length_replicate]
  have hW := zo1 (a := (zB f k).turn + (k : Int) + (n : Int)) (n := f.dead.length) (by omega)
  have hup : ∀ j ∈ f.jobs, j.done = false ∧ j.src.length ≤ 1200 ∧ j.obj = [] ∧ 0 ≤ j.turn ∧ j.turn ≤ B + 1 ∧ -1 ≤ j.worker ∧ j.worker < 3 ∧ 0 ≤ j.wait ∧ j.wait ≤ 4 := fun j hj => by
   have := h.jobs j hj; exact ⟨this.1, this.2.1, this.2.2.1, by omega, by omega, by omega, by omega, by omega, by omega⟩
  have hset : ∀ x ∈ (vR f k (jS (zB f k) (vD f k n) ((zB f k).turn + 1) 0)).jobs, x.done = false ∧ x.src.length ≤ 1200 ∧ x.obj = [] ∧ 0 ≤ x.turn ∧ x.turn ≤ B + 1 ∧ -1 ≤ x.worker ∧ x.worker < 3 ∧ 0 ≤ x.wait ∧ x.wait ≤ 4 := fun x hx => by
   rcases zm9 hx with hx | rfl
   ·exact hup x hx
   ·exact ⟨a1, a2, a3, by show 0 ≤ (zB f k).turn + 1; omega, by show (zB f k).turn + 1 ≤ B + 1; omega, by show -1 ≤ vD f k n; unfold vD; omega, by show vD f k n < 3; unfold vD; omega, by show (0 : Int) ≤ 0; omega, by show (0 : Int) ≤ 4; omega⟩
  unfold wY
  split
  ·exact ⟨h.len, hup, h.dead, h.way⟩
  obtain ⟨ms, w1, w2, w3⟩ := h.way
  unfold qA
  split
  ·rename_i hc
   refine ⟨by show (vR f k _).jobs.length = nj; rw [vd]; exact h.len, hset, h.dead, ms ++ [⟨1, vD f k n, k, (zB f k).turn + 1, 0, 0, (zB f k).src⟩], ?_, ?_, fun m hm => ?_⟩
   ·show f.way ++ [_] = _
    rw [w1, List.map_append]
    rfl
   ·have : f.way.length < 12 := hc.2
    rw [w1, List.length_map] at this
    rw [List.length_append]
    show ms.length + 1 ≤ 12
    omega
   ·rcases List.mem_append.1 hm with hm | hm
    ·exact w3 m hm
    ·rw [List.mem_singleton.1 hm]; exact ⟨hc.1, rfl, a2⟩
  ·exact ⟨by rw [vd]; exact h.len, hset, h.dead, ms, w1, w2, w3⟩
 dead h := by rw [h.dead, List.length_replicate]; exact h3
attribute [local irreducible] qm
theorem zna (nd : Nat) (f : zn) (h : f.dead = List.replicate nd true) (w : Int) : wr f w = true := by
 unfold wr
 rw [h, List.getElem?_replicate]
 split <;> rfl
theorem zqr {nj nd : Nat} {B : Int} {f : zn} {s : Stp} (h : Lz nj nd B f) (hj : nj ≤ 4) (h1 : 1 ≤ nd) (h3 : nd ≤ 3) (hB : B ≤ 1000000) (hs : -9223372036854775808 ≤ s.n ∧ s.n ≤ 9223372036854775807) : zfv f s := by
 obtain ⟨ms, w1, w2, w3⟩ := h.way
 have hl := h.len
 have hd : f.dead.length = nd := by rw [h.dead, List.length_replicate]
 have hw : f.way.length = ms.length := by rw [w1, List.length_map]
 have hb : ∀ b ∈ f.way, b.length ≤ 1214 := fun b hb => by
  rw [w1] at hb
  obtain ⟨m, hm, rfl⟩ := List.mem_map.1 hb
  rw [jm]
  have := (w3 m hm).2.2
  omega
 refine ⟨⟨by omega, ⟨fun e => by rw [e] at hd; exact absurd hd (by show ¬ 0 = nd; omega), by omega⟩, by omega, fun j hj => ?_, fun b hbm => by have := hb b hbm; omega⟩, ⟨by omega, by omega, by omega, fun j hj => by have := h.jobs j hj; omega⟩, hs, fun _ h0 hn => ⟨?_, fun _ _ _ => .inl (zna nd _ h.dead _)⟩⟩
 ·obtain ⟨_, a2, a3, _⟩ := h.jobs j hj
  rw [a3]
  exact ⟨by omega, Nat.zero_le _⟩
 ·unfold x8
  rw [List.getElem?_eq_getElem (by omega)]
  have := hb _ (List.getElem_mem (show s.n.toNat < f.way.length by omega))
  exact Nat.le_trans this (by omega)
theorem zvR {nj nd : Nat} {B : Int} {f : zn} {m : Msg} {ms : List Msg} (h : Lz nj nd B f) (hw : f.way = (m :: ms).map yc) (hm : yT m = 0 ∧ m.kind = 1 ∧ m.data.length ≤ 1200) : (doF f goS).1 = { f with way := ms.map yc } := by
 have hwl : f.way.length = ms.length + 1 := by rw [hw, List.length_map, List.length_cons]
 have ho : qo f 0 = { f with way := ms.map yc } := by unfold qo; rw [hw]; rfl
 have ha : x8 f 0 = yc m := by unfold x8; rw [hw]; rfl
 have hk : zbs (qo f 0) (x8 f 0) = qo f 0 := by
  unfold zbs
  rw [ha, zoj hm.1, zgB hm.1, if_neg (fun h => h rfl)]
  unfold zix
  split
  ·rfl
  rw [if_pos hm.2.1]
  unfold zcJ
  rw [if_pos (zna nd (qo f 0) h.dead _)]
 unfold doF goS
 dsimp only
 rw [if_neg (by decide), if_pos (.inl rfl), if_neg (by omega), if_neg (by decide), if_pos rfl]
 dsimp only
 rw [hk, ho]
theorem znb {nj nd : Nat} {B : Int} (hj : nj ≤ 4) (h1 : 1 ≤ nd) (h3 : nd ≤ 3) (hB : B ≤ 1000000) : ∀ (ms : List Msg) (f : zn), Lz nj nd B f → f.way = ms.map yc → (∀ m ∈ ms, yT m = 0 ∧ m.kind = 1 ∧ m.data.length ≤ 1200) → zcL ms.length f { f with way := [] }
 | [], f, h, hw, _ => by
  have hw : f.way = [] := hw
  have : f = { f with way := [] } := by
   obtain ⟨a, b, c, d⟩ := f
   have hw : d = [] := hw
   rw [hw]
  rw [← this]
  exact .done hw
 | m :: ms, f, h, hw, hms => by
  have hg := zvR h hw (hms m List.mem_cons_self)
  have hl : Lz nj nd B (doF f goS).1 := by
   rw [hg]
   obtain ⟨ms', w1, w2, w3⟩ := h.way
   have hlen : (m :: ms).length = ms'.length := by rw [← List.length_map (f := yc), ← hw, w1, List.length_map]
   rw [List.length_cons] at hlen
   exact ⟨h.len, h.jobs, h.dead, ms, rfl, by omega, fun x hx => hms x (List.mem_cons_of_mem _ hx)⟩
  have hr := znb hj h1 h3 hB ms _ hl (by rw [hg]) fun x hx => hms x (List.mem_cons_of_mem _ hx)
  have he : ({ (doF f goS).1 with way := [] } : zn) = { f with way := [] } := by rw [hg]
  rw [he] at hr
  exact .step (by rw [hw]; exact List.cons_ne_nil _ _) (zqr h hj h1 h3 hB ⟨by decide, by decide⟩) hr
theorem ztf {nj nd : Nat} {B : Int} {f : zn} (h : Lz nj nd B f) (hj : nj ≤ 4) (h1 : 1 ≤ nd) (h3 : nd ≤ 3) (hB : B ≤ 900000) : ∃ g, zf8 f g ∧ Lz nj nd (B + 12) g ∧ g.way = [] := by
 have ht : (doF f zas).1 = qm f := by unfold doF zas; rw [if_pos rfl]
 obtain ⟨k1, _, _⟩ := zte (zr3 (nj := nj) h1 h3) (by rw [h.len]; exact hj) h
 obtain ⟨ms, w1, w2, w3⟩ := k1.way
 refine ⟨{ qm f with way := [] }, ⟨zqr h hj h1 h3 (by omega) ⟨by decide, by decide⟩, ms.length, ?_⟩, ⟨k1.len, k1.jobs, k1.dead, [], rfl, by decide, fun m hm => by cases hm⟩, rfl⟩
 rw [ht]
 exact znb hj h1 h3 (by omega) ms _ k1 w1 w3
theorem zqs {nj nd : Nat} {B : Int} {f : zn} (h : Lz nj nd B f) (h1 : 1 ≤ nj) : jK f = false := by
 unfold jK
 rw [List.all_eq_false]
 have hl := h.len
 match hf : f.jobs, hl with
 | j :: r, _ =>
  refine ⟨j, List.mem_cons_self, ?_⟩
  have := (h.jobs j (by rw [hf]; exact List.mem_cons_self)).1
  rw [this]
  decide
 | [], hl => exact absurd hl (by show ¬ 0 = nj; omega)
theorem zkh {nj nd : Nat} (hj : nj ≤ 4) (hj1 : 1 ≤ nj) (h1 : 1 ≤ nd) (h3 : nd ≤ 3) : ∀ (c n : Nat) (f : zn), n + c = 60 → Lz nj nd (12 * (n : Int)) f → (n = 0 ∨ f.way = []) → ∃ g, km n f g 60 ∧ Lz nj nd 720 g ∧ (c = 0 ∨ g.way = []) ∧ (n = 60 → g = f)
 | 0, n, f, hn, h, hw => by
  have : n = 60 := by omega
  subst this
  exact ⟨f, .stop (by rw [h.len]; omega) (.inl (Nat.le_refl _)), h, .inl rfl, fun _ => rfl⟩
 | c + 1, n, f, hn, h, hw => by
  obtain ⟨g, r1, r2, r3⟩ := ztf h hj h1 h3 (by omega)
  obtain ⟨g', s1, s2, s3, s4⟩ := zkh hj hj1 h1 h3 c (n + 1) g (by omega) ((zr3 h1 h3).mono r2 (by omega)) (.inr r3)
  refine ⟨g', .step (by omega) (zqs h hj1) r1 s1, s2, .inr ?_, fun h => by omega⟩
  rcases s3 with s3 | s3
  ·rw [s4 (by omega)]; exact r3
  ·exact s3
end Go.Proofs.YtnkdeacghopkiaaGreatDoor
namespace Go.Proofs.YtnkdeacghopkiaaGreatDoor
open Go Go.Plat
set_option linter.unusedVariables false
set_option linter.unusedSimpArgs false
set_option maxRecDepth 100000
set_option maxHeartbeats 2000000
attribute [local irreducible] AWP zN yv zU zo yC yh zG yb yf zx za zY yz zr yg yx yy yn yo zw zy zT ym yq zI yQ okC zE
def upI (n : Int) : Int := n + 3 - (n + 3) % 4
def zqt (n : List UInt8) : List zZ → Option Int
 | [] => none
 | s :: l => if s.name = n then some s.at_ else zqt n l
end Go.Proofs.YtnkdeacghopkiaaGreatDoor
namespace Go.Proofs.YtnkdeacghopkiaaGreatDoor
open Go Go.Plat
set_option linter.unusedVariables false
set_option maxRecDepth 100000
attribute [local irreducible] ym yq zI yQ okC zE
def ztg (b : Int) : List zZ → List zZ → Option (List zZ)
 | [], acc => some acc
 | s :: l, acc => if (zqt s.name acc).isSome = true then none else ztg b l (acc ++ [⟨s.name, b + s.at_⟩])
def zv2 (bs : List UInt8) (off : Nat) (code : List UInt8) : List UInt8 := bs ++ List.replicate (off - bs.length) 0 ++ code
def lay (base : Int) : List zad → Int → Nat → List UInt8 → List zZ → Nat ⊕ (List UInt8 × List zZ)
 | [], _, _, bs, ss => .inr (bs, ss)
 | o :: l, n, i, bs, ss => match ztg (upI n) o.syms ss with
  | none => .inl i
  | some ss' => lay base l (upI n + o.code.length) (i + 1) (zv2 bs (upI n - base).toNat o.code) ss'
end Go.Proofs.YtnkdeacghopkiaaGreatDoor
namespace Go.Proofs.YtnkdeacghopkiaaGreatDoor
open Go Go.Plat
set_option linter.unusedVariables false
set_option linter.unusedSimpArgs false
set_option maxRecDepth 100000
set_option maxHeartbeats 2000000
attribute [local irreducible] AWP zN yv zU zo yC yh zG yb yf zx za zY yz zr yg yx yy yn yo zw zy ztg zT ym zqt yq lay zI yQ okC x1 zE upI xA
end Go.Proofs.YtnkdeacghopkiaaGreatDoor
namespace Go.Proofs.YtnkdeacghopkiaaGreatDoor
open Go Go.Plat
set_option linter.unusedVariables false
set_option linter.unusedSimpArgs false
set_option maxRecDepth 100000
set_option maxHeartbeats 2000000
attribute [local irreducible] AWP zN yv zU zo yC yh zG yb yf zx za zY yz zr yg yx yy yn yo zw zy zT
attribute [local irreducible] xE xl
end Go.Proofs.YtnkdeacghopkiaaGreatDoor
namespace Go.Proofs.YtnkdeacghopkiaaGreatDoor
open Go Go.Plat
set_option linter.unusedVariables false
set_option linter.unusedSimpArgs false
set_option maxRecDepth 100000
attribute [local irreducible] zT xG xE xl x1 zE
structure zvv where
 r : Nat → Int
 t : Bool
 pc : Int
 pr : Int
 img : zvZ
 told : List Int
 steps : Int
def up (r : Nat → Int) (n v : Int) : Nat → Int := fun k => if (k : Int) = n then v else r k
def za7 (m : zvv) (n v : Int) : zvv := { m with r := up m.r n v }
end Go.Proofs.YtnkdeacghopkiaaGreatDoor
namespace Go.Proofs.YtnkdeacghopkiaaGreatDoor
open Go Go.Plat
set_option linter.unusedVariables false
set_option linter.unusedSimpArgs false
set_option maxRecDepth 100000
section
variable {a b : Int} (ha1 : -2147483648 ≤ a) (ha2 : a ≤ 2147483647) (hb1 : -2147483648 ≤ b) (hb2 : b ≤ 2147483647)
include ha1 ha2 hb1 hb2
end
end Go.Proofs.YtnkdeacghopkiaaGreatDoor
namespace Go.Proofs.YtnkdeacghopkiaaGreatDoor
open Go Go.Plat
set_option linter.unusedVariables false
set_option linter.unusedSimpArgs false
set_option maxRecDepth 100000
set_option maxHeartbeats 2000000
attribute [local irreducible] AWP zN yv zU zo yC yh zG yb yf zx za zY yz zr yg yx yy yn yo zw zy zT xG xE xl x1 zE
end Go.Proofs.YtnkdeacghopkiaaGreatDoor
namespace Go.Proofs.YtnkdeacghopkiaaGreatDoor
open Go Go.Plat
set_option linter.unusedVariables false
set_option linter.unusedSimpArgs false
set_option maxRecDepth 100000
set_option maxHeartbeats 2000000
attribute [local irreducible] AWP zN yv zU zo yC yh zG yb yf zx za zY yz zr yg yx yy yn yo zw zy zT
attribute [local irreducible] vO wU zaq xE xl zcY zE yS
attribute [local irreducible] zi1
end Go.Proofs.YtnkdeacghopkiaaGreatDoor
namespace Go.Proofs.YtnkdeacghopkiaaGreatDoor
open Go Go.Plat
set_option linter.unusedVariables false
set_option linter.unusedSimpArgs false
set_option maxRecDepth 100000
set_option maxHeartbeats 2000000
attribute [local irreducible] AWP zN yv zU zo yC yh zG yb yf zx za zY yz zr yg yx yy yn yo zw zy zT xE xl
attribute [local irreducible] zi1 vO wU zaq zcY zE yS
end Go.Proofs.YtnkdeacghopkiaaGreatDoor
namespace Go.Proofs.YtnkdeacghopkiaaGreatDoor
open Go Go.Plat
set_option linter.unusedVariables false
set_option linter.unusedSimpArgs false
set_option maxRecDepth 100000
set_option maxHeartbeats 2000000
attribute [local irreducible] AWP zN yv zU zo yC yh zG yb yf zx za zY yz zr yg yx yy yn yo zw zy zT
attribute [local irreducible] zaq xE xl zcY zE
end Go.Proofs.YtnkdeacghopkiaaGreatDoor
namespace Go.Proofs.YtnkdeacghopkiaaGreatDoor
open Go Go.Plat
set_option linter.unusedVariables false
set_option linter.unusedSimpArgs false
set_option maxRecDepth 100000
set_option maxHeartbeats 2000000
attribute [local irreducible] AWP zN yv zU zo yC yh zG yb yf zx za zY yz zr yg yx yy yn yo zw zy zT xE xl
attribute [local irreducible] xG x1 zE
attribute [local irreducible] up
end Go.Proofs.YtnkdeacghopkiaaGreatDoor
namespace Go.Proofs.YtnkdeacghopkiaaGreatDoor
open Go Go.Plat
set_option linter.unusedVariables false
set_option linter.unusedSimpArgs false
set_option maxRecDepth 100000
set_option maxHeartbeats 2000000
attribute [local irreducible] AWP zN yv zU zo yC yh zG yb yf zx za zY yz zr yg yx yy yn yo zw zy zT xA
end Go.Proofs.YtnkdeacghopkiaaGreatDoor
namespace Go.Proofs.YtnkdeacghopkiaaGreatDoor
open Go Go.Plat
set_option linter.unusedVariables false
set_option linter.unusedSimpArgs false
set_option maxRecDepth 100000
set_option maxHeartbeats 2000000
attribute [local irreducible] AWP zN yv zU zo yC yh zG yb yf zx za zY yz zr yg yx yy yn yo zw zy zT
def zty (x : y4) : Bool := decide (zcd (zbq x)) && decide (x.toks.length ≤ 1000000000) && decide (wt (x.toks.map tk) ≤ 1048576)
def znc (b : List UInt8) : Bool := decide (b.length ≤ 1000000000) && decide ((xe b).1.length ≤ 200) && decide (zai (xe b).1 ≤ 9000) && (xe b).1.all zty
theorem zr4 {b : List UInt8} (h : znc b = true) : zmY b := by
 unfold znc at h
 simp only [Bool.and_eq_true, decide_eq_true_eq, List.all_eq_true] at h
 obtain ⟨⟨⟨h1, h2⟩, h3⟩, h4⟩ := h
 have h5 : ∀ x ∈ (xe b).1, zcd (zbq x) ∧ x.toks.length ≤ 1000000000 ∧ wt (x.toks.map tk) ≤ 1048576 := fun x hx => by
  have := h4 x hx
  unfold zty at this
  simp only [Bool.and_eq_true, decide_eq_true_eq] at this
  exact ⟨this.1.1, this.1.2, this.2⟩
 exact ⟨h1, ⟨h2, fun x hx => ⟨(h5 x hx).1, (h5 x hx).2.1⟩⟩, h3, fun x hx => (h5 x hx).2.2⟩
def zth (b : List UInt8) : Bool := znc b && ((xz b).1.rels.all fun r => decide (-9223372036854775808 ≤ r.at_ ∧ r.at_ ≤ 9223372036854775807 ∧ r.name.length ≤ 1000000000)) && (xz b).1.syms.all fun s => decide (s.name.length ≤ 1000000000)
theorem zuw {b : List UInt8} (h : zth b = true) : zk0 b := by
 unfold zth at h
 simp only [Bool.and_eq_true, decide_eq_true_eq, List.all_eq_true] at h
 exact ⟨zr4 h.1.1, h.1.2, h.2⟩
def zqu (f : zn) (b : List UInt8) : Bool := decide (b.length ≤ 1000000000) && (decide (wM b ≠ 0) || decide ((we b).kind ≠ 1) || wr f (we b).worker || zth (we b).data)
theorem zti {f : zn} {b : List UInt8} (h : zqu f b = true) : zft f b := by
 unfold zqu at h
 simp only [Bool.and_eq_true, Bool.or_eq_true, decide_eq_true_eq] at h
 refine ⟨h.1, fun h1 h2 _ => ?_⟩
 rcases h.2 with ((h3 | h3) | h3) | h3
 ·exact absurd h1 h3
 ·exact absurd h2 h3
 ·exact .inl h3
 ·exact .inr (zuw h3)
def zvw (j : yP) : Bool := decide (j.src.length ≤ 100000000 ∧ j.obj.length ≤ 100000000) && decide (0 ≤ j.turn ∧ j.turn ≤ 1000000 ∧ -1 ≤ j.worker ∧ j.worker ≤ 1000 ∧ 0 ≤ j.wait ∧ j.wait ≤ 4)
def doB (f : zn) (s : Stp) : Bool := decide (f.jobs.length ≤ 4) && decide (1 ≤ f.dead.length ∧ f.dead.length ≤ 3) && decide (f.way.length ≤ 12) && f.jobs.all zvw && (f.way.all fun b => decide (b.length ≤ 100000000)) &&
 decide (-9223372036854775808 ≤ s.n ∧ s.n ≤ 9223372036854775807) && (decide (s.kind ≠ 2) || zqu (qo f s.n) (x8 f s.n))
theorem zfx {f : zn} {s : Stp} (h : doB f s = true) : zfv f s := by
 unfold doB at h
 simp only [Bool.and_eq_true, Bool.or_eq_true, decide_eq_true_eq, List.all_eq_true] at h
 obtain ⟨⟨⟨⟨⟨⟨h1, h2⟩, h3⟩, h4⟩, h5⟩, h6⟩, h7⟩ := h
 have h8 : ∀ j ∈ f.jobs, (j.src.length ≤ 100000000 ∧ j.obj.length ≤ 100000000) ∧ 0 ≤ j.turn ∧ j.turn ≤ 1000000 ∧ -1 ≤ j.worker ∧ j.worker ≤ 1000 ∧ 0 ≤ j.wait ∧ j.wait ≤ 4 := fun j hj => by
  have := h4 j hj
  unfold zvw at this
  simp only [Bool.and_eq_true, decide_eq_true_eq] at this
  exact this
 refine ⟨⟨by omega, ⟨fun e => by rw [e] at h2; exact absurd h2.1 (by decide), by omega⟩, by omega, fun j hj => (h8 j hj).1, h5⟩, ⟨h1, h2.2, h3, fun j hj => (h8 j hj).2⟩, h6, fun hk _ _ => ?_⟩
 rcases h7 with h7 | h7
 ·exact absurd hk h7
 ·exact zti h7
def ziF : Nat → zn → Option zn
 | 0, _ => none
 | n + 1, f => match f.way with
  | [] => some f
  | _ :: _ => if doB f goS = true then ziF n (doF f goS).1 else none
theorem zki : ∀ (n : Nat) (f g : zn), ziF n f = some g → ∃ k, zcL k f g
 | 0, f, g, h => by cases h
 | n + 1, f, g, h => by
  rw [ziF] at h
  split at h
  ·rename_i hw
   cases h
   exact ⟨0, .done hw⟩
  ·rename_i b r hw
   split at h
   ·rename_i hb
    obtain ⟨k, hk⟩ := zki n _ g h
    exact ⟨k + 1, .step (by rw [hw]; exact List.cons_ne_nil _ _) (zfx hb) hk⟩
   ·cases h
def zfy (f : zn) : Option zn := if doB f zas = true then ziF 40 (doF f zas).1 else none
theorem zkj {f g : zn} (h : zfy f = some g) : zf8 f g := by
 unfold zfy at h
 split at h
 ·exact ⟨zfx (by assumption), zki 40 _ g h⟩
 ·cases h
def zdi : Nat → Nat → zn → Option (zn × Nat)
 | 0, _, _ => none
 | c + 1, n, f => if jK f = true ∧ f.jobs.length ≤ 1000 then some (f, n) else if n < 60 ∧ jK f = false then (match zfy f with | some g => zdi c (n + 1) g | none => none) else none
theorem ziG : ∀ (c n : Nat) (f g : zn) (m : Nat), zdi c n f = some (g, m) → km n f g m
 | 0, n, f, g, m, h => by cases h
 | c + 1, n, f, g, m, h => by
  rw [zdi] at h
  split at h
  ·rename_i hd
   cases h
   exact .stop hd.2 (.inr hd.1)
  split at h
  ·rename_i hd
   split at h
   ·rename_i g1 hg
    exact .step hd.1 hd.2 (zkj hg) (ziG c (n + 1) g1 g m h)
   ·cases h
  ·cases h
def zfz : List UInt8 := [110, 111, 112]
def vT : zn := ⟨0, [⟨zfz, 0, 1, 0, false, [], 0, 0⟩], [false, false], []⟩
theorem ztj : jJ [zfz] 0 2 = 0 := by kernel_rfl
theorem zux : doB (jI [zfz] 0 2) ⟨1, 0⟩ = true := by kernel_rfl
theorem zuy : doB (doF (jI [zfz] 0 2) ⟨1, 0⟩).1 ⟨3, 0⟩ = true := by kernel_rfl
theorem zuz : (doF (jI [zfz] 0 2) ⟨1, 0⟩).2 = 0 := by kernel_rfl
theorem zo4 : doF (doF (jI [zfz] 0 2) ⟨1, 0⟩).1 ⟨3, 0⟩ = (vT, 0) := by kernel_rfl
theorem zr5 : qp [⟨1, 0⟩, ⟨3, 0⟩] (jI [zfz] 0 2) vT [0, 0] := by
 have h := qp.cons (g := vT) (es := [(0 : Int)]) (zfx zux) (by
  have h2 := qp.cons (g := vT) (es := []) (zfx zuy) (by rw [zo4]; exact .nil)
  rw [zo4] at h2
  exact h2)
 rw [zuz] at h
 exact h
theorem ztk : vT.jobs.length = 1 := rfl
def zf9 : zn := ((zdi 10 0 vT).getD (noF, 0)).1
def ziH : zn := (zfy vT).getD noF
theorem kE : zdi 10 0 vT = some (zf9, 4) ∧ jK zf9 = true ∧ jK vT = false ∧ zf9.jobs.length = 1 := ⟨by kernel_rfl, by kernel_rfl, by kernel_rfl, by kernel_rfl⟩
theorem zeh : zfy vT = some ziH ∧ ziH.jobs.length = 1 ∧ ziH.way = [] := ⟨by kernel_rfl, by kernel_rfl, by kernel_rfl⟩
attribute [local irreducible] doF zef vT zf9 ziH yc we jJ jI zcf zhf wM qm xz yT xA
theorem ztl : ziA vT := (zfx (s := zas) (by kernel_rfl)).own
theorem zkN : za Tryz.prog zh3 (zz (fun _ : Unit => True) (fun _ => []) fun _ => .bool true) := by
 refine ze zi Tryz.func6 rfl (by decide) ?_
 rintro - -
 refine ⟨Nat.le_refl _, by simp [Tryz.f6], fun E hE => ?_⟩
 refine zb _ ?_
 refine VS.mk (za0 (VS.mk (zk4 ?_)))
 (all_goals refine qgp ?_ <;> (repeat' first | exact trivial | intro hc | refine And.intro ?_ ?_) <;> refine Lf.mk ?_)
 refine zd zoi ([zfz], 0, 2, [⟨1, 0⟩, ⟨3, 0⟩], vT, [0, 0]) ⟨ztj, by show 1 ≤ 4; decide, by decide, by decide, fun s hs => by rw [List.mem_singleton.1 hs]; decide, by show 2 ≤ 80; decide, zr5⟩ (VS.mk (LeL.of_eq rfl)) ?_
 (all_goals refine qgp ?_ <;> (repeat' first | exact trivial | intro hc | refine And.intro ?_ ?_) <;> refine Lf.mk ?_)
 refine zd zen (vT, zf9, 4) ⟨ztl, ziG 10 0 _ _ _ kE.1⟩ (VS.mk (LeL.of_eq rfl)) ?_
 (all_goals refine qgp ?_ <;> (repeat' first | exact trivial | intro hc | refine And.intro ?_ ?_) <;> refine Lf.mk ?_)
 refine zd zfw (vT, ziH) (zkj zeh.1) (VS.mk (LeL.of_eq rfl)) ?_
 (all_goals refine qgp ?_ <;> (repeat' first | exact trivial | intro hc | refine And.intro ?_ ?_) <;> refine Lf.mk ?_)
 refine zd zat zf9 (by rw [kE.2.2.2]; decide) (VS.mk (LeL.of_eq rfl)) ?_
 rw [kE.2.1]
 (all_goals refine qgp ?_ <;> (repeat' first | exact trivial | intro hc | refine And.intro ?_ ?_) <;> refine Lf.mk ?_)
 (any_goals (first | (exfalso; refine Bool.false_ne_true ?_; assumption) | (exfalso; refine Bool.false_ne_true (Eq.symm ?_); assumption) | (exfalso; refine absurd trivial ?_; assumption) | skip))
 all_goals first
  | (exfalso; exact (by assumption : ¬ True) trivial)
  | (exfalso; exact Bool.noConfusion (by assumption : true = false))
  | skip
 refine zd zat vT (by rw [ztk]; decide) (VS.mk (LeL.of_eq rfl)) ?_
 rw [kE.2.2.1]
 (all_goals refine qgp ?_ <;> (repeat' first | exact trivial | intro hc | refine And.intro ?_ ?_) <;> refine Lf.mk ?_)
 (any_goals (first | (exfalso; refine Bool.false_ne_true ?_; assumption) | (exfalso; refine Bool.false_ne_true (Eq.symm ?_); assumption) | (exfalso; refine absurd trivial ?_; assumption) | skip))
 all_goals first
  | (exfalso; exact Bool.noConfusion (by assumption : false = true))
  | skip
 all_goals first
  | (exfalso; have := kE.2.2.2; omega)
  | (exfalso; have := zeh.2.1; omega)
  | skip
 refine zf (VS.mk (LeD.of_eq (congrArg D.bool ?_)))
 rw [zeh.2.2]
 rfl
def v7 (l : List (List UInt8)) (base : Int) (k n : Nat) : zn := ⟨base, l.map zce, List.replicate k true ++ List.replicate n false, []⟩
theorem zo5 (s : List UInt8) : 0 ≤ (zce s).turn ∧ (zce s).turn ≤ 0 ∧ -1 ≤ (zce s).worker ∧ (zce s).worker ≤ -1 ∧ 0 ≤ (zce s).wait ∧ (zce s).wait ≤ 0 := ⟨Int.le_refl 0, Int.le_refl 0, Int.le_refl (-1), Int.le_refl (-1), Int.le_refl 0, Int.le_refl 0⟩
structure zqv (l : List (List UInt8)) (base w : Int) : Prop where
 len : 1 ≤ l.length ∧ l.length ≤ 4
 num : 1 ≤ w ∧ w ≤ 3
 src : ∀ s ∈ l, s.length ≤ 1200
theorem zvx {l : List (List UInt8)} {base w : Int} (h : jJ l base w = 0) : zqv l base w := by
 unfold jJ at h
 split at h
 ·exact absurd h (by decide)
 split at h
 ·exact absurd h (by decide)
 split at h
 ·exact absurd h (by decide)
 rename_i h1 h2 h3
 refine ⟨⟨by omega, by omega⟩, ⟨by omega, by omega⟩, fun s hs => ?_⟩
 unfold zhi at h3
 rw [Bool.not_eq_true, List.any_eq_false] at h3
 have := h3 s hs
 rw [decide_eq_true_eq] at this
 omega
theorem zvy {l : List (List UInt8)} {base w : Int} (h : zqv l base w) {k n : Nat} (hk : 1 ≤ k + n) (hk3 : k + n ≤ 3) {s : Stp} (hs : -9223372036854775808 ≤ s.n ∧ s.n ≤ 9223372036854775807) : zfv (v7 l base k n) s := by
 have hd : (v7 l base k n).dead.length = k + n := by show (List.replicate k true ++ List.replicate n false).length = _; rw [List.length_append, List.length_replicate, List.length_replicate]
 have hj : ∀ j ∈ (v7 l base k n).jobs, ∃ s ∈ l, j = zce s := fun j hj => by obtain ⟨s, h1, h2⟩ := List.mem_map.1 hj; exact ⟨s, h1, h2.symm⟩
 have hl : (v7 l base k n).jobs.length = l.length := List.length_map _
 refine ⟨⟨by rw [hl]; have := h.len; omega, ⟨fun e => by rw [e] at hd; exact absurd hd (by show ¬ 0 = k + n; omega), by omega⟩, Nat.zero_le _, fun j hjm => ?_, fun b hb => by cases hb⟩, ⟨by rw [hl]; exact h.len.2, by omega, Nat.zero_le _, fun j hjm => ?_⟩, hs, fun _ h0 hn => ?_⟩
 ·obtain ⟨s, h1, rfl⟩ := hj j hjm
  have := h.src s h1
  exact ⟨by show s.length ≤ _; omega, Nat.zero_le _⟩
 ·obtain ⟨s, h1, rfl⟩ := hj j hjm
  have := zo5 s
  omega
 ·have : s.n < ((0 : Nat) : Int) := hn
  omega
theorem zuA (l : List (List UInt8)) (base : Int) (k n : Nat) : doF (v7 l base k (n + 1)) ⟨5, k⟩ = (v7 l base (k + 1) n, 0) := by
 have hd : (v7 l base k (n + 1)).dead.length = k + (n + 1) := by show (List.replicate k true ++ List.replicate (n + 1) false).length = _; rw [List.length_append, List.length_replicate, List.length_replicate]
 have ha : (List.replicate k true ++ List.replicate (n + 1) false)[k]? = some false := by
  rw [List.getElem?_append_right (by rw [List.length_replicate]; exact Nat.le_refl _), List.length_replicate, Nat.sub_self, List.replicate_succ]
  rfl
 have hda : wr (v7 l base k (n + 1)) (k : Int) = false := by
  unfold wr
  rw [Int.toNat_natCast]
  show ((List.replicate k true ++ List.replicate (n + 1) false)[k]?).getD true = false
  rw [ha]
  rfl
 unfold doF
 dsimp only
 rw [if_neg (by decide), if_neg (by decide), if_pos rfl, hd, if_neg (by omega)]
 unfold zju
 rw [hda, Int.toNat_natCast]
 refine congrArg (fun x => ((⟨base, l.map zce, x, []⟩ : zn), (0 : Int))) ?_
 show (List.replicate k true ++ List.replicate (n + 1) false).set k (!false) = _
 rw [List.set_append_right _ _ (by rw [List.length_replicate]; exact Nat.le_refl _), List.length_replicate, Nat.sub_self, List.replicate_succ, List.set_cons_zero, List.replicate_succ', List.append_assoc]
 rfl
theorem zvz {l : List (List UInt8)} {base w : Int} (h : zqv l base w) : Lz l.length w.toNat 0 (v7 l base w.toNat 0) := by
 refine ⟨List.length_map _, fun j hj => ?_, by show List.replicate w.toNat true ++ [] = _; rw [List.append_nil], [], rfl, by decide, fun m hm => by cases hm⟩
 obtain ⟨s, h1, rfl⟩ := List.mem_map.1 hj
 have := zo5 s
 exact ⟨rfl, h.src s h1, rfl, by omega, by omega, by omega, by omega, by omega, by omega⟩
theorem zjv : za Tryz.prog xQ (zz (fun ((l, base, w) : List (List UInt8) × Int × Int) => (l.length ≤ 1000000000 ∧ ∀ s ∈ l, s.length ≤ 1000000000) ∧ (-9223372036854775808 ≤ base ∧ base ≤ 9223372036854775807) ∧ -9223372036854775808 ≤ w ∧ w ≤ 9223372036854775807) (fun (l, base, w) => [.sl 1 (l.map zm) none, .int .i64 base, .int .i64 w]) fun _ => .bool true) := by
 refine ze zi Tryz.func3 rfl (by decide) ?_
 rintro ⟨l, base, w⟩ ⟨hl, hb, hw⟩
 refine ⟨Nat.le_refl _, by simp [Tryz.f3], fun E hE => ?_⟩
 have hE0 : E.L.length = 0 := by rw [hE]; rfl
 refine zb _ ?_
 (all_goals refine qgp ?_ <;> (repeat' first | exact trivial | intro hc | refine And.intro ?_ ?_) <;> refine Lf.mk ?_)
 refine zd zkN () trivial (VS.mk (LeL.of_eq rfl)) ?_
 (all_goals refine qgp ?_ <;> (repeat' first | exact trivial | intro hc | refine And.intro ?_ ?_) <;> refine Lf.mk ?_)
 (any_goals (first | (exfalso; refine Bool.false_ne_true ?_; assumption) | (exfalso; refine Bool.false_ne_true (Eq.symm ?_); assumption) | (exfalso; refine absurd trivial ?_; assumption) | skip))
 refine zd ziD (l, base, w) ⟨hl, hb, hw⟩ (VS.mk (LeL.of_eq rfl)) ?_
 dsimp only
 by_cases hN : jJ l base w = 0
 ·have hnw := zvx hN
  have hlen := hnw.len
  have hnum := hnw.num
  have hR : zcf l base w = (v7 l base 0 w.toNat, 0) := by unfold zcf; rw [hN, if_pos rfl]; unfold jI; rfl
  rw [hR]
  dsimp only
  (all_goals refine qgp ?_ <;> (repeat' first | exact trivial | intro hc | refine And.intro ?_ ?_) <;> refine Lf.mk ?_)
  ·exact absurd trivial hc
  refine z7 (α := Nat) (fun k => k ≤ w.toNat) (fun k => [(0, .sl 1 (l.map zm) none), (7, .loc 0 0), (25, .int .i64 w), (26, .int .i64 k)]) (fun k => [.cells (xp (v7 l base k (w.toNat - k))).cells]) (fun k => w.toNat - k) (fun _ => by rw [hE0]; exact Nat.zero_le _) 0 (Nat.zero_le _) ?_ ?_
  ·exact zX rfl ⟨rfl, rfl, rfl, rfl, trivial⟩
  intro k hk
  have hk : k ≤ w.toNat := hk
  unfold xp D.cells
  dsimp only
  refine zb _ ?_
  (all_goals refine qgp ?_ <;> (repeat' first | exact trivial | intro hc | refine And.intro ?_ ?_) <;> refine Lf.mk ?_)
  ·refine zd zcK (v7 l base k (w.toNat - k), ⟨5, k⟩) (zvy hnw (by omega) (by omega) ⟨by show -9223372036854775808 ≤ (k : Int); omega, by show (k : Int) ≤ 9223372036854775807; omega⟩) (VS.mk (LeL.of_eq rfl)) ?_
   dsimp only
   rw [show w.toNat - k = (w.toNat - (k + 1)) + 1 by omega, zuA]
   dsimp only
   (all_goals refine qgp ?_ <;> (repeat' first | exact trivial | intro hc | refine And.intro ?_ ?_) <;> refine Lf.mk ?_)
   exact zR (k + 1) (by show k + 1 ≤ _; omega) (by omega) rfl ⟨rfl, rfl, rfl, rfl, trivial⟩
  ·have hkn : k = w.toNat := by omega
   rw [hkn, Nat.sub_self]
   have hlz := zvz hnw
   obtain ⟨g, s1, s2, s3, _⟩ := zkh (nj := l.length) (nd := w.toNat) hlen.2 hlen.1 (by omega) (by omega) 60 0 _ rfl hlz (.inl rfl)
   have hgw : g.way = [] := s3.resolve_left (by decide)
   have hgl := s2.len
   refine zd zen (v7 l base w.toNat 0, g, 60) ⟨(zqr (s := zas) hlz hlen.2 (by omega) (by omega) (by decide) ⟨by decide, by decide⟩).own, s1⟩ (VS.mk (LeL.of_eq rfl)) ?_
   (all_goals refine qgp ?_ <;> (repeat' first | exact trivial | intro hc | refine And.intro ?_ ?_) <;> refine Lf.mk ?_)
   refine z7 (α := Nat) (fun k => k ≤ g.jobs.length) (fun k => [(0, .sl 1 (l.map zm) none), (10, .loc 0 0), (11, .int .i64 60), (43, .sl 8 (g.jobs.map ya) none), (44, .int .i64 g.jobs.length), (45, .int .i64 k)]) (fun _ => [.cells (xp g).cells]) (fun k => g.jobs.length - k) (fun _ => by rw [hE0]; exact Nat.zero_le _) 0 (Nat.zero_le _) ?_ ?_
   ·refine wq [1] rfl (by rw [hE0]; rfl) ?_ ⟨.flat .sl, .loc rfl, .flat .int, .flat .sl, .flat .int, .flat .int, trivial⟩
    exact .cons rfl ⟨_, rfl, .cons (.flat .int) (.cons (.flat .sl) (.cons (.flat .sl) (.cons (.flat .sl) .nil)))⟩ .nil
   intro q hq
   have hq : q ≤ g.jobs.length := hq
   unfold xp D.cells
   dsimp only
   refine zb _ ?_
   (all_goals refine qgp ?_ <;> (repeat' first | exact trivial | intro hc | refine And.intro ?_ ?_) <;> refine Lf.mk ?_)
   ·obtain ⟨j, hx⟩ := yi (l := g.jobs) (k := q) (by omega)
    have hjd := (s2.jobs j (List.mem_of_getElem? hx)).1
    refine zk j (Int.natCast_nonneg _) (by rw [Int.toNat_natCast]; exact hx) ?_
    (all_goals refine qgp ?_ <;> (repeat' first | exact trivial | intro hc | refine And.intro ?_ ?_) <;> refine Lf.mk ?_)
    ·rw [hjd] at hc; exact Bool.noConfusion hc
    ·exact wG (q + 1) [_] (by show q + 1 ≤ _; omega) (by omega) rfl (by rw [hE0]; exact Nat.zero_le _) (fun o ho => by rw [List.mem_singleton.1 ho]; exact .cells (.cons .int (.cons .sl (.cons .sl (.cons .sl .nil))))) ⟨rfl, rfl, rfl, rfl, rfl, rfl, trivial⟩ (.cons .sl (.cons (.loc (by show 0 < 1; decide)) (.cons .int (.cons .sl (.cons .int (.cons .int .nil))))))
   ·refine zf (VS.mk (LeD.of_eq (congrArg D.bool ?_)))
    rw [hgw]
    rfl
   ·exact absurd trivial hc
 ·have hR : (zcf l base w).2 = jJ l base w := by unfold zcf; rfl
  rw [hR]
  (all_goals refine qgp ?_ <;> (repeat' first | exact trivial | intro hc | refine And.intro ?_ ?_) <;> refine Lf.mk ?_)
  exact zf (VS.mk (LeD.tt rfl))
end Go.Proofs.YtnkdeacghopkiaaGreatDoor
namespace Go.Proofs.YtnkdeacghopkiaaGreatDoor
open Go Go.Plat
set_option linter.unusedVariables false
set_option linter.unusedSimpArgs false
set_option maxRecDepth 100000
set_option maxHeartbeats 2000000
attribute [local irreducible] AWP zN yv zU zo yC yh zG yb yf zx za zY yz zr yg yx yy yn yo zw zy zT
theorem own : ownKnob Tryz.prog.godebug = none := by kernel_rfl
theorem zvA {H : Type} (d : DataW H) : 1 ≤ Rows.uptoBulk d := by
 cases d with
 | lit l => cases l <;> simp [Rows.uptoBulk]
 | nil => simp [Rows.uptoBulk]
 | ptr d => simp [Rows.uptoBulk]
 | slice el sp => simp [Rows.uptoBulk]
 | agg ps => simp [Rows.uptoBulk]
 | iface t d => simp [Rows.uptoBulk]
 | map es => simp [Rows.uptoBulk]
 | held h => simp [Rows.uptoBulk]
theorem zuB {H : Type} {d : DataW H} {l : List (DataW H)} (h : d ∈ l) : Rows.uptoBulk d ≤ Rows.uptoBulkAll l := by
 induction l with
 | nil => cases h
 | cons x r ih =>
  simp only [Rows.uptoBulkAll]
  cases List.mem_cons.1 h with
  | inl e => subst e; omega
  | inr e => have := ih e; omega
theorem length_le {H : Type} (l : List (DataW H)) : l.length ≤ Rows.uptoBulkAll l := by
 induction l with
 | nil => simp [Rows.uptoBulkAll]
 | cons x r ih => have := zvA x; simp only [Rows.uptoBulkAll, List.length_cons]; omega
theorem zkk {H : Type} (d : DataW H) : Rows.uptoBulkAll (wQ d) ≤ Rows.uptoBulk d := by
 cases d <;> simp only [wQ, Rows.uptoBulk, Rows.uptoBulkAll] <;> omega
theorem znd {H : Type} (d : DataW H) : (wQ d).length ≤ Rows.uptoBulk d := Nat.le_trans (length_le _) (zkk d)
theorem zvS {H : Type} {l : List (DataW H)} (hk : Rows.uptoSmall H l = true) : Rows.uptoBulkAll l ≤ 1048576 := of_decide_eq_true hk
end Go.Proofs.YtnkdeacghopkiaaGreatDoor
namespace Go.Plat
open Go
set_option linter.unusedVariables false
set_option linter.unusedSimpArgs false
abbrev zk2 (w : World) (F : Nat → Nat → Prop) (g : Nat) (cs : List D) : Prop := zu w F (.ptr cs) (.pointer (some ⟨g, 0, none⟩)) ∧
 (∀ off, ¬ F g off) ∧ (∃ row t z, w.heap[g]? = some (.cells row t z) ∧ (row.size = cs.length ∨ cs = [.any])) ∧
 (cs = [.any] → ∃ u v, w.cell? ⟨g, 0, none⟩ = some (.iface u v))
def zqw (w : World) (F : Nat → Nat → Prop) (l : List (Nat × Nat × List Nat)) : Prop := ∀ g cs, zdj l g = some cs → zk2 w F g cs
theorem ztm {w : World} {F : Nat → Nat → Prop} : zqw w F [] := fun g cs h => by cases h
theorem zaZ {w : World} {F : Nat → Nat → Prop} {h k : Nat} {ns : List Nat} {r : List (Nat × Nat × List Nat)} (hf : zk2 w F h (zto k ns)) (hr : zqw w F r) : zqw w F ((h, k, ns) :: r) := by
 intro g cs hg
 rw [zdj] at hg
 cases hb : Nat.beq h g with
 | false => rw [hb] at hg; exact hr g cs hg
 | true =>
  rw [hb] at hg
  have e := Nat.eq_of_beq_eq_true hb
  subst e
  cases hg
  exact hf
theorem zqx {P : Program} {w : World} {name : String} {g : Nat} {k : IntKind} {zs : List Int} {ns : List Nat} (hn : P.globalNamed name = some g) (h : Lib.TabIs P w name k zs)
  (hz : zs = ns.map fun n : Nat => (n : Int)) : zk2 w F0 g (ns.map fun n => D.int k (n : Nat)) := by
 have hc := fun i hi => h.cell hn i hi
 refine ⟨.ptr _ _ _ (fun j => .int k (zs.getD j 0)) (fun j c hj => ⟨?_, fun f => f⟩) (fun j c hj => ?_), fun off f => f, ?_, fun e => absurd e (fun e => ?_)⟩
 ·have hjl : j < ns.length := by
   have := (List.getElem?_eq_some_iff.1 hj).1
   simpa using this
  rw [Nat.zero_add]
  exact hc j (by rw [hz]; simpa using hjl)
 ·have hjl : j < ns.length := by
   have := (List.getElem?_eq_some_iff.1 hj).1
   simpa using this
  rw [List.getElem?_map, List.getElem?_eq_getElem hjl] at hj
  cases hj
  have : zs.getD j 0 = (ns[j] : Int) := by
   rw [hz, List.getD_eq_getElem?_getD, List.getElem?_map, List.getElem?_eq_getElem hjl]; rfl
  dsimp only
  rw [this]
  exact .int _ _
 ·unfold Lib.TabIs World.var? at h
  rw [hn] at h
  dsimp only [Option.bind_some] at h
  split at h
  ·rename_i cs t z hh
   cases h
   exact ⟨_, _, _, hh, .inl (by rw [hz]; simp)⟩
  ·cases h
 ·match ns, e with
  | [], e => cases e
  | n :: r, e => cases (List.cons.inj e).1
theorem zc1 {P : Program} {W : World} {name : String} {k : IntKind} {zs : List Int} {rest : List (String × DataW Unit)} {g : Nat} {t e : TypeId} {n : Nat} {ps : List MemPlace} {d : DataW Unit}
  (hg : P.globalNamed name = some g) (hty : (P.globals[g]?).map (·.type) = some t) (ht : P.underlying t = some (.array n e)) (he : P.underlying e = some (.int k)) (hce : P.cellsOf e = 1) (hct : P.cellsOf t = n)
  (hd : d = Lib.tabData k zs) (h : DataW.LaidVars P W ((name, d) :: rest) ps) : Lib.TabIs P W name k zs ∧ ∃ q, DataW.LaidVars P W rest q := by
 subst hd
 obtain ⟨g', t', cs, fuel, p, q, hg', ht', hvar, hd, hr, _⟩ := h
 obtain rfl := Option.some.inj (hg.symm.trans hg')
 obtain rfl := Option.some.inj (hty.symm.trans ht')
 refine ⟨?_, q, hr⟩
 unfold Lib.TabIs
 rw [hvar, ← Lib.cells_of_tab ht he hce hct hd]
theorem zr6 {P : Program} {W : World} {x : String × DataW Unit} {rest : List (String × DataW Unit)} {ps : List MemPlace} (h : DataW.LaidVars P W (x :: rest) ps) : ∃ q, DataW.LaidVars P W rest q := by
 obtain ⟨g', t', cs, fuel, p, q, hg', ht', hvar, hd, hr, _⟩ := h
 exact ⟨q, hr⟩
def zv3 : DataW Unit → Bool
 | .iface _ _ => true
 | _ => false
theorem zeo {P : Program} {W : World} {name : String} {rest : List (String × DataW Unit)} {g : Nat} {t : TypeId} {ps : List MemPlace} {d : DataW Unit}
  (hg : P.globalNamed name = some g) (hty : (P.globals[g]?).map (·.type) = some t) (ht : ((P.underlying t).map fun | .interface _ => true | _ => false) = some true)
  (hd : zv3 d = true) (h : DataW.LaidVars P W ((name, d) :: rest) ps) : zk2 W F0 g [.any] ∧ ∃ q, DataW.LaidVars P W rest q := by
 obtain ⟨g', t', cs, fuel, p, q, hg', ht', hvar, htr, hr, _⟩ := h
 obtain rfl := Option.some.inj (hg.symm.trans hg')
 obtain rfl := Option.some.inj (hty.symm.trans ht')
 refine ⟨?_, q, hr⟩
 cases d with
 | iface n x =>
  have hrow : ∃ u v, cs.toList = [Value.iface u v] := by
   cases fuel with
   | zero => simp [DataW.trod] at htr
   | succ fuel =>
    cases hun : P.underlying t with
    | none => rw [hun] at ht; cases ht
    | some dd =>
     rw [hun] at ht
     cases dd with
     | interface ms =>
      generalize cs.toList = l at htr
      unfold DataW.trod at htr
      rw [hun] at htr
      match l, htr with
      | [], htr => cases htr
      | [.nilIface], htr => cases htr
      | [.iface u v], htr => exact ⟨u, v, rfl⟩
      | a :: b :: r, htr => cases a <;> cases htr
      | [.bool _], htr | [.int _ _], htr | [.float _ _], htr | [.string _], htr | [.pointer _], htr | [.slice _ _ _], htr | [.map _], htr | [.chan _], htr | [.func _ _ _], htr | [.nilFunc], htr | [.agg _], htr | [.tuple _], htr => cases htr
     | _ => cases ht
  obtain ⟨u, v, hv⟩ := hrow
  have hcs : cs = #[Value.iface u v] := by
   apply Array.ext'
   rw [hv]
  subst hcs
  unfold World.var? at hvar
  rw [hg] at hvar
  dsimp only [Option.bind_some] at hvar
  split at hvar
  ·rename_i cs t z hh
   cases hvar
   have hcell : W.cell? ⟨g, 0, none⟩ = some (.iface u v) := by simp only [World.cell?, hh]; rfl
   refine ⟨.ptr _ _ _ (fun _ => .iface u v) (fun j c hj => ?_) (fun j c hj => ?_), fun off f => f, ⟨_, _, _, hh, .inl rfl⟩, fun _ => ⟨u, v, hcell⟩⟩
   ·cases j with
    | zero => exact ⟨hcell, fun f => f⟩
    | succ j => simp at hj
   ·cases j with
    | zero =>
     simp at hj
     subst hj
     exact .any _
    | succ j => simp at hj
  ·cases hvar
 | _ => cases hd
end Go.Plat
namespace Go.Proofs.YtnkdeacghopkiaaGreatDoor
open Go Go.Plat
set_option linter.unusedVariables false
set_option linter.unusedSimpArgs false
set_option maxRecDepth 100000
set_option maxHeartbeats 2000000
open Go.ChangeShapes Go.WideShapes Go.ChangeAt Go.RowKit
attribute [local irreducible] AWP zN yv zU zo yC yh zG yb yf zx za zY yz zr yg yx yy yn yo zw zy zT
theorem ztn {W : World} (h : laidMetH Tryz.prog Rows.fairDeadUptoRow.laid W) : GOk W F0 := by
 rw [MakeChecks.laidMetH_plain _ _ _ (by kernel_rfl)] at h
 obtain ⟨ps, h, _⟩ := h
 obtain ⟨h1, q1, h⟩ := zc1 (k := .u8) (zs := [0, 1, 28, 2, 29, 14, 24, 3, 30, 22, 20, 15, 25, 17, 4, 8, 31, 27, 13, 23, 21, 19, 16, 7, 26, 12, 18, 6, 11, 5, 10, 9]) (g := 1) (t := 235) (e := 5) (n := 32) (by kernel_rfl) (by kernel_rfl) (by kernel_rfl) (by kernel_rfl) (by kernel_rfl) (by kernel_rfl) (by kernel_rfl) h
 obtain ⟨h2, q2, h⟩ := zc1 (k := .u8) (zs := [0, 1, 56, 2, 57, 49, 28, 3, 61, 58, 42, 50, 38, 29, 17, 4, 62, 47, 59, 36, 45, 43, 51, 22, 53, 39, 33, 30, 24, 18, 12, 5, 63, 55, 48, 27, 60, 41, 37, 16, 46, 35, 44, 21, 52, 32, 23, 11, 54, 26, 40, 15, 34, 20, 31, 10, 25, 14, 19, 9, 13, 8, 7, 6]) (g := 2) (t := 236) (e := 5) (n := 64) (by kernel_rfl) (by kernel_rfl) (by kernel_rfl) (by kernel_rfl) (by kernel_rfl) (by kernel_rfl) (by kernel_rfl) h
 obtain ⟨h3, q3, h⟩ := zc1 (k := .u64) (zs := Lib.pow10Tab) (g := 0) (t := 158) (e := 132) (n := 20) (by kernel_rfl) (by kernel_rfl) (by kernel_rfl) (by kernel_rfl) (by kernel_rfl) (by kernel_rfl) (by kernel_rfl) h
 obtain ⟨q4, h⟩ := zr6 h
 obtain ⟨h5, q5, h⟩ := zeo (g := 7) (t := 240) (by kernel_rfl) (by kernel_rfl) (by kernel_rfl) rfl h
 obtain ⟨h6, q6, h⟩ := zeo (g := 6) (t := 240) (by kernel_rfl) (by kernel_rfl) (by kernel_rfl) rfl h
 show zqw W F0 zfA
 unfold zfA
 exact zaZ (zqx (k := .u64) (by kernel_rfl) h3 (by kernel_rfl)) (zaZ (zqx (k := .u8) (by kernel_rfl) h1 (by kernel_rfl)) (zaZ (zqx (k := .u8) (by kernel_rfl) h2 (by kernel_rfl)) (zaZ h6 (zaZ h5 ztm))))
end Go.Proofs.YtnkdeacghopkiaaGreatDoor
