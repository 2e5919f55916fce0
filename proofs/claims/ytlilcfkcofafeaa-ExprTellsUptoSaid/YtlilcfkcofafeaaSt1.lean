/-
  A part of the proof: what the given program's functions answer, each once; conditions that are enough for it.
-/
import Derived.Test.YtlilcfkcofafeaaProg
import Derived.KernelRfl
import Derived.Test.YtlilcfkcofafeaaFw3
/-
  The types' table and the functions' numbers of this seat; printed by a program.
-/
namespace Go.Proofs.Ytlilcfkcofafeaa
open Go Go.Plat
set_option maxRecDepth 100000

theorem TIOk.of {P : Program} {t : Nat} {i : TI} (h1 : (P.underlying t).map tdOf = some i.d) (h2 : (P.info? t).map (fun x => (x.size, x.bytes, x.zero)) = some (i.size, i.bytes, some i.zero)) (h3 : Nat.beq i.size 0 = false) (h3b : Nat.beq i.bytes 0 = false) (h4 : Nat.beq i.zero.cells.size i.size = true)
    (h5 : (match P.underlying t with | some (.struct fs) => fs.toList.all fun f => (P.info? f.type).isSome | _ => true) = true) : TIOk P t i where
  under := by
    cases h : P.underlying t with
    | none => rw [h] at h1; cases h1
    | some d => rw [h] at h1; exact ⟨d, rfl, by simpa using h1⟩
  info := by
    cases h : P.info? t with
    | none => rw [h] at h2; cases h2
    | some x => rw [h] at h2; simp at h2; exact ⟨x, rfl, h2.1, h2.2.1, h2.2.2⟩
  pos := by intro h; rw [h] at h3; simp at h3
  bpos := by intro h; rw [h] at h3b; simp at h3b
  szero := Nat.eq_of_beq_eq_true h4
  fin := h5

theorem tk3 : TIOk Try.prog 3 ⟨(.int .i64), 1, 8, (.int .i64 0)⟩ := TIOk.of (by kernel_rfl) (by kernel_rfl) rfl rfl (by kernel_rfl) (by kernel_rfl)
theorem tk4 : TIOk Try.prog 4 ⟨.bool, 1, 1, (.bool false)⟩ := TIOk.of (by kernel_rfl) (by kernel_rfl) rfl rfl (by kernel_rfl) (by kernel_rfl)
theorem tk5 : TIOk Try.prog 5 ⟨(.int .u8), 1, 1, (.int .u8 0)⟩ := TIOk.of (by kernel_rfl) (by kernel_rfl) rfl rfl (by kernel_rfl) (by kernel_rfl)
theorem tk9 : TIOk Try.prog 9 ⟨.str, 1, 16, (.string ⟨#[]⟩)⟩ := TIOk.of (by kernel_rfl) (by kernel_rfl) rfl rfl (by kernel_rfl) (by kernel_rfl)
theorem tk2 : TIOk Try.prog 2 ⟨(.int .i64), 1, 8, (.int .i64 0)⟩ := TIOk.of (by kernel_rfl) (by kernel_rfl) rfl rfl (by kernel_rfl) (by kernel_rfl)
theorem tk12 : TIOk Try.prog 12 ⟨(.int .u64), 1, 8, (.int .u64 0)⟩ := TIOk.of (by kernel_rfl) (by kernel_rfl) rfl rfl (by kernel_rfl) (by kernel_rfl)
theorem tk20 : TIOk Try.prog 20 ⟨.iface, 1, 16, .nilIface⟩ := TIOk.of (by kernel_rfl) (by kernel_rfl) rfl rfl (by kernel_rfl) (by kernel_rfl)
theorem tk21 : TIOk Try.prog 21 ⟨(.int .i32), 1, 4, (.int .i32 0)⟩ := TIOk.of (by kernel_rfl) (by kernel_rfl) rfl rfl (by kernel_rfl) (by kernel_rfl)
theorem tk22 : TIOk Try.prog 22 ⟨(.slice 66), 1, 24, (.slice none 0 0)⟩ := TIOk.of (by kernel_rfl) (by kernel_rfl) rfl rfl (by kernel_rfl) (by kernel_rfl)
theorem tk23 : TIOk Try.prog 23 ⟨(.slice 25), 1, 24, (.slice none 0 0)⟩ := TIOk.of (by kernel_rfl) (by kernel_rfl) rfl rfl (by kernel_rfl) (by kernel_rfl)
theorem tk24 : TIOk Try.prog 24 ⟨(.struct [(0, 3), (1, 3), (2, 9), (3, 23)]), 4, 56, (.agg #[(.int .i64 0), (.int .i64 0), (.string ⟨#[]⟩), (.slice none 0 0)])⟩ := TIOk.of (by kernel_rfl) (by kernel_rfl) rfl rfl (by kernel_rfl) (by kernel_rfl)
theorem tk25 : TIOk Try.prog 25 ⟨(.struct [(0, 3), (1, 3), (2, 9), (3, 23)]), 4, 56, (.agg #[(.int .i64 0), (.int .i64 0), (.string ⟨#[]⟩), (.slice none 0 0)])⟩ := TIOk.of (by kernel_rfl) (by kernel_rfl) rfl rfl (by kernel_rfl) (by kernel_rfl)
theorem tk26 : TIOk Try.prog 26 ⟨(.slice 47), 1, 24, (.slice none 0 0)⟩ := TIOk.of (by kernel_rfl) (by kernel_rfl) rfl rfl (by kernel_rfl) (by kernel_rfl)
theorem tk27 : TIOk Try.prog 27 ⟨(.int .i64), 1, 8, (.int .i64 0)⟩ := TIOk.of (by kernel_rfl) (by kernel_rfl) rfl rfl (by kernel_rfl) (by kernel_rfl)
theorem tk31 : TIOk Try.prog 31 ⟨(.struct [(0, 9), (1, 3)]), 2, 24, (.agg #[(.string ⟨#[]⟩), (.int .i64 0)])⟩ := TIOk.of (by kernel_rfl) (by kernel_rfl) rfl rfl (by kernel_rfl) (by kernel_rfl)
theorem tk32 : TIOk Try.prog 32 ⟨(.struct [(0, 9), (1, 3)]), 2, 24, (.agg #[(.string ⟨#[]⟩), (.int .i64 0)])⟩ := TIOk.of (by kernel_rfl) (by kernel_rfl) rfl rfl (by kernel_rfl) (by kernel_rfl)
theorem tk36 : TIOk Try.prog 36 ⟨(.ptr 38), 1, 8, (.pointer none)⟩ := TIOk.of (by kernel_rfl) (by kernel_rfl) rfl rfl (by kernel_rfl) (by kernel_rfl)
theorem tk37 : TIOk Try.prog 37 ⟨(.struct [(0, 22), (1, 27)]), 2, 32, (.agg #[(.slice none 0 0), (.int .i64 0)])⟩ := TIOk.of (by kernel_rfl) (by kernel_rfl) rfl rfl (by kernel_rfl) (by kernel_rfl)
theorem tk38 : TIOk Try.prog 38 ⟨(.struct [(0, 22), (1, 27)]), 2, 32, (.agg #[(.slice none 0 0), (.int .i64 0)])⟩ := TIOk.of (by kernel_rfl) (by kernel_rfl) rfl rfl (by kernel_rfl) (by kernel_rfl)
theorem tk40 : TIOk Try.prog 40 ⟨(.ptr 43), 1, 8, (.pointer none)⟩ := TIOk.of (by kernel_rfl) (by kernel_rfl) rfl rfl (by kernel_rfl) (by kernel_rfl)
theorem tk41 : TIOk Try.prog 41 ⟨(.slice 27), 1, 24, (.slice none 0 0)⟩ := TIOk.of (by kernel_rfl) (by kernel_rfl) rfl rfl (by kernel_rfl) (by kernel_rfl)
theorem tk42 : TIOk Try.prog 42 ⟨(.struct [(0, 22), (1, 3), (2, 41)]), 3, 56, (.agg #[(.slice none 0 0), (.int .i64 0), (.slice none 0 0)])⟩ := TIOk.of (by kernel_rfl) (by kernel_rfl) rfl rfl (by kernel_rfl) (by kernel_rfl)
theorem tk43 : TIOk Try.prog 43 ⟨(.struct [(0, 22), (1, 3), (2, 41)]), 3, 56, (.agg #[(.slice none 0 0), (.int .i64 0), (.slice none 0 0)])⟩ := TIOk.of (by kernel_rfl) (by kernel_rfl) rfl rfl (by kernel_rfl) (by kernel_rfl)
theorem tk44 : TIOk Try.prog 44 ⟨(.slice 32), 1, 24, (.slice none 0 0)⟩ := TIOk.of (by kernel_rfl) (by kernel_rfl) rfl rfl (by kernel_rfl) (by kernel_rfl)
theorem tk47 : TIOk Try.prog 47 ⟨(.struct [(0, 9), (1, 3)]), 2, 24, (.agg #[(.string ⟨#[]⟩), (.int .i64 0)])⟩ := TIOk.of (by kernel_rfl) (by kernel_rfl) rfl rfl (by kernel_rfl) (by kernel_rfl)
theorem tk50 : TIOk Try.prog 50 ⟨(.int .u32), 1, 4, (.int .u32 0)⟩ := TIOk.of (by kernel_rfl) (by kernel_rfl) rfl rfl (by kernel_rfl) (by kernel_rfl)
theorem tk51 : TIOk Try.prog 51 ⟨(.slice 58), 1, 24, (.slice none 0 0)⟩ := TIOk.of (by kernel_rfl) (by kernel_rfl) rfl rfl (by kernel_rfl) (by kernel_rfl)
theorem tk55 : TIOk Try.prog 55 ⟨(.slice 9), 1, 24, (.slice none 0 0)⟩ := TIOk.of (by kernel_rfl) (by kernel_rfl) rfl rfl (by kernel_rfl) (by kernel_rfl)
theorem tk56 : TIOk Try.prog 56 ⟨(.slice 3), 1, 24, (.slice none 0 0)⟩ := TIOk.of (by kernel_rfl) (by kernel_rfl) rfl rfl (by kernel_rfl) (by kernel_rfl)
theorem tk57 : TIOk Try.prog 57 ⟨(.struct [(0, 55), (1, 56)]), 2, 48, (.agg #[(.slice none 0 0), (.slice none 0 0)])⟩ := TIOk.of (by kernel_rfl) (by kernel_rfl) rfl rfl (by kernel_rfl) (by kernel_rfl)
theorem tk58 : TIOk Try.prog 58 ⟨(.struct [(0, 55), (1, 56)]), 2, 48, (.agg #[(.slice none 0 0), (.slice none 0 0)])⟩ := TIOk.of (by kernel_rfl) (by kernel_rfl) rfl rfl (by kernel_rfl) (by kernel_rfl)
theorem tk65 : TIOk Try.prog 65 ⟨(.struct [(0, 3), (1, 3), (2, 9)]), 3, 32, (.agg #[(.int .i64 0), (.int .i64 0), (.string ⟨#[]⟩)])⟩ := TIOk.of (by kernel_rfl) (by kernel_rfl) rfl rfl (by kernel_rfl) (by kernel_rfl)
theorem tk66 : TIOk Try.prog 66 ⟨(.struct [(0, 3), (1, 3), (2, 9)]), 3, 32, (.agg #[(.int .i64 0), (.int .i64 0), (.string ⟨#[]⟩)])⟩ := TIOk.of (by kernel_rfl) (by kernel_rfl) rfl rfl (by kernel_rfl) (by kernel_rfl)
theorem tk80 : TIOk Try.prog 80 ⟨(.ptr 5), 1, 8, (.pointer none)⟩ := TIOk.of (by kernel_rfl) (by kernel_rfl) rfl rfl (by kernel_rfl) (by kernel_rfl)

def tab : Tab := [
  (3, ⟨(.int .i64), 1, 8, (.int .i64 0)⟩),
  (4, ⟨.bool, 1, 1, (.bool false)⟩),
  (5, ⟨(.int .u8), 1, 1, (.int .u8 0)⟩),
  (9, ⟨.str, 1, 16, (.string ⟨#[]⟩)⟩),
  (2, ⟨(.int .i64), 1, 8, (.int .i64 0)⟩),
  (12, ⟨(.int .u64), 1, 8, (.int .u64 0)⟩),
  (20, ⟨.iface, 1, 16, .nilIface⟩),
  (21, ⟨(.int .i32), 1, 4, (.int .i32 0)⟩),
  (22, ⟨(.slice 66), 1, 24, (.slice none 0 0)⟩),
  (23, ⟨(.slice 25), 1, 24, (.slice none 0 0)⟩),
  (24, ⟨(.struct [(0, 3), (1, 3), (2, 9), (3, 23)]), 4, 56, (.agg #[(.int .i64 0), (.int .i64 0), (.string ⟨#[]⟩), (.slice none 0 0)])⟩),
  (25, ⟨(.struct [(0, 3), (1, 3), (2, 9), (3, 23)]), 4, 56, (.agg #[(.int .i64 0), (.int .i64 0), (.string ⟨#[]⟩), (.slice none 0 0)])⟩),
  (26, ⟨(.slice 47), 1, 24, (.slice none 0 0)⟩),
  (27, ⟨(.int .i64), 1, 8, (.int .i64 0)⟩),
  (31, ⟨(.struct [(0, 9), (1, 3)]), 2, 24, (.agg #[(.string ⟨#[]⟩), (.int .i64 0)])⟩),
  (32, ⟨(.struct [(0, 9), (1, 3)]), 2, 24, (.agg #[(.string ⟨#[]⟩), (.int .i64 0)])⟩),
  (36, ⟨(.ptr 38), 1, 8, (.pointer none)⟩),
  (37, ⟨(.struct [(0, 22), (1, 27)]), 2, 32, (.agg #[(.slice none 0 0), (.int .i64 0)])⟩),
  (38, ⟨(.struct [(0, 22), (1, 27)]), 2, 32, (.agg #[(.slice none 0 0), (.int .i64 0)])⟩),
  (40, ⟨(.ptr 43), 1, 8, (.pointer none)⟩),
  (41, ⟨(.slice 27), 1, 24, (.slice none 0 0)⟩),
  (42, ⟨(.struct [(0, 22), (1, 3), (2, 41)]), 3, 56, (.agg #[(.slice none 0 0), (.int .i64 0), (.slice none 0 0)])⟩),
  (43, ⟨(.struct [(0, 22), (1, 3), (2, 41)]), 3, 56, (.agg #[(.slice none 0 0), (.int .i64 0), (.slice none 0 0)])⟩),
  (44, ⟨(.slice 32), 1, 24, (.slice none 0 0)⟩),
  (47, ⟨(.struct [(0, 9), (1, 3)]), 2, 24, (.agg #[(.string ⟨#[]⟩), (.int .i64 0)])⟩),
  (50, ⟨(.int .u32), 1, 4, (.int .u32 0)⟩),
  (51, ⟨(.slice 58), 1, 24, (.slice none 0 0)⟩),
  (55, ⟨(.slice 9), 1, 24, (.slice none 0 0)⟩),
  (56, ⟨(.slice 3), 1, 24, (.slice none 0 0)⟩),
  (57, ⟨(.struct [(0, 55), (1, 56)]), 2, 48, (.agg #[(.slice none 0 0), (.slice none 0 0)])⟩),
  (58, ⟨(.struct [(0, 55), (1, 56)]), 2, 48, (.agg #[(.slice none 0 0), (.slice none 0 0)])⟩),
  (65, ⟨(.struct [(0, 3), (1, 3), (2, 9)]), 3, 32, (.agg #[(.int .i64 0), (.int .i64 0), (.string ⟨#[]⟩)])⟩),
  (66, ⟨(.struct [(0, 3), (1, 3), (2, 9)]), 3, 32, (.agg #[(.int .i64 0), (.int .i64 0), (.string ⟨#[]⟩)])⟩),
  (80, ⟨(.ptr 5), 1, 8, (.pointer none)⟩)]
theorem tabOk : TabOk Try.prog tab :=
  .cons tk3 <| .cons tk4 <| .cons tk5 <| .cons tk9 <| .cons tk2 <| .cons tk12 <| .cons tk20 <| .cons tk21 <| .cons tk22 <| .cons tk23 <| .cons tk24 <| .cons tk25 <| .cons tk26 <| .cons tk27 <| .cons tk31 <| .cons tk32 <| .cons tk36 <| .cons tk37 <| .cons tk38 <| .cons tk40 <| .cons tk41 <| .cons tk42 <| .cons tk43 <| .cons tk44 <| .cons tk47 <| .cons tk50 <| .cons tk51 <| .cons tk55 <| .cons tk56 <| .cons tk57 <| .cons tk58 <| .cons tk65 <| .cons tk66 <| .cons tk80 <| .nil _
theorem mixed : Try.prog.follows .mixedOrders = true := by kernel_rfl
theorem vcOk {n : Nat} {E : Entry} (c : Code) {Q : Ex → List (Nat × D) → List Ob → Prop} {σ : List (Nat × D)} {L : List Ob} (h : vcK Try.prog tab n E c Q σ L) : AWP Try.prog n E c Q σ L := awp_vc tabOk mixed c h

abbrev n_gosem_cut_init : Nat := 2
abbrev n_pllaw3_ExprTells : Nat := 3
abbrev n_expr_Parse : Nat := 4
abbrev n_plref1_Parse : Nat := 5
abbrev n_plref1_SameExpr : Nat := 6
abbrev n_expr_Eval : Nat := 7
abbrev n_plref1_Eval : Nat := 8
abbrev n_expr_reader_at : Nat := 9
abbrev n_plref1_P_Climb : Nat := 10
abbrev n_isa_Signed : Nat := 11
abbrev n_slices_IndexFunc_api_Equ_api_Equ : Nat := 12
abbrev n_expr_Eval_1 : Nat := 13
abbrev n_expr_two : Nat := 14
abbrev n_plref1_Signed : Nat := 15
abbrev n_expr_levels : Nat := 16
abbrev n_expr_reader_one : Nat := 17
abbrev n_expr_reader_sign : Nat := 18
abbrev n_plref1_P_Prime : Nat := 19
abbrev n_plref1_strength : Nat := 20
abbrev n_plref1_P_sign : Nat := 21
abbrev n_isa_signed : Nat := 22
abbrev n_expr_number : Nat := 23
abbrev n_expr_reader_fail : Nat := 24
abbrev n_scan_Name : Nat := 25
abbrev n_slices_Index_string_string : Nat := 26
abbrev n_plref1_P_bad : Nat := 27
abbrev n_plref1_Name : Nat := 28
abbrev n_scan_letter : Nat := 29
abbrev n_scan_digit : Nat := 30
abbrev n_plref1_kind : Nat := 31

end Go.Proofs.Ytlilcfkcofafeaa

namespace Go.Proofs.Ytlilcfkcofafeaa
open Go Go.Plat
set_option linter.unusedVariables false
set_option linter.unusedSimpArgs false
set_option maxRecDepth 100000
set_option maxHeartbeats 2000000
attribute [local irreducible] NilS LookS NormM bitI BytesS NormL Arith QuoS RemS ShlS ShrS BitS CatS SplitS SideS IdxS CallS LoopEnd EndS ModeS DrawS AWP Meets

inductive OExpr where
  | mk (kind n : Int) (name : List UInt8) (kids : List OExpr)
def OExpr.kind : OExpr → Int | .mk k _ _ _ => k
def OExpr.n : OExpr → Int | .mk _ n _ _ => n
def OExpr.name : OExpr → List UInt8 | .mk _ _ s _ => s
def OExpr.kids : OExpr → List OExpr | .mk _ _ _ ks => ks
mutual
def exprD : OExpr → D
  | .mk k n s ks => .agg [.int .i64 k, .int .i64 n, .str s, .sl 4 (exprDs ks) none]
def exprDs : List OExpr → List D
  | [] => []
  | e :: es => exprD e :: exprDs es
end
mutual
def nodes : OExpr → Nat
  | .mk _ _ s ks => 1 + s.length + nodesL ks
def nodesL : List OExpr → Nat
  | [] => 0
  | e :: es => nodes e + nodesL es
end
theorem exprDs_map : ∀ l : List OExpr, exprDs l = l.map exprD
  | [] => by rw [exprDs]; rfl
  | e :: es => by rw [exprDs, exprDs_map es]; rfl
/-- one level of it -/
def exprU (e : OExpr) : D := .agg [.int .i64 e.kind, .int .i64 e.n, .str e.name, .sl 4 (e.kids.map exprD) none]
theorem mk_kind (k n : Int) (s : List UInt8) (ks : List OExpr) : (OExpr.mk k n s ks).kind = k := rfl
theorem mk_n (k n : Int) (s : List UInt8) (ks : List OExpr) : (OExpr.mk k n s ks).n = n := rfl
theorem mk_name (k n : Int) (s : List UInt8) (ks : List OExpr) : (OExpr.mk k n s ks).name = s := rfl
theorem mk_kids (k n : Int) (s : List UInt8) (ks : List OExpr) : (OExpr.mk k n s ks).kids = ks := rfl
theorem exprU_mk (k n : Int) (s : List UInt8) (ks : List OExpr) : exprU (.mk k n s ks) = .agg [.int .i64 k, .int .i64 n, .str s, .sl 4 (ks.map exprD) none] := rfl
theorem exprD_eq (e : OExpr) : exprD e = exprU e := by
  cases e with
  | mk k n s ks => rw [exprD, exprDs_map]; rfl
theorem map1 (a : OExpr) : [a].map exprD = [exprU a] := by rw [List.map_cons, exprD_eq]; rfl
theorem map2 (a b : OExpr) : [a, b].map exprD = [exprU a, exprU b] := by rw [List.map_cons, List.map_cons, exprD_eq, exprD_eq]; rfl
theorem nodes_pos (e : OExpr) : 0 < nodes e := by cases e; rw [nodes]; omega
theorem nodesL_mem : ∀ {l : List OExpr} {x : OExpr}, x ∈ l → nodes x ≤ nodesL l
  | [], _, h => by simp at h
  | e :: es, x, h => by
    rw [nodesL]
    rcases List.mem_cons.1 h with rfl | h
    · omega
    · have := nodesL_mem h; omega
theorem nodesL_len : ∀ l : List OExpr, l.length ≤ nodesL l
  | [] => by rw [nodesL]; simp
  | e :: es => by
    have := nodesL_len es
    have := nodes_pos e
    rw [nodesL, List.length_cons]; omega
theorem nodes_kid {e x : OExpr} (h : x ∈ e.kids) : nodes x < nodes e := by
  cases e with
  | mk k n s ks => have := nodesL_mem (show x ∈ ks from h); rw [nodes]; omega
theorem kids_len (e : OExpr) : e.kids.length < nodes e := by
  cases e with
  | mk k n s ks => have := nodesL_len ks; rw [nodes]; show ks.length < _; omega
theorem name_len (e : OExpr) : e.name.length < nodes e := by
  cases e with
  | mk k n s ks => rw [nodes]; show s.length < _; omega
theorem ix_expr {l : List OExpr} {n : Int} {K : D → Prop} (x : OExpr) (h0 : 0 ≤ n) (h : l[n.toNat]? = some x) (hK : K (exprU x)) : IdxS (l.map exprD) n K := by
  unfold IdxS
  exact ⟨h0, exprU x, by rw [List.getElem?_map, h, ← exprD_eq]; rfl, hK⟩

open Classical in
noncomputable def sameE (a b : OExpr) : Bool := decide (a = b)
theorem sameE_no {a b : OExpr} (h : a ≠ b) : sameE a b = false := by classical exact decide_eq_false h
theorem sameE_yes {a b : OExpr} (h : a = b) : sameE a b = true := by classical exact decide_eq_true h
theorem sameE_ne {a b : OExpr} (h : sameE a b = false) : a ≠ b := fun e => by rw [sameE_yes e] at h; cases h
theorem sameE_eq {a b : OExpr} (h : sameE a b = true) : a = b := Classical.byContradiction fun e => by rw [sameE_no e] at h; cases h
theorem OExpr.ext' {a b : OExpr} (h1 : a.kind = b.kind) (h2 : a.n = b.n) (h3 : a.name = b.name) (h4 : a.kids = b.kids) : a = b := by
  cases a; cases b
  simp only [OExpr.kind, OExpr.n, OExpr.name, OExpr.kids] at h1 h2 h3 h4
  subst h1 h2 h3 h4
  rfl
theorem take_step3 {α : Type} {l m : List α} {k : Nat} {x : α} (h : l.take k = m.take k) (h1 : l[k]? = some x) (h2 : m[k]? = some x) : l.take (k + 1) = m.take (k + 1) := by
  rw [List.take_add_one, List.take_add_one, h, h1, h2]
attribute [local irreducible] exprD sameE nodes OExpr.kind OExpr.n OExpr.name OExpr.kids

theorem samee_meets : ∀ n : Nat, Meets Try.prog n_plref1_SameExpr (SpecP (fun ((a, b) : OExpr × OExpr) => nodes a ≤ n ∧ nodes a ≤ 1000000000) (fun (a, b) => [exprU a, exprU b]) fun (a, b) => .bool (sameE a b))
  | 0 => by
    refine meets_f tabOk Try.func6 rfl (by decide) ?_
    rintro ⟨a, b⟩ ⟨h, _⟩
    have := nodes_pos a
    omega
  | n + 1 => by
    have ih := samee_meets n
    refine meets_f tabOk Try.func6 rfl (by decide) ?_
    rintro ⟨a, b⟩ ⟨hn, hN⟩
    have hkl := kids_len a
    refine ⟨Nat.le_refl _, by simp [Try.f6], fun E hE => ?_⟩
    refine vcOk _ ?_
    (repeat' (first | (refine VS.mk ?_) | (refine dr_mk ?_) | (refine md_l ?_) | ((first | refine sp_not_dec ?_ ?_ | refine sp_dec ?_ ?_ | refine sp_beq ?_ ?_ | refine sp_bne ?_ ?_ | refine sp_seq ?_ ?_ | refine sp_sne ?_ ?_ | refine sp_not ?_ ?_ | refine sp_any ?_ ?_) <;> (intro hc; try simp only [List.length_map, List.length_append, List.length_cons, List.length_nil, Bool.and_true, Bool.and_eq_true, beq_iff_eq, Bool.and_eq_false_iff, beq_eq_false_iff_ne, Bool.true_and, ne_eq] at hc)) | (with_reducible first | refine norm_one ?_ | refine norm_app ?_ | refine norm_cutEnd ?_ | refine norm_cut ?_ | refine norm_bytes1 ?_ | refine norm_bytes2 ?_ | refine norm_setByte ?_ | refine norm_int1 ?_ | refine norm_mk ?_) | (with_reducible refine bytes_mk ?_) | (refine ar_byte ?_) | (refine ar_i64 (by omega) (by omega) ?_) | (refine ar_low ?_) | (refine ix_byteN (by omega) ?_) | (refine ix_byteK (by simp only [Int.reduceToNat]; exact rfl) (by decide) (by omega) ?_) | (refine ix_byte (by omega) (by omega) ?_) | (refine ix_rfl (by decide) rfl ?_) | (refine sd_mk rfl ?_) | (refine sd_mk (by decide +kernel) ?_) | (refine sd_mk (by first | (simp only [List.length_map, List.length_append, List.length_cons, List.length_nil]; done) | ((try simp only [List.length_map, List.length_append, List.length_cons, List.length_nil, List.length_set, List.length_replicate, List.length_drop, List.length_take, true_and, and_true]); omega) | (dsimp only; omega)) ?_) | (first | refine shl8 (by omega) (by omega) ?_ | refine shl4 (by omega) (by omega) ?_ | refine shl1 (by omega) (by omega) ?_ | refine shl16 (by omega) (by omega) ?_ | refine shl24 (by omega) (by omega) ?_ | refine shr8 (by decide) ?_ | refine shr4 (by decide) ?_ | refine shr1 (by decide) ?_ | refine shr16 (by decide) ?_ | refine shr24 (by decide) ?_) | (with_reducible first | refine bit_mk and_1 ?_ | refine bit_mk and_15 ?_ | refine bit_mk and_255 ?_ | refine bit_mk and_4095 ?_ | refine bit_mk and_65535 ?_) | (refine quo_pos (by omega) (by omega) (by omega) ?_) | (refine rem_pos (by omega) (by omega) ?_)))
    · exact end_p (VS.mk (LeD.ff (sameE_no fun h => hc (by rw [h]))))
    · exact end_p (VS.mk (LeD.ff (sameE_no fun h => hc (by rw [h]))))
    · exact end_p (VS.mk (LeD.ff (sameE_no fun h => hc (by rw [h]))))
    · exact end_p (VS.mk (LeD.ff (sameE_no fun h => hc (by rw [h]))))
    rename_i h1 h2 h3
    have hkl2 : a.kids.length = b.kids.length := by omega
    refine awp_loop (α := Nat) (fun k => k ≤ a.kids.length ∧ a.kids.take k = b.kids.take k)
      (fun k => [(36, .int .i64 a.kids.length), (37, .int .i64 k), (2, .loc 0 0), (3, .loc 1 0)])
      (fun _ => [.cells [.int .i64 a.kind, .int .i64 a.n, .str a.name, .sl 4 (a.kids.map exprD) none], .cells [.int .i64 b.kind, .int .i64 b.n, .str b.name, .sl 4 (b.kids.map exprD) none]]) (fun k => a.kids.length - k) (fun _ => by simp [hE]) 0 ⟨Nat.zero_le _, by simp⟩ ?_ ?_
    · (repeat' (first | (refine VS.mk ?_) | exact trivial | exact rfl | refine And.intro ?_ ?_))
    rintro k ⟨hk, hst⟩
    refine vcOk _ ?_
    (repeat' (first | (refine VS.mk ?_) | (refine dr_mk ?_) | (refine md_l ?_) | ((first | refine sp_not_dec ?_ ?_ | refine sp_dec ?_ ?_ | refine sp_beq ?_ ?_ | refine sp_bne ?_ ?_ | refine sp_seq ?_ ?_ | refine sp_sne ?_ ?_ | refine sp_not ?_ ?_ | refine sp_any ?_ ?_) <;> (intro hc; try simp only [List.length_map, List.length_append, List.length_cons, List.length_nil, Bool.and_true, Bool.and_eq_true, beq_iff_eq, Bool.and_eq_false_iff, beq_eq_false_iff_ne, Bool.true_and, ne_eq] at hc)) | (with_reducible first | refine norm_one ?_ | refine norm_app ?_ | refine norm_cutEnd ?_ | refine norm_cut ?_ | refine norm_bytes1 ?_ | refine norm_bytes2 ?_ | refine norm_setByte ?_ | refine norm_int1 ?_ | refine norm_mk ?_) | (with_reducible refine bytes_mk ?_) | (refine ar_byte ?_) | (refine ar_i64 (by omega) (by omega) ?_) | (refine ar_low ?_) | (refine ix_byteN (by omega) ?_) | (refine ix_byteK (by simp only [Int.reduceToNat]; exact rfl) (by decide) (by omega) ?_) | (refine ix_byte (by omega) (by omega) ?_) | (refine ix_rfl (by decide) rfl ?_) | (refine sd_mk rfl ?_) | (refine sd_mk (by decide +kernel) ?_) | (refine sd_mk (by first | (simp only [List.length_map, List.length_append, List.length_cons, List.length_nil]; done) | ((try simp only [List.length_map, List.length_append, List.length_cons, List.length_nil, List.length_set, List.length_replicate, List.length_drop, List.length_take, true_and, and_true]); omega) | (dsimp only; omega)) ?_) | (first | refine shl8 (by omega) (by omega) ?_ | refine shl4 (by omega) (by omega) ?_ | refine shl1 (by omega) (by omega) ?_ | refine shl16 (by omega) (by omega) ?_ | refine shl24 (by omega) (by omega) ?_ | refine shr8 (by decide) ?_ | refine shr4 (by decide) ?_ | refine shr1 (by decide) ?_ | refine shr16 (by decide) ?_ | refine shr24 (by decide) ?_) | (with_reducible first | refine bit_mk and_1 ?_ | refine bit_mk and_15 ?_ | refine bit_mk and_255 ?_ | refine bit_mk and_4095 ?_ | refine bit_mk and_65535 ?_) | (refine quo_pos (by omega) (by omega) (by omega) ?_) | (refine rem_pos (by omega) (by omega) ?_)))
    · obtain ⟨x, hx⟩ := at_of_lt (l := a.kids) (k := k) (by omega)
      obtain ⟨y, hy⟩ := at_of_lt (l := b.kids) (k := k) (by omega)
      have hxn := nodes_kid (List.mem_of_getElem? hx)
      refine ix_expr x (by omega) (by simpa using hx) ?_
      (repeat' (first | (refine VS.mk ?_) | (refine dr_mk ?_) | (refine md_l ?_) | ((first | refine sp_not_dec ?_ ?_ | refine sp_dec ?_ ?_ | refine sp_beq ?_ ?_ | refine sp_bne ?_ ?_ | refine sp_seq ?_ ?_ | refine sp_sne ?_ ?_ | refine sp_not ?_ ?_ | refine sp_any ?_ ?_) <;> (intro hc; try simp only [List.length_map, List.length_append, List.length_cons, List.length_nil, Bool.and_true, Bool.and_eq_true, beq_iff_eq, Bool.and_eq_false_iff, beq_eq_false_iff_ne, Bool.true_and, ne_eq] at hc)) | (with_reducible first | refine norm_one ?_ | refine norm_app ?_ | refine norm_cutEnd ?_ | refine norm_cut ?_ | refine norm_bytes1 ?_ | refine norm_bytes2 ?_ | refine norm_setByte ?_ | refine norm_int1 ?_ | refine norm_mk ?_) | (with_reducible refine bytes_mk ?_) | (refine ar_byte ?_) | (refine ar_i64 (by omega) (by omega) ?_) | (refine ar_low ?_) | (refine ix_byteN (by omega) ?_) | (refine ix_byteK (by simp only [Int.reduceToNat]; exact rfl) (by decide) (by omega) ?_) | (refine ix_byte (by omega) (by omega) ?_) | (refine ix_rfl (by decide) rfl ?_) | (refine sd_mk rfl ?_) | (refine sd_mk (by decide +kernel) ?_) | (refine sd_mk (by first | (simp only [List.length_map, List.length_append, List.length_cons, List.length_nil]; done) | ((try simp only [List.length_map, List.length_append, List.length_cons, List.length_nil, List.length_set, List.length_replicate, List.length_drop, List.length_take, true_and, and_true]); omega) | (dsimp only; omega)) ?_) | (first | refine shl8 (by omega) (by omega) ?_ | refine shl4 (by omega) (by omega) ?_ | refine shl1 (by omega) (by omega) ?_ | refine shl16 (by omega) (by omega) ?_ | refine shl24 (by omega) (by omega) ?_ | refine shr8 (by decide) ?_ | refine shr4 (by decide) ?_ | refine shr1 (by decide) ?_ | refine shr16 (by decide) ?_ | refine shr24 (by decide) ?_) | (with_reducible first | refine bit_mk and_1 ?_ | refine bit_mk and_15 ?_ | refine bit_mk and_255 ?_ | refine bit_mk and_4095 ?_ | refine bit_mk and_65535 ?_) | (refine quo_pos (by omega) (by omega) (by omega) ?_) | (refine rem_pos (by omega) (by omega) ?_)))
      refine ix_expr y (by omega) (by simpa using hy) ?_
      (repeat' (first | (refine VS.mk ?_) | (refine dr_mk ?_) | (refine md_l ?_) | ((first | refine sp_not_dec ?_ ?_ | refine sp_dec ?_ ?_ | refine sp_beq ?_ ?_ | refine sp_bne ?_ ?_ | refine sp_seq ?_ ?_ | refine sp_sne ?_ ?_ | refine sp_not ?_ ?_ | refine sp_any ?_ ?_) <;> (intro hc; try simp only [List.length_map, List.length_append, List.length_cons, List.length_nil, Bool.and_true, Bool.and_eq_true, beq_iff_eq, Bool.and_eq_false_iff, beq_eq_false_iff_ne, Bool.true_and, ne_eq] at hc)) | (with_reducible first | refine norm_one ?_ | refine norm_app ?_ | refine norm_cutEnd ?_ | refine norm_cut ?_ | refine norm_bytes1 ?_ | refine norm_bytes2 ?_ | refine norm_setByte ?_ | refine norm_int1 ?_ | refine norm_mk ?_) | (with_reducible refine bytes_mk ?_) | (refine ar_byte ?_) | (refine ar_i64 (by omega) (by omega) ?_) | (refine ar_low ?_) | (refine ix_byteN (by omega) ?_) | (refine ix_byteK (by simp only [Int.reduceToNat]; exact rfl) (by decide) (by omega) ?_) | (refine ix_byte (by omega) (by omega) ?_) | (refine ix_rfl (by decide) rfl ?_) | (refine sd_mk rfl ?_) | (refine sd_mk (by decide +kernel) ?_) | (refine sd_mk (by first | (simp only [List.length_map, List.length_append, List.length_cons, List.length_nil]; done) | ((try simp only [List.length_map, List.length_append, List.length_cons, List.length_nil, List.length_set, List.length_replicate, List.length_drop, List.length_take, true_and, and_true]); omega) | (dsimp only; omega)) ?_) | (first | refine shl8 (by omega) (by omega) ?_ | refine shl4 (by omega) (by omega) ?_ | refine shl1 (by omega) (by omega) ?_ | refine shl16 (by omega) (by omega) ?_ | refine shl24 (by omega) (by omega) ?_ | refine shr8 (by decide) ?_ | refine shr4 (by decide) ?_ | refine shr1 (by decide) ?_ | refine shr16 (by decide) ?_ | refine shr24 (by decide) ?_) | (with_reducible first | refine bit_mk and_1 ?_ | refine bit_mk and_15 ?_ | refine bit_mk and_255 ?_ | refine bit_mk and_4095 ?_ | refine bit_mk and_65535 ?_) | (refine quo_pos (by omega) (by omega) (by omega) ?_) | (refine rem_pos (by omega) (by omega) ?_)))
      refine call_p ih (x, y) ⟨by omega, by omega⟩ (VS.mk (LeL.of_eq rfl)) ?_
      (repeat' (first | (refine VS.mk ?_) | (refine dr_mk ?_) | (refine md_l ?_) | ((first | refine sp_not_dec ?_ ?_ | refine sp_dec ?_ ?_ | refine sp_beq ?_ ?_ | refine sp_bne ?_ ?_ | refine sp_seq ?_ ?_ | refine sp_sne ?_ ?_ | refine sp_not ?_ ?_ | refine sp_any ?_ ?_) <;> (intro hc; try simp only [List.length_map, List.length_append, List.length_cons, List.length_nil, Bool.and_true, Bool.and_eq_true, beq_iff_eq, Bool.and_eq_false_iff, beq_eq_false_iff_ne, Bool.true_and, ne_eq] at hc)) | (with_reducible first | refine norm_one ?_ | refine norm_app ?_ | refine norm_cutEnd ?_ | refine norm_cut ?_ | refine norm_bytes1 ?_ | refine norm_bytes2 ?_ | refine norm_setByte ?_ | refine norm_int1 ?_ | refine norm_mk ?_) | (with_reducible refine bytes_mk ?_) | (refine ar_byte ?_) | (refine ar_i64 (by omega) (by omega) ?_) | (refine ar_low ?_) | (refine ix_byteN (by omega) ?_) | (refine ix_byteK (by simp only [Int.reduceToNat]; exact rfl) (by decide) (by omega) ?_) | (refine ix_byte (by omega) (by omega) ?_) | (refine ix_rfl (by decide) rfl ?_) | (refine sd_mk rfl ?_) | (refine sd_mk (by decide +kernel) ?_) | (refine sd_mk (by first | (simp only [List.length_map, List.length_append, List.length_cons, List.length_nil]; done) | ((try simp only [List.length_map, List.length_append, List.length_cons, List.length_nil, List.length_set, List.length_replicate, List.length_drop, List.length_take, true_and, and_true]); omega) | (dsimp only; omega)) ?_) | (first | refine shl8 (by omega) (by omega) ?_ | refine shl4 (by omega) (by omega) ?_ | refine shl1 (by omega) (by omega) ?_ | refine shl16 (by omega) (by omega) ?_ | refine shl24 (by omega) (by omega) ?_ | refine shr8 (by decide) ?_ | refine shr4 (by decide) ?_ | refine shr1 (by decide) ?_ | refine shr16 (by decide) ?_ | refine shr24 (by decide) ?_) | (with_reducible first | refine bit_mk and_1 ?_ | refine bit_mk and_15 ?_ | refine bit_mk and_255 ?_ | refine bit_mk and_4095 ?_ | refine bit_mk and_65535 ?_) | (refine quo_pos (by omega) (by omega) (by omega) ?_) | (refine rem_pos (by omega) (by omega) ?_)))
      · have hne := sameE_ne hc
        refine end_p (VS.mk (LeD.ff (sameE_no fun h => ?_)))
        rw [← h, hx] at hy
        exact hne (Option.some.inj hy)
      · have hxy := sameE_eq hc
        subst hxy
        refine loop_end (k + 1) ⟨by omega, take_step3 hst hx hy⟩ (by omega) ?_
        (repeat' (first | (refine VS.mk ?_) | exact trivial | exact rfl | refine And.intro ?_ ?_))
    · have hke : k = a.kids.length := by omega
      have hkids : a.kids = b.kids := by rw [hke, List.take_length, hkl2, List.take_length] at hst; exact hst
      exact end_p (VS.mk (LeD.tt (sameE_yes (OExpr.ext' h1 h2 h3 hkids))))
end Go.Proofs.Ytlilcfkcofafeaa

namespace Go.Proofs.Ytlilcfkcofafeaa
open Go Go.Plat
set_option linter.unusedVariables false
set_option linter.unusedSimpArgs false
set_option maxRecDepth 100000
set_option maxHeartbeats 2000000
attribute [local irreducible] NilS LookS NormM bitI BytesS NormL Arith QuoS RemS ShlS ShrS BitS CatS SplitS SideS IdxS CallS LoopEnd EndS ModeS DrawS AWP Meets

def signedI (n : Int) (k : Nat) : Int := if n % (2 : Int) ^ k / 2 ^ (k - 1) = 1 then n % (2 : Int) ^ k - 2 ^ k else n % (2 : Int) ^ k
theorem signed_meets : Meets Try.prog n_isa_signed (SpecP (fun ((n, k) : Int × Nat) => (k = 8 ∨ k = 12 ∨ k = 32)) (fun (n, k) => [.int .i64 n, .int .i64 k]) fun (n, k) => .int .i64 (signedI n k)) := by
  refine meets_f tabOk Try.func22 rfl (by decide) ?_
  rintro ⟨n, k⟩ hk
  refine ⟨Nat.le_refl _, by simp [Try.f22], fun E hE => ?_⟩
  rcases hk with hk | hk | hk <;> (have hk : k = _ := hk; subst hk; refine vcOk _ ?_)
  · have h0 := Int.emod_nonneg n (show (256 : Int) ≠ 0 by decide)
    have h1 := Int.emod_lt_of_pos n (show (0 : Int) < 256 by decide)
    have hd : signedI n 8 = if n % 256 / 128 = 1 then n % 256 - 256 else n % 256 := rfl
    (repeat' (first | (refine VS.mk ?_) | (refine dr_mk ?_) | (refine md_l ?_) | ((first | refine sp_not_dec ?_ ?_ | refine sp_dec ?_ ?_ | refine sp_beq ?_ ?_ | refine sp_bne ?_ ?_ | refine sp_seq ?_ ?_ | refine sp_sne ?_ ?_ | refine sp_not ?_ ?_ | refine sp_any ?_ ?_) <;> (intro hc; try simp only [List.length_map, List.length_append, List.length_cons, List.length_nil, Bool.and_true, Bool.and_eq_true, beq_iff_eq, Bool.and_eq_false_iff, beq_eq_false_iff_ne, Bool.true_and, ne_eq] at hc)) | (with_reducible first | refine norm_one ?_ | refine norm_app ?_ | refine norm_cutEnd ?_ | refine norm_cut ?_ | refine norm_bytes1 ?_ | refine norm_bytes2 ?_ | refine norm_setByte ?_ | refine norm_int1 ?_ | refine norm_mk ?_) | (with_reducible refine bytes_mk ?_) | (refine ar_byte ?_) | (refine ar_i64 (by omega) (by omega) ?_) | (refine ar_low ?_) | (refine ix_byteN (by omega) ?_) | (refine ix_byteK (by simp only [Int.reduceToNat]; exact rfl) (by decide) (by omega) ?_) | (refine ix_byte (by omega) (by omega) ?_) | (refine ix_rfl (by decide) rfl ?_) | (refine sd_mk rfl ?_) | (refine sd_mk (by decide +kernel) ?_) | (refine sd_mk (by first | (simp only [List.length_map, List.length_append, List.length_cons, List.length_nil]; done) | ((try simp only [List.length_map, List.length_append, List.length_cons, List.length_nil, List.length_set, List.length_replicate, List.length_drop, List.length_take, true_and, and_true]); omega) | (dsimp only; omega)) ?_) | (first | refine shl8 (by omega) (by omega) ?_ | refine shl4 (by omega) (by omega) ?_ | refine shl1 (by omega) (by omega) ?_ | refine shl16 (by omega) (by omega) ?_ | refine shl24 (by omega) (by omega) ?_ | refine shr8 (by decide) ?_ | refine shr4 (by decide) ?_ | refine shr1 (by decide) ?_ | refine shr16 (by decide) ?_ | refine shr24 (by decide) ?_) | (with_reducible first | refine bit_mk and_1 ?_ | refine bit_mk and_15 ?_ | refine bit_mk and_255 ?_ | refine bit_mk and_4095 ?_ | refine bit_mk and_65535 ?_) | (refine quo_pos (by omega) (by omega) (by omega) ?_) | (refine rem_pos (by omega) (by omega) ?_)))
    refine shr_lit (s := 7) (m := 128) rfl (by decide) (by decide) ?_
    (repeat' (first | (refine VS.mk ?_) | (refine dr_mk ?_) | (refine md_l ?_) | ((first | refine sp_not_dec ?_ ?_ | refine sp_dec ?_ ?_ | refine sp_beq ?_ ?_ | refine sp_bne ?_ ?_ | refine sp_seq ?_ ?_ | refine sp_sne ?_ ?_ | refine sp_not ?_ ?_ | refine sp_any ?_ ?_) <;> (intro hc; try simp only [List.length_map, List.length_append, List.length_cons, List.length_nil, Bool.and_true, Bool.and_eq_true, beq_iff_eq, Bool.and_eq_false_iff, beq_eq_false_iff_ne, Bool.true_and, ne_eq] at hc)) | (with_reducible first | refine norm_one ?_ | refine norm_app ?_ | refine norm_cutEnd ?_ | refine norm_cut ?_ | refine norm_bytes1 ?_ | refine norm_bytes2 ?_ | refine norm_setByte ?_ | refine norm_int1 ?_ | refine norm_mk ?_) | (with_reducible refine bytes_mk ?_) | (refine ar_byte ?_) | (refine ar_i64 (by omega) (by omega) ?_) | (refine ar_low ?_) | (refine ix_byteN (by omega) ?_) | (refine ix_byteK (by simp only [Int.reduceToNat]; exact rfl) (by decide) (by omega) ?_) | (refine ix_byte (by omega) (by omega) ?_) | (refine ix_rfl (by decide) rfl ?_) | (refine sd_mk rfl ?_) | (refine sd_mk (by decide +kernel) ?_) | (refine sd_mk (by first | (simp only [List.length_map, List.length_append, List.length_cons, List.length_nil]; done) | ((try simp only [List.length_map, List.length_append, List.length_cons, List.length_nil, List.length_set, List.length_replicate, List.length_drop, List.length_take, true_and, and_true]); omega) | (dsimp only; omega)) ?_) | (first | refine shl8 (by omega) (by omega) ?_ | refine shl4 (by omega) (by omega) ?_ | refine shl1 (by omega) (by omega) ?_ | refine shl16 (by omega) (by omega) ?_ | refine shl24 (by omega) (by omega) ?_ | refine shr8 (by decide) ?_ | refine shr4 (by decide) ?_ | refine shr1 (by decide) ?_ | refine shr16 (by decide) ?_ | refine shr24 (by decide) ?_) | (with_reducible first | refine bit_mk and_1 ?_ | refine bit_mk and_15 ?_ | refine bit_mk and_255 ?_ | refine bit_mk and_4095 ?_ | refine bit_mk and_65535 ?_) | (refine quo_pos (by omega) (by omega) (by omega) ?_) | (refine rem_pos (by omega) (by omega) ?_)))
    · skip
      refine end_p (VS.mk (LeD.of_eq (congrArg (D.int .i64) ?_)))
      rw [hd, if_pos hc]
      omega
    · refine end_p (VS.mk (LeD.of_eq (congrArg (D.int .i64) ?_)))
      rw [hd, if_neg hc]
  · have h0 := Int.emod_nonneg n (show (4096 : Int) ≠ 0 by decide)
    have h1 := Int.emod_lt_of_pos n (show (0 : Int) < 4096 by decide)
    have hd : signedI n 12 = if n % 4096 / 2048 = 1 then n % 4096 - 4096 else n % 4096 := rfl
    (repeat' (first | (refine VS.mk ?_) | (refine dr_mk ?_) | (refine md_l ?_) | ((first | refine sp_not_dec ?_ ?_ | refine sp_dec ?_ ?_ | refine sp_beq ?_ ?_ | refine sp_bne ?_ ?_ | refine sp_seq ?_ ?_ | refine sp_sne ?_ ?_ | refine sp_not ?_ ?_ | refine sp_any ?_ ?_) <;> (intro hc; try simp only [List.length_map, List.length_append, List.length_cons, List.length_nil, Bool.and_true, Bool.and_eq_true, beq_iff_eq, Bool.and_eq_false_iff, beq_eq_false_iff_ne, Bool.true_and, ne_eq] at hc)) | (with_reducible first | refine norm_one ?_ | refine norm_app ?_ | refine norm_cutEnd ?_ | refine norm_cut ?_ | refine norm_bytes1 ?_ | refine norm_bytes2 ?_ | refine norm_setByte ?_ | refine norm_int1 ?_ | refine norm_mk ?_) | (with_reducible refine bytes_mk ?_) | (refine ar_byte ?_) | (refine ar_i64 (by omega) (by omega) ?_) | (refine ar_low ?_) | (refine ix_byteN (by omega) ?_) | (refine ix_byteK (by simp only [Int.reduceToNat]; exact rfl) (by decide) (by omega) ?_) | (refine ix_byte (by omega) (by omega) ?_) | (refine ix_rfl (by decide) rfl ?_) | (refine sd_mk rfl ?_) | (refine sd_mk (by decide +kernel) ?_) | (refine sd_mk (by first | (simp only [List.length_map, List.length_append, List.length_cons, List.length_nil]; done) | ((try simp only [List.length_map, List.length_append, List.length_cons, List.length_nil, List.length_set, List.length_replicate, List.length_drop, List.length_take, true_and, and_true]); omega) | (dsimp only; omega)) ?_) | (first | refine shl8 (by omega) (by omega) ?_ | refine shl4 (by omega) (by omega) ?_ | refine shl1 (by omega) (by omega) ?_ | refine shl16 (by omega) (by omega) ?_ | refine shl24 (by omega) (by omega) ?_ | refine shr8 (by decide) ?_ | refine shr4 (by decide) ?_ | refine shr1 (by decide) ?_ | refine shr16 (by decide) ?_ | refine shr24 (by decide) ?_) | (with_reducible first | refine bit_mk and_1 ?_ | refine bit_mk and_15 ?_ | refine bit_mk and_255 ?_ | refine bit_mk and_4095 ?_ | refine bit_mk and_65535 ?_) | (refine quo_pos (by omega) (by omega) (by omega) ?_) | (refine rem_pos (by omega) (by omega) ?_)))
    refine shl_lit (s := 12) (m := 4096) rfl (by decide) (by decide) (by decide) (by decide) ?_
    (repeat' (first | (refine VS.mk ?_) | (refine dr_mk ?_) | (refine md_l ?_) | ((first | refine sp_not_dec ?_ ?_ | refine sp_dec ?_ ?_ | refine sp_beq ?_ ?_ | refine sp_bne ?_ ?_ | refine sp_seq ?_ ?_ | refine sp_sne ?_ ?_ | refine sp_not ?_ ?_ | refine sp_any ?_ ?_) <;> (intro hc; try simp only [List.length_map, List.length_append, List.length_cons, List.length_nil, Bool.and_true, Bool.and_eq_true, beq_iff_eq, Bool.and_eq_false_iff, beq_eq_false_iff_ne, Bool.true_and, ne_eq] at hc)) | (with_reducible first | refine norm_one ?_ | refine norm_app ?_ | refine norm_cutEnd ?_ | refine norm_cut ?_ | refine norm_bytes1 ?_ | refine norm_bytes2 ?_ | refine norm_setByte ?_ | refine norm_int1 ?_ | refine norm_mk ?_) | (with_reducible refine bytes_mk ?_) | (refine ar_byte ?_) | (refine ar_i64 (by omega) (by omega) ?_) | (refine ar_low ?_) | (refine ix_byteN (by omega) ?_) | (refine ix_byteK (by simp only [Int.reduceToNat]; exact rfl) (by decide) (by omega) ?_) | (refine ix_byte (by omega) (by omega) ?_) | (refine ix_rfl (by decide) rfl ?_) | (refine sd_mk rfl ?_) | (refine sd_mk (by decide +kernel) ?_) | (refine sd_mk (by first | (simp only [List.length_map, List.length_append, List.length_cons, List.length_nil]; done) | ((try simp only [List.length_map, List.length_append, List.length_cons, List.length_nil, List.length_set, List.length_replicate, List.length_drop, List.length_take, true_and, and_true]); omega) | (dsimp only; omega)) ?_) | (first | refine shl8 (by omega) (by omega) ?_ | refine shl4 (by omega) (by omega) ?_ | refine shl1 (by omega) (by omega) ?_ | refine shl16 (by omega) (by omega) ?_ | refine shl24 (by omega) (by omega) ?_ | refine shr8 (by decide) ?_ | refine shr4 (by decide) ?_ | refine shr1 (by decide) ?_ | refine shr16 (by decide) ?_ | refine shr24 (by decide) ?_) | (with_reducible first | refine bit_mk and_1 ?_ | refine bit_mk and_15 ?_ | refine bit_mk and_255 ?_ | refine bit_mk and_4095 ?_ | refine bit_mk and_65535 ?_) | (refine quo_pos (by omega) (by omega) (by omega) ?_) | (refine rem_pos (by omega) (by omega) ?_)))
    refine shr_lit (s := 11) (m := 2048) rfl (by decide) (by decide) ?_
    (repeat' (first | (refine VS.mk ?_) | (refine dr_mk ?_) | (refine md_l ?_) | ((first | refine sp_not_dec ?_ ?_ | refine sp_dec ?_ ?_ | refine sp_beq ?_ ?_ | refine sp_bne ?_ ?_ | refine sp_seq ?_ ?_ | refine sp_sne ?_ ?_ | refine sp_not ?_ ?_ | refine sp_any ?_ ?_) <;> (intro hc; try simp only [List.length_map, List.length_append, List.length_cons, List.length_nil, Bool.and_true, Bool.and_eq_true, beq_iff_eq, Bool.and_eq_false_iff, beq_eq_false_iff_ne, Bool.true_and, ne_eq] at hc)) | (with_reducible first | refine norm_one ?_ | refine norm_app ?_ | refine norm_cutEnd ?_ | refine norm_cut ?_ | refine norm_bytes1 ?_ | refine norm_bytes2 ?_ | refine norm_setByte ?_ | refine norm_int1 ?_ | refine norm_mk ?_) | (with_reducible refine bytes_mk ?_) | (refine ar_byte ?_) | (refine ar_i64 (by omega) (by omega) ?_) | (refine ar_low ?_) | (refine ix_byteN (by omega) ?_) | (refine ix_byteK (by simp only [Int.reduceToNat]; exact rfl) (by decide) (by omega) ?_) | (refine ix_byte (by omega) (by omega) ?_) | (refine ix_rfl (by decide) rfl ?_) | (refine sd_mk rfl ?_) | (refine sd_mk (by decide +kernel) ?_) | (refine sd_mk (by first | (simp only [List.length_map, List.length_append, List.length_cons, List.length_nil]; done) | ((try simp only [List.length_map, List.length_append, List.length_cons, List.length_nil, List.length_set, List.length_replicate, List.length_drop, List.length_take, true_and, and_true]); omega) | (dsimp only; omega)) ?_) | (first | refine shl8 (by omega) (by omega) ?_ | refine shl4 (by omega) (by omega) ?_ | refine shl1 (by omega) (by omega) ?_ | refine shl16 (by omega) (by omega) ?_ | refine shl24 (by omega) (by omega) ?_ | refine shr8 (by decide) ?_ | refine shr4 (by decide) ?_ | refine shr1 (by decide) ?_ | refine shr16 (by decide) ?_ | refine shr24 (by decide) ?_) | (with_reducible first | refine bit_mk and_1 ?_ | refine bit_mk and_15 ?_ | refine bit_mk and_255 ?_ | refine bit_mk and_4095 ?_ | refine bit_mk and_65535 ?_) | (refine quo_pos (by omega) (by omega) (by omega) ?_) | (refine rem_pos (by omega) (by omega) ?_)))
    · refine shl_lit (s := 12) (m := 4096) rfl (by decide) (by decide) (by decide) (by decide) ?_
      (repeat' (first | (refine VS.mk ?_) | (refine dr_mk ?_) | (refine md_l ?_) | ((first | refine sp_not_dec ?_ ?_ | refine sp_dec ?_ ?_ | refine sp_beq ?_ ?_ | refine sp_bne ?_ ?_ | refine sp_seq ?_ ?_ | refine sp_sne ?_ ?_ | refine sp_not ?_ ?_ | refine sp_any ?_ ?_) <;> (intro hc; try simp only [List.length_map, List.length_append, List.length_cons, List.length_nil, Bool.and_true, Bool.and_eq_true, beq_iff_eq, Bool.and_eq_false_iff, beq_eq_false_iff_ne, Bool.true_and, ne_eq] at hc)) | (with_reducible first | refine norm_one ?_ | refine norm_app ?_ | refine norm_cutEnd ?_ | refine norm_cut ?_ | refine norm_bytes1 ?_ | refine norm_bytes2 ?_ | refine norm_setByte ?_ | refine norm_int1 ?_ | refine norm_mk ?_) | (with_reducible refine bytes_mk ?_) | (refine ar_byte ?_) | (refine ar_i64 (by omega) (by omega) ?_) | (refine ar_low ?_) | (refine ix_byteN (by omega) ?_) | (refine ix_byteK (by simp only [Int.reduceToNat]; exact rfl) (by decide) (by omega) ?_) | (refine ix_byte (by omega) (by omega) ?_) | (refine ix_rfl (by decide) rfl ?_) | (refine sd_mk rfl ?_) | (refine sd_mk (by decide +kernel) ?_) | (refine sd_mk (by first | (simp only [List.length_map, List.length_append, List.length_cons, List.length_nil]; done) | ((try simp only [List.length_map, List.length_append, List.length_cons, List.length_nil, List.length_set, List.length_replicate, List.length_drop, List.length_take, true_and, and_true]); omega) | (dsimp only; omega)) ?_) | (first | refine shl8 (by omega) (by omega) ?_ | refine shl4 (by omega) (by omega) ?_ | refine shl1 (by omega) (by omega) ?_ | refine shl16 (by omega) (by omega) ?_ | refine shl24 (by omega) (by omega) ?_ | refine shr8 (by decide) ?_ | refine shr4 (by decide) ?_ | refine shr1 (by decide) ?_ | refine shr16 (by decide) ?_ | refine shr24 (by decide) ?_) | (with_reducible first | refine bit_mk and_1 ?_ | refine bit_mk and_15 ?_ | refine bit_mk and_255 ?_ | refine bit_mk and_4095 ?_ | refine bit_mk and_65535 ?_) | (refine quo_pos (by omega) (by omega) (by omega) ?_) | (refine rem_pos (by omega) (by omega) ?_)))
      refine end_p (VS.mk (LeD.of_eq (congrArg (D.int .i64) ?_)))
      rw [hd, if_pos hc]
      omega
    · refine end_p (VS.mk (LeD.of_eq (congrArg (D.int .i64) ?_)))
      rw [hd, if_neg hc]
  · have h0 := Int.emod_nonneg n (show (4294967296 : Int) ≠ 0 by decide)
    have h1 := Int.emod_lt_of_pos n (show (0 : Int) < 4294967296 by decide)
    have hd : signedI n 32 = if n % 4294967296 / 2147483648 = 1 then n % 4294967296 - 4294967296 else n % 4294967296 := rfl
    (repeat' (first | (refine VS.mk ?_) | (refine dr_mk ?_) | (refine md_l ?_) | ((first | refine sp_not_dec ?_ ?_ | refine sp_dec ?_ ?_ | refine sp_beq ?_ ?_ | refine sp_bne ?_ ?_ | refine sp_seq ?_ ?_ | refine sp_sne ?_ ?_ | refine sp_not ?_ ?_ | refine sp_any ?_ ?_) <;> (intro hc; try simp only [List.length_map, List.length_append, List.length_cons, List.length_nil, Bool.and_true, Bool.and_eq_true, beq_iff_eq, Bool.and_eq_false_iff, beq_eq_false_iff_ne, Bool.true_and, ne_eq] at hc)) | (with_reducible first | refine norm_one ?_ | refine norm_app ?_ | refine norm_cutEnd ?_ | refine norm_cut ?_ | refine norm_bytes1 ?_ | refine norm_bytes2 ?_ | refine norm_setByte ?_ | refine norm_int1 ?_ | refine norm_mk ?_) | (with_reducible refine bytes_mk ?_) | (refine ar_byte ?_) | (refine ar_i64 (by omega) (by omega) ?_) | (refine ar_low ?_) | (refine ix_byteN (by omega) ?_) | (refine ix_byteK (by simp only [Int.reduceToNat]; exact rfl) (by decide) (by omega) ?_) | (refine ix_byte (by omega) (by omega) ?_) | (refine ix_rfl (by decide) rfl ?_) | (refine sd_mk rfl ?_) | (refine sd_mk (by decide +kernel) ?_) | (refine sd_mk (by first | (simp only [List.length_map, List.length_append, List.length_cons, List.length_nil]; done) | ((try simp only [List.length_map, List.length_append, List.length_cons, List.length_nil, List.length_set, List.length_replicate, List.length_drop, List.length_take, true_and, and_true]); omega) | (dsimp only; omega)) ?_) | (first | refine shl8 (by omega) (by omega) ?_ | refine shl4 (by omega) (by omega) ?_ | refine shl1 (by omega) (by omega) ?_ | refine shl16 (by omega) (by omega) ?_ | refine shl24 (by omega) (by omega) ?_ | refine shr8 (by decide) ?_ | refine shr4 (by decide) ?_ | refine shr1 (by decide) ?_ | refine shr16 (by decide) ?_ | refine shr24 (by decide) ?_) | (with_reducible first | refine bit_mk and_1 ?_ | refine bit_mk and_15 ?_ | refine bit_mk and_255 ?_ | refine bit_mk and_4095 ?_ | refine bit_mk and_65535 ?_) | (refine quo_pos (by omega) (by omega) (by omega) ?_) | (refine rem_pos (by omega) (by omega) ?_)))
    refine shl_lit (s := 32) (m := 4294967296) rfl (by decide) (by decide) (by decide) (by decide) ?_
    (repeat' (first | (refine VS.mk ?_) | (refine dr_mk ?_) | (refine md_l ?_) | ((first | refine sp_not_dec ?_ ?_ | refine sp_dec ?_ ?_ | refine sp_beq ?_ ?_ | refine sp_bne ?_ ?_ | refine sp_seq ?_ ?_ | refine sp_sne ?_ ?_ | refine sp_not ?_ ?_ | refine sp_any ?_ ?_) <;> (intro hc; try simp only [List.length_map, List.length_append, List.length_cons, List.length_nil, Bool.and_true, Bool.and_eq_true, beq_iff_eq, Bool.and_eq_false_iff, beq_eq_false_iff_ne, Bool.true_and, ne_eq] at hc)) | (with_reducible first | refine norm_one ?_ | refine norm_app ?_ | refine norm_cutEnd ?_ | refine norm_cut ?_ | refine norm_bytes1 ?_ | refine norm_bytes2 ?_ | refine norm_setByte ?_ | refine norm_int1 ?_ | refine norm_mk ?_) | (with_reducible refine bytes_mk ?_) | (refine ar_byte ?_) | (refine ar_i64 (by omega) (by omega) ?_) | (refine ar_low ?_) | (refine ix_byteN (by omega) ?_) | (refine ix_byteK (by simp only [Int.reduceToNat]; exact rfl) (by decide) (by omega) ?_) | (refine ix_byte (by omega) (by omega) ?_) | (refine ix_rfl (by decide) rfl ?_) | (refine sd_mk rfl ?_) | (refine sd_mk (by decide +kernel) ?_) | (refine sd_mk (by first | (simp only [List.length_map, List.length_append, List.length_cons, List.length_nil]; done) | ((try simp only [List.length_map, List.length_append, List.length_cons, List.length_nil, List.length_set, List.length_replicate, List.length_drop, List.length_take, true_and, and_true]); omega) | (dsimp only; omega)) ?_) | (first | refine shl8 (by omega) (by omega) ?_ | refine shl4 (by omega) (by omega) ?_ | refine shl1 (by omega) (by omega) ?_ | refine shl16 (by omega) (by omega) ?_ | refine shl24 (by omega) (by omega) ?_ | refine shr8 (by decide) ?_ | refine shr4 (by decide) ?_ | refine shr1 (by decide) ?_ | refine shr16 (by decide) ?_ | refine shr24 (by decide) ?_) | (with_reducible first | refine bit_mk and_1 ?_ | refine bit_mk and_15 ?_ | refine bit_mk and_255 ?_ | refine bit_mk and_4095 ?_ | refine bit_mk and_65535 ?_) | (refine quo_pos (by omega) (by omega) (by omega) ?_) | (refine rem_pos (by omega) (by omega) ?_)))
    refine bit_mk (and_mask (k := 32) (by decide) (by decide)) ?_
    rw [show (2 : Int) ^ 32 = 4294967296 from rfl]
    (repeat' (first | (refine VS.mk ?_) | (refine dr_mk ?_) | (refine md_l ?_) | ((first | refine sp_not_dec ?_ ?_ | refine sp_dec ?_ ?_ | refine sp_beq ?_ ?_ | refine sp_bne ?_ ?_ | refine sp_seq ?_ ?_ | refine sp_sne ?_ ?_ | refine sp_not ?_ ?_ | refine sp_any ?_ ?_) <;> (intro hc; try simp only [List.length_map, List.length_append, List.length_cons, List.length_nil, Bool.and_true, Bool.and_eq_true, beq_iff_eq, Bool.and_eq_false_iff, beq_eq_false_iff_ne, Bool.true_and, ne_eq] at hc)) | (with_reducible first | refine norm_one ?_ | refine norm_app ?_ | refine norm_cutEnd ?_ | refine norm_cut ?_ | refine norm_bytes1 ?_ | refine norm_bytes2 ?_ | refine norm_setByte ?_ | refine norm_int1 ?_ | refine norm_mk ?_) | (with_reducible refine bytes_mk ?_) | (refine ar_byte ?_) | (refine ar_i64 (by omega) (by omega) ?_) | (refine ar_low ?_) | (refine ix_byteN (by omega) ?_) | (refine ix_byteK (by simp only [Int.reduceToNat]; exact rfl) (by decide) (by omega) ?_) | (refine ix_byte (by omega) (by omega) ?_) | (refine ix_rfl (by decide) rfl ?_) | (refine sd_mk rfl ?_) | (refine sd_mk (by decide +kernel) ?_) | (refine sd_mk (by first | (simp only [List.length_map, List.length_append, List.length_cons, List.length_nil]; done) | ((try simp only [List.length_map, List.length_append, List.length_cons, List.length_nil, List.length_set, List.length_replicate, List.length_drop, List.length_take, true_and, and_true]); omega) | (dsimp only; omega)) ?_) | (first | refine shl8 (by omega) (by omega) ?_ | refine shl4 (by omega) (by omega) ?_ | refine shl1 (by omega) (by omega) ?_ | refine shl16 (by omega) (by omega) ?_ | refine shl24 (by omega) (by omega) ?_ | refine shr8 (by decide) ?_ | refine shr4 (by decide) ?_ | refine shr1 (by decide) ?_ | refine shr16 (by decide) ?_ | refine shr24 (by decide) ?_) | (with_reducible first | refine bit_mk and_1 ?_ | refine bit_mk and_15 ?_ | refine bit_mk and_255 ?_ | refine bit_mk and_4095 ?_ | refine bit_mk and_65535 ?_) | (refine quo_pos (by omega) (by omega) (by omega) ?_) | (refine rem_pos (by omega) (by omega) ?_)))
    refine shr_lit (s := 31) (m := 2147483648) rfl (by decide) (by decide) ?_
    (repeat' (first | (refine VS.mk ?_) | (refine dr_mk ?_) | (refine md_l ?_) | ((first | refine sp_not_dec ?_ ?_ | refine sp_dec ?_ ?_ | refine sp_beq ?_ ?_ | refine sp_bne ?_ ?_ | refine sp_seq ?_ ?_ | refine sp_sne ?_ ?_ | refine sp_not ?_ ?_ | refine sp_any ?_ ?_) <;> (intro hc; try simp only [List.length_map, List.length_append, List.length_cons, List.length_nil, Bool.and_true, Bool.and_eq_true, beq_iff_eq, Bool.and_eq_false_iff, beq_eq_false_iff_ne, Bool.true_and, ne_eq] at hc)) | (with_reducible first | refine norm_one ?_ | refine norm_app ?_ | refine norm_cutEnd ?_ | refine norm_cut ?_ | refine norm_bytes1 ?_ | refine norm_bytes2 ?_ | refine norm_setByte ?_ | refine norm_int1 ?_ | refine norm_mk ?_) | (with_reducible refine bytes_mk ?_) | (refine ar_byte ?_) | (refine ar_i64 (by omega) (by omega) ?_) | (refine ar_low ?_) | (refine ix_byteN (by omega) ?_) | (refine ix_byteK (by simp only [Int.reduceToNat]; exact rfl) (by decide) (by omega) ?_) | (refine ix_byte (by omega) (by omega) ?_) | (refine ix_rfl (by decide) rfl ?_) | (refine sd_mk rfl ?_) | (refine sd_mk (by decide +kernel) ?_) | (refine sd_mk (by first | (simp only [List.length_map, List.length_append, List.length_cons, List.length_nil]; done) | ((try simp only [List.length_map, List.length_append, List.length_cons, List.length_nil, List.length_set, List.length_replicate, List.length_drop, List.length_take, true_and, and_true]); omega) | (dsimp only; omega)) ?_) | (first | refine shl8 (by omega) (by omega) ?_ | refine shl4 (by omega) (by omega) ?_ | refine shl1 (by omega) (by omega) ?_ | refine shl16 (by omega) (by omega) ?_ | refine shl24 (by omega) (by omega) ?_ | refine shr8 (by decide) ?_ | refine shr4 (by decide) ?_ | refine shr1 (by decide) ?_ | refine shr16 (by decide) ?_ | refine shr24 (by decide) ?_) | (with_reducible first | refine bit_mk and_1 ?_ | refine bit_mk and_15 ?_ | refine bit_mk and_255 ?_ | refine bit_mk and_4095 ?_ | refine bit_mk and_65535 ?_) | (refine quo_pos (by omega) (by omega) (by omega) ?_) | (refine rem_pos (by omega) (by omega) ?_)))
    · refine shl_lit (s := 32) (m := 4294967296) rfl (by decide) (by decide) (by decide) (by decide) ?_
      (repeat' (first | (refine VS.mk ?_) | (refine dr_mk ?_) | (refine md_l ?_) | ((first | refine sp_not_dec ?_ ?_ | refine sp_dec ?_ ?_ | refine sp_beq ?_ ?_ | refine sp_bne ?_ ?_ | refine sp_seq ?_ ?_ | refine sp_sne ?_ ?_ | refine sp_not ?_ ?_ | refine sp_any ?_ ?_) <;> (intro hc; try simp only [List.length_map, List.length_append, List.length_cons, List.length_nil, Bool.and_true, Bool.and_eq_true, beq_iff_eq, Bool.and_eq_false_iff, beq_eq_false_iff_ne, Bool.true_and, ne_eq] at hc)) | (with_reducible first | refine norm_one ?_ | refine norm_app ?_ | refine norm_cutEnd ?_ | refine norm_cut ?_ | refine norm_bytes1 ?_ | refine norm_bytes2 ?_ | refine norm_setByte ?_ | refine norm_int1 ?_ | refine norm_mk ?_) | (with_reducible refine bytes_mk ?_) | (refine ar_byte ?_) | (refine ar_i64 (by omega) (by omega) ?_) | (refine ar_low ?_) | (refine ix_byteN (by omega) ?_) | (refine ix_byteK (by simp only [Int.reduceToNat]; exact rfl) (by decide) (by omega) ?_) | (refine ix_byte (by omega) (by omega) ?_) | (refine ix_rfl (by decide) rfl ?_) | (refine sd_mk rfl ?_) | (refine sd_mk (by decide +kernel) ?_) | (refine sd_mk (by first | (simp only [List.length_map, List.length_append, List.length_cons, List.length_nil]; done) | ((try simp only [List.length_map, List.length_append, List.length_cons, List.length_nil, List.length_set, List.length_replicate, List.length_drop, List.length_take, true_and, and_true]); omega) | (dsimp only; omega)) ?_) | (first | refine shl8 (by omega) (by omega) ?_ | refine shl4 (by omega) (by omega) ?_ | refine shl1 (by omega) (by omega) ?_ | refine shl16 (by omega) (by omega) ?_ | refine shl24 (by omega) (by omega) ?_ | refine shr8 (by decide) ?_ | refine shr4 (by decide) ?_ | refine shr1 (by decide) ?_ | refine shr16 (by decide) ?_ | refine shr24 (by decide) ?_) | (with_reducible first | refine bit_mk and_1 ?_ | refine bit_mk and_15 ?_ | refine bit_mk and_255 ?_ | refine bit_mk and_4095 ?_ | refine bit_mk and_65535 ?_) | (refine quo_pos (by omega) (by omega) (by omega) ?_) | (refine rem_pos (by omega) (by omega) ?_)))
      refine end_p (VS.mk (LeD.of_eq (congrArg (D.int .i64) ?_)))
      rw [hd, if_pos hc]
      omega
    · refine end_p (VS.mk (LeD.of_eq (congrArg (D.int .i64) ?_)))
      rw [hd, if_neg hc]

theorem signed_meets2 : Meets Try.prog n_isa_Signed (SpecP (fun _ : Int => True) (fun n => [.int .i64 n]) fun n => .int .i64 (signedI n 32)) := by
  refine meets_f tabOk Try.func11 rfl (by decide) fun n _ => ?_
  refine ⟨Nat.le_refl _, by simp [Try.f11], fun E hE => ?_⟩
  refine vcOk _ ?_
  (repeat' (first | (refine VS.mk ?_) | (refine dr_mk ?_) | (refine md_l ?_) | ((first | refine sp_not_dec ?_ ?_ | refine sp_dec ?_ ?_ | refine sp_beq ?_ ?_ | refine sp_bne ?_ ?_ | refine sp_seq ?_ ?_ | refine sp_sne ?_ ?_ | refine sp_not ?_ ?_ | refine sp_any ?_ ?_) <;> (intro hc; try simp only [List.length_map, List.length_append, List.length_cons, List.length_nil, Bool.and_true, Bool.and_eq_true, beq_iff_eq, Bool.and_eq_false_iff, beq_eq_false_iff_ne, Bool.true_and, ne_eq] at hc)) | (with_reducible first | refine norm_one ?_ | refine norm_app ?_ | refine norm_cutEnd ?_ | refine norm_cut ?_ | refine norm_bytes1 ?_ | refine norm_bytes2 ?_ | refine norm_setByte ?_ | refine norm_int1 ?_ | refine norm_mk ?_) | (with_reducible refine bytes_mk ?_) | (refine ar_byte ?_) | (refine ar_i64 (by omega) (by omega) ?_) | (refine ar_low ?_) | (refine ix_byteN (by omega) ?_) | (refine ix_byteK (by simp only [Int.reduceToNat]; exact rfl) (by decide) (by omega) ?_) | (refine ix_byte (by omega) (by omega) ?_) | (refine ix_rfl (by decide) rfl ?_) | (refine sd_mk rfl ?_) | (refine sd_mk (by decide +kernel) ?_) | (refine sd_mk (by first | (simp only [List.length_map, List.length_append, List.length_cons, List.length_nil]; done) | ((try simp only [List.length_map, List.length_append, List.length_cons, List.length_nil, List.length_set, List.length_replicate, List.length_drop, List.length_take, true_and, and_true]); omega) | (dsimp only; omega)) ?_) | (first | refine shl8 (by omega) (by omega) ?_ | refine shl4 (by omega) (by omega) ?_ | refine shl1 (by omega) (by omega) ?_ | refine shl16 (by omega) (by omega) ?_ | refine shl24 (by omega) (by omega) ?_ | refine shr8 (by decide) ?_ | refine shr4 (by decide) ?_ | refine shr1 (by decide) ?_ | refine shr16 (by decide) ?_ | refine shr24 (by decide) ?_) | (with_reducible first | refine bit_mk and_1 ?_ | refine bit_mk and_15 ?_ | refine bit_mk and_255 ?_ | refine bit_mk and_4095 ?_ | refine bit_mk and_65535 ?_) | (refine quo_pos (by omega) (by omega) (by omega) ?_) | (refine rem_pos (by omega) (by omega) ?_)))
  refine call_p signed_meets (n, 32) (.inr (.inr rfl)) (VS.mk (by (first | exact LeL.refl _ | (repeat' (first | exact LeL.nil | exact LeD.refl _ | exact LeD.nil _ | exact LeD.strip _ _ _ | refine LeL.cons ?_ ?_ | refine LeD.tup ?_ | refine LeD.agg ?_))))) ?_
  (repeat' (first | (refine VS.mk ?_) | (refine dr_mk ?_) | (refine md_l ?_) | ((first | refine sp_not_dec ?_ ?_ | refine sp_dec ?_ ?_ | refine sp_beq ?_ ?_ | refine sp_bne ?_ ?_ | refine sp_seq ?_ ?_ | refine sp_sne ?_ ?_ | refine sp_not ?_ ?_ | refine sp_any ?_ ?_) <;> (intro hc; try simp only [List.length_map, List.length_append, List.length_cons, List.length_nil, Bool.and_true, Bool.and_eq_true, beq_iff_eq, Bool.and_eq_false_iff, beq_eq_false_iff_ne, Bool.true_and, ne_eq] at hc)) | (with_reducible first | refine norm_one ?_ | refine norm_app ?_ | refine norm_cutEnd ?_ | refine norm_cut ?_ | refine norm_bytes1 ?_ | refine norm_bytes2 ?_ | refine norm_setByte ?_ | refine norm_int1 ?_ | refine norm_mk ?_) | (with_reducible refine bytes_mk ?_) | (refine ar_byte ?_) | (refine ar_i64 (by omega) (by omega) ?_) | (refine ar_low ?_) | (refine ix_byteN (by omega) ?_) | (refine ix_byteK (by simp only [Int.reduceToNat]; exact rfl) (by decide) (by omega) ?_) | (refine ix_byte (by omega) (by omega) ?_) | (refine ix_rfl (by decide) rfl ?_) | (refine sd_mk rfl ?_) | (refine sd_mk (by decide +kernel) ?_) | (refine sd_mk (by first | (simp only [List.length_map, List.length_append, List.length_cons, List.length_nil]; done) | ((try simp only [List.length_map, List.length_append, List.length_cons, List.length_nil, List.length_set, List.length_replicate, List.length_drop, List.length_take, true_and, and_true]); omega) | (dsimp only; omega)) ?_) | (first | refine shl8 (by omega) (by omega) ?_ | refine shl4 (by omega) (by omega) ?_ | refine shl1 (by omega) (by omega) ?_ | refine shl16 (by omega) (by omega) ?_ | refine shl24 (by omega) (by omega) ?_ | refine shr8 (by decide) ?_ | refine shr4 (by decide) ?_ | refine shr1 (by decide) ?_ | refine shr16 (by decide) ?_ | refine shr24 (by decide) ?_) | (with_reducible first | refine bit_mk and_1 ?_ | refine bit_mk and_15 ?_ | refine bit_mk and_255 ?_ | refine bit_mk and_4095 ?_ | refine bit_mk and_65535 ?_) | (refine quo_pos (by omega) (by omega) (by omega) ?_) | (refine rem_pos (by omega) (by omega) ?_)))
  exact end_p (VS.mk (LeD.refl _))


end Go.Proofs.Ytlilcfkcofafeaa

namespace Go.Proofs.Ytlilcfkcofafeaa
open Go Go.Plat
set_option linter.unusedVariables false
set_option linter.unusedSimpArgs false
set_option maxRecDepth 100000
set_option maxHeartbeats 2000000
attribute [local irreducible] NilS LookS NormM bitI BytesS NormL Arith QuoS RemS ShlS ShrS BitS CatS SplitS SideS IdxS CallS LoopEnd EndS ModeS DrawS AWP Meets

def letterB (c : UInt8) : Bool := decide (97 ≤ c.toNat ∧ c.toNat ≤ 122 ∨ 65 ≤ c.toNat ∧ c.toNat ≤ 90 ∨ c.toNat = 95 ∨ c.toNat = 46)
def digitB (c : UInt8) : Bool := decide (48 ≤ c.toNat ∧ c.toNat ≤ 57)
def kindB (c : UInt8) : Int := if letterB c = true then 97 else if digitB c = true then 48 else if c.toNat = 32 ∨ c.toNat = 9 ∨ c.toNat = 13 then 32 else 0
theorem letter_meets : Meets Try.prog n_scan_letter (SpecP (fun _ : UInt8 => True) (fun c => [byteD c]) fun c => .bool (letterB c)) := by
  refine meets_f tabOk Try.func29 rfl (by decide) fun c _ => ?_
  refine ⟨Nat.le_refl _, by simp [Try.f29], fun E hE => ?_⟩
  refine vcOk _ ?_
  (repeat' (first | (refine VS.mk ?_) | (refine dr_mk ?_) | (refine md_l ?_) | ((first | refine sp_not_dec ?_ ?_ | refine sp_dec ?_ ?_ | refine sp_beq ?_ ?_ | refine sp_bne ?_ ?_ | refine sp_seq ?_ ?_ | refine sp_sne ?_ ?_ | refine sp_not ?_ ?_ | refine sp_any ?_ ?_) <;> (intro hc; try simp only [List.length_map, List.length_append, List.length_cons, List.length_nil, Bool.and_true, Bool.and_eq_true, beq_iff_eq, Bool.and_eq_false_iff, beq_eq_false_iff_ne, Bool.true_and, ne_eq] at hc)) | (with_reducible first | refine norm_one ?_ | refine norm_app ?_ | refine norm_cutEnd ?_ | refine norm_cut ?_ | refine norm_bytes1 ?_ | refine norm_bytes2 ?_ | refine norm_setByte ?_ | refine norm_int1 ?_ | refine norm_mk ?_) | (with_reducible refine bytes_mk ?_) | (refine ar_byte ?_) | (refine ar_i64 (by omega) (by omega) ?_) | (refine ar_low ?_) | (refine ix_byteN (by omega) ?_) | (refine ix_byteK (by simp only [Int.reduceToNat]; exact rfl) (by decide) (by omega) ?_) | (refine ix_byte (by omega) (by omega) ?_) | (refine ix_rfl (by decide) rfl ?_) | (refine sd_mk rfl ?_) | (refine sd_mk (by decide +kernel) ?_) | (refine sd_mk (by first | (simp only [List.length_map, List.length_append, List.length_cons, List.length_nil]; done) | ((try simp only [List.length_map, List.length_append, List.length_cons, List.length_nil, List.length_set, List.length_replicate, List.length_drop, List.length_take, true_and, and_true]); omega) | (dsimp only; omega)) ?_) | (first | refine shl8 (by omega) (by omega) ?_ | refine shl4 (by omega) (by omega) ?_ | refine shl1 (by omega) (by omega) ?_ | refine shl16 (by omega) (by omega) ?_ | refine shl24 (by omega) (by omega) ?_ | refine shr8 (by decide) ?_ | refine shr4 (by decide) ?_ | refine shr1 (by decide) ?_ | refine shr16 (by decide) ?_ | refine shr24 (by decide) ?_) | (with_reducible first | refine bit_mk and_1 ?_ | refine bit_mk and_15 ?_ | refine bit_mk and_255 ?_ | refine bit_mk and_4095 ?_ | refine bit_mk and_65535 ?_) | (refine quo_pos (by omega) (by omega) (by omega) ?_) | (refine rem_pos (by omega) (by omega) ?_)))
  all_goals first
    | (refine end_p (VS.mk (LeD.tt ?_)); unfold letterB; rw [decide_eq_true_eq]; omega)
    | (refine end_p (VS.mk (LeD.ff ?_)); unfold letterB; rw [decide_eq_false_iff_not]; omega)
    | (refine end_p (VS.mk (LeD.of_eq (congrArg D.bool ?_))); unfold letterB; rw [Bool.eq_iff_iff]; simp only [beq_iff_eq, decide_eq_true_eq]; omega)
theorem digit_meets : Meets Try.prog n_scan_digit (SpecP (fun _ : UInt8 => True) (fun c => [byteD c]) fun c => .bool (digitB c)) := by
  refine meets_f tabOk Try.func30 rfl (by decide) fun c _ => ?_
  refine ⟨Nat.le_refl _, by simp [Try.f30], fun E hE => ?_⟩
  refine vcOk _ ?_
  (repeat' (first | (refine VS.mk ?_) | (refine dr_mk ?_) | (refine md_l ?_) | ((first | refine sp_not_dec ?_ ?_ | refine sp_dec ?_ ?_ | refine sp_beq ?_ ?_ | refine sp_bne ?_ ?_ | refine sp_seq ?_ ?_ | refine sp_sne ?_ ?_ | refine sp_not ?_ ?_ | refine sp_any ?_ ?_) <;> (intro hc; try simp only [List.length_map, List.length_append, List.length_cons, List.length_nil, Bool.and_true, Bool.and_eq_true, beq_iff_eq, Bool.and_eq_false_iff, beq_eq_false_iff_ne, Bool.true_and, ne_eq] at hc)) | (with_reducible first | refine norm_one ?_ | refine norm_app ?_ | refine norm_cutEnd ?_ | refine norm_cut ?_ | refine norm_bytes1 ?_ | refine norm_bytes2 ?_ | refine norm_setByte ?_ | refine norm_int1 ?_ | refine norm_mk ?_) | (with_reducible refine bytes_mk ?_) | (refine ar_byte ?_) | (refine ar_i64 (by omega) (by omega) ?_) | (refine ar_low ?_) | (refine ix_byteN (by omega) ?_) | (refine ix_byteK (by simp only [Int.reduceToNat]; exact rfl) (by decide) (by omega) ?_) | (refine ix_byte (by omega) (by omega) ?_) | (refine ix_rfl (by decide) rfl ?_) | (refine sd_mk rfl ?_) | (refine sd_mk (by decide +kernel) ?_) | (refine sd_mk (by first | (simp only [List.length_map, List.length_append, List.length_cons, List.length_nil]; done) | ((try simp only [List.length_map, List.length_append, List.length_cons, List.length_nil, List.length_set, List.length_replicate, List.length_drop, List.length_take, true_and, and_true]); omega) | (dsimp only; omega)) ?_) | (first | refine shl8 (by omega) (by omega) ?_ | refine shl4 (by omega) (by omega) ?_ | refine shl1 (by omega) (by omega) ?_ | refine shl16 (by omega) (by omega) ?_ | refine shl24 (by omega) (by omega) ?_ | refine shr8 (by decide) ?_ | refine shr4 (by decide) ?_ | refine shr1 (by decide) ?_ | refine shr16 (by decide) ?_ | refine shr24 (by decide) ?_) | (with_reducible first | refine bit_mk and_1 ?_ | refine bit_mk and_15 ?_ | refine bit_mk and_255 ?_ | refine bit_mk and_4095 ?_ | refine bit_mk and_65535 ?_) | (refine quo_pos (by omega) (by omega) (by omega) ?_) | (refine rem_pos (by omega) (by omega) ?_)))
  all_goals first
    | (refine end_p (VS.mk (LeD.tt ?_)); unfold digitB; rw [decide_eq_true_eq]; omega)
    | (refine end_p (VS.mk (LeD.ff ?_)); unfold digitB; rw [decide_eq_false_iff_not]; omega)
    | (refine end_p (VS.mk (LeD.of_eq (congrArg D.bool ?_))); unfold digitB; rw [Bool.eq_iff_iff]; simp only [beq_iff_eq, decide_eq_true_eq]; omega)
theorem kind_meets : Meets Try.prog n_plref1_kind (SpecP (fun _ : UInt8 => True) (fun c => [byteD c]) fun c => .int .u8 (kindB c)) := by
  refine meets_f tabOk Try.func31 rfl (by decide) fun c _ => ?_
  refine ⟨Nat.le_refl _, by simp [Try.f31], fun E hE => ?_⟩
  refine vcOk _ ?_
  (repeat' (first | (refine VS.mk ?_) | (refine dr_mk ?_) | (refine md_l ?_) | ((first | refine sp_not_dec ?_ ?_ | refine sp_dec ?_ ?_ | refine sp_beq ?_ ?_ | refine sp_bne ?_ ?_ | refine sp_seq ?_ ?_ | refine sp_sne ?_ ?_ | refine sp_not ?_ ?_ | refine sp_any ?_ ?_) <;> (intro hc; try simp only [List.length_map, List.length_append, List.length_cons, List.length_nil, Bool.and_true, Bool.and_eq_true, beq_iff_eq, Bool.and_eq_false_iff, beq_eq_false_iff_ne, Bool.true_and, ne_eq] at hc)) | (with_reducible first | refine norm_one ?_ | refine norm_app ?_ | refine norm_cutEnd ?_ | refine norm_cut ?_ | refine norm_bytes1 ?_ | refine norm_bytes2 ?_ | refine norm_setByte ?_ | refine norm_int1 ?_ | refine norm_mk ?_) | (with_reducible refine bytes_mk ?_) | (refine ar_byte ?_) | (refine ar_i64 (by omega) (by omega) ?_) | (refine ar_low ?_) | (refine ix_byteN (by omega) ?_) | (refine ix_byteK (by simp only [Int.reduceToNat]; exact rfl) (by decide) (by omega) ?_) | (refine ix_byte (by omega) (by omega) ?_) | (refine ix_rfl (by decide) rfl ?_) | (refine sd_mk rfl ?_) | (refine sd_mk (by decide +kernel) ?_) | (refine sd_mk (by first | (simp only [List.length_map, List.length_append, List.length_cons, List.length_nil]; done) | ((try simp only [List.length_map, List.length_append, List.length_cons, List.length_nil, List.length_set, List.length_replicate, List.length_drop, List.length_take, true_and, and_true]); omega) | (dsimp only; omega)) ?_) | (first | refine shl8 (by omega) (by omega) ?_ | refine shl4 (by omega) (by omega) ?_ | refine shl1 (by omega) (by omega) ?_ | refine shl16 (by omega) (by omega) ?_ | refine shl24 (by omega) (by omega) ?_ | refine shr8 (by decide) ?_ | refine shr4 (by decide) ?_ | refine shr1 (by decide) ?_ | refine shr16 (by decide) ?_ | refine shr24 (by decide) ?_) | (with_reducible first | refine bit_mk and_1 ?_ | refine bit_mk and_15 ?_ | refine bit_mk and_255 ?_ | refine bit_mk and_4095 ?_ | refine bit_mk and_65535 ?_) | (refine quo_pos (by omega) (by omega) (by omega) ?_) | (refine rem_pos (by omega) (by omega) ?_)))
  all_goals
    refine end_p (VS.mk (LeD.of_eq (congrArg (D.int .u8) ?_)))
    unfold kindB letterB digitB
    simp only [decide_eq_true_eq]
    (repeat' split) <;> omega

def nameB (s : List UInt8) : Bool := decide (1 ≤ s.length ∧ s.length ≤ 10) && letterB (s.getD 0 0) && s.all fun c => (letterB c || digitB c) && !(c == 46)
def okC (c : UInt8) : Bool := (letterB c || digitB c) && !(c == 46)
attribute [local irreducible] letterB digitB kindB

theorem all_take {p : UInt8 → Bool} {s : List UInt8} {k : Nat} (hk : k < s.length) : (s.take (k + 1)).all p = ((s.take k).all p && p (s.getD k 0)) := by
  rw [List.take_succ_eq_append_getElem hk, List.all_append]
  simp [List.getD_eq_getElem?_getD, List.getElem?_eq_getElem hk]
theorem all_stop {p : UInt8 → Bool} {s : List UInt8} {k : Nat} (hk : k < s.length) (h : p (s.getD k 0) = false) : s.all p = false := by
  rw [← List.take_append_drop k s, List.all_append, List.drop_eq_getElem_cons hk]
  have : s.getD k 0 = s[k] := by simp [List.getD_eq_getElem?_getD, List.getElem?_eq_getElem hk]
  rw [this] at h
  rw [List.all_cons, h, Bool.false_and, Bool.and_false]

theorem name_any : Meets Try.prog n_scan_Name (SpecP (fun _ : List UInt8 => True) (fun s => [.str s]) fun s => .bool (nameB s)) := by
  refine meets_f tabOk Try.func25 rfl (by decide) fun s _ => ?_
  refine ⟨Nat.le_refl _, by simp [Try.f25], fun E hE => ?_⟩
  refine vcOk _ ?_
  (repeat' (first | (refine VS.mk ?_) | (refine dr_mk ?_) | (refine md_l ?_) | ((first | refine sp_not_dec ?_ ?_ | refine sp_dec ?_ ?_ | refine sp_beq ?_ ?_ | refine sp_bne ?_ ?_ | refine sp_seq ?_ ?_ | refine sp_sne ?_ ?_ | refine sp_not ?_ ?_ | refine sp_any ?_ ?_) <;> (intro hc; try simp only [List.length_map, List.length_append, List.length_cons, List.length_nil, Bool.and_true, Bool.and_eq_true, beq_iff_eq, Bool.and_eq_false_iff, beq_eq_false_iff_ne, Bool.true_and, ne_eq] at hc)) | (with_reducible first | refine norm_one ?_ | refine norm_app ?_ | refine norm_cutEnd ?_ | refine norm_cut ?_ | refine norm_bytes1 ?_ | refine norm_bytes2 ?_ | refine norm_setByte ?_ | refine norm_int1 ?_ | refine norm_mk ?_) | (with_reducible refine bytes_mk ?_) | (refine ar_byte ?_) | (refine ar_i64 (by omega) (by omega) ?_) | (refine ar_low ?_) | (refine ix_byteN (by omega) ?_) | (refine ix_byteK (by simp only [Int.reduceToNat]; exact rfl) (by decide) (by omega) ?_) | (refine ix_byte (by omega) (by omega) ?_) | (refine ix_rfl (by decide) rfl ?_) | (refine sd_mk rfl ?_) | (refine sd_mk (by decide +kernel) ?_) | (refine sd_mk (by first | (simp only [List.length_map, List.length_append, List.length_cons, List.length_nil]; done) | ((try simp only [List.length_map, List.length_append, List.length_cons, List.length_nil, List.length_set, List.length_replicate, List.length_drop, List.length_take, true_and, and_true]); omega) | (dsimp only; omega)) ?_) | (first | refine shl8 (by omega) (by omega) ?_ | refine shl4 (by omega) (by omega) ?_ | refine shl1 (by omega) (by omega) ?_ | refine shl16 (by omega) (by omega) ?_ | refine shl24 (by omega) (by omega) ?_ | refine shr8 (by decide) ?_ | refine shr4 (by decide) ?_ | refine shr1 (by decide) ?_ | refine shr16 (by decide) ?_ | refine shr24 (by decide) ?_) | (with_reducible first | refine bit_mk and_1 ?_ | refine bit_mk and_15 ?_ | refine bit_mk and_255 ?_ | refine bit_mk and_4095 ?_ | refine bit_mk and_65535 ?_) | (refine quo_pos (by omega) (by omega) (by omega) ?_) | (refine rem_pos (by omega) (by omega) ?_)))
  · refine end_p (VS.mk (LeD.ff ?_))
    unfold nameB
    rw [decide_eq_false (by omega)]
    rfl
  · refine end_p (VS.mk (LeD.ff ?_))
    unfold nameB
    rw [decide_eq_false (by omega)]
    rfl
  · refine end_p (VS.mk (LeD.ff ?_))
    have e : okC (s.getD 0 0) = false := by
      have : s.getD 0 0 = 46 := UInt8.toNat_inj.1 (by exact_mod_cast hc)
      rw [this]
      unfold okC
      rw [Bool.and_eq_false_iff]
      exact .inr rfl
    have h2 : s.all okC = false := all_stop (k := 0) (by omega) e
    show (_ && _ && s.all okC) = false
    rw [h2, Bool.and_false]
  refine call_p letter_meets (s.getD 0 0) trivial (VS.mk (LeL.of_eq rfl)) ?_
  (repeat' (first | (refine VS.mk ?_) | (refine dr_mk ?_) | (refine md_l ?_) | ((first | refine sp_not_dec ?_ ?_ | refine sp_dec ?_ ?_ | refine sp_beq ?_ ?_ | refine sp_bne ?_ ?_ | refine sp_seq ?_ ?_ | refine sp_sne ?_ ?_ | refine sp_not ?_ ?_ | refine sp_any ?_ ?_) <;> (intro hc; try simp only [List.length_map, List.length_append, List.length_cons, List.length_nil, Bool.and_true, Bool.and_eq_true, beq_iff_eq, Bool.and_eq_false_iff, beq_eq_false_iff_ne, Bool.true_and, ne_eq] at hc)) | (with_reducible first | refine norm_one ?_ | refine norm_app ?_ | refine norm_cutEnd ?_ | refine norm_cut ?_ | refine norm_bytes1 ?_ | refine norm_bytes2 ?_ | refine norm_setByte ?_ | refine norm_int1 ?_ | refine norm_mk ?_) | (with_reducible refine bytes_mk ?_) | (refine ar_byte ?_) | (refine ar_i64 (by omega) (by omega) ?_) | (refine ar_low ?_) | (refine ix_byteN (by omega) ?_) | (refine ix_byteK (by simp only [Int.reduceToNat]; exact rfl) (by decide) (by omega) ?_) | (refine ix_byte (by omega) (by omega) ?_) | (refine ix_rfl (by decide) rfl ?_) | (refine sd_mk rfl ?_) | (refine sd_mk (by decide +kernel) ?_) | (refine sd_mk (by first | (simp only [List.length_map, List.length_append, List.length_cons, List.length_nil]; done) | ((try simp only [List.length_map, List.length_append, List.length_cons, List.length_nil, List.length_set, List.length_replicate, List.length_drop, List.length_take, true_and, and_true]); omega) | (dsimp only; omega)) ?_) | (first | refine shl8 (by omega) (by omega) ?_ | refine shl4 (by omega) (by omega) ?_ | refine shl1 (by omega) (by omega) ?_ | refine shl16 (by omega) (by omega) ?_ | refine shl24 (by omega) (by omega) ?_ | refine shr8 (by decide) ?_ | refine shr4 (by decide) ?_ | refine shr1 (by decide) ?_ | refine shr16 (by decide) ?_ | refine shr24 (by decide) ?_) | (with_reducible first | refine bit_mk and_1 ?_ | refine bit_mk and_15 ?_ | refine bit_mk and_255 ?_ | refine bit_mk and_4095 ?_ | refine bit_mk and_65535 ?_) | (refine quo_pos (by omega) (by omega) (by omega) ?_) | (refine rem_pos (by omega) (by omega) ?_)))
  · refine end_p (VS.mk (LeD.ff ?_))
    show (_ && letterB (s.getD 0 0) && _) = false
    rw [hc, Bool.and_false, Bool.false_and]
  have hl0 : letterB (s.getD 0 0) = true := by assumption
  refine awp_loop (α := Nat) (fun k => k ≤ s.length ∧ (s.take k).all okC = true) (fun k => [(0, .str s), (24, .int .i64 s.length), (25, .int .i64 k)]) (fun _ => []) (fun k => s.length - k) (fun _ => by simp [hE]) 0 ⟨Nat.zero_le _, by simp⟩ ?_ ?_
  · (repeat' (first | (refine VS.mk ?_) | exact trivial | exact rfl | refine And.intro ?_ ?_))
  rintro k ⟨hk, hall⟩
  refine vcOk _ ?_
  (repeat' (first | (refine VS.mk ?_) | (refine dr_mk ?_) | (refine md_l ?_) | ((first | refine sp_not_dec ?_ ?_ | refine sp_dec ?_ ?_ | refine sp_beq ?_ ?_ | refine sp_bne ?_ ?_ | refine sp_seq ?_ ?_ | refine sp_sne ?_ ?_ | refine sp_not ?_ ?_ | refine sp_any ?_ ?_) <;> (intro hc; try simp only [List.length_map, List.length_append, List.length_cons, List.length_nil, Bool.and_true, Bool.and_eq_true, beq_iff_eq, Bool.and_eq_false_iff, beq_eq_false_iff_ne, Bool.true_and, ne_eq] at hc)) | (with_reducible first | refine norm_one ?_ | refine norm_app ?_ | refine norm_cutEnd ?_ | refine norm_cut ?_ | refine norm_bytes1 ?_ | refine norm_bytes2 ?_ | refine norm_setByte ?_ | refine norm_int1 ?_ | refine norm_mk ?_) | (with_reducible refine bytes_mk ?_) | (refine ar_byte ?_) | (refine ar_i64 (by omega) (by omega) ?_) | (refine ar_low ?_) | (refine ix_byteN (by omega) ?_) | (refine ix_byteK (by simp only [Int.reduceToNat]; exact rfl) (by decide) (by omega) ?_) | (refine ix_byte (by omega) (by omega) ?_) | (refine ix_rfl (by decide) rfl ?_) | (refine sd_mk rfl ?_) | (refine sd_mk (by decide +kernel) ?_) | (refine sd_mk (by first | (simp only [List.length_map, List.length_append, List.length_cons, List.length_nil]; done) | ((try simp only [List.length_map, List.length_append, List.length_cons, List.length_nil, List.length_set, List.length_replicate, List.length_drop, List.length_take, true_and, and_true]); omega) | (dsimp only; omega)) ?_) | (first | refine shl8 (by omega) (by omega) ?_ | refine shl4 (by omega) (by omega) ?_ | refine shl1 (by omega) (by omega) ?_ | refine shl16 (by omega) (by omega) ?_ | refine shl24 (by omega) (by omega) ?_ | refine shr8 (by decide) ?_ | refine shr4 (by decide) ?_ | refine shr1 (by decide) ?_ | refine shr16 (by decide) ?_ | refine shr24 (by decide) ?_) | (with_reducible first | refine bit_mk and_1 ?_ | refine bit_mk and_15 ?_ | refine bit_mk and_255 ?_ | refine bit_mk and_4095 ?_ | refine bit_mk and_65535 ?_) | (refine quo_pos (by omega) (by omega) (by omega) ?_) | (refine rem_pos (by omega) (by omega) ?_)))
  · have hidx : ((k : Int)).toNat = k := Int.toNat_natCast k
    have hk' : k < s.length := by omega
    have hst := all_take (p := okC) hk'
    have hsp := all_stop (p := okC) hk'
    have hok : okC (s.getD k 0) = ((letterB (s.getD k 0) || digitB (s.getD k 0)) && !(s.getD k 0 == 46)) := rfl
    have h46 : (((s.getD k 0).toNat : Nat) : Int) = 46 → okC (s.getD k 0) = false := fun h => by
      have : s.getD k 0 = 46 := UInt8.toNat_inj.1 (by exact_mod_cast h)
      rw [hok, this]
      rw [Bool.and_eq_false_iff]
      exact .inr rfl
    have n46 : ¬ (((s.getD k 0).toNat : Nat) : Int) = 46 → (s.getD k 0 == 46) = false := fun h => beq_eq_false_iff_ne.2 fun e => h (by rw [e]; rfl)
    have bad : okC (s.getD k 0) = false → nameB s = false := fun h => by
      show (_ && letterB (s.getD 0 0) && s.all okC) = false
      rw [hsp h, Bool.and_false]
    refine call_p letter_meets (s.getD k 0) trivial (VS.mk (LeL.of_eq (by rw [hidx]; rfl))) ?_
    (repeat' (first | (refine VS.mk ?_) | (refine dr_mk ?_) | (refine md_l ?_) | ((first | refine sp_not_dec ?_ ?_ | refine sp_dec ?_ ?_ | refine sp_beq ?_ ?_ | refine sp_bne ?_ ?_ | refine sp_seq ?_ ?_ | refine sp_sne ?_ ?_ | refine sp_not ?_ ?_ | refine sp_any ?_ ?_) <;> (intro hc; try simp only [List.length_map, List.length_append, List.length_cons, List.length_nil, Bool.and_true, Bool.and_eq_true, beq_iff_eq, Bool.and_eq_false_iff, beq_eq_false_iff_ne, Bool.true_and, ne_eq] at hc)) | (with_reducible first | refine norm_one ?_ | refine norm_app ?_ | refine norm_cutEnd ?_ | refine norm_cut ?_ | refine norm_bytes1 ?_ | refine norm_bytes2 ?_ | refine norm_setByte ?_ | refine norm_int1 ?_ | refine norm_mk ?_) | (with_reducible refine bytes_mk ?_) | (refine ar_byte ?_) | (refine ar_i64 (by omega) (by omega) ?_) | (refine ar_low ?_) | (refine ix_byteN (by omega) ?_) | (refine ix_byteK (by simp only [Int.reduceToNat]; exact rfl) (by decide) (by omega) ?_) | (refine ix_byte (by omega) (by omega) ?_) | (refine ix_rfl (by decide) rfl ?_) | (refine sd_mk rfl ?_) | (refine sd_mk (by decide +kernel) ?_) | (refine sd_mk (by first | (simp only [List.length_map, List.length_append, List.length_cons, List.length_nil]; done) | ((try simp only [List.length_map, List.length_append, List.length_cons, List.length_nil, List.length_set, List.length_replicate, List.length_drop, List.length_take, true_and, and_true]); omega) | (dsimp only; omega)) ?_) | (first | refine shl8 (by omega) (by omega) ?_ | refine shl4 (by omega) (by omega) ?_ | refine shl1 (by omega) (by omega) ?_ | refine shl16 (by omega) (by omega) ?_ | refine shl24 (by omega) (by omega) ?_ | refine shr8 (by decide) ?_ | refine shr4 (by decide) ?_ | refine shr1 (by decide) ?_ | refine shr16 (by decide) ?_ | refine shr24 (by decide) ?_) | (with_reducible first | refine bit_mk and_1 ?_ | refine bit_mk and_15 ?_ | refine bit_mk and_255 ?_ | refine bit_mk and_4095 ?_ | refine bit_mk and_65535 ?_) | (refine quo_pos (by omega) (by omega) (by omega) ?_) | (refine rem_pos (by omega) (by omega) ?_)))
    · refine call_p digit_meets (s.getD k 0) trivial (VS.mk (LeL.of_eq (by rw [hidx]; rfl))) ?_
      (repeat' (first | (refine VS.mk ?_) | (refine dr_mk ?_) | (refine md_l ?_) | ((first | refine sp_not_dec ?_ ?_ | refine sp_dec ?_ ?_ | refine sp_beq ?_ ?_ | refine sp_bne ?_ ?_ | refine sp_seq ?_ ?_ | refine sp_sne ?_ ?_ | refine sp_not ?_ ?_ | refine sp_any ?_ ?_) <;> (intro hc; try simp only [List.length_map, List.length_append, List.length_cons, List.length_nil, Bool.and_true, Bool.and_eq_true, beq_iff_eq, Bool.and_eq_false_iff, beq_eq_false_iff_ne, Bool.true_and, ne_eq] at hc)) | (with_reducible first | refine norm_one ?_ | refine norm_app ?_ | refine norm_cutEnd ?_ | refine norm_cut ?_ | refine norm_bytes1 ?_ | refine norm_bytes2 ?_ | refine norm_setByte ?_ | refine norm_int1 ?_ | refine norm_mk ?_) | (with_reducible refine bytes_mk ?_) | (refine ar_byte ?_) | (refine ar_i64 (by omega) (by omega) ?_) | (refine ar_low ?_) | (refine ix_byteN (by omega) ?_) | (refine ix_byteK (by simp only [Int.reduceToNat]; exact rfl) (by decide) (by omega) ?_) | (refine ix_byte (by omega) (by omega) ?_) | (refine ix_rfl (by decide) rfl ?_) | (refine sd_mk rfl ?_) | (refine sd_mk (by decide +kernel) ?_) | (refine sd_mk (by first | (simp only [List.length_map, List.length_append, List.length_cons, List.length_nil]; done) | ((try simp only [List.length_map, List.length_append, List.length_cons, List.length_nil, List.length_set, List.length_replicate, List.length_drop, List.length_take, true_and, and_true]); omega) | (dsimp only; omega)) ?_) | (first | refine shl8 (by omega) (by omega) ?_ | refine shl4 (by omega) (by omega) ?_ | refine shl1 (by omega) (by omega) ?_ | refine shl16 (by omega) (by omega) ?_ | refine shl24 (by omega) (by omega) ?_ | refine shr8 (by decide) ?_ | refine shr4 (by decide) ?_ | refine shr1 (by decide) ?_ | refine shr16 (by decide) ?_ | refine shr24 (by decide) ?_) | (with_reducible first | refine bit_mk and_1 ?_ | refine bit_mk and_15 ?_ | refine bit_mk and_255 ?_ | refine bit_mk and_4095 ?_ | refine bit_mk and_65535 ?_) | (refine quo_pos (by omega) (by omega) (by omega) ?_) | (refine rem_pos (by omega) (by omega) ?_)))
      · refine end_p (VS.mk (LeD.ff (bad ?_)))
        rw [hok, (by assumption : letterB (s.getD k 0) = false), (by assumption : digitB (s.getD k 0) = false)]
        rfl
      · rw [hidx] at hc
        exact end_p (VS.mk (LeD.ff (bad (h46 hc))))
      · rw [hidx] at hc
        refine loop_end (k + 1) ⟨by omega, ?_⟩ (by omega) ?_
        rotate_left
        · rw [hst, hall, hok, (by assumption : digitB (s.getD k 0) = true), n46 hc, Bool.or_true]
          rfl
        · (repeat' (first | (refine VS.mk ?_) | exact trivial | exact rfl | refine And.intro ?_ ?_))
    · rw [hidx] at hc
      exact end_p (VS.mk (LeD.ff (bad (h46 hc))))
    · rw [hidx] at hc
      refine loop_end (k + 1) ⟨by omega, ?_⟩ (by omega) ?_
      rotate_left
      · rw [hst, hall, hok, (by assumption : letterB (s.getD k 0) = true), n46 hc]
        rfl
      · (repeat' (first | (refine VS.mk ?_) | exact trivial | exact rfl | refine And.intro ?_ ?_))
  · refine end_p (VS.mk (LeD.tt ?_))
    rw [List.take_of_length_le (by omega)] at hall
    show (_ && letterB (s.getD 0 0) && s.all okC) = true
    rw [hl0, hall, decide_eq_true (by omega)]
    rfl
theorem meets_sub {P : Program} {f : Nat} {α : Type} {I J : α → Prop} {A : α → List D} {R : α → D} (h : Meets P f (SpecP I A R)) (hJ : ∀ p, J p → I p) : Meets P f (SpecP J A R) :=
  by
  unfold Meets at h ⊢
  exact ⟨h.1, fun av L d M ⟨p, hp, hr⟩ => h.2 av L d M ⟨p, hJ p hp, hr⟩⟩
theorem name_meets : Meets Try.prog n_scan_Name (SpecP (fun s : List UInt8 => s.length ≤ 1000000000) (fun s => [.str s]) fun s => .bool (nameB s)) := meets_sub name_any fun _ _ => trivial
end Go.Proofs.Ytlilcfkcofafeaa

namespace Go.Proofs.Ytlilcfkcofafeaa
open Go Go.Plat
set_option linter.unusedVariables false
set_option linter.unusedSimpArgs false
set_option maxRecDepth 100000
set_option maxHeartbeats 2000000
attribute [local irreducible] NilS LookS NormM bitI BytesS NormL Arith QuoS RemS ShlS ShrS BitS CatS SplitS SideS IdxS CallS LoopEnd EndS ModeS DrawS AWP Meets
attribute [local irreducible] signedI exprD nodes OExpr.kind OExpr.n OExpr.name OExpr.kids letterB digitB kindB nameB

structure OTok where
  kind : Int
  n : Int
  text : List UInt8
def tokD (t : OTok) : D := .agg [.int .i64 t.kind, .int .i64 t.n, .str t.text]
structure St where
  rest : List OTok
  err : Int
def noE : OExpr := .mk 0 0 [] []
def idxT (x : List UInt8) : List (List UInt8) → Nat → Int
  | [], _ => -1
  | s :: l, k => if x = s then k else idxT x l (k + 1)
def signs (k : Nat) : List (List UInt8) := match k with | 0 => [[124]] | 1 => [[38]] | 2 => [[60, 60], [62, 62]] | 3 => [[43], [45]] | _ => [[42]]
def kinds (k : Nat) : List Int := match k with | 0 => [11] | 1 => [10] | 2 => [8, 9] | 3 => [6, 7] | _ => [5]
def levD (k : Nat) : D := .agg [.sl 1 ((signs k).map .str) none, .sl 1 ((kinds k).map (.int .i64)) none]
def levsD : D := .sl 2 [levD 0, levD 1, levD 2, levD 3, levD 4] none

theorem levels_meets : Meets Try.prog n_expr_levels (SpecP (fun _ : Unit => True) (fun _ => []) fun _ => levsD) := by
  refine meets_f tabOk Try.func16 rfl (by decide) fun _ _ => ?_
  refine ⟨Nat.le_refl _, by simp [Try.f16], fun E hE => ?_⟩
  refine vcOk _ ?_
  (repeat' (first | (refine VS.mk ?_) | (refine dr_mk ?_) | (refine md_l ?_) | ((first | refine sp_not_dec ?_ ?_ | refine sp_dec ?_ ?_ | refine sp_beq ?_ ?_ | refine sp_bne ?_ ?_ | refine sp_seq ?_ ?_ | refine sp_sne ?_ ?_ | refine sp_not ?_ ?_ | refine sp_any ?_ ?_) <;> (intro hc; try simp only [List.length_map, List.length_append, List.length_cons, List.length_nil, Bool.and_true, Bool.and_eq_true, beq_iff_eq, Bool.and_eq_false_iff, beq_eq_false_iff_ne, Bool.true_and, ne_eq] at hc)) | (with_reducible first | refine norm_one ?_ | refine norm_app ?_ | refine norm_cutEnd ?_ | refine norm_cut ?_ | refine norm_bytes1 ?_ | refine norm_bytes2 ?_ | refine norm_setByte ?_ | refine norm_int1 ?_ | refine norm_mk ?_) | (with_reducible refine bytes_mk ?_) | (refine ar_byte ?_) | (refine ar_i64 (by omega) (by omega) ?_) | (refine ar_low ?_) | (refine ix_byteN (by omega) ?_) | (refine ix_byteK (by simp only [Int.reduceToNat]; exact rfl) (by decide) (by omega) ?_) | (refine ix_byte (by omega) (by omega) ?_) | (refine ix_rfl (by decide) rfl ?_) | (refine sd_mk rfl ?_) | (refine sd_mk (by decide +kernel) ?_) | (refine sd_mk (by first | (simp only [List.length_map, List.length_append, List.length_cons, List.length_nil]; done) | ((try simp only [List.length_map, List.length_append, List.length_cons, List.length_nil, List.length_set, List.length_replicate, List.length_drop, List.length_take, true_and, and_true]); omega) | (dsimp only; omega)) ?_) | (first | refine shl8 (by omega) (by omega) ?_ | refine shl4 (by omega) (by omega) ?_ | refine shl1 (by omega) (by omega) ?_ | refine shl16 (by omega) (by omega) ?_ | refine shl24 (by omega) (by omega) ?_ | refine shr8 (by decide) ?_ | refine shr4 (by decide) ?_ | refine shr1 (by decide) ?_ | refine shr16 (by decide) ?_ | refine shr24 (by decide) ?_) | (with_reducible first | refine bit_mk and_1 ?_ | refine bit_mk and_15 ?_ | refine bit_mk and_255 ?_ | refine bit_mk and_4095 ?_ | refine bit_mk and_65535 ?_) | (refine quo_pos (by omega) (by omega) (by omega) ?_) | (refine rem_pos (by omega) (by omega) ?_)))
  exact end_p (VS.mk (LeD.of_eq rfl))

theorem index_meets : Meets Try.prog n_slices_Index_string_string (SpecP (fun ((l, x) : List (List UInt8) × List UInt8) => l.length ≤ 1000000000) (fun (l, x) => [.sl 1 (l.map .str) none, .str x]) fun (l, x) => .int .i64 (idxT x l 0)) := by
  refine meets_f tabOk Try.func26 rfl (by decide) ?_
  rintro ⟨l, x⟩ hl
  have hl : l.length ≤ 1000000000 := hl
  refine ⟨Nat.le_refl _, by simp [Try.f26], fun E hE => ?_⟩
  refine vcOk _ ?_
  (repeat' (first | (refine VS.mk ?_) | (refine dr_mk ?_) | (refine md_l ?_) | ((first | refine sp_not_dec ?_ ?_ | refine sp_dec ?_ ?_ | refine sp_beq ?_ ?_ | refine sp_bne ?_ ?_ | refine sp_seq ?_ ?_ | refine sp_sne ?_ ?_ | refine sp_not ?_ ?_ | refine sp_any ?_ ?_) <;> (intro hc; try simp only [List.length_map, List.length_append, List.length_cons, List.length_nil, Bool.and_true, Bool.and_eq_true, beq_iff_eq, Bool.and_eq_false_iff, beq_eq_false_iff_ne, Bool.true_and, ne_eq] at hc)) | (with_reducible first | refine norm_one ?_ | refine norm_app ?_ | refine norm_cutEnd ?_ | refine norm_cut ?_ | refine norm_bytes1 ?_ | refine norm_bytes2 ?_ | refine norm_setByte ?_ | refine norm_int1 ?_ | refine norm_mk ?_) | (with_reducible refine bytes_mk ?_) | (refine ar_byte ?_) | (refine ar_i64 (by omega) (by omega) ?_) | (refine ar_low ?_) | (refine ix_byteN (by omega) ?_) | (refine ix_byteK (by simp only [Int.reduceToNat]; exact rfl) (by decide) (by omega) ?_) | (refine ix_byte (by omega) (by omega) ?_) | (refine ix_rfl (by decide) rfl ?_) | (refine sd_mk rfl ?_) | (refine sd_mk (by decide +kernel) ?_) | (refine sd_mk (by first | (simp only [List.length_map, List.length_append, List.length_cons, List.length_nil]; done) | ((try simp only [List.length_map, List.length_append, List.length_cons, List.length_nil, List.length_set, List.length_replicate, List.length_drop, List.length_take, true_and, and_true]); omega) | (dsimp only; omega)) ?_) | (first | refine shl8 (by omega) (by omega) ?_ | refine shl4 (by omega) (by omega) ?_ | refine shl1 (by omega) (by omega) ?_ | refine shl16 (by omega) (by omega) ?_ | refine shl24 (by omega) (by omega) ?_ | refine shr8 (by decide) ?_ | refine shr4 (by decide) ?_ | refine shr1 (by decide) ?_ | refine shr16 (by decide) ?_ | refine shr24 (by decide) ?_) | (with_reducible first | refine bit_mk and_1 ?_ | refine bit_mk and_15 ?_ | refine bit_mk and_255 ?_ | refine bit_mk and_4095 ?_ | refine bit_mk and_65535 ?_) | (refine quo_pos (by omega) (by omega) (by omega) ?_) | (refine rem_pos (by omega) (by omega) ?_)))
  refine awp_loop (α := Nat) (fun k => k ≤ l.length ∧ idxT x l 0 = idxT x (l.drop k) k)
    (fun k => [(7, .int .i64 l.length), (8, .int .i64 k), (0, .sl 1 (l.map .str) none), (1, .str x)])
    (fun _ => []) (fun k => l.length - k) (fun _ => by simp [hE]) 0 ⟨Nat.zero_le _, by simp⟩ ?_ ?_
  · (repeat' (first | (refine VS.mk ?_) | exact trivial | exact rfl | refine And.intro ?_ ?_))
  rintro k ⟨hk, hf⟩
  refine vcOk _ ?_
  (repeat' (first | (refine VS.mk ?_) | (refine dr_mk ?_) | (refine md_l ?_) | ((first | refine sp_not_dec ?_ ?_ | refine sp_dec ?_ ?_ | refine sp_beq ?_ ?_ | refine sp_bne ?_ ?_ | refine sp_seq ?_ ?_ | refine sp_sne ?_ ?_ | refine sp_not ?_ ?_ | refine sp_any ?_ ?_) <;> (intro hc; try simp only [List.length_map, List.length_append, List.length_cons, List.length_nil, Bool.and_true, Bool.and_eq_true, beq_iff_eq, Bool.and_eq_false_iff, beq_eq_false_iff_ne, Bool.true_and, ne_eq] at hc)) | (with_reducible first | refine norm_one ?_ | refine norm_app ?_ | refine norm_cutEnd ?_ | refine norm_cut ?_ | refine norm_bytes1 ?_ | refine norm_bytes2 ?_ | refine norm_setByte ?_ | refine norm_int1 ?_ | refine norm_mk ?_) | (with_reducible refine bytes_mk ?_) | (refine ar_byte ?_) | (refine ar_i64 (by omega) (by omega) ?_) | (refine ar_low ?_) | (refine ix_byteN (by omega) ?_) | (refine ix_byteK (by simp only [Int.reduceToNat]; exact rfl) (by decide) (by omega) ?_) | (refine ix_byte (by omega) (by omega) ?_) | (refine ix_rfl (by decide) rfl ?_) | (refine sd_mk rfl ?_) | (refine sd_mk (by decide +kernel) ?_) | (refine sd_mk (by first | (simp only [List.length_map, List.length_append, List.length_cons, List.length_nil]; done) | ((try simp only [List.length_map, List.length_append, List.length_cons, List.length_nil, List.length_set, List.length_replicate, List.length_drop, List.length_take, true_and, and_true]); omega) | (dsimp only; omega)) ?_) | (first | refine shl8 (by omega) (by omega) ?_ | refine shl4 (by omega) (by omega) ?_ | refine shl1 (by omega) (by omega) ?_ | refine shl16 (by omega) (by omega) ?_ | refine shl24 (by omega) (by omega) ?_ | refine shr8 (by decide) ?_ | refine shr4 (by decide) ?_ | refine shr1 (by decide) ?_ | refine shr16 (by decide) ?_ | refine shr24 (by decide) ?_) | (with_reducible first | refine bit_mk and_1 ?_ | refine bit_mk and_15 ?_ | refine bit_mk and_255 ?_ | refine bit_mk and_4095 ?_ | refine bit_mk and_65535 ?_) | (refine quo_pos (by omega) (by omega) (by omega) ?_) | (refine rem_pos (by omega) (by omega) ?_)))
  · obtain ⟨s, hsk⟩ := at_of_lt (l := l) (k := k) (by omega)
    have hkl : k < l.length := by omega
    have hget : l[k] = s := by rw [List.getElem?_eq_getElem hkl] at hsk; exact Option.some.inj hsk
    rw [List.drop_eq_getElem_cons hkl, hget, idxT] at hf
    refine ix_map s (by omega) (by simpa using hsk) ?_
    (repeat' (first | (refine VS.mk ?_) | (refine dr_mk ?_) | (refine md_l ?_) | ((first | refine sp_not_dec ?_ ?_ | refine sp_dec ?_ ?_ | refine sp_beq ?_ ?_ | refine sp_bne ?_ ?_ | refine sp_seq ?_ ?_ | refine sp_sne ?_ ?_ | refine sp_not ?_ ?_ | refine sp_any ?_ ?_) <;> (intro hc; try simp only [List.length_map, List.length_append, List.length_cons, List.length_nil, Bool.and_true, Bool.and_eq_true, beq_iff_eq, Bool.and_eq_false_iff, beq_eq_false_iff_ne, Bool.true_and, ne_eq] at hc)) | (with_reducible first | refine norm_one ?_ | refine norm_app ?_ | refine norm_cutEnd ?_ | refine norm_cut ?_ | refine norm_bytes1 ?_ | refine norm_bytes2 ?_ | refine norm_setByte ?_ | refine norm_int1 ?_ | refine norm_mk ?_) | (with_reducible refine bytes_mk ?_) | (refine ar_byte ?_) | (refine ar_i64 (by omega) (by omega) ?_) | (refine ar_low ?_) | (refine ix_byteN (by omega) ?_) | (refine ix_byteK (by simp only [Int.reduceToNat]; exact rfl) (by decide) (by omega) ?_) | (refine ix_byte (by omega) (by omega) ?_) | (refine ix_rfl (by decide) rfl ?_) | (refine sd_mk rfl ?_) | (refine sd_mk (by decide +kernel) ?_) | (refine sd_mk (by first | (simp only [List.length_map, List.length_append, List.length_cons, List.length_nil]; done) | ((try simp only [List.length_map, List.length_append, List.length_cons, List.length_nil, List.length_set, List.length_replicate, List.length_drop, List.length_take, true_and, and_true]); omega) | (dsimp only; omega)) ?_) | (first | refine shl8 (by omega) (by omega) ?_ | refine shl4 (by omega) (by omega) ?_ | refine shl1 (by omega) (by omega) ?_ | refine shl16 (by omega) (by omega) ?_ | refine shl24 (by omega) (by omega) ?_ | refine shr8 (by decide) ?_ | refine shr4 (by decide) ?_ | refine shr1 (by decide) ?_ | refine shr16 (by decide) ?_ | refine shr24 (by decide) ?_) | (with_reducible first | refine bit_mk and_1 ?_ | refine bit_mk and_15 ?_ | refine bit_mk and_255 ?_ | refine bit_mk and_4095 ?_ | refine bit_mk and_65535 ?_) | (refine quo_pos (by omega) (by omega) (by omega) ?_) | (refine rem_pos (by omega) (by omega) ?_)))
    · rw [if_pos hc] at hf
      exact end_p (VS.mk (LeD.of_eq (congrArg (D.int .i64) hf.symm)))
    · rw [if_neg hc] at hf
      refine loop_end (k + 1) ⟨by omega, hf⟩ (by omega) ?_
      (repeat' (first | (refine VS.mk ?_) | exact trivial | exact rfl | refine And.intro ?_ ?_))
  · rw [List.drop_of_length_le (by omega), idxT] at hf
    exact end_p (VS.mk (LeD.of_eq (congrArg (D.int .i64) hf.symm)))

def stO (s : St) : List Ob := [.cells [.sl 3 (s.rest.map tokD) none, .int .i64 s.err]]
def signI (l : List (List UInt8)) (s : St) : Int × St := match s.rest with
  | [] => (-1, s)
  | t :: r => if t.kind = 3 then (if 0 ≤ idxT t.text l 0 then (idxT t.text l 0, ⟨r, s.err⟩) else (-1, s)) else (-1, s)
def failS (s : St) (e : Int) : St := if s.err = 0 then ⟨s.rest, e⟩ else s
theorem idxT_lt (x : List UInt8) : ∀ (l : List (List UInt8)) (k : Nat), idxT x l k < 0 → idxT x l k = -1
  | [], k, _ => rfl
  | s :: l, k, h => by
    rw [idxT] at h ⊢
    split at h
    · omega
    · rename_i hn; rw [if_neg hn]; exact idxT_lt x l (k + 1) h

theorem noE_le : LeD (.agg [.int .i64 0, .int .i64 0, .str [], .nilsl]) (exprU noE) := by
  unfold noE
  rw [exprU_mk]
  exact .agg (.cons (.refl _) (.cons (.refl _) (.cons (.refl _) (.cons (.nil 4) .nil))))
theorem fail_meets : Meets Try.prog n_expr_reader_fail (SpecF (fun ((s, e) : St × Int) => True) (fun (s, e) => [.loc 0 0, .int .i64 e]) (fun (s, _) => stO s) (fun _ => exprU noE) fun (s, e) => stO (failS s e)) := by
  refine meets_f tabOk Try.func24 rfl (by decide) ?_
  rintro ⟨s, e⟩ -
  refine ⟨Nat.le_refl _, by simp [Try.f24], fun E hE => ?_⟩
  refine vcOk _ ?_
  (repeat' (first | (refine VS.mk ?_) | (refine dr_mk ?_) | (refine md_l ?_) | ((first | refine sp_not_dec ?_ ?_ | refine sp_dec ?_ ?_ | refine sp_beq ?_ ?_ | refine sp_bne ?_ ?_ | refine sp_seq ?_ ?_ | refine sp_sne ?_ ?_ | refine sp_not ?_ ?_ | refine sp_any ?_ ?_) <;> (intro hc; try simp only [List.length_map, List.length_append, List.length_cons, List.length_nil, Bool.and_true, Bool.and_eq_true, beq_iff_eq, Bool.and_eq_false_iff, beq_eq_false_iff_ne, Bool.true_and, ne_eq] at hc)) | (with_reducible first | refine norm_one ?_ | refine norm_app ?_ | refine norm_cutEnd ?_ | refine norm_cut ?_ | refine norm_bytes1 ?_ | refine norm_bytes2 ?_ | refine norm_setByte ?_ | refine norm_int1 ?_ | refine norm_mk ?_) | (with_reducible refine bytes_mk ?_) | (refine ar_byte ?_) | (refine ar_i64 (by omega) (by omega) ?_) | (refine ar_low ?_) | (refine ix_byteN (by omega) ?_) | (refine ix_byteK (by simp only [Int.reduceToNat]; exact rfl) (by decide) (by omega) ?_) | (refine ix_byte (by omega) (by omega) ?_) | (refine ix_rfl (by decide) rfl ?_) | (refine sd_mk rfl ?_) | (refine sd_mk (by decide +kernel) ?_) | (refine sd_mk (by first | (simp only [List.length_map, List.length_append, List.length_cons, List.length_nil]; done) | ((try simp only [List.length_map, List.length_append, List.length_cons, List.length_nil, List.length_set, List.length_replicate, List.length_drop, List.length_take, true_and, and_true]); omega) | (dsimp only; omega)) ?_) | (first | refine shl8 (by omega) (by omega) ?_ | refine shl4 (by omega) (by omega) ?_ | refine shl1 (by omega) (by omega) ?_ | refine shl16 (by omega) (by omega) ?_ | refine shl24 (by omega) (by omega) ?_ | refine shr8 (by decide) ?_ | refine shr4 (by decide) ?_ | refine shr1 (by decide) ?_ | refine shr16 (by decide) ?_ | refine shr24 (by decide) ?_) | (with_reducible first | refine bit_mk and_1 ?_ | refine bit_mk and_15 ?_ | refine bit_mk and_255 ?_ | refine bit_mk and_4095 ?_ | refine bit_mk and_65535 ?_) | (refine quo_pos (by omega) (by omega) (by omega) ?_) | (refine rem_pos (by omega) (by omega) ?_)))
  · refine end_le (r1 := exprU noE) noE_le ?_ (Nat.le_refl _)
    refine end_mk ?_
    (repeat' (first | (refine VS.mk ?_) | exact trivial | exact rfl | refine And.intro ?_ ?_))
    · dsimp only; unfold failS stO; rw [if_pos hc]
  · refine end_le (r1 := exprU noE) noE_le ?_ (Nat.le_refl _)
    refine end_mk ?_
    (repeat' (first | (refine VS.mk ?_) | exact trivial | exact rfl | refine And.intro ?_ ?_))
    · dsimp only; unfold failS; rw [if_neg hc]; rfl

theorem sign_meets : Meets Try.prog n_expr_reader_sign (SpecF (fun ((s, l) : St × List (List UInt8)) => l.length ≤ 1000000000 ∧ s.rest.length ≤ 1000000000) (fun (s, l) => [.loc 0 0, .sl 1 (l.map .str) none]) (fun (s, _) => stO s) (fun (s, l) => .int .i64 (signI l s).1)
    fun (s, l) => stO (signI l s).2) := by
  refine meets_f tabOk Try.func18 rfl (by decide) ?_
  rintro ⟨⟨r, e⟩, l⟩ ⟨hl, hr⟩
  have hr : r.length ≤ 1000000000 := hr
  refine ⟨Nat.le_refl _, by simp [Try.f18], fun E hE => ?_⟩
  cases r with
  | nil =>
    refine vcOk _ ?_
    (repeat' (first | (refine VS.mk ?_) | (refine dr_mk ?_) | (refine md_l ?_) | ((first | refine sp_not_dec ?_ ?_ | refine sp_dec ?_ ?_ | refine sp_beq ?_ ?_ | refine sp_bne ?_ ?_ | refine sp_seq ?_ ?_ | refine sp_sne ?_ ?_ | refine sp_not ?_ ?_ | refine sp_any ?_ ?_) <;> (intro hc; (try simp only [List.length_map, List.length_append, List.length_cons, List.length_nil, Bool.and_true, Bool.and_eq_true, beq_iff_eq, Bool.and_eq_false_iff, beq_eq_false_iff_ne, Bool.true_and, ne_eq] at hc); (try (exfalso; omega)))) | (with_reducible first | refine norm_one ?_ | refine norm_app ?_ | refine norm_cutEnd ?_ | refine norm_cut ?_ | refine norm_bytes1 ?_ | refine norm_bytes2 ?_ | refine norm_setByte ?_ | refine norm_int1 ?_ | refine norm_mk ?_) | (with_reducible refine bytes_mk ?_) | (refine ar_byte ?_) | (refine ar_i64 (by omega) (by omega) ?_) | (refine ar_low ?_) | (refine ix_byteN (by omega) ?_) | (refine ix_byteK (by simp only [Int.reduceToNat]; exact rfl) (by decide) (by omega) ?_) | (refine ix_byte (by omega) (by omega) ?_) | (refine ix_rfl (by decide) rfl ?_) | (refine sd_mk rfl ?_) | (refine sd_mk (by decide +kernel) ?_) | (refine sd_mk (by first | (simp only [List.length_map, List.length_append, List.length_cons, List.length_nil]; done) | ((try simp only [List.length_map, List.length_append, List.length_cons, List.length_nil, List.length_set, List.length_replicate, List.length_drop, List.length_take, true_and, and_true]); omega) | (dsimp only; omega)) ?_) | (first | refine shl8 (by omega) (by omega) ?_ | refine shl4 (by omega) (by omega) ?_ | refine shl1 (by omega) (by omega) ?_ | refine shl16 (by omega) (by omega) ?_ | refine shl24 (by omega) (by omega) ?_ | refine shr8 (by decide) ?_ | refine shr4 (by decide) ?_ | refine shr1 (by decide) ?_ | refine shr16 (by decide) ?_ | refine shr24 (by decide) ?_) | (with_reducible first | refine bit_mk and_1 ?_ | refine bit_mk and_15 ?_ | refine bit_mk and_255 ?_ | refine bit_mk and_4095 ?_ | refine bit_mk and_65535 ?_) | (refine quo_pos (by omega) (by omega) (by omega) ?_) | (refine rem_pos (by omega) (by omega) ?_)))
    refine end_mk ?_
    (repeat' (first | (refine VS.mk ?_) | exact trivial | exact rfl | refine And.intro ?_ ?_))
  | cons t r =>
    have hr2 : r.length + 1 ≤ 1000000000 := hr
    refine vcOk _ ?_
    (repeat' (first | (refine VS.mk ?_) | (refine dr_mk ?_) | (refine md_l ?_) | ((first | refine sp_not_dec ?_ ?_ | refine sp_dec ?_ ?_ | refine sp_beq ?_ ?_ | refine sp_bne ?_ ?_ | refine sp_seq ?_ ?_ | refine sp_sne ?_ ?_ | refine sp_not ?_ ?_ | refine sp_any ?_ ?_) <;> (intro hc; (try simp only [List.length_map, List.length_append, List.length_cons, List.length_nil, Bool.and_true, Bool.and_eq_true, beq_iff_eq, Bool.and_eq_false_iff, beq_eq_false_iff_ne, Bool.true_and, ne_eq] at hc); (try (exfalso; omega)))) | (with_reducible first | refine norm_one ?_ | refine norm_app ?_ | refine norm_cutEnd ?_ | refine norm_cut ?_ | refine norm_bytes1 ?_ | refine norm_bytes2 ?_ | refine norm_setByte ?_ | refine norm_int1 ?_ | refine norm_mk ?_) | (with_reducible refine bytes_mk ?_) | (refine ar_byte ?_) | (refine ar_i64 (by omega) (by omega) ?_) | (refine ar_low ?_) | (refine ix_byteN (by omega) ?_) | (refine ix_byteK (by simp only [Int.reduceToNat]; exact rfl) (by decide) (by omega) ?_) | (refine ix_byte (by omega) (by omega) ?_) | (refine ix_rfl (by decide) rfl ?_) | (refine sd_mk rfl ?_) | (refine sd_mk (by decide +kernel) ?_) | (refine sd_mk (by first | (simp only [List.length_map, List.length_append, List.length_cons, List.length_nil]; done) | ((try simp only [List.length_map, List.length_append, List.length_cons, List.length_nil, List.length_set, List.length_replicate, List.length_drop, List.length_take, true_and, and_true]); omega) | (dsimp only; omega)) ?_) | (first | refine shl8 (by omega) (by omega) ?_ | refine shl4 (by omega) (by omega) ?_ | refine shl1 (by omega) (by omega) ?_ | refine shl16 (by omega) (by omega) ?_ | refine shl24 (by omega) (by omega) ?_ | refine shr8 (by decide) ?_ | refine shr4 (by decide) ?_ | refine shr1 (by decide) ?_ | refine shr16 (by decide) ?_ | refine shr24 (by decide) ?_) | (with_reducible first | refine bit_mk and_1 ?_ | refine bit_mk and_15 ?_ | refine bit_mk and_255 ?_ | refine bit_mk and_4095 ?_ | refine bit_mk and_65535 ?_) | (refine quo_pos (by omega) (by omega) (by omega) ?_) | (refine rem_pos (by omega) (by omega) ?_)))
    · refine end_mk ?_
      (repeat' (first | (refine VS.mk ?_) | exact trivial | exact rfl | refine And.intro ?_ ?_))
      all_goals (dsimp only [signI]; rw [if_neg hc]; try rfl)
    · refine call_p index_meets (l, t.text) hl (VS.mk (LeL.of_eq rfl)) ?_
      (repeat' (first | (refine VS.mk ?_) | (refine dr_mk ?_) | (refine md_l ?_) | ((first | refine sp_not_dec ?_ ?_ | refine sp_dec ?_ ?_ | refine sp_beq ?_ ?_ | refine sp_bne ?_ ?_ | refine sp_seq ?_ ?_ | refine sp_sne ?_ ?_ | refine sp_not ?_ ?_ | refine sp_any ?_ ?_) <;> (intro hc; (try simp only [List.length_map, List.length_append, List.length_cons, List.length_nil, Bool.and_true, Bool.and_eq_true, beq_iff_eq, Bool.and_eq_false_iff, beq_eq_false_iff_ne, Bool.true_and, ne_eq] at hc); (try (exfalso; omega)))) | (with_reducible first | refine norm_one ?_ | refine norm_app ?_ | refine norm_cutEnd ?_ | refine norm_cut ?_ | refine norm_bytes1 ?_ | refine norm_bytes2 ?_ | refine norm_setByte ?_ | refine norm_int1 ?_ | refine norm_mk ?_) | (with_reducible refine bytes_mk ?_) | (refine ar_byte ?_) | (refine ar_i64 (by omega) (by omega) ?_) | (refine ar_low ?_) | (refine ix_byteN (by omega) ?_) | (refine ix_byteK (by simp only [Int.reduceToNat]; exact rfl) (by decide) (by omega) ?_) | (refine ix_byte (by omega) (by omega) ?_) | (refine ix_rfl (by decide) rfl ?_) | (refine sd_mk rfl ?_) | (refine sd_mk (by decide +kernel) ?_) | (refine sd_mk (by first | (simp only [List.length_map, List.length_append, List.length_cons, List.length_nil]; done) | ((try simp only [List.length_map, List.length_append, List.length_cons, List.length_nil, List.length_set, List.length_replicate, List.length_drop, List.length_take, true_and, and_true]); omega) | (dsimp only; omega)) ?_) | (first | refine shl8 (by omega) (by omega) ?_ | refine shl4 (by omega) (by omega) ?_ | refine shl1 (by omega) (by omega) ?_ | refine shl16 (by omega) (by omega) ?_ | refine shl24 (by omega) (by omega) ?_ | refine shr8 (by decide) ?_ | refine shr4 (by decide) ?_ | refine shr1 (by decide) ?_ | refine shr16 (by decide) ?_ | refine shr24 (by decide) ?_) | (with_reducible first | refine bit_mk and_1 ?_ | refine bit_mk and_15 ?_ | refine bit_mk and_255 ?_ | refine bit_mk and_4095 ?_ | refine bit_mk and_65535 ?_) | (refine quo_pos (by omega) (by omega) (by omega) ?_) | (refine rem_pos (by omega) (by omega) ?_)))
      · refine end_mk ?_
        (repeat' (first | (refine VS.mk ?_) | exact trivial | exact rfl | refine And.intro ?_ ?_))
        all_goals (dsimp only [signI]; rw [if_pos (by assumption), if_pos hc]; try rfl)
      · refine end_mk ?_
        (repeat' (first | (refine VS.mk ?_) | exact trivial | exact rfl | refine And.intro ?_ ?_))
        all_goals (dsimp only [signI]; rw [if_pos (by assumption), if_neg hc])
        · exact congrArg (D.int .i64) (idxT_lt _ _ _ (by omega))
        · rfl
end Go.Proofs.Ytlilcfkcofafeaa

namespace Go.Proofs.Ytlilcfkcofafeaa
open Go Go.Plat
set_option linter.unusedVariables false
set_option linter.unusedSimpArgs false
set_option maxRecDepth 100000
set_option maxHeartbeats 2000000
attribute [local irreducible] NilS LookS NormM bitI BytesS NormL Arith QuoS RemS ShlS ShrS BitS CatS SplitS SideS IdxS CallS LoopEnd EndS ModeS DrawS AWP Meets
theorem kind_letter {c : UInt8} (h : kindB c = 97) : letterB c = true := by
  unfold kindB at h
  split at h
  · assumption
  split at h
  · cases h
  split at h <;> cases h
theorem kind_digit {c : UInt8} (h : kindB c = 48) : digitB c = true := by
  unfold kindB at h
  split at h
  · cases h
  split at h
  · assumption
  split at h <;> cases h
theorem kind_else {c : UInt8} (h : ¬ kindB c = 97) : letterB c = false := by
  unfold kindB at h
  split at h
  · exact (h rfl).elim
  · simpa using ‹¬ letterB c = true›
theorem kind_none {c : UInt8} (h : ¬ kindB c = 97) (h2 : ¬ kindB c = 48) : okC c = false := by
  have hl := kind_else h
  have hd : digitB c = false := by
    unfold kindB at h2
    rw [hl, if_neg (by decide)] at h2
    split at h2
    · exact (h2 rfl).elim
    · simpa using ‹¬ digitB c = true›
  unfold okC
  rw [hl, hd]
  rfl
theorem ok46 {c : UInt8} (h : ((c.toNat : Nat) : Int) = 46) : okC c = false := by
  have : c = 46 := UInt8.toNat_inj.1 (by exact_mod_cast h)
  subst this
  rfl
theorem okL {c : UInt8} (h : ¬ ((c.toNat : Nat) : Int) = 46) (h2 : letterB c = true ∨ digitB c = true) : okC c = true := by
  have n46 : (c == 46) = false := beq_eq_false_iff_ne.2 fun e => h (by rw [e]; rfl)
  unfold okC
  rw [n46]
  rcases h2 with h | h <;> rw [h] <;> simp
theorem nameB_bad {s : List UInt8} (h : s.all okC = false) : nameB s = false := by
  show (_ && letterB (s.getD 0 0) && s.all okC) = false
  rw [h, Bool.and_false]
theorem nameB_good {s : List UInt8} (h1 : 1 ≤ s.length ∧ s.length ≤ 10) (h2 : letterB (s.getD 0 0) = true) (h : s.all okC = true) : nameB s = true := by
  show (_ && letterB (s.getD 0 0) && s.all okC) = true
  rw [h, h2, decide_eq_true h1]
  rfl
attribute [local irreducible] letterB digitB kindB okC

theorem rname_any : Meets Try.prog n_plref1_Name (SpecP (fun _ : List UInt8 => True) (fun s => [.str s]) fun s => .bool (nameB s)) := by
  refine meets_f tabOk Try.func28 rfl (by decide) fun s _ => ?_
  refine ⟨Nat.le_refl _, by simp [Try.f28], fun E hE => ?_⟩
  refine vcOk _ ?_
  (repeat' (first | (refine VS.mk ?_) | (refine dr_mk ?_) | (refine md_l ?_) | ((first | refine sp_not_dec ?_ ?_ | refine sp_dec ?_ ?_ | refine sp_beq ?_ ?_ | refine sp_bne ?_ ?_ | refine sp_seq ?_ ?_ | refine sp_sne ?_ ?_ | refine sp_not ?_ ?_ | refine sp_any ?_ ?_) <;> (intro hc; try simp only [List.length_map, List.length_append, List.length_cons, List.length_nil, Bool.and_true, Bool.and_eq_true, beq_iff_eq, Bool.and_eq_false_iff, beq_eq_false_iff_ne, Bool.true_and, ne_eq] at hc)) | (with_reducible first | refine norm_one ?_ | refine norm_app ?_ | refine norm_cutEnd ?_ | refine norm_cut ?_ | refine norm_bytes1 ?_ | refine norm_bytes2 ?_ | refine norm_setByte ?_ | refine norm_int1 ?_ | refine norm_mk ?_) | (with_reducible refine bytes_mk ?_) | (refine ar_byte ?_) | (refine ar_i64 (by omega) (by omega) ?_) | (refine ar_low ?_) | (refine ix_byteN (by omega) ?_) | (refine ix_byteK (by simp only [Int.reduceToNat]; exact rfl) (by decide) (by omega) ?_) | (refine ix_byte (by omega) (by omega) ?_) | (refine ix_rfl (by decide) rfl ?_) | (refine sd_mk rfl ?_) | (refine sd_mk (by decide +kernel) ?_) | (refine sd_mk (by first | (simp only [List.length_map, List.length_append, List.length_cons, List.length_nil]; done) | ((try simp only [List.length_map, List.length_append, List.length_cons, List.length_nil, List.length_set, List.length_replicate, List.length_drop, List.length_take, true_and, and_true]); omega) | (dsimp only; omega)) ?_) | (first | refine shl8 (by omega) (by omega) ?_ | refine shl4 (by omega) (by omega) ?_ | refine shl1 (by omega) (by omega) ?_ | refine shl16 (by omega) (by omega) ?_ | refine shl24 (by omega) (by omega) ?_ | refine shr8 (by decide) ?_ | refine shr4 (by decide) ?_ | refine shr1 (by decide) ?_ | refine shr16 (by decide) ?_ | refine shr24 (by decide) ?_) | (with_reducible first | refine bit_mk and_1 ?_ | refine bit_mk and_15 ?_ | refine bit_mk and_255 ?_ | refine bit_mk and_4095 ?_ | refine bit_mk and_65535 ?_) | (refine quo_pos (by omega) (by omega) (by omega) ?_) | (refine rem_pos (by omega) (by omega) ?_)))
  · subst hc
    exact end_p (VS.mk (LeD.ff rfl))
  · refine end_p (VS.mk (LeD.ff ?_))
    unfold nameB
    rw [decide_eq_false (by omega)]
    rfl
  have hne : 0 < s.length := by
    cases s with
    | nil => exact (‹¬ ([] : List UInt8) = []› rfl).elim
    | cons a l => simp
  refine sd_mk ⟨by omega, by omega⟩ ?_
  (repeat' (first | (refine VS.mk ?_) | (refine dr_mk ?_) | (refine md_l ?_) | ((first | refine sp_not_dec ?_ ?_ | refine sp_dec ?_ ?_ | refine sp_beq ?_ ?_ | refine sp_bne ?_ ?_ | refine sp_seq ?_ ?_ | refine sp_sne ?_ ?_ | refine sp_not ?_ ?_ | refine sp_any ?_ ?_) <;> (intro hc; try simp only [List.length_map, List.length_append, List.length_cons, List.length_nil, Bool.and_true, Bool.and_eq_true, beq_iff_eq, Bool.and_eq_false_iff, beq_eq_false_iff_ne, Bool.true_and, ne_eq] at hc)) | (with_reducible first | refine norm_one ?_ | refine norm_app ?_ | refine norm_cutEnd ?_ | refine norm_cut ?_ | refine norm_bytes1 ?_ | refine norm_bytes2 ?_ | refine norm_setByte ?_ | refine norm_int1 ?_ | refine norm_mk ?_) | (with_reducible refine bytes_mk ?_) | (refine ar_byte ?_) | (refine ar_i64 (by omega) (by omega) ?_) | (refine ar_low ?_) | (refine ix_byteN (by omega) ?_) | (refine ix_byteK (by simp only [Int.reduceToNat]; exact rfl) (by decide) (by omega) ?_) | (refine ix_byte (by omega) (by omega) ?_) | (refine ix_rfl (by decide) rfl ?_) | (refine sd_mk rfl ?_) | (refine sd_mk (by decide +kernel) ?_) | (refine sd_mk (by first | (simp only [List.length_map, List.length_append, List.length_cons, List.length_nil]; done) | ((try simp only [List.length_map, List.length_append, List.length_cons, List.length_nil, List.length_set, List.length_replicate, List.length_drop, List.length_take, true_and, and_true]); omega) | (dsimp only; omega)) ?_) | (first | refine shl8 (by omega) (by omega) ?_ | refine shl4 (by omega) (by omega) ?_ | refine shl1 (by omega) (by omega) ?_ | refine shl16 (by omega) (by omega) ?_ | refine shl24 (by omega) (by omega) ?_ | refine shr8 (by decide) ?_ | refine shr4 (by decide) ?_ | refine shr1 (by decide) ?_ | refine shr16 (by decide) ?_ | refine shr24 (by decide) ?_) | (with_reducible first | refine bit_mk and_1 ?_ | refine bit_mk and_15 ?_ | refine bit_mk and_255 ?_ | refine bit_mk and_4095 ?_ | refine bit_mk and_65535 ?_) | (refine quo_pos (by omega) (by omega) (by omega) ?_) | (refine rem_pos (by omega) (by omega) ?_)))
  refine call_p kind_meets (s.getD 0 0) trivial (VS.mk (LeL.of_eq rfl)) ?_
  (repeat' (first | (refine VS.mk ?_) | (refine dr_mk ?_) | (refine md_l ?_) | ((first | refine sp_not_dec ?_ ?_ | refine sp_dec ?_ ?_ | refine sp_beq ?_ ?_ | refine sp_bne ?_ ?_ | refine sp_seq ?_ ?_ | refine sp_sne ?_ ?_ | refine sp_not ?_ ?_ | refine sp_any ?_ ?_) <;> (intro hc; try simp only [List.length_map, List.length_append, List.length_cons, List.length_nil, Bool.and_true, Bool.and_eq_true, beq_iff_eq, Bool.and_eq_false_iff, beq_eq_false_iff_ne, Bool.true_and, ne_eq] at hc)) | (with_reducible first | refine norm_one ?_ | refine norm_app ?_ | refine norm_cutEnd ?_ | refine norm_cut ?_ | refine norm_bytes1 ?_ | refine norm_bytes2 ?_ | refine norm_setByte ?_ | refine norm_int1 ?_ | refine norm_mk ?_) | (with_reducible refine bytes_mk ?_) | (refine ar_byte ?_) | (refine ar_i64 (by omega) (by omega) ?_) | (refine ar_low ?_) | (refine ix_byteN (by omega) ?_) | (refine ix_byteK (by simp only [Int.reduceToNat]; exact rfl) (by decide) (by omega) ?_) | (refine ix_byte (by omega) (by omega) ?_) | (refine ix_rfl (by decide) rfl ?_) | (refine sd_mk rfl ?_) | (refine sd_mk (by decide +kernel) ?_) | (refine sd_mk (by first | (simp only [List.length_map, List.length_append, List.length_cons, List.length_nil]; done) | ((try simp only [List.length_map, List.length_append, List.length_cons, List.length_nil, List.length_set, List.length_replicate, List.length_drop, List.length_take, true_and, and_true]); omega) | (dsimp only; omega)) ?_) | (first | refine shl8 (by omega) (by omega) ?_ | refine shl4 (by omega) (by omega) ?_ | refine shl1 (by omega) (by omega) ?_ | refine shl16 (by omega) (by omega) ?_ | refine shl24 (by omega) (by omega) ?_ | refine shr8 (by decide) ?_ | refine shr4 (by decide) ?_ | refine shr1 (by decide) ?_ | refine shr16 (by decide) ?_ | refine shr24 (by decide) ?_) | (with_reducible first | refine bit_mk and_1 ?_ | refine bit_mk and_15 ?_ | refine bit_mk and_255 ?_ | refine bit_mk and_4095 ?_ | refine bit_mk and_65535 ?_) | (refine quo_pos (by omega) (by omega) (by omega) ?_) | (refine rem_pos (by omega) (by omega) ?_)))
  · refine end_p (VS.mk (LeD.ff ?_))
    show (_ && letterB (s.getD 0 0) && _) = false
    rw [kind_else hc, Bool.and_false, Bool.false_and]
  have hl0 : letterB (s.getD 0 0) = true := kind_letter hc
  refine awp_loop (α := Nat) (fun k => k ≤ s.length ∧ (s.take k).all okC = true) (fun k => [(0, .str s), (18, .int .i64 s.length), (19, .int .i64 k)]) (fun _ => []) (fun k => s.length - k) (fun _ => by simp [hE]) 0 ⟨Nat.zero_le _, by simp⟩ ?_ ?_
  · (repeat' (first | (refine VS.mk ?_) | exact trivial | exact rfl | refine And.intro ?_ ?_))
  rintro k ⟨hk, hall⟩
  refine vcOk _ ?_
  (repeat' (first | (refine VS.mk ?_) | (refine dr_mk ?_) | (refine md_l ?_) | ((first | refine sp_not_dec ?_ ?_ | refine sp_dec ?_ ?_ | refine sp_beq ?_ ?_ | refine sp_bne ?_ ?_ | refine sp_seq ?_ ?_ | refine sp_sne ?_ ?_ | refine sp_not ?_ ?_ | refine sp_any ?_ ?_) <;> (intro hc; try simp only [List.length_map, List.length_append, List.length_cons, List.length_nil, Bool.and_true, Bool.and_eq_true, beq_iff_eq, Bool.and_eq_false_iff, beq_eq_false_iff_ne, Bool.true_and, ne_eq] at hc)) | (with_reducible first | refine norm_one ?_ | refine norm_app ?_ | refine norm_cutEnd ?_ | refine norm_cut ?_ | refine norm_bytes1 ?_ | refine norm_bytes2 ?_ | refine norm_setByte ?_ | refine norm_int1 ?_ | refine norm_mk ?_) | (with_reducible refine bytes_mk ?_) | (refine ar_byte ?_) | (refine ar_i64 (by omega) (by omega) ?_) | (refine ar_low ?_) | (refine ix_byteN (by omega) ?_) | (refine ix_byteK (by simp only [Int.reduceToNat]; exact rfl) (by decide) (by omega) ?_) | (refine ix_byte (by omega) (by omega) ?_) | (refine ix_rfl (by decide) rfl ?_) | (refine sd_mk rfl ?_) | (refine sd_mk (by decide +kernel) ?_) | (refine sd_mk (by first | (simp only [List.length_map, List.length_append, List.length_cons, List.length_nil]; done) | ((try simp only [List.length_map, List.length_append, List.length_cons, List.length_nil, List.length_set, List.length_replicate, List.length_drop, List.length_take, true_and, and_true]); omega) | (dsimp only; omega)) ?_) | (first | refine shl8 (by omega) (by omega) ?_ | refine shl4 (by omega) (by omega) ?_ | refine shl1 (by omega) (by omega) ?_ | refine shl16 (by omega) (by omega) ?_ | refine shl24 (by omega) (by omega) ?_ | refine shr8 (by decide) ?_ | refine shr4 (by decide) ?_ | refine shr1 (by decide) ?_ | refine shr16 (by decide) ?_ | refine shr24 (by decide) ?_) | (with_reducible first | refine bit_mk and_1 ?_ | refine bit_mk and_15 ?_ | refine bit_mk and_255 ?_ | refine bit_mk and_4095 ?_ | refine bit_mk and_65535 ?_) | (refine quo_pos (by omega) (by omega) (by omega) ?_) | (refine rem_pos (by omega) (by omega) ?_)))
  · have hsp := all_stop (p := okC) (s := s) (k := k) (by omega)
    rw [Int.toNat_natCast] at hc
    exact end_p (VS.mk (LeD.ff (nameB_bad (hsp (ok46 hc)))))
  · have hidx : ((k : Int)).toNat = k := Int.toNat_natCast k
    have hk' : k < s.length := by omega
    have hst := all_take (p := okC) hk'
    have hsp := all_stop (p := okC) hk'
    have h46 := hc
    rw [hidx] at h46
    refine call_p kind_meets (s.getD k 0) trivial (VS.mk (LeL.of_eq (by rw [hidx]; rfl))) ?_
    (repeat' (first | (refine VS.mk ?_) | (refine dr_mk ?_) | (refine md_l ?_) | ((first | refine sp_not_dec ?_ ?_ | refine sp_dec ?_ ?_ | refine sp_beq ?_ ?_ | refine sp_bne ?_ ?_ | refine sp_seq ?_ ?_ | refine sp_sne ?_ ?_ | refine sp_not ?_ ?_ | refine sp_any ?_ ?_) <;> (intro hc; try simp only [List.length_map, List.length_append, List.length_cons, List.length_nil, Bool.and_true, Bool.and_eq_true, beq_iff_eq, Bool.and_eq_false_iff, beq_eq_false_iff_ne, Bool.true_and, ne_eq] at hc)) | (with_reducible first | refine norm_one ?_ | refine norm_app ?_ | refine norm_cutEnd ?_ | refine norm_cut ?_ | refine norm_bytes1 ?_ | refine norm_bytes2 ?_ | refine norm_setByte ?_ | refine norm_int1 ?_ | refine norm_mk ?_) | (with_reducible refine bytes_mk ?_) | (refine ar_byte ?_) | (refine ar_i64 (by omega) (by omega) ?_) | (refine ar_low ?_) | (refine ix_byteN (by omega) ?_) | (refine ix_byteK (by simp only [Int.reduceToNat]; exact rfl) (by decide) (by omega) ?_) | (refine ix_byte (by omega) (by omega) ?_) | (refine ix_rfl (by decide) rfl ?_) | (refine sd_mk rfl ?_) | (refine sd_mk (by decide +kernel) ?_) | (refine sd_mk (by first | (simp only [List.length_map, List.length_append, List.length_cons, List.length_nil]; done) | ((try simp only [List.length_map, List.length_append, List.length_cons, List.length_nil, List.length_set, List.length_replicate, List.length_drop, List.length_take, true_and, and_true]); omega) | (dsimp only; omega)) ?_) | (first | refine shl8 (by omega) (by omega) ?_ | refine shl4 (by omega) (by omega) ?_ | refine shl1 (by omega) (by omega) ?_ | refine shl16 (by omega) (by omega) ?_ | refine shl24 (by omega) (by omega) ?_ | refine shr8 (by decide) ?_ | refine shr4 (by decide) ?_ | refine shr1 (by decide) ?_ | refine shr16 (by decide) ?_ | refine shr24 (by decide) ?_) | (with_reducible first | refine bit_mk and_1 ?_ | refine bit_mk and_15 ?_ | refine bit_mk and_255 ?_ | refine bit_mk and_4095 ?_ | refine bit_mk and_65535 ?_) | (refine quo_pos (by omega) (by omega) (by omega) ?_) | (refine rem_pos (by omega) (by omega) ?_)))
    · refine call_p kind_meets (s.getD k 0) trivial (VS.mk (LeL.of_eq (by rw [hidx]; rfl))) ?_
      (repeat' (first | (refine VS.mk ?_) | (refine dr_mk ?_) | (refine md_l ?_) | ((first | refine sp_not_dec ?_ ?_ | refine sp_dec ?_ ?_ | refine sp_beq ?_ ?_ | refine sp_bne ?_ ?_ | refine sp_seq ?_ ?_ | refine sp_sne ?_ ?_ | refine sp_not ?_ ?_ | refine sp_any ?_ ?_) <;> (intro hc; try simp only [List.length_map, List.length_append, List.length_cons, List.length_nil, Bool.and_true, Bool.and_eq_true, beq_iff_eq, Bool.and_eq_false_iff, beq_eq_false_iff_ne, Bool.true_and, ne_eq] at hc)) | (with_reducible first | refine norm_one ?_ | refine norm_app ?_ | refine norm_cutEnd ?_ | refine norm_cut ?_ | refine norm_bytes1 ?_ | refine norm_bytes2 ?_ | refine norm_setByte ?_ | refine norm_int1 ?_ | refine norm_mk ?_) | (with_reducible refine bytes_mk ?_) | (refine ar_byte ?_) | (refine ar_i64 (by omega) (by omega) ?_) | (refine ar_low ?_) | (refine ix_byteN (by omega) ?_) | (refine ix_byteK (by simp only [Int.reduceToNat]; exact rfl) (by decide) (by omega) ?_) | (refine ix_byte (by omega) (by omega) ?_) | (refine ix_rfl (by decide) rfl ?_) | (refine sd_mk rfl ?_) | (refine sd_mk (by decide +kernel) ?_) | (refine sd_mk (by first | (simp only [List.length_map, List.length_append, List.length_cons, List.length_nil]; done) | ((try simp only [List.length_map, List.length_append, List.length_cons, List.length_nil, List.length_set, List.length_replicate, List.length_drop, List.length_take, true_and, and_true]); omega) | (dsimp only; omega)) ?_) | (first | refine shl8 (by omega) (by omega) ?_ | refine shl4 (by omega) (by omega) ?_ | refine shl1 (by omega) (by omega) ?_ | refine shl16 (by omega) (by omega) ?_ | refine shl24 (by omega) (by omega) ?_ | refine shr8 (by decide) ?_ | refine shr4 (by decide) ?_ | refine shr1 (by decide) ?_ | refine shr16 (by decide) ?_ | refine shr24 (by decide) ?_) | (with_reducible first | refine bit_mk and_1 ?_ | refine bit_mk and_15 ?_ | refine bit_mk and_255 ?_ | refine bit_mk and_4095 ?_ | refine bit_mk and_65535 ?_) | (refine quo_pos (by omega) (by omega) (by omega) ?_) | (refine rem_pos (by omega) (by omega) ?_)))
      · exact end_p (VS.mk (LeD.ff (nameB_bad (hsp (kind_none (by assumption) hc)))))
      · refine loop_end (k + 1) ⟨by omega, by rw [hst, hall, okL h46 (.inr (kind_digit hc))]; rfl⟩ (by omega) ?_
        (repeat' (first | (refine VS.mk ?_) | exact trivial | exact rfl | refine And.intro ?_ ?_))
    · refine loop_end (k + 1) ⟨by omega, by rw [hst, hall, okL h46 (.inl (kind_letter hc))]; rfl⟩ (by omega) ?_
      (repeat' (first | (refine VS.mk ?_) | exact trivial | exact rfl | refine And.intro ?_ ?_))
  · have hlen : (s.length : Int) ≤ 10 := by omega
    rw [List.take_of_length_le (by omega)] at hall
    exact end_p (VS.mk (LeD.tt (nameB_good ⟨by omega, by omega⟩ hl0 hall)))
theorem rname_meets : Meets Try.prog n_plref1_Name (SpecP (fun s : List UInt8 => s.length ≤ 1000000000) (fun s => [.str s]) fun s => .bool (nameB s)) := meets_sub rname_any fun _ _ => trivial
end Go.Proofs.Ytlilcfkcofafeaa

namespace Go.Proofs.Ytlilcfkcofafeaa
open Go Go.Plat
set_option linter.unusedVariables false
set_option linter.unusedSimpArgs false
set_option maxRecDepth 100000
set_option maxHeartbeats 2000000
attribute [local irreducible] NilS LookS NormM bitI BytesS NormL Arith QuoS RemS ShlS ShrS BitS CatS SplitS SideS IdxS CallS LoopEnd EndS ModeS DrawS AWP Meets
attribute [local irreducible] signedI exprD nodes OExpr.kind OExpr.n OExpr.name OExpr.kids letterB digitB kindB nameB

def strT (t : List UInt8) : Int := if t = [124] then 1 else if t = [38] then 2 else if t = [60, 60] then 3 else if t = [62, 62] then 3 else if t = [43] then 4 else if t = [45] then 4 else if t = [42] then 5 else 0
def kndT (t : List UInt8) : Int := if t = [124] then 11 else if t = [38] then 10 else if t = [60, 60] then 8 else if t = [62, 62] then 9 else if t = [43] then 6 else if t = [45] then 7 else if t = [42] then 5 else 0
theorem strength_meets : Meets Try.prog n_plref1_strength (SpecP (fun _ : List UInt8 => True) (fun t => [.str t]) fun t => .tup [.int .i64 (strT t), .int .i64 (kndT t)]) := by
  refine meets_f tabOk Try.func20 rfl (by decide) fun t _ => ?_
  refine ⟨Nat.le_refl _, by simp [Try.f20], fun E hE => ?_⟩
  refine vcOk _ ?_
  (repeat' (first | (refine VS.mk ?_) | (refine dr_mk ?_) | (refine md_l ?_) | ((first | refine sp_not_dec ?_ ?_ | refine sp_dec ?_ ?_ | refine sp_beq ?_ ?_ | refine sp_bne ?_ ?_ | refine sp_seq ?_ ?_ | refine sp_sne ?_ ?_ | refine sp_not ?_ ?_ | refine sp_any ?_ ?_) <;> (intro hc; (try simp only [List.length_map, List.length_append, List.length_cons, List.length_nil, Bool.and_true, Bool.and_eq_true, beq_iff_eq, Bool.and_eq_false_iff, beq_eq_false_iff_ne, Bool.true_and, ne_eq] at hc); (try (exfalso; omega)))) | (with_reducible first | refine norm_one ?_ | refine norm_app ?_ | refine norm_cutEnd ?_ | refine norm_cut ?_ | refine norm_bytes1 ?_ | refine norm_bytes2 ?_ | refine norm_setByte ?_ | refine norm_int1 ?_ | refine norm_mk ?_) | (with_reducible refine bytes_mk ?_) | (refine ar_byte ?_) | (refine ar_i64 (by omega) (by omega) ?_) | (refine ar_low ?_) | (refine ix_byteN (by omega) ?_) | (refine ix_byteK (by simp only [Int.reduceToNat]; exact rfl) (by decide) (by omega) ?_) | (refine ix_byte (by omega) (by omega) ?_) | (refine ix_rfl (by decide) rfl ?_) | (refine sd_mk rfl ?_) | (refine sd_mk (by decide +kernel) ?_) | (refine sd_mk (by first | (simp only [List.length_map, List.length_append, List.length_cons, List.length_nil]; done) | ((try simp only [List.length_map, List.length_append, List.length_cons, List.length_nil, List.length_set, List.length_replicate, List.length_drop, List.length_take, true_and, and_true]); omega) | (dsimp only; omega)) ?_) | (first | refine shl8 (by omega) (by omega) ?_ | refine shl4 (by omega) (by omega) ?_ | refine shl1 (by omega) (by omega) ?_ | refine shl16 (by omega) (by omega) ?_ | refine shl24 (by omega) (by omega) ?_ | refine shr8 (by decide) ?_ | refine shr4 (by decide) ?_ | refine shr1 (by decide) ?_ | refine shr16 (by decide) ?_ | refine shr24 (by decide) ?_) | (with_reducible first | refine bit_mk and_1 ?_ | refine bit_mk and_15 ?_ | refine bit_mk and_255 ?_ | refine bit_mk and_4095 ?_ | refine bit_mk and_65535 ?_) | (refine quo_pos (by omega) (by omega) (by omega) ?_) | (refine rem_pos (by omega) (by omega) ?_)))
  all_goals (refine end_p (VS.mk (LeD.of_eq ?_)); unfold strT kndT)
  all_goals (first | (subst hc; rfl) | simp [*])

structure RSt where
  at_ : Nat
  errs : List Int
def rOb (L : List OTok) (s : RSt) : List Ob := [.cells [.sl 3 (L.map tokD) none, .int .i64 (s.at_ : Nat), .sl 1 (s.errs.map (.int .i64)) (some 1)], .spare s.errs.length]
def rsign (L : List OTok) (s : RSt) : List UInt8 := match L[s.at_]? with | some t => if t.kind = 3 then t.text else [] | none => []
def rbad (s : RSt) (e : Int) : RSt := ⟨s.at_, s.errs ++ [e]⟩

theorem rsign_meets (L : List OTok) : Meets Try.prog n_plref1_P_sign (SpecF (fun s : RSt => L.length ≤ 1000000000 ∧ s.at_ ≤ L.length) (fun _ => [.loc 0 0]) (rOb L) (fun s => .str (rsign L s)) fun s => rOb L s) := by
  refine meets_f tabOk Try.func21 rfl (by decide) ?_
  rintro s ⟨hL, hs⟩
  refine ⟨Nat.le_refl _, by simp [Try.f21], fun E hE => ?_⟩
  refine vcOk _ ?_
  (repeat' (first | (refine VS.mk ?_) | (refine dr_mk ?_) | (refine md_l ?_) | ((first | refine sp_not_dec ?_ ?_ | refine sp_dec ?_ ?_ | refine sp_beq ?_ ?_ | refine sp_bne ?_ ?_ | refine sp_seq ?_ ?_ | refine sp_sne ?_ ?_ | refine sp_not ?_ ?_ | refine sp_any ?_ ?_) <;> (intro hc; (try simp only [List.length_map, List.length_append, List.length_cons, List.length_nil, Bool.and_true, Bool.and_eq_true, beq_iff_eq, Bool.and_eq_false_iff, beq_eq_false_iff_ne, Bool.true_and, ne_eq] at hc); (try (exfalso; omega)))) | (with_reducible first | refine norm_one ?_ | refine norm_app ?_ | refine norm_cutEnd ?_ | refine norm_cut ?_ | refine norm_bytes1 ?_ | refine norm_bytes2 ?_ | refine norm_setByte ?_ | refine norm_int1 ?_ | refine norm_mk ?_) | (with_reducible refine bytes_mk ?_) | (refine ar_byte ?_) | (refine ar_i64 (by omega) (by omega) ?_) | (refine ar_low ?_) | (refine ix_byteN (by omega) ?_) | (refine ix_byteK (by simp only [Int.reduceToNat]; exact rfl) (by decide) (by omega) ?_) | (refine ix_byte (by omega) (by omega) ?_) | (refine ix_rfl (by decide) rfl ?_) | (refine sd_mk rfl ?_) | (refine sd_mk (by decide +kernel) ?_) | (refine sd_mk (by first | (simp only [List.length_map, List.length_append, List.length_cons, List.length_nil]; done) | ((try simp only [List.length_map, List.length_append, List.length_cons, List.length_nil, List.length_set, List.length_replicate, List.length_drop, List.length_take, true_and, and_true]); omega) | (dsimp only; omega)) ?_) | (first | refine shl8 (by omega) (by omega) ?_ | refine shl4 (by omega) (by omega) ?_ | refine shl1 (by omega) (by omega) ?_ | refine shl16 (by omega) (by omega) ?_ | refine shl24 (by omega) (by omega) ?_ | refine shr8 (by decide) ?_ | refine shr4 (by decide) ?_ | refine shr1 (by decide) ?_ | refine shr16 (by decide) ?_ | refine shr24 (by decide) ?_) | (with_reducible first | refine bit_mk and_1 ?_ | refine bit_mk and_15 ?_ | refine bit_mk and_255 ?_ | refine bit_mk and_4095 ?_ | refine bit_mk and_65535 ?_) | (refine quo_pos (by omega) (by omega) (by omega) ?_) | (refine rem_pos (by omega) (by omega) ?_)))
  · obtain ⟨t, ht⟩ := at_of_lt (l := L) (k := s.at_) (by omega)
    have hr : rsign L s = if t.kind = 3 then t.text else [] := by unfold rsign; rw [ht]
    refine ix_map t (by omega) (by simpa using ht) ?_
    (repeat' (first | (refine VS.mk ?_) | (refine dr_mk ?_) | (refine md_l ?_) | ((first | refine sp_not_dec ?_ ?_ | refine sp_dec ?_ ?_ | refine sp_beq ?_ ?_ | refine sp_bne ?_ ?_ | refine sp_seq ?_ ?_ | refine sp_sne ?_ ?_ | refine sp_not ?_ ?_ | refine sp_any ?_ ?_) <;> (intro hc; (try simp only [List.length_map, List.length_append, List.length_cons, List.length_nil, Bool.and_true, Bool.and_eq_true, beq_iff_eq, Bool.and_eq_false_iff, beq_eq_false_iff_ne, Bool.true_and, ne_eq] at hc); (try (exfalso; omega)))) | (with_reducible first | refine norm_one ?_ | refine norm_app ?_ | refine norm_cutEnd ?_ | refine norm_cut ?_ | refine norm_bytes1 ?_ | refine norm_bytes2 ?_ | refine norm_setByte ?_ | refine norm_int1 ?_ | refine norm_mk ?_) | (with_reducible refine bytes_mk ?_) | (refine ar_byte ?_) | (refine ar_i64 (by omega) (by omega) ?_) | (refine ar_low ?_) | (refine ix_byteN (by omega) ?_) | (refine ix_byteK (by simp only [Int.reduceToNat]; exact rfl) (by decide) (by omega) ?_) | (refine ix_byte (by omega) (by omega) ?_) | (refine ix_rfl (by decide) rfl ?_) | (refine sd_mk rfl ?_) | (refine sd_mk (by decide +kernel) ?_) | (refine sd_mk (by first | (simp only [List.length_map, List.length_append, List.length_cons, List.length_nil]; done) | ((try simp only [List.length_map, List.length_append, List.length_cons, List.length_nil, List.length_set, List.length_replicate, List.length_drop, List.length_take, true_and, and_true]); omega) | (dsimp only; omega)) ?_) | (first | refine shl8 (by omega) (by omega) ?_ | refine shl4 (by omega) (by omega) ?_ | refine shl1 (by omega) (by omega) ?_ | refine shl16 (by omega) (by omega) ?_ | refine shl24 (by omega) (by omega) ?_ | refine shr8 (by decide) ?_ | refine shr4 (by decide) ?_ | refine shr1 (by decide) ?_ | refine shr16 (by decide) ?_ | refine shr24 (by decide) ?_) | (with_reducible first | refine bit_mk and_1 ?_ | refine bit_mk and_15 ?_ | refine bit_mk and_255 ?_ | refine bit_mk and_4095 ?_ | refine bit_mk and_65535 ?_) | (refine quo_pos (by omega) (by omega) (by omega) ?_) | (refine rem_pos (by omega) (by omega) ?_)))
    · refine ix_map t (by omega) (by simpa using ht) ?_
      (repeat' (first | (refine VS.mk ?_) | (refine dr_mk ?_) | (refine md_l ?_) | ((first | refine sp_not_dec ?_ ?_ | refine sp_dec ?_ ?_ | refine sp_beq ?_ ?_ | refine sp_bne ?_ ?_ | refine sp_seq ?_ ?_ | refine sp_sne ?_ ?_ | refine sp_not ?_ ?_ | refine sp_any ?_ ?_) <;> (intro hc; (try simp only [List.length_map, List.length_append, List.length_cons, List.length_nil, Bool.and_true, Bool.and_eq_true, beq_iff_eq, Bool.and_eq_false_iff, beq_eq_false_iff_ne, Bool.true_and, ne_eq] at hc); (try (exfalso; omega)))) | (with_reducible first | refine norm_one ?_ | refine norm_app ?_ | refine norm_cutEnd ?_ | refine norm_cut ?_ | refine norm_bytes1 ?_ | refine norm_bytes2 ?_ | refine norm_setByte ?_ | refine norm_int1 ?_ | refine norm_mk ?_) | (with_reducible refine bytes_mk ?_) | (refine ar_byte ?_) | (refine ar_i64 (by omega) (by omega) ?_) | (refine ar_low ?_) | (refine ix_byteN (by omega) ?_) | (refine ix_byteK (by simp only [Int.reduceToNat]; exact rfl) (by decide) (by omega) ?_) | (refine ix_byte (by omega) (by omega) ?_) | (refine ix_rfl (by decide) rfl ?_) | (refine sd_mk rfl ?_) | (refine sd_mk (by decide +kernel) ?_) | (refine sd_mk (by first | (simp only [List.length_map, List.length_append, List.length_cons, List.length_nil]; done) | ((try simp only [List.length_map, List.length_append, List.length_cons, List.length_nil, List.length_set, List.length_replicate, List.length_drop, List.length_take, true_and, and_true]); omega) | (dsimp only; omega)) ?_) | (first | refine shl8 (by omega) (by omega) ?_ | refine shl4 (by omega) (by omega) ?_ | refine shl1 (by omega) (by omega) ?_ | refine shl16 (by omega) (by omega) ?_ | refine shl24 (by omega) (by omega) ?_ | refine shr8 (by decide) ?_ | refine shr4 (by decide) ?_ | refine shr1 (by decide) ?_ | refine shr16 (by decide) ?_ | refine shr24 (by decide) ?_) | (with_reducible first | refine bit_mk and_1 ?_ | refine bit_mk and_15 ?_ | refine bit_mk and_255 ?_ | refine bit_mk and_4095 ?_ | refine bit_mk and_65535 ?_) | (refine quo_pos (by omega) (by omega) (by omega) ?_) | (refine rem_pos (by omega) (by omega) ?_)))
      rw [if_pos hc] at hr
      refine end_mk ?_
      (repeat' (first | (refine VS.mk ?_) | exact trivial | exact rfl | refine And.intro ?_ ?_))
      rw [hr]
    · rw [if_neg hc] at hr
      refine end_mk ?_
      (repeat' (first | (refine VS.mk ?_) | exact trivial | exact rfl | refine And.intro ?_ ?_))
      rw [hr]
      try rfl
  · have hr : rsign L s = [] := by unfold rsign; rw [List.getElem?_eq_none (by omega)]
    refine end_mk ?_
    (repeat' (first | (refine VS.mk ?_) | exact trivial | exact rfl | refine And.intro ?_ ?_))
    rw [hr]
    try rfl

theorem rbad_meets (L : List OTok) : Meets Try.prog n_plref1_P_bad (SpecF (fun ((s, e) : RSt × Int) => s.errs.length ≤ 1000) (fun (_, e) => [.loc 0 0, .int .i64 e]) (fun (s, _) => rOb L s) (fun _ => exprU noE) fun (s, e) => rOb L (rbad s e)) := by
  refine meets_f tabOk Try.func27 rfl (by decide) ?_
  rintro ⟨s, e⟩ hs
  have hs : s.errs.length ≤ 1000 := hs
  refine ⟨Nat.le_refl _, by simp [Try.f27], fun E hE => ?_⟩
  refine vcOk _ ?_
  (repeat' (first | (refine VS.mk ?_) | (refine dr_mk ?_) | (refine md_l ?_) | ((first | refine sp_not_dec ?_ ?_ | refine sp_dec ?_ ?_ | refine sp_beq ?_ ?_ | refine sp_bne ?_ ?_ | refine sp_seq ?_ ?_ | refine sp_sne ?_ ?_ | refine sp_not ?_ ?_ | refine sp_any ?_ ?_) <;> (intro hc; (try simp only [List.length_map, List.length_append, List.length_cons, List.length_nil, Bool.and_true, Bool.and_eq_true, beq_iff_eq, Bool.and_eq_false_iff, beq_eq_false_iff_ne, Bool.true_and, ne_eq] at hc); (try (exfalso; omega)))) | (with_reducible first | refine norm_one ?_ | refine norm_app ?_ | refine norm_cutEnd ?_ | refine norm_cut ?_ | refine norm_bytes1 ?_ | refine norm_bytes2 ?_ | refine norm_setByte ?_ | refine norm_int1 ?_ | refine norm_mk ?_) | (with_reducible refine bytes_mk ?_) | (refine ar_byte ?_) | (refine ar_i64 (by omega) (by omega) ?_) | (refine ar_low ?_) | (refine ix_byteN (by omega) ?_) | (refine ix_byteK (by simp only [Int.reduceToNat]; exact rfl) (by decide) (by omega) ?_) | (refine ix_byte (by omega) (by omega) ?_) | (refine ix_rfl (by decide) rfl ?_) | (refine sd_mk rfl ?_) | (refine sd_mk (by decide +kernel) ?_) | (refine sd_mk (by first | (simp only [List.length_map, List.length_append, List.length_cons, List.length_nil]; done) | ((try simp only [List.length_map, List.length_append, List.length_cons, List.length_nil, List.length_set, List.length_replicate, List.length_drop, List.length_take, true_and, and_true]); omega) | (dsimp only; omega)) ?_) | (first | refine shl8 (by omega) (by omega) ?_ | refine shl4 (by omega) (by omega) ?_ | refine shl1 (by omega) (by omega) ?_ | refine shl16 (by omega) (by omega) ?_ | refine shl24 (by omega) (by omega) ?_ | refine shr8 (by decide) ?_ | refine shr4 (by decide) ?_ | refine shr1 (by decide) ?_ | refine shr16 (by decide) ?_ | refine shr24 (by decide) ?_) | (with_reducible first | refine bit_mk and_1 ?_ | refine bit_mk and_15 ?_ | refine bit_mk and_255 ?_ | refine bit_mk and_4095 ?_ | refine bit_mk and_65535 ?_) | (refine quo_pos (by omega) (by omega) (by omega) ?_) | (refine rem_pos (by omega) (by omega) ?_)))
  refine end_le (r1 := exprU noE) noE_le ?_ (Nat.le_refl _)
  refine end_mk ?_
  (repeat' (first | (refine VS.mk ?_) | exact trivial | exact rfl | refine And.intro ?_ ?_))
  all_goals (dsimp only [rOb, rbad]; rw [List.map_append]; simp)
end Go.Proofs.Ytlilcfkcofafeaa

namespace Go.Proofs.Ytlilcfkcofafeaa
open Go Go.Plat
set_option linter.unusedVariables false
set_option linter.unusedSimpArgs false
set_option maxRecDepth 100000
set_option maxHeartbeats 2000000
attribute [local irreducible] NilS LookS NormM bitI BytesS NormL Arith QuoS RemS ShlS ShrS BitS CatS SplitS SideS IdxS CallS LoopEnd EndS ModeS DrawS AWP Meets
attribute [local irreducible] signedI exprD nodes OExpr.kind OExpr.n OExpr.name OExpr.kids letterB digitB kindB nameB rsign rbad strT kndT

def rnext (s : RSt) : RSt := ⟨s.at_ + 1, s.errs⟩
def rloopF (L : List OTok) (least : Int) (sub : Int → RSt → OExpr × RSt) : Nat → OExpr → RSt → OExpr × RSt
  | 0, e, s => (e, s)
  | g + 1, e, s => if s.errs = [] then (if strT (rsign L s) < least then (e, s)
      else rloopF L least sub g (.mk (kndT (rsign L s)) 0 [] [e, (sub (strT (rsign L s) + 1) (rnext s)).1]) (sub (strT (rsign L s) + 1) (rnext s)).2)
    else (e, s)
def climbF (L : List OTok) (prime : RSt → OExpr × RSt) : Nat → Int → RSt → OExpr × RSt
  | 0, _, s => prime s
  | g + 1, least, s => rloopF L least (climbF L prime g) (L.length + 1 - (prime s).2.at_) (prime s).1 (prime s).2
def rtok (L : List OTok) (s : RSt) : OExpr × RSt := match L[s.at_]? with
  | none => (noE, rbad s 9)
  | some t => if t.kind = 2 then (.mk 1 (signedI t.n 32) [] [], rnext s)
    else if t.kind = 1 then (if nameB t.text = true then (.mk 2 0 t.text [], rnext s) else (noE, rbad (rnext s) 7))
    else (noE, rbad (rnext s) 2)
def primeStep (L : List OTok) (prime : RSt → OExpr × RSt) (s : RSt) : OExpr × RSt :=
  if rsign L s = [45] then (.mk 3 0 [] [(prime (rnext s)).1], (prime (rnext s)).2)
  else if rsign L s = [126] then (.mk 4 0 [] [(prime (rnext s)).1], (prime (rnext s)).2)
  else if rsign L s = [40] then
    (if rsign L (climbF L prime 5 1 (rnext s)).2 = [41] then ((climbF L prime 5 1 (rnext s)).1, rnext (climbF L prime 5 1 (rnext s)).2)
     else (noE, rbad (climbF L prime 5 1 (rnext s)).2 2))
  else rtok L s
def primeF (L : List OTok) : Nat → RSt → OExpr × RSt
  | 0, s => (noE, rbad s 10)
  | f + 1, s => primeStep L (primeF L f) s

/-- it goes forward, stays within, and says few faults -/
def Fwd (L : List OTok) (m : Nat) (p : RSt → OExpr × RSt) : Prop := ∀ s, s.errs = [] → s.at_ ≤ L.length → s.at_ ≤ (p s).2.at_ ∧ (p s).2.at_ ≤ L.length ∧ (p s).2.errs.length ≤ m
theorem rsign_in {L : List OTok} {s : RSt} (h : rsign L s ≠ []) : s.at_ < L.length := by
  unfold rsign at h
  cases hl : L[s.at_]? with
  | none => rw [hl] at h; exact absurd rfl h
  | some t => exact (List.getElem?_eq_some_iff.1 hl).1
theorem str_in {L : List OTok} {s : RSt} (h : ¬ strT (rsign L s) < 1) : s.at_ < L.length := rsign_in fun h0 => h (by rw [h0]; unfold strT; decide)
theorem str_bd (t : List UInt8) : 0 ≤ strT t ∧ strT t ≤ 5 := by
  unfold strT
  repeat' split
  all_goals decide
theorem rloop_fwd {L : List OTok} {m : Nat} {least : Int} {sub : Int → RSt → OExpr × RSt} (hl : 1 ≤ least) (hs : ∀ k, least < k → Fwd L m (sub k)) : ∀ (g : Nat) (e : OExpr) (s : RSt), s.errs.length ≤ m → s.at_ ≤ L.length →
    s.at_ ≤ (rloopF L least sub g e s).2.at_ ∧ (rloopF L least sub g e s).2.at_ ≤ L.length ∧ (rloopF L least sub g e s).2.errs.length ≤ m
  | 0, e, s, h1, h2 => ⟨Nat.le_refl _, h2, h1⟩
  | g + 1, e, s, h1, h2 => by
    rw [rloopF]
    split
    · rename_i he
      split
      · exact ⟨Nat.le_refl _, h2, h1⟩
      · rename_i hst
        have hin := str_in (L := L) (s := s) (by omega)
        obtain ⟨a1, a2, a3⟩ := hs (strT (rsign L s) + 1) (by omega) (rnext s) he hin
        have ha : s.at_ + 1 ≤ _ := a1
        obtain ⟨b1, b2, b3⟩ := rloop_fwd hl hs g (.mk (kndT (rsign L s)) 0 [] [e, (sub (strT (rsign L s) + 1) (rnext s)).1]) (sub (strT (rsign L s) + 1) (rnext s)).2 a3 a2
        exact ⟨by omega, b2, b3⟩
    · exact ⟨Nat.le_refl _, h2, h1⟩
theorem climb_fwd {L : List OTok} {m : Nat} {prime : RSt → OExpr × RSt} (hp : Fwd L m prime) : ∀ (g : Nat) (least : Int), 1 ≤ least → Fwd L m (climbF L prime g least)
  | 0, least, hl => fun s h1 h2 => hp s h1 h2
  | g + 1, least, hl => fun s h1 h2 => by
    obtain ⟨a1, a2, a3⟩ := hp s h1 h2
    rw [climbF]
    obtain ⟨b1, b2, b3⟩ := rloop_fwd hl (fun k hk => climb_fwd hp g k (by omega)) (L.length + 1 - (prime s).2.at_) (prime s).1 (prime s).2 a3 a2
    exact ⟨by omega, b2, b3⟩
theorem rbad_at (s : RSt) (e : Int) : (rbad s e).at_ = s.at_ ∧ (rbad s e).errs.length = s.errs.length + 1 := by unfold rbad; exact ⟨rfl, by simp⟩
theorem rtok_fwd {L : List OTok} : Fwd L 1 (rtok L) := fun s h1 h2 => by
  unfold rtok
  have h3 : (rnext s).at_ = s.at_ + 1 := rfl
  have h4 : (rnext s).errs.length = 0 := by show s.errs.length = 0; rw [h1]; rfl
  have h5 : s.errs.length = 0 := h4
  cases hl : L[s.at_]? with
  | none => simp [rbad_at, h2, h5]
  | some t =>
    have := (List.getElem?_eq_some_iff.1 hl).1
    dsimp only
    repeat' split
    all_goals (simp only [rbad_at]; omega)
theorem prime_fwd {L : List OTok} : ∀ f : Nat, Fwd L (f + 1) (primeF L f)
  | 0 => fun s h1 h2 => by rw [primeF]; simp only [rbad_at]; rw [h1]; exact ⟨Nat.le_refl _, h2, Nat.le_refl _⟩
  | f + 1 => fun s h1 h2 => by
    have ih := prime_fwd f (L := L)
    rw [primeF]
    unfold primeStep
    have hn : ∀ {t : List UInt8}, rsign L s = t → t ≠ [] → (rnext s).errs = [] ∧ (rnext s).at_ ≤ L.length ∧ (rnext s).at_ = s.at_ + 1 := fun h h' => ⟨h1, rsign_in (by rw [h]; exact h'), rfl⟩
    split
    · rename_i h
      obtain ⟨p1, p2, p3⟩ := hn h (by decide)
      obtain ⟨q1, q2, q3⟩ := ih _ p1 p2
      exact ⟨by dsimp only; omega, q2, by dsimp only; omega⟩
    split
    · rename_i h
      obtain ⟨p1, p2, p3⟩ := hn h (by decide)
      obtain ⟨q1, q2, q3⟩ := ih _ p1 p2
      exact ⟨by dsimp only; omega, q2, by dsimp only; omega⟩
    split
    · rename_i h
      obtain ⟨p1, p2, p3⟩ := hn h (by decide)
      obtain ⟨q1, q2, q3⟩ := climb_fwd ih 5 1 (by decide) _ p1 p2
      split
      · rename_i h5
        have := rsign_in (L := L) (s := (climbF L (primeF L f) 5 1 (rnext s)).2) (by rw [h5]; decide)
        exact ⟨by show _ ≤ _ + 1; omega, this, by show List.length (RSt.errs _) ≤ _; exact Nat.le_succ_of_le q3⟩
      · dsimp only
        obtain ⟨r1, r2⟩ := rbad_at (climbF L (primeF L f) 5 1 (rnext s)).2 2
        rw [r1, r2]
        exact ⟨by omega, q2, by omega⟩
    · obtain ⟨q1, q2, q3⟩ := rtok_fwd (L := L) s h1 h2
      exact ⟨q1, q2, by omega⟩
end Go.Proofs.Ytlilcfkcofafeaa

namespace Go.Proofs.Ytlilcfkcofafeaa
open Go Go.Plat
set_option linter.unusedVariables false
set_option linter.unusedSimpArgs false
set_option maxRecDepth 100000
set_option maxHeartbeats 2000000
attribute [local irreducible] NilS LookS NormM bitI BytesS NormL Arith QuoS RemS ShlS ShrS BitS CatS SplitS SideS IdxS CallS LoopEnd EndS ModeS DrawS AWP Meets
attribute [local irreducible] signedI exprD nodes OExpr.kind OExpr.n OExpr.name OExpr.kids letterB digitB kindB nameB rsign strT kndT rloopF climbF primeF

def ClimbOk (L : List OTok) (least d : Int) (f : RSt → OExpr × RSt) : Prop :=
  Meets Try.prog n_plref1_P_Climb (SpecF (fun s : RSt => s.errs = [] ∧ s.at_ ≤ L.length) (fun _ => [.loc 0 0, .int .i64 least, .int .i64 d]) (rOb L) (fun s => exprU (f s).1) fun s => rOb L (f s).2)
def PrimeOk (L : List OTok) (d : Int) (f : RSt → OExpr × RSt) : Prop :=
  Meets Try.prog n_plref1_P_Prime (SpecF (fun s : RSt => s.errs = [] ∧ s.at_ ≤ L.length) (fun _ => [.loc 0 0, .int .i64 d]) (rOb L) (fun s => exprU (f s).1) fun s => rOb L (f s).2)

theorem rloop_0 {L : List OTok} {least : Int} {sub : Int → RSt → OExpr × RSt} {e : OExpr} {s : RSt} : rloopF L least sub 0 e s = (e, s) := by rw [rloopF]
theorem rloop_stop {L : List OTok} {least : Int} {sub : Int → RSt → OExpr × RSt} {g : Nat} {e : OExpr} {s : RSt} (h : ¬ s.errs = []) : rloopF L least sub g e s = (e, s) := by
  cases g with
  | zero => exact rloop_0
  | succ g => rw [rloopF, if_neg h]
theorem rloop_break {L : List OTok} {least : Int} {sub : Int → RSt → OExpr × RSt} {g : Nat} {e : OExpr} {s : RSt} (h2 : strT (rsign L s) < least) : rloopF L least sub g e s = (e, s) := by
  cases g with
  | zero => exact rloop_0
  | succ g =>
    by_cases h : s.errs = []
    · rw [rloopF, if_pos h, if_pos h2]
    · exact rloop_stop h
theorem rloop_go {L : List OTok} {least : Int} {sub : Int → RSt → OExpr × RSt} {g : Nat} {e : OExpr} {s : RSt} (h : s.errs = []) (h2 : ¬ strT (rsign L s) < least) : rloopF L least sub (g + 1) e s =
    rloopF L least sub g (.mk (kndT (rsign L s)) 0 [] [e, (sub (strT (rsign L s) + 1) (rnext s)).1]) (sub (strT (rsign L s) + 1) (rnext s)).2 := by rw [rloopF, if_pos h, if_neg h2]

theorem climb_walk {L : List OTok} {least d : Int} {m : Nat} {prime : RSt → OExpr × RSt} {sub : Int → RSt → OExpr × RSt} (hL : L.length ≤ 1000000000) (hm : m ≤ 1000) (hf : Fwd L m prime) (hp : PrimeOk L d prime)
    (hl1 : 1 ≤ least) (hl6 : least ≤ 6) (hsf : ∀ k, least < k → Fwd L m (sub k)) (hsk : ∀ k, least < k → k ≤ 6 → ClimbOk L k d (sub k)) :
    ClimbOk L least d fun s => rloopF L least sub (L.length + 1 - (prime s).2.at_) (prime s).1 (prime s).2 := by
  refine meets_f tabOk Try.func10 rfl (by decide) ?_
  rintro s ⟨hs1, hs2⟩
  refine ⟨Nat.le_refl _, by simp [Try.f10], fun E hE => ?_⟩
  refine vcOk _ ?_
  obtain ⟨a1, a2, a3⟩ := hf s hs1 hs2
  (repeat' (first | (refine VS.mk ?_) | (refine dr_mk ?_) | (refine md_l ?_) | ((first | refine sp_not_dec ?_ ?_ | refine sp_dec ?_ ?_ | refine sp_beq ?_ ?_ | refine sp_bne ?_ ?_ | refine sp_seq ?_ ?_ | refine sp_sne ?_ ?_ | refine sp_not ?_ ?_ | refine sp_any ?_ ?_) <;> (intro hc; (try simp only [List.length_map, List.length_append, List.length_cons, List.length_nil, Bool.and_true, Bool.and_eq_true, beq_iff_eq, Bool.and_eq_false_iff, beq_eq_false_iff_ne, Bool.true_and, ne_eq] at hc); (try (exfalso; omega)))) | (with_reducible first | refine norm_one ?_ | refine norm_app ?_ | refine norm_cutEnd ?_ | refine norm_cut ?_ | refine norm_bytes1 ?_ | refine norm_bytes2 ?_ | refine norm_setByte ?_ | refine norm_int1 ?_ | refine norm_mk ?_) | (with_reducible refine bytes_mk ?_) | (refine ar_byte ?_) | (refine ar_i64 (by omega) (by omega) ?_) | (refine ar_low ?_) | (refine ix_byteN (by omega) ?_) | (refine ix_byteK (by simp only [Int.reduceToNat]; exact rfl) (by decide) (by omega) ?_) | (refine ix_byte (by omega) (by omega) ?_) | (refine ix_rfl (by decide) rfl ?_) | (refine sd_mk rfl ?_) | (refine sd_mk (by decide +kernel) ?_) | (refine sd_mk (by first | (simp only [List.length_map, List.length_append, List.length_cons, List.length_nil]; done) | ((try simp only [List.length_map, List.length_append, List.length_cons, List.length_nil, List.length_set, List.length_replicate, List.length_drop, List.length_take, true_and, and_true]); omega) | (dsimp only; omega)) ?_) | (first | refine shl8 (by omega) (by omega) ?_ | refine shl4 (by omega) (by omega) ?_ | refine shl1 (by omega) (by omega) ?_ | refine shl16 (by omega) (by omega) ?_ | refine shl24 (by omega) (by omega) ?_ | refine shr8 (by decide) ?_ | refine shr4 (by decide) ?_ | refine shr1 (by decide) ?_ | refine shr16 (by decide) ?_ | refine shr24 (by decide) ?_) | (with_reducible first | refine bit_mk and_1 ?_ | refine bit_mk and_15 ?_ | refine bit_mk and_255 ?_ | refine bit_mk and_4095 ?_ | refine bit_mk and_65535 ?_) | (refine quo_pos (by omega) (by omega) (by omega) ?_) | (refine rem_pos (by omega) (by omega) ?_)))
  refine call_f hp [0, 1] [0, 1] s ⟨hs1, hs2⟩ rfl rfl ?_
  refine And.intro (VS.mk (LeL.of_eq rfl)) (And.intro (VS.mk rfl) ?_)
  (repeat' (first | (refine VS.mk ?_) | (refine dr_mk ?_) | (refine md_l ?_) | ((first | refine sp_not_dec ?_ ?_ | refine sp_dec ?_ ?_ | refine sp_beq ?_ ?_ | refine sp_bne ?_ ?_ | refine sp_seq ?_ ?_ | refine sp_sne ?_ ?_ | refine sp_not ?_ ?_ | refine sp_any ?_ ?_) <;> (intro hc; (try simp only [List.length_map, List.length_append, List.length_cons, List.length_nil, Bool.and_true, Bool.and_eq_true, beq_iff_eq, Bool.and_eq_false_iff, beq_eq_false_iff_ne, Bool.true_and, ne_eq] at hc); (try (exfalso; omega)))) | (with_reducible first | refine norm_one ?_ | refine norm_app ?_ | refine norm_cutEnd ?_ | refine norm_cut ?_ | refine norm_bytes1 ?_ | refine norm_bytes2 ?_ | refine norm_setByte ?_ | refine norm_int1 ?_ | refine norm_mk ?_) | (with_reducible refine bytes_mk ?_) | (refine ar_byte ?_) | (refine ar_i64 (by omega) (by omega) ?_) | (refine ar_low ?_) | (refine ix_byteN (by omega) ?_) | (refine ix_byteK (by simp only [Int.reduceToNat]; exact rfl) (by decide) (by omega) ?_) | (refine ix_byte (by omega) (by omega) ?_) | (refine ix_rfl (by decide) rfl ?_) | (refine sd_mk rfl ?_) | (refine sd_mk (by decide +kernel) ?_) | (refine sd_mk (by first | (simp only [List.length_map, List.length_append, List.length_cons, List.length_nil]; done) | ((try simp only [List.length_map, List.length_append, List.length_cons, List.length_nil, List.length_set, List.length_replicate, List.length_drop, List.length_take, true_and, and_true]); omega) | (dsimp only; omega)) ?_) | (first | refine shl8 (by omega) (by omega) ?_ | refine shl4 (by omega) (by omega) ?_ | refine shl1 (by omega) (by omega) ?_ | refine shl16 (by omega) (by omega) ?_ | refine shl24 (by omega) (by omega) ?_ | refine shr8 (by decide) ?_ | refine shr4 (by decide) ?_ | refine shr1 (by decide) ?_ | refine shr16 (by decide) ?_ | refine shr24 (by decide) ?_) | (with_reducible first | refine bit_mk and_1 ?_ | refine bit_mk and_15 ?_ | refine bit_mk and_255 ?_ | refine bit_mk and_4095 ?_ | refine bit_mk and_65535 ?_) | (refine quo_pos (by omega) (by omega) (by omega) ?_) | (refine rem_pos (by omega) (by omega) ?_)))
  generalize hT : rloopF L least sub (L.length + 1 - (prime s).2.at_) (prime s).1 (prime s).2 = T at *
  refine awp_loop (α := Nat × OExpr × RSt) (fun p => p.2.2.at_ ≤ L.length ∧ L.length < p.2.2.at_ + p.1 ∧ p.2.2.errs.length ≤ m ∧ rloopF L least sub p.1 p.2.1 p.2.2 = T)
    (fun p => [(0, .loc 0 0), (1, .int .i64 least), (2, .int .i64 d), (6, .loc 2 0), (7, .loc 3 0)])
    (fun p => rOb L p.2.2 ++ [.cells [.int .i64 0, .int .i64 0, .str [], .nilsl], .cells [.int .i64 p.2.1.kind, .int .i64 p.2.1.n, .str p.2.1.name, .sl 4 (p.2.1.kids.map exprD) none]]) (fun p => p.1) (fun _ => by simp [hE, rOb])
    (L.length + 1 - (prime s).2.at_, (prime s).1, (prime s).2) ⟨a2, by dsimp only; omega, a3, hT⟩ ?_ ?_
  · (repeat' (first | (refine VS.mk ?_) | exact trivial | exact rfl | refine And.intro ?_ ?_))
  rintro ⟨g, e, s2⟩ ⟨b1, b2, b3, b4⟩
  dsimp only at b1 b2 b3 b4 ⊢
  obtain ⟨g, rfl⟩ : ∃ g', g = g' + 1 := ⟨g - 1, by omega⟩
  refine vcOk _ ?_
  (repeat' (first | (refine VS.mk ?_) | (refine dr_mk ?_) | (refine md_l ?_) | ((first | refine sp_not_dec ?_ ?_ | refine sp_dec ?_ ?_ | refine sp_beq ?_ ?_ | refine sp_bne ?_ ?_ | refine sp_seq ?_ ?_ | refine sp_sne ?_ ?_ | refine sp_not ?_ ?_ | refine sp_any ?_ ?_) <;> (intro hc; (try simp only [List.length_map, List.length_append, List.length_cons, List.length_nil, Bool.and_true, Bool.and_eq_true, beq_iff_eq, Bool.and_eq_false_iff, beq_eq_false_iff_ne, Bool.true_and, ne_eq] at hc); (try (exfalso; omega)))) | (with_reducible first | refine norm_one ?_ | refine norm_app ?_ | refine norm_cutEnd ?_ | refine norm_cut ?_ | refine norm_bytes1 ?_ | refine norm_bytes2 ?_ | refine norm_setByte ?_ | refine norm_int1 ?_ | refine norm_mk ?_) | (with_reducible refine bytes_mk ?_) | (refine ar_byte ?_) | (refine ar_i64 (by omega) (by omega) ?_) | (refine ar_low ?_) | (refine ix_byteN (by omega) ?_) | (refine ix_byteK (by simp only [Int.reduceToNat]; exact rfl) (by decide) (by omega) ?_) | (refine ix_byte (by omega) (by omega) ?_) | (refine ix_rfl (by decide) rfl ?_) | (refine sd_mk rfl ?_) | (refine sd_mk (by decide +kernel) ?_) | (refine sd_mk (by first | (simp only [List.length_map, List.length_append, List.length_cons, List.length_nil]; done) | ((try simp only [List.length_map, List.length_append, List.length_cons, List.length_nil, List.length_set, List.length_replicate, List.length_drop, List.length_take, true_and, and_true]); omega) | (dsimp only; omega)) ?_) | (first | refine shl8 (by omega) (by omega) ?_ | refine shl4 (by omega) (by omega) ?_ | refine shl1 (by omega) (by omega) ?_ | refine shl16 (by omega) (by omega) ?_ | refine shl24 (by omega) (by omega) ?_ | refine shr8 (by decide) ?_ | refine shr4 (by decide) ?_ | refine shr1 (by decide) ?_ | refine shr16 (by decide) ?_ | refine shr24 (by decide) ?_) | (with_reducible first | refine bit_mk and_1 ?_ | refine bit_mk and_15 ?_ | refine bit_mk and_255 ?_ | refine bit_mk and_4095 ?_ | refine bit_mk and_65535 ?_) | (refine quo_pos (by omega) (by omega) (by omega) ?_) | (refine rem_pos (by omega) (by omega) ?_)))
  · have he : s2.errs = [] := List.eq_nil_of_length_eq_zero (by omega)
    refine call_f (rsign_meets L) [0, 1] [0, 1] s2 ⟨hL, b1⟩ rfl rfl ?_
    refine And.intro (VS.mk (LeL.of_eq rfl)) (And.intro (VS.mk rfl) ?_)
    (repeat' (first | (refine VS.mk ?_) | (refine dr_mk ?_) | (refine md_l ?_) | ((first | refine sp_not_dec ?_ ?_ | refine sp_dec ?_ ?_ | refine sp_beq ?_ ?_ | refine sp_bne ?_ ?_ | refine sp_seq ?_ ?_ | refine sp_sne ?_ ?_ | refine sp_not ?_ ?_ | refine sp_any ?_ ?_) <;> (intro hc; (try simp only [List.length_map, List.length_append, List.length_cons, List.length_nil, Bool.and_true, Bool.and_eq_true, beq_iff_eq, Bool.and_eq_false_iff, beq_eq_false_iff_ne, Bool.true_and, ne_eq] at hc); (try (exfalso; omega)))) | (with_reducible first | refine norm_one ?_ | refine norm_app ?_ | refine norm_cutEnd ?_ | refine norm_cut ?_ | refine norm_bytes1 ?_ | refine norm_bytes2 ?_ | refine norm_setByte ?_ | refine norm_int1 ?_ | refine norm_mk ?_) | (with_reducible refine bytes_mk ?_) | (refine ar_byte ?_) | (refine ar_i64 (by omega) (by omega) ?_) | (refine ar_low ?_) | (refine ix_byteN (by omega) ?_) | (refine ix_byteK (by simp only [Int.reduceToNat]; exact rfl) (by decide) (by omega) ?_) | (refine ix_byte (by omega) (by omega) ?_) | (refine ix_rfl (by decide) rfl ?_) | (refine sd_mk rfl ?_) | (refine sd_mk (by decide +kernel) ?_) | (refine sd_mk (by first | (simp only [List.length_map, List.length_append, List.length_cons, List.length_nil]; done) | ((try simp only [List.length_map, List.length_append, List.length_cons, List.length_nil, List.length_set, List.length_replicate, List.length_drop, List.length_take, true_and, and_true]); omega) | (dsimp only; omega)) ?_) | (first | refine shl8 (by omega) (by omega) ?_ | refine shl4 (by omega) (by omega) ?_ | refine shl1 (by omega) (by omega) ?_ | refine shl16 (by omega) (by omega) ?_ | refine shl24 (by omega) (by omega) ?_ | refine shr8 (by decide) ?_ | refine shr4 (by decide) ?_ | refine shr1 (by decide) ?_ | refine shr16 (by decide) ?_ | refine shr24 (by decide) ?_) | (with_reducible first | refine bit_mk and_1 ?_ | refine bit_mk and_15 ?_ | refine bit_mk and_255 ?_ | refine bit_mk and_4095 ?_ | refine bit_mk and_65535 ?_) | (refine quo_pos (by omega) (by omega) (by omega) ?_) | (refine rem_pos (by omega) (by omega) ?_)))
    refine call_p strength_meets (rsign L s2) trivial (VS.mk (LeL.of_eq rfl)) ?_
    have hsb := str_bd (rsign L s2)
    (repeat' (first | (refine VS.mk ?_) | (refine dr_mk ?_) | (refine md_l ?_) | ((first | refine sp_not_dec ?_ ?_ | refine sp_dec ?_ ?_ | refine sp_beq ?_ ?_ | refine sp_bne ?_ ?_ | refine sp_seq ?_ ?_ | refine sp_sne ?_ ?_ | refine sp_not ?_ ?_ | refine sp_any ?_ ?_) <;> (intro hc; (try simp only [List.length_map, List.length_append, List.length_cons, List.length_nil, Bool.and_true, Bool.and_eq_true, beq_iff_eq, Bool.and_eq_false_iff, beq_eq_false_iff_ne, Bool.true_and, ne_eq] at hc); (try (exfalso; omega)))) | (with_reducible first | refine norm_one ?_ | refine norm_app ?_ | refine norm_cutEnd ?_ | refine norm_cut ?_ | refine norm_bytes1 ?_ | refine norm_bytes2 ?_ | refine norm_setByte ?_ | refine norm_int1 ?_ | refine norm_mk ?_) | (with_reducible refine bytes_mk ?_) | (refine ar_byte ?_) | (refine ar_i64 (by omega) (by omega) ?_) | (refine ar_low ?_) | (refine ix_byteN (by omega) ?_) | (refine ix_byteK (by simp only [Int.reduceToNat]; exact rfl) (by decide) (by omega) ?_) | (refine ix_byte (by omega) (by omega) ?_) | (refine ix_rfl (by decide) rfl ?_) | (refine sd_mk rfl ?_) | (refine sd_mk (by decide +kernel) ?_) | (refine sd_mk (by first | (simp only [List.length_map, List.length_append, List.length_cons, List.length_nil]; done) | ((try simp only [List.length_map, List.length_append, List.length_cons, List.length_nil, List.length_set, List.length_replicate, List.length_drop, List.length_take, true_and, and_true]); omega) | (dsimp only; omega)) ?_) | (first | refine shl8 (by omega) (by omega) ?_ | refine shl4 (by omega) (by omega) ?_ | refine shl1 (by omega) (by omega) ?_ | refine shl16 (by omega) (by omega) ?_ | refine shl24 (by omega) (by omega) ?_ | refine shr8 (by decide) ?_ | refine shr4 (by decide) ?_ | refine shr1 (by decide) ?_ | refine shr16 (by decide) ?_ | refine shr24 (by decide) ?_) | (with_reducible first | refine bit_mk and_1 ?_ | refine bit_mk and_15 ?_ | refine bit_mk and_255 ?_ | refine bit_mk and_4095 ?_ | refine bit_mk and_65535 ?_) | (refine quo_pos (by omega) (by omega) (by omega) ?_) | (refine rem_pos (by omega) (by omega) ?_)))
    · rw [rloop_break hc] at b4
      subst b4
      refine end_mk ?_
      (repeat' (first | (refine VS.mk ?_) | exact trivial | exact rfl | refine And.intro ?_ ?_))
      all_goals rw [hT]
      · cases e; rw [exprU_mk, mk_kind, mk_n, mk_name, mk_kids]
      · rfl
    · have hin := str_in (L := L) (s := s2) (by omega)
      rw [rloop_go he hc] at b4
      have hq := hsf (strT (rsign L s2) + 1) (by omega) (rnext s2) he hin
      obtain ⟨q1, q2, q3⟩ := hq
      refine call_f (hsk (strT (rsign L s2) + 1) (by omega) (by omega)) [0, 1] [0, 1] (rnext s2) ⟨he, hin⟩ rfl rfl ?_
      refine And.intro (VS.mk (LeL.of_eq rfl)) (And.intro (VS.mk ?_) ?_)
      · unfold rOb rnext; simp
      (repeat' (first | (refine VS.mk ?_) | (refine dr_mk ?_) | (refine md_l ?_) | ((first | refine sp_not_dec ?_ ?_ | refine sp_dec ?_ ?_ | refine sp_beq ?_ ?_ | refine sp_bne ?_ ?_ | refine sp_seq ?_ ?_ | refine sp_sne ?_ ?_ | refine sp_not ?_ ?_ | refine sp_any ?_ ?_) <;> (intro hc; (try simp only [List.length_map, List.length_append, List.length_cons, List.length_nil, Bool.and_true, Bool.and_eq_true, beq_iff_eq, Bool.and_eq_false_iff, beq_eq_false_iff_ne, Bool.true_and, ne_eq] at hc); (try (exfalso; omega)))) | (with_reducible first | refine norm_one ?_ | refine norm_app ?_ | refine norm_cutEnd ?_ | refine norm_cut ?_ | refine norm_bytes1 ?_ | refine norm_bytes2 ?_ | refine norm_setByte ?_ | refine norm_int1 ?_ | refine norm_mk ?_) | (with_reducible refine bytes_mk ?_) | (refine ar_byte ?_) | (refine ar_i64 (by omega) (by omega) ?_) | (refine ar_low ?_) | (refine ix_byteN (by omega) ?_) | (refine ix_byteK (by simp only [Int.reduceToNat]; exact rfl) (by decide) (by omega) ?_) | (refine ix_byte (by omega) (by omega) ?_) | (refine ix_rfl (by decide) rfl ?_) | (refine sd_mk rfl ?_) | (refine sd_mk (by decide +kernel) ?_) | (refine sd_mk (by first | (simp only [List.length_map, List.length_append, List.length_cons, List.length_nil]; done) | ((try simp only [List.length_map, List.length_append, List.length_cons, List.length_nil, List.length_set, List.length_replicate, List.length_drop, List.length_take, true_and, and_true]); omega) | (dsimp only; omega)) ?_) | (first | refine shl8 (by omega) (by omega) ?_ | refine shl4 (by omega) (by omega) ?_ | refine shl1 (by omega) (by omega) ?_ | refine shl16 (by omega) (by omega) ?_ | refine shl24 (by omega) (by omega) ?_ | refine shr8 (by decide) ?_ | refine shr4 (by decide) ?_ | refine shr1 (by decide) ?_ | refine shr16 (by decide) ?_ | refine shr24 (by decide) ?_) | (with_reducible first | refine bit_mk and_1 ?_ | refine bit_mk and_15 ?_ | refine bit_mk and_255 ?_ | refine bit_mk and_4095 ?_ | refine bit_mk and_65535 ?_) | (refine quo_pos (by omega) (by omega) (by omega) ?_) | (refine rem_pos (by omega) (by omega) ?_)))
      refine loop_end (g, .mk (kndT (rsign L s2)) 0 [] [e, (sub (strT (rsign L s2) + 1) (rnext s2)).1], (sub (strT (rsign L s2) + 1) (rnext s2)).2) ⟨q2, by (have : s2.at_ + 1 ≤ _ := q1); (dsimp only; omega), q3, b4⟩ (by dsimp only; omega) ?_
      dsimp only
      rw [mk_kind, mk_n, mk_name, mk_kids, map2]
      (repeat' (first | (refine VS.mk ?_) | exact trivial | exact rfl | refine And.intro ?_ ?_))
  · rw [rloop_stop (fun h0 => hc (by rw [h0]; rfl))] at b4
    subst b4
    refine end_mk ?_
    (repeat' (first | (refine VS.mk ?_) | exact trivial | exact rfl | refine And.intro ?_ ?_))
    all_goals rw [hT]
    · cases e; rw [exprU_mk, mk_kind, mk_n, mk_name, mk_kids]
    · rfl

theorem climb_ok {L : List OTok} {d : Int} {m : Nat} {prime : RSt → OExpr × RSt} (hL : L.length ≤ 1000000000) (hm : m ≤ 1000) (hf : Fwd L m prime) (hp : PrimeOk L d prime) : ∀ (g : Nat) (least : Int), 1 ≤ least → least ≤ 6 → 6 - least ≤ g → ClimbOk L least d (climbF L prime g least) := by
  intro g
  induction g with
  | zero =>
    intro least h1 h2 h3
    have h := climb_walk (least := least) (sub := climbF L prime 0) hL hm hf hp h1 h2 (fun k hk => climb_fwd hf 0 k (by omega)) (fun k hk hk6 => absurd hk (by omega))
    have e : climbF L prime 0 least = fun s => rloopF L least (climbF L prime 0) (L.length + 1 - (prime s).2.at_) (prime s).1 (prime s).2 := by
      funext s
      rw [rloop_break (by have := str_bd (rsign L (prime s).2); omega), climbF]
    rw [e]; exact h
  | succ g ih =>
    intro least h1 h2 h3
    have h := climb_walk (least := least) (sub := climbF L prime g) hL hm hf hp h1 h2 (fun k hk => climb_fwd hf g k (by omega)) (fun k hk hk6 => ih k (by omega) hk6 (by omega))
    have e : climbF L prime (g + 1) least = fun s => rloopF L least (climbF L prime g) (L.length + 1 - (prime s).2.at_) (prime s).1 (prime s).2 := by
      funext s
      rw [climbF]
    rw [e]; exact h
end Go.Proofs.Ytlilcfkcofafeaa

namespace Go.Proofs.Ytlilcfkcofafeaa
open Go Go.Plat
set_option linter.unusedVariables false
set_option linter.unusedSimpArgs false
set_option maxRecDepth 100000
set_option maxHeartbeats 2000000
theorem wrapS_i32 (n : Int) : IntKind.i32.wrap n = signedI n 32 := by
  have : signedI n 32 = if n % 4294967296 / 2147483648 = 1 then n % 4294967296 - 4294967296 else n % 4294967296 := rfl
  rw [this]
  have hm := Int.emod_nonneg n (show (4294967296 : Int) ≠ 0 by decide)
  have hm2 := Int.emod_lt_of_pos n (show (0 : Int) < 4294967296 by decide)
  have e : IntKind.i32.wrap n = if n % 4294967296 ≥ 2147483648 then n % 4294967296 - 4294967296 else n % 4294967296 := by
    simp only [IntKind.wrap, IntKind.signed, IntKind.bits, show (2 : Int) ^ 32 = 4294967296 from rfl, show (2 : Int) ^ (32 - 1) = 2147483648 from rfl, Bool.true_and, decide_eq_true_eq]
  rw [e]
  split <;> split <;> omega
theorem wrapS_u32 (n : Int) : IntKind.u32.wrap n = n % 4294967296 := by
  simp [IntKind.wrap, IntKind.signed, IntKind.bits]
theorem ar_i32 {n : Int} {K : D → Prop} (h : K (.int .i32 (signedI n 32))) : Arith .i32 n K := by unfold Arith; rw [wrapS_i32]; exact h
theorem ar_u32 {n : Int} {K : D → Prop} (h : K (.int .u32 (n % 4294967296))) : Arith .u32 n K := by unfold Arith; rw [wrapS_u32]; exact h
theorem sig_bd (n : Int) : -2147483648 ≤ signedI n 32 ∧ signedI n 32 ≤ 2147483647 := by
  have : signedI n 32 = if n % 4294967296 / 2147483648 = 1 then n % 4294967296 - 4294967296 else n % 4294967296 := rfl
  rw [this]
  split <;> omega
theorem sig_cong {m n : Int} (h : m % 4294967296 = n % 4294967296) : signedI m 32 = signedI n 32 := by
  have : ∀ n, signedI n 32 = if n % 4294967296 / 2147483648 = 1 then n % 4294967296 - 4294967296 else n % 4294967296 := fun _ => rfl
  rw [this, this, h]
theorem sig_mod (n : Int) : signedI n 32 % 4294967296 = n % 4294967296 := by
  have : signedI n 32 = if n % 4294967296 / 2147483648 = 1 then n % 4294967296 - 4294967296 else n % 4294967296 := rfl
  rw [this]
  split <;> omega
theorem ar_sig {n : Int} {K : D → Prop} (h : K (.int .i64 (signedI n 32))) : Arith .i64 (signedI n 32) K := by
  have := sig_bd n
  exact ar_i64 (by omega) (by omega) h
theorem ofInt_mod (n : Int) : (BitVec.ofInt 64 n).toNat % 4294967296 = (BitVec.ofInt 32 n).toNat := by
  have h1 := toNat_ofInt n
  have h2 : ((BitVec.ofInt 32 n).toNat : Int) = n % 4294967296 := by
    rw [BitVec.toNat_ofInt]
    have : (0 : Int) ≤ n % ((2 ^ 32 : Nat) : Int) := Int.emod_nonneg _ (by decide)
    rw [Int.toNat_of_nonneg this]
    rfl
  omega
theorem wrap64_mod (m : Int) : IntKind.i64.wrap m % 4294967296 = m % 4294967296 := by
  unfold IntKind.wrap
  simp only [IntKind.bits, IntKind.signed, show (2 : Int) ^ 64 = 18446744073709551616 from rfl, Bool.true_and, decide_eq_true_eq]
  split <;> omega
theorem mod_and (x y : Nat) : (x &&& y) % 4294967296 = (x % 4294967296) &&& (y % 4294967296) := by
  have := Nat.and_mod_two_pow (a := x) (b := y) (n := 32)
  simpa using this
theorem mod_or (x y : Nat) : (x ||| y) % 4294967296 = (x % 4294967296) ||| (y % 4294967296) := by
  have := Nat.or_mod_two_pow (a := x) (b := y) (n := 32)
  simpa using this
theorem and32 (a b : Int) : bitI .and .i32 a b = signedI (bitI .and .i64 a b) 32 := by
  unfold bitI
  rw [wrapS_i32]
  refine sig_cong ?_
  rw [wrap64_mod]
  have e : ((BitVec.ofInt 64 a &&& BitVec.ofInt 64 b).toNat) % 4294967296 = (BitVec.ofInt 32 a &&& BitVec.ofInt 32 b).toNat := by
    rw [BitVec.toNat_and, BitVec.toNat_and, mod_and, ofInt_mod, ofInt_mod]
  have h2 : (BitVec.ofInt 32 a &&& BitVec.ofInt 32 b).toNat < 4294967296 := (BitVec.ofInt 32 a &&& BitVec.ofInt 32 b).isLt
  show (((BitVec.ofInt 32 a &&& BitVec.ofInt 32 b).toNat : Nat) : Int) % 4294967296 = (((BitVec.ofInt 64 a &&& BitVec.ofInt 64 b).toNat : Nat) : Int) % 4294967296
  omega
theorem or32 (a b : Int) : bitI .or .i32 a b = signedI (bitI .or .i64 a b) 32 := by
  unfold bitI
  rw [wrapS_i32]
  refine sig_cong ?_
  rw [wrap64_mod]
  have e : ((BitVec.ofInt 64 a ||| BitVec.ofInt 64 b).toNat) % 4294967296 = (BitVec.ofInt 32 a ||| BitVec.ofInt 32 b).toNat := by
    rw [BitVec.toNat_or, BitVec.toNat_or, mod_or, ofInt_mod, ofInt_mod]
  have h2 : (BitVec.ofInt 32 a ||| BitVec.ofInt 32 b).toNat < 4294967296 := (BitVec.ofInt 32 a ||| BitVec.ofInt 32 b).isLt
  show (((BitVec.ofInt 32 a ||| BitVec.ofInt 32 b).toNat : Nat) : Int) % 4294967296 = (((BitVec.ofInt 64 a ||| BitVec.ofInt 64 b).toNat : Nat) : Int) % 4294967296
  omega
theorem left32 (a b : Int) : signedI (a % 4294967296 * 2 ^ (b % 4294967296 % 32).toNat % 4294967296) 32 = signedI (a * 2 ^ (b % 32).toNat) 32 := by
  have e : b % 4294967296 % 32 = b % 32 := by omega
  rw [e]
  refine sig_cong ?_
  rw [Int.emod_emod, Int.mul_emod, Int.emod_emod, ← Int.mul_emod]
theorem right32 (a b : Int) : signedI (a % 4294967296 / 2 ^ (b % 4294967296 % 32).toNat) 32 = signedI (a % 4294967296 / 2 ^ (b % 32).toNat) 32 := by
  have e : b % 4294967296 % 32 = b % 32 := by omega
  rw [e]
theorem shl_u32 {x y : Int} {K : D → Prop} (h0 : 0 ≤ y) (h1 : y ≤ 31) (h : K (.int .u32 (x * 2 ^ y.toNat % 4294967296))) : ShlS .u32 x y K := by
  unfold ShlS
  refine ⟨h0, ?_⟩
  have e : min y.toNat IntKind.u32.bits = y.toNat := by simp only [IntKind.bits]; omega
  rw [e, wrapS_u32]
  exact h
theorem shr_u32 {x y : Int} {K : D → Prop} (h0 : 0 ≤ y) (h1 : y ≤ 31) (h : K (.int .u32 (x / 2 ^ y.toNat))) : ShrS .u32 x y K := by
  unfold ShrS
  refine ⟨h0, ?_⟩
  have e : min y.toNat IntKind.u32.bits = y.toNat := by simp only [IntKind.bits]; omega
  have hp : (0 : Int) ≤ 2 ^ y.toNat := Int.le_of_lt (Int.pow_pos (by decide))
  rw [e, Int.fdiv_eq_ediv_of_nonneg _ hp]
  exact h
open Go Go.Plat
set_option linter.unusedVariables false
set_option linter.unusedSimpArgs false
set_option maxRecDepth 100000
set_option maxHeartbeats 2000000
attribute [local irreducible] NilS LookS NormM bitI BytesS NormL Arith QuoS RemS ShlS ShrS BitS CatS SplitS SideS IdxS CallS LoopEnd EndS ModeS DrawS AWP Meets
attribute [local irreducible] signedI
theorem rsig_meets : Meets Try.prog n_plref1_Signed (SpecP (fun _ : Int => True) (fun n => [.int .i64 n]) fun n => .int .i64 (signedI n 32)) := by
  refine meets_f tabOk Try.func15 rfl (by decide) fun n _ => ?_
  refine ⟨Nat.le_refl _, by simp [Try.f15], fun E hE => ?_⟩
  refine vcOk _ ?_
  have hb := sig_bd (n % 4294967296)
  (repeat' (first | (refine VS.mk ?_) | (refine dr_mk ?_) | (refine md_l ?_) | ((first | refine sp_not_dec ?_ ?_ | refine sp_dec ?_ ?_ | refine sp_beq ?_ ?_ | refine sp_bne ?_ ?_ | refine sp_seq ?_ ?_ | refine sp_sne ?_ ?_ | refine sp_not ?_ ?_ | refine sp_any ?_ ?_) <;> (intro hc; try simp only [List.length_map, List.length_append, List.length_cons, List.length_nil, Bool.and_true, Bool.and_eq_true, beq_iff_eq, Bool.and_eq_false_iff, beq_eq_false_iff_ne, Bool.true_and, ne_eq] at hc)) | (with_reducible first | refine norm_one ?_ | refine norm_app ?_ | refine norm_cutEnd ?_ | refine norm_cut ?_ | refine norm_bytes1 ?_ | refine norm_bytes2 ?_ | refine norm_setByte ?_ | refine norm_int1 ?_ | refine norm_mk ?_) | (with_reducible refine bytes_mk ?_) | (refine ar_byte ?_) | (refine ar_i64 (by omega) (by omega) ?_) | (refine ar_low ?_) | (refine ix_byteN (by omega) ?_) | (refine ix_byteK (by simp only [Int.reduceToNat]; exact rfl) (by decide) (by omega) ?_) | (refine ix_byte (by omega) (by omega) ?_) | (refine ix_rfl (by decide) rfl ?_) | (refine sd_mk rfl ?_) | (refine sd_mk (by decide +kernel) ?_) | (refine sd_mk (by first | (simp only [List.length_map, List.length_append, List.length_cons, List.length_nil]; done) | ((try simp only [List.length_map, List.length_append, List.length_cons, List.length_nil, List.length_set, List.length_replicate, List.length_drop, List.length_take, true_and, and_true]); omega) | (dsimp only; omega)) ?_) | (first | refine shl8 (by omega) (by omega) ?_ | refine shl4 (by omega) (by omega) ?_ | refine shl1 (by omega) (by omega) ?_ | refine shl16 (by omega) (by omega) ?_ | refine shl24 (by omega) (by omega) ?_ | refine shr8 (by decide) ?_ | refine shr4 (by decide) ?_ | refine shr1 (by decide) ?_ | refine shr16 (by decide) ?_ | refine shr24 (by decide) ?_) | (with_reducible first | refine bit_mk and_1 ?_ | refine bit_mk and_15 ?_ | refine bit_mk and_255 ?_ | refine bit_mk and_4095 ?_ | refine bit_mk and_65535 ?_) | (refine quo_pos (by omega) (by omega) (by omega) ?_) | (refine rem_pos (by omega) (by omega) ?_)))
  refine ar_u32 ?_
  (repeat' (first | (refine VS.mk ?_) | (refine dr_mk ?_) | (refine md_l ?_) | ((first | refine sp_not_dec ?_ ?_ | refine sp_dec ?_ ?_ | refine sp_beq ?_ ?_ | refine sp_bne ?_ ?_ | refine sp_seq ?_ ?_ | refine sp_sne ?_ ?_ | refine sp_not ?_ ?_ | refine sp_any ?_ ?_) <;> (intro hc; try simp only [List.length_map, List.length_append, List.length_cons, List.length_nil, Bool.and_true, Bool.and_eq_true, beq_iff_eq, Bool.and_eq_false_iff, beq_eq_false_iff_ne, Bool.true_and, ne_eq] at hc)) | (with_reducible first | refine norm_one ?_ | refine norm_app ?_ | refine norm_cutEnd ?_ | refine norm_cut ?_ | refine norm_bytes1 ?_ | refine norm_bytes2 ?_ | refine norm_setByte ?_ | refine norm_int1 ?_ | refine norm_mk ?_) | (with_reducible refine bytes_mk ?_) | (refine ar_byte ?_) | (refine ar_i64 (by omega) (by omega) ?_) | (refine ar_low ?_) | (refine ix_byteN (by omega) ?_) | (refine ix_byteK (by simp only [Int.reduceToNat]; exact rfl) (by decide) (by omega) ?_) | (refine ix_byte (by omega) (by omega) ?_) | (refine ix_rfl (by decide) rfl ?_) | (refine sd_mk rfl ?_) | (refine sd_mk (by decide +kernel) ?_) | (refine sd_mk (by first | (simp only [List.length_map, List.length_append, List.length_cons, List.length_nil]; done) | ((try simp only [List.length_map, List.length_append, List.length_cons, List.length_nil, List.length_set, List.length_replicate, List.length_drop, List.length_take, true_and, and_true]); omega) | (dsimp only; omega)) ?_) | (first | refine shl8 (by omega) (by omega) ?_ | refine shl4 (by omega) (by omega) ?_ | refine shl1 (by omega) (by omega) ?_ | refine shl16 (by omega) (by omega) ?_ | refine shl24 (by omega) (by omega) ?_ | refine shr8 (by decide) ?_ | refine shr4 (by decide) ?_ | refine shr1 (by decide) ?_ | refine shr16 (by decide) ?_ | refine shr24 (by decide) ?_) | (with_reducible first | refine bit_mk and_1 ?_ | refine bit_mk and_15 ?_ | refine bit_mk and_255 ?_ | refine bit_mk and_4095 ?_ | refine bit_mk and_65535 ?_) | (refine quo_pos (by omega) (by omega) (by omega) ?_) | (refine rem_pos (by omega) (by omega) ?_)))
  refine ar_i32 ?_
  (repeat' (first | (refine VS.mk ?_) | (refine dr_mk ?_) | (refine md_l ?_) | ((first | refine sp_not_dec ?_ ?_ | refine sp_dec ?_ ?_ | refine sp_beq ?_ ?_ | refine sp_bne ?_ ?_ | refine sp_seq ?_ ?_ | refine sp_sne ?_ ?_ | refine sp_not ?_ ?_ | refine sp_any ?_ ?_) <;> (intro hc; try simp only [List.length_map, List.length_append, List.length_cons, List.length_nil, Bool.and_true, Bool.and_eq_true, beq_iff_eq, Bool.and_eq_false_iff, beq_eq_false_iff_ne, Bool.true_and, ne_eq] at hc)) | (with_reducible first | refine norm_one ?_ | refine norm_app ?_ | refine norm_cutEnd ?_ | refine norm_cut ?_ | refine norm_bytes1 ?_ | refine norm_bytes2 ?_ | refine norm_setByte ?_ | refine norm_int1 ?_ | refine norm_mk ?_) | (with_reducible refine bytes_mk ?_) | (refine ar_byte ?_) | (refine ar_i64 (by omega) (by omega) ?_) | (refine ar_low ?_) | (refine ix_byteN (by omega) ?_) | (refine ix_byteK (by simp only [Int.reduceToNat]; exact rfl) (by decide) (by omega) ?_) | (refine ix_byte (by omega) (by omega) ?_) | (refine ix_rfl (by decide) rfl ?_) | (refine sd_mk rfl ?_) | (refine sd_mk (by decide +kernel) ?_) | (refine sd_mk (by first | (simp only [List.length_map, List.length_append, List.length_cons, List.length_nil]; done) | ((try simp only [List.length_map, List.length_append, List.length_cons, List.length_nil, List.length_set, List.length_replicate, List.length_drop, List.length_take, true_and, and_true]); omega) | (dsimp only; omega)) ?_) | (first | refine shl8 (by omega) (by omega) ?_ | refine shl4 (by omega) (by omega) ?_ | refine shl1 (by omega) (by omega) ?_ | refine shl16 (by omega) (by omega) ?_ | refine shl24 (by omega) (by omega) ?_ | refine shr8 (by decide) ?_ | refine shr4 (by decide) ?_ | refine shr1 (by decide) ?_ | refine shr16 (by decide) ?_ | refine shr24 (by decide) ?_) | (with_reducible first | refine bit_mk and_1 ?_ | refine bit_mk and_15 ?_ | refine bit_mk and_255 ?_ | refine bit_mk and_4095 ?_ | refine bit_mk and_65535 ?_) | (refine quo_pos (by omega) (by omega) (by omega) ?_) | (refine rem_pos (by omega) (by omega) ?_)))
  refine end_p (VS.mk (LeD.of_eq (congrArg (D.int .i64) ?_)))
  exact sig_cong (Int.emod_emod _ _)
end Go.Proofs.Ytlilcfkcofafeaa

namespace Go.Proofs.Ytlilcfkcofafeaa
open Go Go.Plat
set_option linter.unusedVariables false
set_option linter.unusedSimpArgs false
set_option maxRecDepth 100000
set_option maxHeartbeats 2000000
attribute [local irreducible] NilS LookS NormM bitI BytesS NormL Arith QuoS RemS ShlS ShrS BitS CatS SplitS SideS IdxS CallS LoopEnd EndS ModeS DrawS AWP Meets
attribute [local irreducible] signedI exprD nodes OExpr.kind OExpr.n OExpr.name OExpr.kids letterB digitB kindB nameB rsign strT kndT rloopF climbF primeF

theorem rOb_bad {L : List OTok} {s : RSt} {e : Int} : rOb L (rbad s e) = [.cells [.sl 3 (L.map tokD) none, .int .i64 (s.at_ : Nat), .sl 1 ((s.errs ++ [e]).map (.int .i64)) (some 1)], .spare (s.errs ++ [e]).length] := rfl
theorem rOb_next {L : List OTok} {s : RSt} : [Ob.cells [.sl 3 (L.map tokD) none, .int .i64 ((s.at_ : Int) + 1), .sl 1 (s.errs.map (.int .i64)) (some 1)], .spare s.errs.length] = rOb L (rnext s) := by
  unfold rOb rnext
  simp

theorem prime_deep {L : List OTok} {d : Int} (h : 6 < d) : PrimeOk L d (primeF L 0) := by
  refine meets_f tabOk Try.func19 rfl (by decide) ?_
  rintro s ⟨hs1, hs2⟩
  refine ⟨Nat.le_refl _, by simp [Try.f19], fun E hE => ?_⟩
  refine vcOk _ ?_
  (repeat' (first | (refine VS.mk ?_) | (refine dr_mk ?_) | (refine md_l ?_) | ((first | refine sp_not_dec ?_ ?_ | refine sp_dec ?_ ?_ | refine sp_beq ?_ ?_ | refine sp_bne ?_ ?_ | refine sp_seq ?_ ?_ | refine sp_sne ?_ ?_ | refine sp_not ?_ ?_ | refine sp_any ?_ ?_) <;> (intro hc; (try simp only [List.length_map, List.length_append, List.length_cons, List.length_nil, Bool.and_true, Bool.and_eq_true, beq_iff_eq, Bool.and_eq_false_iff, beq_eq_false_iff_ne, Bool.true_and, ne_eq] at hc); (try (exfalso; omega)))) | (with_reducible first | refine norm_one ?_ | refine norm_app ?_ | refine norm_cutEnd ?_ | refine norm_cut ?_ | refine norm_bytes1 ?_ | refine norm_bytes2 ?_ | refine norm_setByte ?_ | refine norm_int1 ?_ | refine norm_mk ?_) | (with_reducible refine bytes_mk ?_) | (refine ar_byte ?_) | (refine ar_i64 (by omega) (by omega) ?_) | (refine ar_low ?_) | (refine ix_byteN (by omega) ?_) | (refine ix_byteK (by simp only [Int.reduceToNat]; exact rfl) (by decide) (by omega) ?_) | (refine ix_byte (by omega) (by omega) ?_) | (refine ix_rfl (by decide) rfl ?_) | (refine sd_mk rfl ?_) | (refine sd_mk (by decide +kernel) ?_) | (refine sd_mk (by first | (simp only [List.length_map, List.length_append, List.length_cons, List.length_nil]; done) | ((try simp only [List.length_map, List.length_append, List.length_cons, List.length_nil, List.length_set, List.length_replicate, List.length_drop, List.length_take, true_and, and_true]); omega) | (dsimp only; omega)) ?_) | (first | refine shl8 (by omega) (by omega) ?_ | refine shl4 (by omega) (by omega) ?_ | refine shl1 (by omega) (by omega) ?_ | refine shl16 (by omega) (by omega) ?_ | refine shl24 (by omega) (by omega) ?_ | refine shr8 (by decide) ?_ | refine shr4 (by decide) ?_ | refine shr1 (by decide) ?_ | refine shr16 (by decide) ?_ | refine shr24 (by decide) ?_) | (with_reducible first | refine bit_mk and_1 ?_ | refine bit_mk and_15 ?_ | refine bit_mk and_255 ?_ | refine bit_mk and_4095 ?_ | refine bit_mk and_65535 ?_) | (refine quo_pos (by omega) (by omega) (by omega) ?_) | (refine rem_pos (by omega) (by omega) ?_)))
  refine call_f (rbad_meets L) [0, 1] [0, 1] (s, 10) (by show s.errs.length ≤ 1000; rw [hs1]; decide) rfl rfl ?_
  refine And.intro (VS.mk (LeL.of_eq rfl)) (And.intro (VS.mk rfl) ?_)
  have ho : primeF L 0 s = (noE, rbad s 10) := by rw [primeF]
  (repeat' (first | (refine VS.mk ?_) | (refine dr_mk ?_) | (refine md_l ?_) | ((first | refine sp_not_dec ?_ ?_ | refine sp_dec ?_ ?_ | refine sp_beq ?_ ?_ | refine sp_bne ?_ ?_ | refine sp_seq ?_ ?_ | refine sp_sne ?_ ?_ | refine sp_not ?_ ?_ | refine sp_any ?_ ?_) <;> (intro hc; (try simp only [List.length_map, List.length_append, List.length_cons, List.length_nil, Bool.and_true, Bool.and_eq_true, beq_iff_eq, Bool.and_eq_false_iff, beq_eq_false_iff_ne, Bool.true_and, ne_eq] at hc); (try (exfalso; omega)))) | (with_reducible first | refine norm_one ?_ | refine norm_app ?_ | refine norm_cutEnd ?_ | refine norm_cut ?_ | refine norm_bytes1 ?_ | refine norm_bytes2 ?_ | refine norm_setByte ?_ | refine norm_int1 ?_ | refine norm_mk ?_) | (with_reducible refine bytes_mk ?_) | (refine ar_byte ?_) | (refine ar_i64 (by omega) (by omega) ?_) | (refine ar_low ?_) | (refine ix_byteN (by omega) ?_) | (refine ix_byteK (by simp only [Int.reduceToNat]; exact rfl) (by decide) (by omega) ?_) | (refine ix_byte (by omega) (by omega) ?_) | (refine ix_rfl (by decide) rfl ?_) | (refine sd_mk rfl ?_) | (refine sd_mk (by decide +kernel) ?_) | (refine sd_mk (by first | (simp only [List.length_map, List.length_append, List.length_cons, List.length_nil]; done) | ((try simp only [List.length_map, List.length_append, List.length_cons, List.length_nil, List.length_set, List.length_replicate, List.length_drop, List.length_take, true_and, and_true]); omega) | (dsimp only; omega)) ?_) | (first | refine shl8 (by omega) (by omega) ?_ | refine shl4 (by omega) (by omega) ?_ | refine shl1 (by omega) (by omega) ?_ | refine shl16 (by omega) (by omega) ?_ | refine shl24 (by omega) (by omega) ?_ | refine shr8 (by decide) ?_ | refine shr4 (by decide) ?_ | refine shr1 (by decide) ?_ | refine shr16 (by decide) ?_ | refine shr24 (by decide) ?_) | (with_reducible first | refine bit_mk and_1 ?_ | refine bit_mk and_15 ?_ | refine bit_mk and_255 ?_ | refine bit_mk and_4095 ?_ | refine bit_mk and_65535 ?_) | (refine quo_pos (by omega) (by omega) (by omega) ?_) | (refine rem_pos (by omega) (by omega) ?_)))
  refine end_mk ?_
  (repeat' (first | (refine VS.mk ?_) | exact trivial | exact rfl | refine And.intro ?_ ?_))
  all_goals (rw [ho])
  all_goals rfl

theorem prime_step {L : List OTok} {d : Int} {m : Nat} {prime : RSt → OExpr × RSt} (hL : L.length ≤ 1000000000) (hm : m ≤ 1000) (hd : d ≤ 6) (hd0 : 0 ≤ d) (hf : Fwd L m prime) (h : PrimeOk L (d + 1) prime) : PrimeOk L d (primeStep L prime) := by
  have hcl := climb_ok hL hm hf h 5 1 (by decide) (by decide) (by decide)
  have hcf := climb_fwd hf 5 1 (by decide)
  refine meets_f tabOk Try.func19 rfl (by decide) ?_
  rintro s ⟨hs1, hs2⟩
  refine ⟨Nat.le_refl _, by simp [Try.f19], fun E hE => ?_⟩
  refine vcOk _ ?_
  (repeat' (first | (refine VS.mk ?_) | (refine dr_mk ?_) | (refine md_l ?_) | ((first | refine sp_not_dec ?_ ?_ | refine sp_dec ?_ ?_ | refine sp_beq ?_ ?_ | refine sp_bne ?_ ?_ | refine sp_seq ?_ ?_ | refine sp_sne ?_ ?_ | refine sp_not ?_ ?_ | refine sp_any ?_ ?_) <;> (intro hc; (try simp only [List.length_map, List.length_append, List.length_cons, List.length_nil, Bool.and_true, Bool.and_eq_true, beq_iff_eq, Bool.and_eq_false_iff, beq_eq_false_iff_ne, Bool.true_and, ne_eq] at hc); (try (exfalso; omega)))) | (with_reducible first | refine norm_one ?_ | refine norm_app ?_ | refine norm_cutEnd ?_ | refine norm_cut ?_ | refine norm_bytes1 ?_ | refine norm_bytes2 ?_ | refine norm_setByte ?_ | refine norm_int1 ?_ | refine norm_mk ?_) | (with_reducible refine bytes_mk ?_) | (refine ar_byte ?_) | (refine ar_i64 (by omega) (by omega) ?_) | (refine ar_low ?_) | (refine ix_byteN (by omega) ?_) | (refine ix_byteK (by simp only [Int.reduceToNat]; exact rfl) (by decide) (by omega) ?_) | (refine ix_byte (by omega) (by omega) ?_) | (refine ix_rfl (by decide) rfl ?_) | (refine sd_mk rfl ?_) | (refine sd_mk (by decide +kernel) ?_) | (refine sd_mk (by first | (simp only [List.length_map, List.length_append, List.length_cons, List.length_nil]; done) | ((try simp only [List.length_map, List.length_append, List.length_cons, List.length_nil, List.length_set, List.length_replicate, List.length_drop, List.length_take, true_and, and_true]); omega) | (dsimp only; omega)) ?_) | (first | refine shl8 (by omega) (by omega) ?_ | refine shl4 (by omega) (by omega) ?_ | refine shl1 (by omega) (by omega) ?_ | refine shl16 (by omega) (by omega) ?_ | refine shl24 (by omega) (by omega) ?_ | refine shr8 (by decide) ?_ | refine shr4 (by decide) ?_ | refine shr1 (by decide) ?_ | refine shr16 (by decide) ?_ | refine shr24 (by decide) ?_) | (with_reducible first | refine bit_mk and_1 ?_ | refine bit_mk and_15 ?_ | refine bit_mk and_255 ?_ | refine bit_mk and_4095 ?_ | refine bit_mk and_65535 ?_) | (refine quo_pos (by omega) (by omega) (by omega) ?_) | (refine rem_pos (by omega) (by omega) ?_)))
  refine call_f (rsign_meets L) [0, 1] [0, 1] s ⟨hL, hs2⟩ rfl rfl ?_
  refine And.intro (VS.mk (LeL.of_eq rfl)) (And.intro (VS.mk rfl) ?_)
  have hstep : primeStep L prime s = if rsign L s = [45] then (.mk 3 0 [] [(prime (rnext s)).1], (prime (rnext s)).2)
    else if rsign L s = [126] then (.mk 4 0 [] [(prime (rnext s)).1], (prime (rnext s)).2)
    else if rsign L s = [40] then
      (if rsign L (climbF L prime 5 1 (rnext s)).2 = [41] then ((climbF L prime 5 1 (rnext s)).1, rnext (climbF L prime 5 1 (rnext s)).2)
       else (noE, rbad (climbF L prime 5 1 (rnext s)).2 2))
    else rtok L s := rfl
  have hin : rsign L s ≠ [] → s.at_ < L.length := rsign_in
  generalize rsign L s = S at *
  have hn0 : (rnext s).errs = [] := hs1
  (repeat' (first | (refine VS.mk ?_) | (refine dr_mk ?_) | (refine md_l ?_) | ((first | refine sp_not_dec ?_ ?_ | refine sp_dec ?_ ?_ | refine sp_beq ?_ ?_ | refine sp_bne ?_ ?_ | refine sp_seq ?_ ?_ | refine sp_sne ?_ ?_ | refine sp_not ?_ ?_ | refine sp_any ?_ ?_) <;> (intro hc; (try simp only [List.length_map, List.length_append, List.length_cons, List.length_nil, Bool.and_true, Bool.and_eq_true, beq_iff_eq, Bool.and_eq_false_iff, beq_eq_false_iff_ne, Bool.true_and, ne_eq] at hc); (try (exfalso; omega)))) | (with_reducible first | refine norm_one ?_ | refine norm_app ?_ | refine norm_cutEnd ?_ | refine norm_cut ?_ | refine norm_bytes1 ?_ | refine norm_bytes2 ?_ | refine norm_setByte ?_ | refine norm_int1 ?_ | refine norm_mk ?_) | (with_reducible refine bytes_mk ?_) | (refine ar_byte ?_) | (refine ar_i64 (by omega) (by omega) ?_) | (refine ar_low ?_) | (refine ix_byteN (by omega) ?_) | (refine ix_byteK (by simp only [Int.reduceToNat]; exact rfl) (by decide) (by omega) ?_) | (refine ix_byte (by omega) (by omega) ?_) | (refine ix_rfl (by decide) rfl ?_) | (refine sd_mk rfl ?_) | (refine sd_mk (by decide +kernel) ?_) | (refine sd_mk (by first | (simp only [List.length_map, List.length_append, List.length_cons, List.length_nil]; done) | ((try simp only [List.length_map, List.length_append, List.length_cons, List.length_nil, List.length_set, List.length_replicate, List.length_drop, List.length_take, true_and, and_true]); omega) | (dsimp only; omega)) ?_) | (first | refine shl8 (by omega) (by omega) ?_ | refine shl4 (by omega) (by omega) ?_ | refine shl1 (by omega) (by omega) ?_ | refine shl16 (by omega) (by omega) ?_ | refine shl24 (by omega) (by omega) ?_ | refine shr8 (by decide) ?_ | refine shr4 (by decide) ?_ | refine shr1 (by decide) ?_ | refine shr16 (by decide) ?_ | refine shr24 (by decide) ?_) | (with_reducible first | refine bit_mk and_1 ?_ | refine bit_mk and_15 ?_ | refine bit_mk and_255 ?_ | refine bit_mk and_4095 ?_ | refine bit_mk and_65535 ?_) | (refine quo_pos (by omega) (by omega) (by omega) ?_) | (refine rem_pos (by omega) (by omega) ?_)))
  all_goals (try (exfalso; exact absurd ‹S = [45]› ‹¬ S = [45]›))
  · have hin' := hin (by rw [hc]; decide)
    obtain ⟨q1, q2, q3⟩ := hf (rnext s) hn0 hin'
    refine call_f h [0, 1] [0, 1] (rnext s) ⟨hn0, hin'⟩ rfl rfl ?_
    refine And.intro (VS.mk (LeL.of_eq rfl)) (And.intro (VS.mk rOb_next) ?_)
    (repeat' (first | (refine VS.mk ?_) | (refine dr_mk ?_) | (refine md_l ?_) | ((first | refine sp_not_dec ?_ ?_ | refine sp_dec ?_ ?_ | refine sp_beq ?_ ?_ | refine sp_bne ?_ ?_ | refine sp_seq ?_ ?_ | refine sp_sne ?_ ?_ | refine sp_not ?_ ?_ | refine sp_any ?_ ?_) <;> (intro hc; (try simp only [List.length_map, List.length_append, List.length_cons, List.length_nil, Bool.and_true, Bool.and_eq_true, beq_iff_eq, Bool.and_eq_false_iff, beq_eq_false_iff_ne, Bool.true_and, ne_eq] at hc); (try (exfalso; omega)))) | (with_reducible first | refine norm_one ?_ | refine norm_app ?_ | refine norm_cutEnd ?_ | refine norm_cut ?_ | refine norm_bytes1 ?_ | refine norm_bytes2 ?_ | refine norm_setByte ?_ | refine norm_int1 ?_ | refine norm_mk ?_) | (with_reducible refine bytes_mk ?_) | (refine ar_byte ?_) | (refine ar_i64 (by omega) (by omega) ?_) | (refine ar_low ?_) | (refine ix_byteN (by omega) ?_) | (refine ix_byteK (by simp only [Int.reduceToNat]; exact rfl) (by decide) (by omega) ?_) | (refine ix_byte (by omega) (by omega) ?_) | (refine ix_rfl (by decide) rfl ?_) | (refine sd_mk rfl ?_) | (refine sd_mk (by decide +kernel) ?_) | (refine sd_mk (by first | (simp only [List.length_map, List.length_append, List.length_cons, List.length_nil]; done) | ((try simp only [List.length_map, List.length_append, List.length_cons, List.length_nil, List.length_set, List.length_replicate, List.length_drop, List.length_take, true_and, and_true]); omega) | (dsimp only; omega)) ?_) | (first | refine shl8 (by omega) (by omega) ?_ | refine shl4 (by omega) (by omega) ?_ | refine shl1 (by omega) (by omega) ?_ | refine shl16 (by omega) (by omega) ?_ | refine shl24 (by omega) (by omega) ?_ | refine shr8 (by decide) ?_ | refine shr4 (by decide) ?_ | refine shr1 (by decide) ?_ | refine shr16 (by decide) ?_ | refine shr24 (by decide) ?_) | (with_reducible first | refine bit_mk and_1 ?_ | refine bit_mk and_15 ?_ | refine bit_mk and_255 ?_ | refine bit_mk and_4095 ?_ | refine bit_mk and_65535 ?_) | (refine quo_pos (by omega) (by omega) (by omega) ?_) | (refine rem_pos (by omega) (by omega) ?_)))
    all_goals (try (exfalso; exact absurd ‹S = [45]› ‹¬ S = [45]›))
    have ho : primeStep L prime s = (.mk 3 0 [] [(prime (rnext s)).1], (prime (rnext s)).2) := by rw [hstep, if_pos hc]
    refine end_mk ?_
    (repeat' (first | (refine VS.mk ?_) | exact trivial | exact rfl | refine And.intro ?_ ?_))
    all_goals (rw [ho])
    · dsimp only; rw [exprU_mk, map1]; rfl
    · rfl
  · have hin' := hin (by rw [hc]; decide)
    obtain ⟨q1, q2, q3⟩ := hf (rnext s) hn0 hin'
    refine call_f h [0, 1] [0, 1] (rnext s) ⟨hn0, hin'⟩ rfl rfl ?_
    refine And.intro (VS.mk (LeL.of_eq rfl)) (And.intro (VS.mk rOb_next) ?_)
    have ho : primeStep L prime s = (.mk 4 0 [] [(prime (rnext s)).1], (prime (rnext s)).2) := by rw [hstep, if_neg (by rw [hc]; decide), if_pos hc]
    (repeat' (first | (refine VS.mk ?_) | (refine dr_mk ?_) | (refine md_l ?_) | ((first | refine sp_not_dec ?_ ?_ | refine sp_dec ?_ ?_ | refine sp_beq ?_ ?_ | refine sp_bne ?_ ?_ | refine sp_seq ?_ ?_ | refine sp_sne ?_ ?_ | refine sp_not ?_ ?_ | refine sp_any ?_ ?_) <;> (intro hc; (try simp only [List.length_map, List.length_append, List.length_cons, List.length_nil, Bool.and_true, Bool.and_eq_true, beq_iff_eq, Bool.and_eq_false_iff, beq_eq_false_iff_ne, Bool.true_and, ne_eq] at hc); (try (exfalso; omega)))) | (with_reducible first | refine norm_one ?_ | refine norm_app ?_ | refine norm_cutEnd ?_ | refine norm_cut ?_ | refine norm_bytes1 ?_ | refine norm_bytes2 ?_ | refine norm_setByte ?_ | refine norm_int1 ?_ | refine norm_mk ?_) | (with_reducible refine bytes_mk ?_) | (refine ar_byte ?_) | (refine ar_i64 (by omega) (by omega) ?_) | (refine ar_low ?_) | (refine ix_byteN (by omega) ?_) | (refine ix_byteK (by simp only [Int.reduceToNat]; exact rfl) (by decide) (by omega) ?_) | (refine ix_byte (by omega) (by omega) ?_) | (refine ix_rfl (by decide) rfl ?_) | (refine sd_mk rfl ?_) | (refine sd_mk (by decide +kernel) ?_) | (refine sd_mk (by first | (simp only [List.length_map, List.length_append, List.length_cons, List.length_nil]; done) | ((try simp only [List.length_map, List.length_append, List.length_cons, List.length_nil, List.length_set, List.length_replicate, List.length_drop, List.length_take, true_and, and_true]); omega) | (dsimp only; omega)) ?_) | (first | refine shl8 (by omega) (by omega) ?_ | refine shl4 (by omega) (by omega) ?_ | refine shl1 (by omega) (by omega) ?_ | refine shl16 (by omega) (by omega) ?_ | refine shl24 (by omega) (by omega) ?_ | refine shr8 (by decide) ?_ | refine shr4 (by decide) ?_ | refine shr1 (by decide) ?_ | refine shr16 (by decide) ?_ | refine shr24 (by decide) ?_) | (with_reducible first | refine bit_mk and_1 ?_ | refine bit_mk and_15 ?_ | refine bit_mk and_255 ?_ | refine bit_mk and_4095 ?_ | refine bit_mk and_65535 ?_) | (refine quo_pos (by omega) (by omega) (by omega) ?_) | (refine rem_pos (by omega) (by omega) ?_)))
    all_goals (try (exfalso; exact absurd ‹S = [45]› ‹¬ S = [45]›))
    refine end_mk ?_
    (repeat' (first | (refine VS.mk ?_) | exact trivial | exact rfl | refine And.intro ?_ ?_))
    all_goals (rw [ho])
    · dsimp only; rw [exprU_mk, map1]; rfl
    · rfl
  · have hin' := hin (by rw [hc]; decide)
    obtain ⟨q1, q2, q3⟩ := hcf (rnext s) hn0 hin'
    have hb2 : ∀ x : Int, (rbad (climbF L prime 5 1 (rnext s)).2 x) = rbad (climbF L prime 5 1 (rnext s)).2 x := fun _ => rfl
    refine call_f hcl [0, 1] [0, 1] (rnext s) ⟨hn0, hin'⟩ rfl rfl ?_
    refine And.intro (VS.mk (LeL.of_eq rfl)) (And.intro (VS.mk rOb_next) ?_)
    have hin2 : rsign L (climbF L prime 5 1 (rnext s)).2 ≠ [] → (climbF L prime 5 1 (rnext s)).2.at_ < L.length := rsign_in
    (repeat' (first | (refine VS.mk ?_) | (refine dr_mk ?_) | (refine md_l ?_) | ((first | refine sp_not_dec ?_ ?_ | refine sp_dec ?_ ?_ | refine sp_beq ?_ ?_ | refine sp_bne ?_ ?_ | refine sp_seq ?_ ?_ | refine sp_sne ?_ ?_ | refine sp_not ?_ ?_ | refine sp_any ?_ ?_) <;> (intro hc; (try simp only [List.length_map, List.length_append, List.length_cons, List.length_nil, Bool.and_true, Bool.and_eq_true, beq_iff_eq, Bool.and_eq_false_iff, beq_eq_false_iff_ne, Bool.true_and, ne_eq] at hc); (try (exfalso; omega)))) | (with_reducible first | refine norm_one ?_ | refine norm_app ?_ | refine norm_cutEnd ?_ | refine norm_cut ?_ | refine norm_bytes1 ?_ | refine norm_bytes2 ?_ | refine norm_setByte ?_ | refine norm_int1 ?_ | refine norm_mk ?_) | (with_reducible refine bytes_mk ?_) | (refine ar_byte ?_) | (refine ar_i64 (by omega) (by omega) ?_) | (refine ar_low ?_) | (refine ix_byteN (by omega) ?_) | (refine ix_byteK (by simp only [Int.reduceToNat]; exact rfl) (by decide) (by omega) ?_) | (refine ix_byte (by omega) (by omega) ?_) | (refine ix_rfl (by decide) rfl ?_) | (refine sd_mk rfl ?_) | (refine sd_mk (by decide +kernel) ?_) | (refine sd_mk (by first | (simp only [List.length_map, List.length_append, List.length_cons, List.length_nil]; done) | ((try simp only [List.length_map, List.length_append, List.length_cons, List.length_nil, List.length_set, List.length_replicate, List.length_drop, List.length_take, true_and, and_true]); omega) | (dsimp only; omega)) ?_) | (first | refine shl8 (by omega) (by omega) ?_ | refine shl4 (by omega) (by omega) ?_ | refine shl1 (by omega) (by omega) ?_ | refine shl16 (by omega) (by omega) ?_ | refine shl24 (by omega) (by omega) ?_ | refine shr8 (by decide) ?_ | refine shr4 (by decide) ?_ | refine shr1 (by decide) ?_ | refine shr16 (by decide) ?_ | refine shr24 (by decide) ?_) | (with_reducible first | refine bit_mk and_1 ?_ | refine bit_mk and_15 ?_ | refine bit_mk and_255 ?_ | refine bit_mk and_4095 ?_ | refine bit_mk and_65535 ?_) | (refine quo_pos (by omega) (by omega) (by omega) ?_) | (refine rem_pos (by omega) (by omega) ?_)))
    refine call_f (rsign_meets L) [0, 1] [0, 1] (climbF L prime 5 1 (rnext s)).2 ⟨hL, q2⟩ rfl rfl ?_
    refine And.intro (VS.mk (LeL.of_eq rfl)) (And.intro (VS.mk rfl) ?_)
    (repeat' (first | (refine VS.mk ?_) | (refine dr_mk ?_) | (refine md_l ?_) | ((first | refine sp_not_dec ?_ ?_ | refine sp_dec ?_ ?_ | refine sp_beq ?_ ?_ | refine sp_bne ?_ ?_ | refine sp_seq ?_ ?_ | refine sp_sne ?_ ?_ | refine sp_not ?_ ?_ | refine sp_any ?_ ?_) <;> (intro hc; (try simp only [List.length_map, List.length_append, List.length_cons, List.length_nil, Bool.and_true, Bool.and_eq_true, beq_iff_eq, Bool.and_eq_false_iff, beq_eq_false_iff_ne, Bool.true_and, ne_eq] at hc); (try (exfalso; omega)))) | (with_reducible first | refine norm_one ?_ | refine norm_app ?_ | refine norm_cutEnd ?_ | refine norm_cut ?_ | refine norm_bytes1 ?_ | refine norm_bytes2 ?_ | refine norm_setByte ?_ | refine norm_int1 ?_ | refine norm_mk ?_) | (with_reducible refine bytes_mk ?_) | (refine ar_byte ?_) | (refine ar_i64 (by omega) (by omega) ?_) | (refine ar_low ?_) | (refine ix_byteN (by omega) ?_) | (refine ix_byteK (by simp only [Int.reduceToNat]; exact rfl) (by decide) (by omega) ?_) | (refine ix_byte (by omega) (by omega) ?_) | (refine ix_rfl (by decide) rfl ?_) | (refine sd_mk rfl ?_) | (refine sd_mk (by decide +kernel) ?_) | (refine sd_mk (by first | (simp only [List.length_map, List.length_append, List.length_cons, List.length_nil]; done) | ((try simp only [List.length_map, List.length_append, List.length_cons, List.length_nil, List.length_set, List.length_replicate, List.length_drop, List.length_take, true_and, and_true]); omega) | (dsimp only; omega)) ?_) | (first | refine shl8 (by omega) (by omega) ?_ | refine shl4 (by omega) (by omega) ?_ | refine shl1 (by omega) (by omega) ?_ | refine shl16 (by omega) (by omega) ?_ | refine shl24 (by omega) (by omega) ?_ | refine shr8 (by decide) ?_ | refine shr4 (by decide) ?_ | refine shr1 (by decide) ?_ | refine shr16 (by decide) ?_ | refine shr24 (by decide) ?_) | (with_reducible first | refine bit_mk and_1 ?_ | refine bit_mk and_15 ?_ | refine bit_mk and_255 ?_ | refine bit_mk and_4095 ?_ | refine bit_mk and_65535 ?_) | (refine quo_pos (by omega) (by omega) (by omega) ?_) | (refine rem_pos (by omega) (by omega) ?_)))
    · refine call_f (rbad_meets L) [0, 1] [0, 1] ((climbF L prime 5 1 (rnext s)).2, 2) (Nat.le_trans q3 hm) rfl rfl ?_
      refine And.intro (VS.mk (LeL.of_eq rfl)) (And.intro (VS.mk rfl) ?_)
      (repeat' (first | (refine VS.mk ?_) | (refine dr_mk ?_) | (refine md_l ?_) | ((first | refine sp_not_dec ?_ ?_ | refine sp_dec ?_ ?_ | refine sp_beq ?_ ?_ | refine sp_bne ?_ ?_ | refine sp_seq ?_ ?_ | refine sp_sne ?_ ?_ | refine sp_not ?_ ?_ | refine sp_any ?_ ?_) <;> (intro hc; (try simp only [List.length_map, List.length_append, List.length_cons, List.length_nil, Bool.and_true, Bool.and_eq_true, beq_iff_eq, Bool.and_eq_false_iff, beq_eq_false_iff_ne, Bool.true_and, ne_eq] at hc); (try (exfalso; omega)))) | (with_reducible first | refine norm_one ?_ | refine norm_app ?_ | refine norm_cutEnd ?_ | refine norm_cut ?_ | refine norm_bytes1 ?_ | refine norm_bytes2 ?_ | refine norm_setByte ?_ | refine norm_int1 ?_ | refine norm_mk ?_) | (with_reducible refine bytes_mk ?_) | (refine ar_byte ?_) | (refine ar_i64 (by omega) (by omega) ?_) | (refine ar_low ?_) | (refine ix_byteN (by omega) ?_) | (refine ix_byteK (by simp only [Int.reduceToNat]; exact rfl) (by decide) (by omega) ?_) | (refine ix_byte (by omega) (by omega) ?_) | (refine ix_rfl (by decide) rfl ?_) | (refine sd_mk rfl ?_) | (refine sd_mk (by decide +kernel) ?_) | (refine sd_mk (by first | (simp only [List.length_map, List.length_append, List.length_cons, List.length_nil]; done) | ((try simp only [List.length_map, List.length_append, List.length_cons, List.length_nil, List.length_set, List.length_replicate, List.length_drop, List.length_take, true_and, and_true]); omega) | (dsimp only; omega)) ?_) | (first | refine shl8 (by omega) (by omega) ?_ | refine shl4 (by omega) (by omega) ?_ | refine shl1 (by omega) (by omega) ?_ | refine shl16 (by omega) (by omega) ?_ | refine shl24 (by omega) (by omega) ?_ | refine shr8 (by decide) ?_ | refine shr4 (by decide) ?_ | refine shr1 (by decide) ?_ | refine shr16 (by decide) ?_ | refine shr24 (by decide) ?_) | (with_reducible first | refine bit_mk and_1 ?_ | refine bit_mk and_15 ?_ | refine bit_mk and_255 ?_ | refine bit_mk and_4095 ?_ | refine bit_mk and_65535 ?_) | (refine quo_pos (by omega) (by omega) (by omega) ?_) | (refine rem_pos (by omega) (by omega) ?_)))
      have ho : primeStep L prime s = (noE, rbad (climbF L prime 5 1 (rnext s)).2 2) := by
        rw [hstep, if_neg (by assumption), if_neg (by assumption), if_pos (by assumption), if_neg hc]
      refine end_mk ?_
      (repeat' (first | (refine VS.mk ?_) | exact trivial | exact rfl | refine And.intro ?_ ?_))
      all_goals (rw [ho])
      all_goals rfl
    · have ho : primeStep L prime s = ((climbF L prime 5 1 (rnext s)).1, rnext (climbF L prime 5 1 (rnext s)).2) := by
        rw [hstep, if_neg (by assumption), if_neg (by assumption), if_pos (by assumption), if_pos hc]
      refine end_mk ?_
      (repeat' (first | (refine VS.mk ?_) | exact trivial | exact rfl | refine And.intro ?_ ?_))
      all_goals (rw [ho])
      · generalize (climbF L prime 5 1 (rnext s)).1 = e
        cases e; rw [exprU_mk, mk_kind, mk_n, mk_name, mk_kids]
      · exact rOb_next
  · refine call_f (rbad_meets L) [0, 1] [0, 1] (s, 9) (by show s.errs.length ≤ 1000; rw [hs1]; decide) rfl rfl ?_
    refine And.intro (VS.mk (LeL.of_eq rfl)) (And.intro (VS.mk rfl) ?_)
    (repeat' (first | (refine VS.mk ?_) | (refine dr_mk ?_) | (refine md_l ?_) | ((first | refine sp_not_dec ?_ ?_ | refine sp_dec ?_ ?_ | refine sp_beq ?_ ?_ | refine sp_bne ?_ ?_ | refine sp_seq ?_ ?_ | refine sp_sne ?_ ?_ | refine sp_not ?_ ?_ | refine sp_any ?_ ?_) <;> (intro hc; (try simp only [List.length_map, List.length_append, List.length_cons, List.length_nil, Bool.and_true, Bool.and_eq_true, beq_iff_eq, Bool.and_eq_false_iff, beq_eq_false_iff_ne, Bool.true_and, ne_eq] at hc); (try (exfalso; omega)))) | (with_reducible first | refine norm_one ?_ | refine norm_app ?_ | refine norm_cutEnd ?_ | refine norm_cut ?_ | refine norm_bytes1 ?_ | refine norm_bytes2 ?_ | refine norm_setByte ?_ | refine norm_int1 ?_ | refine norm_mk ?_) | (with_reducible refine bytes_mk ?_) | (refine ar_byte ?_) | (refine ar_i64 (by omega) (by omega) ?_) | (refine ar_low ?_) | (refine ix_byteN (by omega) ?_) | (refine ix_byteK (by simp only [Int.reduceToNat]; exact rfl) (by decide) (by omega) ?_) | (refine ix_byte (by omega) (by omega) ?_) | (refine ix_rfl (by decide) rfl ?_) | (refine sd_mk rfl ?_) | (refine sd_mk (by decide +kernel) ?_) | (refine sd_mk (by first | (simp only [List.length_map, List.length_append, List.length_cons, List.length_nil]; done) | ((try simp only [List.length_map, List.length_append, List.length_cons, List.length_nil, List.length_set, List.length_replicate, List.length_drop, List.length_take, true_and, and_true]); omega) | (dsimp only; omega)) ?_) | (first | refine shl8 (by omega) (by omega) ?_ | refine shl4 (by omega) (by omega) ?_ | refine shl1 (by omega) (by omega) ?_ | refine shl16 (by omega) (by omega) ?_ | refine shl24 (by omega) (by omega) ?_ | refine shr8 (by decide) ?_ | refine shr4 (by decide) ?_ | refine shr1 (by decide) ?_ | refine shr16 (by decide) ?_ | refine shr24 (by decide) ?_) | (with_reducible first | refine bit_mk and_1 ?_ | refine bit_mk and_15 ?_ | refine bit_mk and_255 ?_ | refine bit_mk and_4095 ?_ | refine bit_mk and_65535 ?_) | (refine quo_pos (by omega) (by omega) (by omega) ?_) | (refine rem_pos (by omega) (by omega) ?_)))
    have ho : primeStep L prime s = (noE, rbad s 9) := by
      rw [hstep, if_neg (by assumption), if_neg (by assumption), if_neg (by assumption)]
      unfold rtok
      rw [List.getElem?_eq_none (by omega)]
    refine end_mk ?_
    (repeat' (first | (refine VS.mk ?_) | exact trivial | exact rfl | refine And.intro ?_ ?_))
    all_goals (rw [ho])
    all_goals rfl
  · obtain ⟨t, ht⟩ := at_of_lt (l := L) (k := s.at_) (by omega)
    have ho : primeStep L prime s = if t.kind = 2 then (.mk 1 (signedI t.n 32) [] [], rnext s)
          else if t.kind = 1 then (if nameB t.text = true then (.mk 2 0 t.text [], rnext s) else (noE, rbad (rnext s) 7))
          else (noE, rbad (rnext s) 2) := by
      rw [hstep, if_neg (by assumption), if_neg (by assumption), if_neg (by assumption)]
      unfold rtok
      rw [ht]
    clear hstep
    refine ix_map t (by omega) (by simpa using ht) ?_
    have hnb : (rnext s).errs.length ≤ 1000 := by rw [hn0]; decide
    (repeat' (first | (refine VS.mk ?_) | (refine dr_mk ?_) | (refine md_l ?_) | ((first | refine sp_not_dec ?_ ?_ | refine sp_dec ?_ ?_ | refine sp_beq ?_ ?_ | refine sp_bne ?_ ?_ | refine sp_seq ?_ ?_ | refine sp_sne ?_ ?_ | refine sp_not ?_ ?_ | refine sp_any ?_ ?_) <;> (intro hc; (try simp only [List.length_map, List.length_append, List.length_cons, List.length_nil, Bool.and_true, Bool.and_eq_true, beq_iff_eq, Bool.and_eq_false_iff, beq_eq_false_iff_ne, Bool.true_and, ne_eq] at hc); (try (exfalso; omega)))) | (with_reducible first | refine norm_one ?_ | refine norm_app ?_ | refine norm_cutEnd ?_ | refine norm_cut ?_ | refine norm_bytes1 ?_ | refine norm_bytes2 ?_ | refine norm_setByte ?_ | refine norm_int1 ?_ | refine norm_mk ?_) | (with_reducible refine bytes_mk ?_) | (refine ar_byte ?_) | (refine ar_i64 (by omega) (by omega) ?_) | (refine ar_low ?_) | (refine ix_byteN (by omega) ?_) | (refine ix_byteK (by simp only [Int.reduceToNat]; exact rfl) (by decide) (by omega) ?_) | (refine ix_byte (by omega) (by omega) ?_) | (refine ix_rfl (by decide) rfl ?_) | (refine sd_mk rfl ?_) | (refine sd_mk (by decide +kernel) ?_) | (refine sd_mk (by first | (simp only [List.length_map, List.length_append, List.length_cons, List.length_nil]; done) | ((try simp only [List.length_map, List.length_append, List.length_cons, List.length_nil, List.length_set, List.length_replicate, List.length_drop, List.length_take, true_and, and_true]); omega) | (dsimp only; omega)) ?_) | (first | refine shl8 (by omega) (by omega) ?_ | refine shl4 (by omega) (by omega) ?_ | refine shl1 (by omega) (by omega) ?_ | refine shl16 (by omega) (by omega) ?_ | refine shl24 (by omega) (by omega) ?_ | refine shr8 (by decide) ?_ | refine shr4 (by decide) ?_ | refine shr1 (by decide) ?_ | refine shr16 (by decide) ?_ | refine shr24 (by decide) ?_) | (with_reducible first | refine bit_mk and_1 ?_ | refine bit_mk and_15 ?_ | refine bit_mk and_255 ?_ | refine bit_mk and_4095 ?_ | refine bit_mk and_65535 ?_) | (refine quo_pos (by omega) (by omega) (by omega) ?_) | (refine rem_pos (by omega) (by omega) ?_)))
    · refine call_p rsig_meets t.n trivial (VS.mk (LeL.of_eq rfl)) ?_
      (repeat' (first | (refine VS.mk ?_) | (refine dr_mk ?_) | (refine md_l ?_) | ((first | refine sp_not_dec ?_ ?_ | refine sp_dec ?_ ?_ | refine sp_beq ?_ ?_ | refine sp_bne ?_ ?_ | refine sp_seq ?_ ?_ | refine sp_sne ?_ ?_ | refine sp_not ?_ ?_ | refine sp_any ?_ ?_) <;> (intro hc; (try simp only [List.length_map, List.length_append, List.length_cons, List.length_nil, Bool.and_true, Bool.and_eq_true, beq_iff_eq, Bool.and_eq_false_iff, beq_eq_false_iff_ne, Bool.true_and, ne_eq] at hc); (try (exfalso; omega)))) | (with_reducible first | refine norm_one ?_ | refine norm_app ?_ | refine norm_cutEnd ?_ | refine norm_cut ?_ | refine norm_bytes1 ?_ | refine norm_bytes2 ?_ | refine norm_setByte ?_ | refine norm_int1 ?_ | refine norm_mk ?_) | (with_reducible refine bytes_mk ?_) | (refine ar_byte ?_) | (refine ar_i64 (by omega) (by omega) ?_) | (refine ar_low ?_) | (refine ix_byteN (by omega) ?_) | (refine ix_byteK (by simp only [Int.reduceToNat]; exact rfl) (by decide) (by omega) ?_) | (refine ix_byte (by omega) (by omega) ?_) | (refine ix_rfl (by decide) rfl ?_) | (refine sd_mk rfl ?_) | (refine sd_mk (by decide +kernel) ?_) | (refine sd_mk (by first | (simp only [List.length_map, List.length_append, List.length_cons, List.length_nil]; done) | ((try simp only [List.length_map, List.length_append, List.length_cons, List.length_nil, List.length_set, List.length_replicate, List.length_drop, List.length_take, true_and, and_true]); omega) | (dsimp only; omega)) ?_) | (first | refine shl8 (by omega) (by omega) ?_ | refine shl4 (by omega) (by omega) ?_ | refine shl1 (by omega) (by omega) ?_ | refine shl16 (by omega) (by omega) ?_ | refine shl24 (by omega) (by omega) ?_ | refine shr8 (by decide) ?_ | refine shr4 (by decide) ?_ | refine shr1 (by decide) ?_ | refine shr16 (by decide) ?_ | refine shr24 (by decide) ?_) | (with_reducible first | refine bit_mk and_1 ?_ | refine bit_mk and_15 ?_ | refine bit_mk and_255 ?_ | refine bit_mk and_4095 ?_ | refine bit_mk and_65535 ?_) | (refine quo_pos (by omega) (by omega) (by omega) ?_) | (refine rem_pos (by omega) (by omega) ?_)))
      rw [if_pos hc] at ho
      refine end_le (r1 := exprU (.mk 1 (signedI t.n 32) [] [])) (by rw [exprU_mk]; exact .agg (.cons (.refl _) (.cons (.refl _) (.cons (.refl _) (.cons (.nil 4) .nil))))) ?_ (Nat.le_refl _)
      refine end_mk ?_
      (repeat' (first | (refine VS.mk ?_) | exact trivial | exact rfl | refine And.intro ?_ ?_))
      all_goals (rw [ho])
      · rfl
      · exact rOb_next
    · refine call_f (rbad_meets L) [0, 1] [0, 1] (rnext s, 2) hnb rfl rfl ?_
      refine And.intro (VS.mk (LeL.of_eq rfl)) (And.intro (VS.mk rOb_next) ?_)
      (repeat' (first | (refine VS.mk ?_) | (refine dr_mk ?_) | (refine md_l ?_) | ((first | refine sp_not_dec ?_ ?_ | refine sp_dec ?_ ?_ | refine sp_beq ?_ ?_ | refine sp_bne ?_ ?_ | refine sp_seq ?_ ?_ | refine sp_sne ?_ ?_ | refine sp_not ?_ ?_ | refine sp_any ?_ ?_) <;> (intro hc; (try simp only [List.length_map, List.length_append, List.length_cons, List.length_nil, Bool.and_true, Bool.and_eq_true, beq_iff_eq, Bool.and_eq_false_iff, beq_eq_false_iff_ne, Bool.true_and, ne_eq] at hc); (try (exfalso; omega)))) | (with_reducible first | refine norm_one ?_ | refine norm_app ?_ | refine norm_cutEnd ?_ | refine norm_cut ?_ | refine norm_bytes1 ?_ | refine norm_bytes2 ?_ | refine norm_setByte ?_ | refine norm_int1 ?_ | refine norm_mk ?_) | (with_reducible refine bytes_mk ?_) | (refine ar_byte ?_) | (refine ar_i64 (by omega) (by omega) ?_) | (refine ar_low ?_) | (refine ix_byteN (by omega) ?_) | (refine ix_byteK (by simp only [Int.reduceToNat]; exact rfl) (by decide) (by omega) ?_) | (refine ix_byte (by omega) (by omega) ?_) | (refine ix_rfl (by decide) rfl ?_) | (refine sd_mk rfl ?_) | (refine sd_mk (by decide +kernel) ?_) | (refine sd_mk (by first | (simp only [List.length_map, List.length_append, List.length_cons, List.length_nil]; done) | ((try simp only [List.length_map, List.length_append, List.length_cons, List.length_nil, List.length_set, List.length_replicate, List.length_drop, List.length_take, true_and, and_true]); omega) | (dsimp only; omega)) ?_) | (first | refine shl8 (by omega) (by omega) ?_ | refine shl4 (by omega) (by omega) ?_ | refine shl1 (by omega) (by omega) ?_ | refine shl16 (by omega) (by omega) ?_ | refine shl24 (by omega) (by omega) ?_ | refine shr8 (by decide) ?_ | refine shr4 (by decide) ?_ | refine shr1 (by decide) ?_ | refine shr16 (by decide) ?_ | refine shr24 (by decide) ?_) | (with_reducible first | refine bit_mk and_1 ?_ | refine bit_mk and_15 ?_ | refine bit_mk and_255 ?_ | refine bit_mk and_4095 ?_ | refine bit_mk and_65535 ?_) | (refine quo_pos (by omega) (by omega) (by omega) ?_) | (refine rem_pos (by omega) (by omega) ?_)))
      rw [if_neg (by assumption), if_neg (by assumption)] at ho
      refine end_mk ?_
      (repeat' (first | (refine VS.mk ?_) | exact trivial | exact rfl | refine And.intro ?_ ?_))
      all_goals (rw [ho])
      all_goals rfl
    · refine call_p rname_any t.text trivial (VS.mk (LeL.of_eq rfl)) ?_
      (repeat' (first | (refine VS.mk ?_) | (refine dr_mk ?_) | (refine md_l ?_) | ((first | refine sp_not_dec ?_ ?_ | refine sp_dec ?_ ?_ | refine sp_beq ?_ ?_ | refine sp_bne ?_ ?_ | refine sp_seq ?_ ?_ | refine sp_sne ?_ ?_ | refine sp_not ?_ ?_ | refine sp_any ?_ ?_) <;> (intro hc; (try simp only [List.length_map, List.length_append, List.length_cons, List.length_nil, Bool.and_true, Bool.and_eq_true, beq_iff_eq, Bool.and_eq_false_iff, beq_eq_false_iff_ne, Bool.true_and, ne_eq] at hc); (try (exfalso; omega)))) | (with_reducible first | refine norm_one ?_ | refine norm_app ?_ | refine norm_cutEnd ?_ | refine norm_cut ?_ | refine norm_bytes1 ?_ | refine norm_bytes2 ?_ | refine norm_setByte ?_ | refine norm_int1 ?_ | refine norm_mk ?_) | (with_reducible refine bytes_mk ?_) | (refine ar_byte ?_) | (refine ar_i64 (by omega) (by omega) ?_) | (refine ar_low ?_) | (refine ix_byteN (by omega) ?_) | (refine ix_byteK (by simp only [Int.reduceToNat]; exact rfl) (by decide) (by omega) ?_) | (refine ix_byte (by omega) (by omega) ?_) | (refine ix_rfl (by decide) rfl ?_) | (refine sd_mk rfl ?_) | (refine sd_mk (by decide +kernel) ?_) | (refine sd_mk (by first | (simp only [List.length_map, List.length_append, List.length_cons, List.length_nil]; done) | ((try simp only [List.length_map, List.length_append, List.length_cons, List.length_nil, List.length_set, List.length_replicate, List.length_drop, List.length_take, true_and, and_true]); omega) | (dsimp only; omega)) ?_) | (first | refine shl8 (by omega) (by omega) ?_ | refine shl4 (by omega) (by omega) ?_ | refine shl1 (by omega) (by omega) ?_ | refine shl16 (by omega) (by omega) ?_ | refine shl24 (by omega) (by omega) ?_ | refine shr8 (by decide) ?_ | refine shr4 (by decide) ?_ | refine shr1 (by decide) ?_ | refine shr16 (by decide) ?_ | refine shr24 (by decide) ?_) | (with_reducible first | refine bit_mk and_1 ?_ | refine bit_mk and_15 ?_ | refine bit_mk and_255 ?_ | refine bit_mk and_4095 ?_ | refine bit_mk and_65535 ?_) | (refine quo_pos (by omega) (by omega) (by omega) ?_) | (refine rem_pos (by omega) (by omega) ?_)))
      · refine call_f (rbad_meets L) [0, 1] [0, 1] (rnext s, 7) hnb rfl rfl ?_
        refine And.intro (VS.mk (LeL.of_eq rfl)) (And.intro (VS.mk rOb_next) ?_)
        (repeat' (first | (refine VS.mk ?_) | (refine dr_mk ?_) | (refine md_l ?_) | ((first | refine sp_not_dec ?_ ?_ | refine sp_dec ?_ ?_ | refine sp_beq ?_ ?_ | refine sp_bne ?_ ?_ | refine sp_seq ?_ ?_ | refine sp_sne ?_ ?_ | refine sp_not ?_ ?_ | refine sp_any ?_ ?_) <;> (intro hc; (try simp only [List.length_map, List.length_append, List.length_cons, List.length_nil, Bool.and_true, Bool.and_eq_true, beq_iff_eq, Bool.and_eq_false_iff, beq_eq_false_iff_ne, Bool.true_and, ne_eq] at hc); (try (exfalso; omega)))) | (with_reducible first | refine norm_one ?_ | refine norm_app ?_ | refine norm_cutEnd ?_ | refine norm_cut ?_ | refine norm_bytes1 ?_ | refine norm_bytes2 ?_ | refine norm_setByte ?_ | refine norm_int1 ?_ | refine norm_mk ?_) | (with_reducible refine bytes_mk ?_) | (refine ar_byte ?_) | (refine ar_i64 (by omega) (by omega) ?_) | (refine ar_low ?_) | (refine ix_byteN (by omega) ?_) | (refine ix_byteK (by simp only [Int.reduceToNat]; exact rfl) (by decide) (by omega) ?_) | (refine ix_byte (by omega) (by omega) ?_) | (refine ix_rfl (by decide) rfl ?_) | (refine sd_mk rfl ?_) | (refine sd_mk (by decide +kernel) ?_) | (refine sd_mk (by first | (simp only [List.length_map, List.length_append, List.length_cons, List.length_nil]; done) | ((try simp only [List.length_map, List.length_append, List.length_cons, List.length_nil, List.length_set, List.length_replicate, List.length_drop, List.length_take, true_and, and_true]); omega) | (dsimp only; omega)) ?_) | (first | refine shl8 (by omega) (by omega) ?_ | refine shl4 (by omega) (by omega) ?_ | refine shl1 (by omega) (by omega) ?_ | refine shl16 (by omega) (by omega) ?_ | refine shl24 (by omega) (by omega) ?_ | refine shr8 (by decide) ?_ | refine shr4 (by decide) ?_ | refine shr1 (by decide) ?_ | refine shr16 (by decide) ?_ | refine shr24 (by decide) ?_) | (with_reducible first | refine bit_mk and_1 ?_ | refine bit_mk and_15 ?_ | refine bit_mk and_255 ?_ | refine bit_mk and_4095 ?_ | refine bit_mk and_65535 ?_) | (refine quo_pos (by omega) (by omega) (by omega) ?_) | (refine rem_pos (by omega) (by omega) ?_)))
        rw [if_neg (by assumption), if_pos (by assumption), if_neg (by rw [hc]; decide)] at ho
        refine end_mk ?_
        (repeat' (first | (refine VS.mk ?_) | exact trivial | exact rfl | refine And.intro ?_ ?_))
        all_goals (rw [ho])
        all_goals rfl
      · rw [if_neg (by assumption), if_pos (by assumption), if_pos hc] at ho
        refine end_le (r1 := exprU (.mk 2 0 t.text [])) (by rw [exprU_mk]; exact .agg (.cons (.refl _) (.cons (.refl _) (.cons (.refl _) (.cons (.nil 4) .nil))))) ?_ (Nat.le_refl _)
        refine end_mk ?_
        (repeat' (first | (refine VS.mk ?_) | exact trivial | exact rfl | refine And.intro ?_ ?_))
        all_goals (rw [ho])
        · rfl
        · exact rOb_next

theorem prime_succ (L : List OTok) (f : Nat) : primeF L (f + 1) = primeStep L (primeF L f) := by funext s; rw [primeF]
theorem primes {L : List OTok} (hL : L.length ≤ 1000000000) : ∀ f : Nat, f ≤ 7 → PrimeOk L (7 - (f : Int)) (primeF L f)
  | 0, _ => prime_deep (by decide)
  | f + 1, hf => by
    have h := primes hL f (by omega)
    rw [prime_succ]
    have e : (7 : Int) - ((f + 1 : Nat) : Int) + 1 = 7 - (f : Int) := by omega
    exact prime_step (m := f + 1) hL (by omega) (by omega) (by omega) (prime_fwd f) (by rw [e]; exact h)

theorem call_cellnil {P : Program} {f : Nat} {av : List D} {L : List Ob} {KP : D → Prop} {KW : D → List Ob → Prop} (k e : Nat) {ds : List D} (ds' : List D) (hk : L[k]? = some (.cells ds)) (h : NzL e L.length ds ds')
    (hc : CallS P f av (L.set k (.cells ds') ++ [.spare 0]) (fun _ => False) KW) : CallS P f av L KP KW :=
  call_shift (φ := fun d d' => d' = d) (shift_cellnil hk (NzL_eq h).1 (NzL_eq h).2) ⟨rfl, fun i d d' h1 h2 => by rw [h1] at h2; cases h2; rfl⟩ hc
def rparseI (L : List OTok) : OExpr × RSt := climbF L (primeF L 7) 5 1 ⟨0, []⟩
def rpRes (L : List OTok) : OExpr × Int × Int := if (rparseI L).2.errs = [] then ((rparseI L).1, ((rparseI L).2.at_ : Int), 0) else (noE, 0, (rparseI L).2.errs.headD 0)
def rpResD (p : OExpr × Int × Int) : D := .tup [exprU p.1, .int .i64 p.2.1, .int .i64 p.2.2]
theorem rparse_meets : Meets Try.prog n_plref1_Parse (SpecP (fun l : List OTok => l.length ≤ 1000000000) (fun l => [.sl 3 (l.map tokD) none]) fun l => rpResD (rpRes l)) := by
  refine meets_f tabOk Try.func5 rfl (by decide) ?_
  intro L hL
  refine ⟨Nat.le_refl _, by simp [Try.f5], fun E hE => ?_⟩
  have hp := climb_ok hL (by decide) (prime_fwd 7) (primes hL 7 (by decide)) 5 1 (by decide) (by decide) (by decide)
  refine vcOk _ ?_
  (repeat' (first | (refine VS.mk ?_) | (refine dr_mk ?_) | (refine md_l ?_) | ((first | refine sp_not_dec ?_ ?_ | refine sp_dec ?_ ?_ | refine sp_beq ?_ ?_ | refine sp_bne ?_ ?_ | refine sp_seq ?_ ?_ | refine sp_sne ?_ ?_ | refine sp_not ?_ ?_ | refine sp_any ?_ ?_) <;> (intro hc; (try simp only [List.length_map, List.length_append, List.length_cons, List.length_nil, Bool.and_true, Bool.and_eq_true, beq_iff_eq, Bool.and_eq_false_iff, beq_eq_false_iff_ne, Bool.true_and, ne_eq] at hc); (try (exfalso; omega)))) | (with_reducible first | refine norm_one ?_ | refine norm_app ?_ | refine norm_cutEnd ?_ | refine norm_cut ?_ | refine norm_bytes1 ?_ | refine norm_bytes2 ?_ | refine norm_setByte ?_ | refine norm_int1 ?_ | refine norm_mk ?_) | (with_reducible refine bytes_mk ?_) | (refine ar_byte ?_) | (refine ar_i64 (by omega) (by omega) ?_) | (refine ar_low ?_) | (refine ix_byteN (by omega) ?_) | (refine ix_byteK (by simp only [Int.reduceToNat]; exact rfl) (by decide) (by omega) ?_) | (refine ix_byte (by omega) (by omega) ?_) | (refine ix_rfl (by decide) rfl ?_) | (refine sd_mk rfl ?_) | (refine sd_mk (by decide +kernel) ?_) | (refine sd_mk (by first | (simp only [List.length_map, List.length_append, List.length_cons, List.length_nil]; done) | ((try simp only [List.length_map, List.length_append, List.length_cons, List.length_nil, List.length_set, List.length_replicate, List.length_drop, List.length_take, true_and, and_true]); omega) | (dsimp only; omega)) ?_) | (first | refine shl8 (by omega) (by omega) ?_ | refine shl4 (by omega) (by omega) ?_ | refine shl1 (by omega) (by omega) ?_ | refine shl16 (by omega) (by omega) ?_ | refine shl24 (by omega) (by omega) ?_ | refine shr8 (by decide) ?_ | refine shr4 (by decide) ?_ | refine shr1 (by decide) ?_ | refine shr16 (by decide) ?_ | refine shr24 (by decide) ?_) | (with_reducible first | refine bit_mk and_1 ?_ | refine bit_mk and_15 ?_ | refine bit_mk and_255 ?_ | refine bit_mk and_4095 ?_ | refine bit_mk and_65535 ?_) | (refine quo_pos (by omega) (by omega) (by omega) ?_) | (refine rem_pos (by omega) (by omega) ?_)))
  refine call_cellnil 1 1 [.sl 3 (L.map tokD) none, .int .i64 (0 : Nat), .sl 1 [] (some 2)] rfl ⟨.same, .same, .here, trivial⟩ ?_
  refine call_f hp [1, 2] [1, 2] ⟨0, []⟩ ⟨rfl, Nat.zero_le _⟩ rfl rfl ?_
  refine And.intro (VS.mk (LeL.of_eq rfl)) (And.intro (VS.mk rfl) ?_)
  have hp' : rpRes L = if (rparseI L).2.errs = [] then ((rparseI L).1, ((rparseI L).2.at_ : Int), 0) else (noE, 0, (rparseI L).2.errs.headD 0) := rfl
  have hx : climbF L (primeF L 7) 5 1 ⟨0, []⟩ = rparseI L := rfl
  rw [hx]
  generalize rparseI L = T at *
  obtain ⟨e, a, errs⟩ := T
  (repeat' (first | (refine VS.mk ?_) | (refine dr_mk ?_) | (refine md_l ?_) | ((first | refine sp_not_dec ?_ ?_ | refine sp_dec ?_ ?_ | refine sp_beq ?_ ?_ | refine sp_bne ?_ ?_ | refine sp_seq ?_ ?_ | refine sp_sne ?_ ?_ | refine sp_not ?_ ?_ | refine sp_any ?_ ?_) <;> (intro hc; (try simp only [List.length_map, List.length_append, List.length_cons, List.length_nil, Bool.and_true, Bool.and_eq_true, beq_iff_eq, Bool.and_eq_false_iff, beq_eq_false_iff_ne, Bool.true_and, ne_eq] at hc); (try (exfalso; omega)))) | (with_reducible first | refine norm_one ?_ | refine norm_app ?_ | refine norm_cutEnd ?_ | refine norm_cut ?_ | refine norm_bytes1 ?_ | refine norm_bytes2 ?_ | refine norm_setByte ?_ | refine norm_int1 ?_ | refine norm_mk ?_) | (with_reducible refine bytes_mk ?_) | (refine ar_byte ?_) | (refine ar_i64 (by omega) (by omega) ?_) | (refine ar_low ?_) | (refine ix_byteN (by omega) ?_) | (refine ix_byteK (by simp only [Int.reduceToNat]; exact rfl) (by decide) (by omega) ?_) | (refine ix_byte (by omega) (by omega) ?_) | (refine ix_rfl (by decide) rfl ?_) | (refine sd_mk rfl ?_) | (refine sd_mk (by decide +kernel) ?_) | (refine sd_mk (by first | (simp only [List.length_map, List.length_append, List.length_cons, List.length_nil]; done) | ((try simp only [List.length_map, List.length_append, List.length_cons, List.length_nil, List.length_set, List.length_replicate, List.length_drop, List.length_take, true_and, and_true]); omega) | (dsimp only; omega)) ?_) | (first | refine shl8 (by omega) (by omega) ?_ | refine shl4 (by omega) (by omega) ?_ | refine shl1 (by omega) (by omega) ?_ | refine shl16 (by omega) (by omega) ?_ | refine shl24 (by omega) (by omega) ?_ | refine shr8 (by decide) ?_ | refine shr4 (by decide) ?_ | refine shr1 (by decide) ?_ | refine shr16 (by decide) ?_ | refine shr24 (by decide) ?_) | (with_reducible first | refine bit_mk and_1 ?_ | refine bit_mk and_15 ?_ | refine bit_mk and_255 ?_ | refine bit_mk and_4095 ?_ | refine bit_mk and_65535 ?_) | (refine quo_pos (by omega) (by omega) (by omega) ?_) | (refine rem_pos (by omega) (by omega) ?_)))
  · cases errs with
    | nil => exact absurd hc (by decide)
    | cons x l =>
      rw [if_neg (by simp)] at hp'
      refine ix_map x (by omega) rfl ?_
      (repeat' (first | (refine VS.mk ?_) | (refine dr_mk ?_) | (refine md_l ?_) | ((first | refine sp_not_dec ?_ ?_ | refine sp_dec ?_ ?_ | refine sp_beq ?_ ?_ | refine sp_bne ?_ ?_ | refine sp_seq ?_ ?_ | refine sp_sne ?_ ?_ | refine sp_not ?_ ?_ | refine sp_any ?_ ?_) <;> (intro hc; (try simp only [List.length_map, List.length_append, List.length_cons, List.length_nil, Bool.and_true, Bool.and_eq_true, beq_iff_eq, Bool.and_eq_false_iff, beq_eq_false_iff_ne, Bool.true_and, ne_eq] at hc); (try (exfalso; omega)))) | (with_reducible first | refine norm_one ?_ | refine norm_app ?_ | refine norm_cutEnd ?_ | refine norm_cut ?_ | refine norm_bytes1 ?_ | refine norm_bytes2 ?_ | refine norm_setByte ?_ | refine norm_int1 ?_ | refine norm_mk ?_) | (with_reducible refine bytes_mk ?_) | (refine ar_byte ?_) | (refine ar_i64 (by omega) (by omega) ?_) | (refine ar_low ?_) | (refine ix_byteN (by omega) ?_) | (refine ix_byteK (by simp only [Int.reduceToNat]; exact rfl) (by decide) (by omega) ?_) | (refine ix_byte (by omega) (by omega) ?_) | (refine ix_rfl (by decide) rfl ?_) | (refine sd_mk rfl ?_) | (refine sd_mk (by decide +kernel) ?_) | (refine sd_mk (by first | (simp only [List.length_map, List.length_append, List.length_cons, List.length_nil]; done) | ((try simp only [List.length_map, List.length_append, List.length_cons, List.length_nil, List.length_set, List.length_replicate, List.length_drop, List.length_take, true_and, and_true]); omega) | (dsimp only; omega)) ?_) | (first | refine shl8 (by omega) (by omega) ?_ | refine shl4 (by omega) (by omega) ?_ | refine shl1 (by omega) (by omega) ?_ | refine shl16 (by omega) (by omega) ?_ | refine shl24 (by omega) (by omega) ?_ | refine shr8 (by decide) ?_ | refine shr4 (by decide) ?_ | refine shr1 (by decide) ?_ | refine shr16 (by decide) ?_ | refine shr24 (by decide) ?_) | (with_reducible first | refine bit_mk and_1 ?_ | refine bit_mk and_15 ?_ | refine bit_mk and_255 ?_ | refine bit_mk and_4095 ?_ | refine bit_mk and_65535 ?_) | (refine quo_pos (by omega) (by omega) (by omega) ?_) | (refine rem_pos (by omega) (by omega) ?_)))
      rw [hp']
      exact end_p (VS.mk (.tup (.cons noE_le (.cons (.refl _) (.cons (.refl _) .nil)))))
  · have he : errs = [] := List.eq_nil_of_length_eq_zero (by have hc : ¬ (0 : Int) < (errs.length : Int) := hc; omega)
    rw [if_pos he] at hp'
    rw [hp']
    refine end_p (VS.mk (LeD.of_eq ?_))
    show D.tup [.agg [.int .i64 e.kind, .int .i64 e.n, .str e.name, .sl 4 (e.kids.map exprD) none], .int .i64 _, .int .i64 0] = .tup [exprU e, _, _]
    cases e
    rw [exprU_mk, mk_kind, mk_n, mk_name, mk_kids]
end Go.Proofs.Ytlilcfkcofafeaa

namespace Go.Proofs.Ytlilcfkcofafeaa
open Go Go.Plat
set_option linter.unusedVariables false
set_option linter.unusedSimpArgs false
set_option maxRecDepth 100000
set_option maxHeartbeats 2000000
attribute [local irreducible] NilS LookS NormM bitI BytesS NormL Arith QuoS RemS ShlS ShrS BitS CatS SplitS SideS IdxS CallS LoopEnd EndS ModeS DrawS AWP Meets
attribute [local irreducible] signedI exprD nodes OExpr.kind OExpr.n OExpr.name OExpr.kids letterB digitB kindB nameB

def kindOf (k : Nat) (i : Int) : Int := (kinds k).getD i.toNat 0
def loopF (k : Nat) (sub : St → OExpr × St) : Nat → OExpr → St → OExpr × St
  | 0, e, s => (e, s)
  | g + 1, e, s => if s.err = 0 then (if (signI (signs k) s).1 < 0 then (e, (signI (signs k) s).2)
      else loopF k sub g (.mk (kindOf k (signI (signs k) s).1) 0 [] [e, (sub (signI (signs k) s).2).1]) (sub (signI (signs k) s).2).2)
    else (e, s)
def levelF (k : Nat) (sub : St → OExpr × St) (s : St) : OExpr × St := loopF k sub ((sub s).2.rest.length + 1) (sub s).1 (sub s).2
/-- level k of so many: 5 - j -/
def atF (one : St → OExpr × St) : Nat → St → OExpr × St
  | 0 => one
  | j + 1 => levelF (4 - j) (atF one j)
def tokI (s : St) : OExpr × St := match s.rest with
  | [] => (noE, failS s 9)
  | t :: r => if t.kind = 2 then (.mk 1 (signedI t.n 32) [] [], ⟨r, s.err⟩)
    else if t.kind = 1 then (if nameB t.text = true then (.mk 2 0 t.text [], ⟨r, s.err⟩) else (noE, failS ⟨r, s.err⟩ 7))
    else (noE, failS ⟨r, s.err⟩ 2)
def opens : List (List UInt8) := [[45], [126], [40]]
def closes : List (List UInt8) := [[41]]
def oneStep (one : St → OExpr × St) (s : St) : OExpr × St :=
  if (signI opens s).1 = 0 then (.mk 3 0 [] [(one (signI opens s).2).1], (one (signI opens s).2).2)
  else if (signI opens s).1 = 1 then (.mk 4 0 [] [(one (signI opens s).2).1], (one (signI opens s).2).2)
  else if (signI opens s).1 = 2 then
    (if (signI closes (atF one 5 (signI opens s).2).2).1 < 0 then (noE, failS (signI closes (atF one 5 (signI opens s).2).2).2 2)
     else ((atF one 5 (signI opens s).2).1, (signI closes (atF one 5 (signI opens s).2).2).2))
  else tokI (signI opens s).2
def oneI : Nat → St → OExpr × St
  | 0, s => (noE, failS s 10)
  | f + 1, s => oneStep (oneI f) s
def Shorter (p : St → OExpr × St) : Prop := ∀ s, (p s).2.rest.length ≤ s.rest.length
theorem sign_short (l : List (List UInt8)) (s : St) : (signI l s).2.rest.length ≤ s.rest.length ∧ (0 ≤ (signI l s).1 → (signI l s).2.rest.length + 1 = s.rest.length) := by
  obtain ⟨r, e⟩ := s
  cases r with
  | nil => exact ⟨Nat.le_refl _, fun h => by simp [signI] at h⟩
  | cons t r =>
    simp only [signI]
    split
    · split
      · exact ⟨by simp, fun _ => by simp⟩
      · exact ⟨Nat.le_refl _, fun h => by simp at h⟩
    · exact ⟨Nat.le_refl _, fun h => by simp at h⟩
theorem loop_short {k : Nat} {sub : St → OExpr × St} (hs : Shorter sub) : ∀ (g : Nat) (e : OExpr) (s : St), (loopF k sub g e s).2.rest.length ≤ s.rest.length
  | 0, e, s => Nat.le_refl _
  | g + 1, e, s => by
    rw [loopF]
    have h1 := (sign_short (signs k) s).1
    split
    · split
      · exact h1
      · have := loop_short (k := k) hs g (.mk (kindOf k (signI (signs k) s).1) 0 [] [e, (sub (signI (signs k) s).2).1]) (sub (signI (signs k) s).2).2
        have h2 := hs (signI (signs k) s).2
        omega
    · exact Nat.le_refl _
theorem level_short {k : Nat} {sub : St → OExpr × St} (hs : Shorter sub) : Shorter (levelF k sub) := fun s => by
  have h1 := hs s
  have h2 := loop_short (k := k) hs ((sub s).2.rest.length + 1) (sub s).1 (sub s).2
  unfold levelF; omega
theorem at_short {one : St → OExpr × St} (hs : Shorter one) : ∀ j, Shorter (atF one j)
  | 0 => hs
  | j + 1 => level_short (at_short hs j)
theorem fail_rest (s : St) (e : Int) : (failS s e).rest = s.rest := by unfold failS; split <;> rfl
theorem tok_short : Shorter tokI := fun s => by
  obtain ⟨r, e⟩ := s
  cases r with
  | nil => simp [tokI, fail_rest]
  | cons t r =>
    simp only [tokI]
    repeat' split
    all_goals (try rw [fail_rest]); simp
theorem step_short {one : St → OExpr × St} (hs : Shorter one) : Shorter (oneStep one) := fun s => by
  have h1 := (sign_short opens s).1
  have h2 := hs (signI opens s).2
  have h3 := at_short hs 5 (signI opens s).2
  have h4 := (sign_short closes (atF one 5 (signI opens s).2).2).1
  have h5 := tok_short (signI opens s).2
  unfold oneStep
  repeat' split
  all_goals (try dsimp only); (try rw [fail_rest]); omega
theorem one_short : ∀ f, Shorter (oneI f)
  | 0 => fun s => by rw [oneI, fail_rest]; exact Nat.le_refl _
  | f + 1 => fun s => by rw [oneI]; exact step_short (one_short f) s

theorem loop_0 {k : Nat} {sub : St → OExpr × St} {e : OExpr} {s : St} : loopF k sub 0 e s = (e, s) := rfl
theorem loop_stop {k g : Nat} {sub : St → OExpr × St} {e : OExpr} {s : St} (h : ¬ s.err = 0) : loopF k sub g e s = (e, s) := by
  cases g with
  | zero => rfl
  | succ g => rw [loopF, if_neg h]
theorem loop_break {k g : Nat} {sub : St → OExpr × St} {e : OExpr} {s : St} (h : s.err = 0) (h2 : (signI (signs k) s).1 < 0) : loopF k sub (g + 1) e s = (e, (signI (signs k) s).2) := by rw [loopF, if_pos h, if_pos h2]
theorem loop_go {k g : Nat} {sub : St → OExpr × St} {e : OExpr} {s : St} (h : s.err = 0) (h2 : ¬ (signI (signs k) s).1 < 0) : loopF k sub (g + 1) e s =
    loopF k sub g (.mk (kindOf k (signI (signs k) s).1) 0 [] [e, (sub (signI (signs k) s).2).1]) (sub (signI (signs k) s).2).2 := by rw [loopF, if_pos h, if_neg h2]
theorem ix_lev {k : Nat} {K : D → Prop} (hk : k < 5) (h : K (levD k)) : IdxS [levD 0, levD 1, levD 2, levD 3, levD 4] (k : Int) K := by
  unfold IdxS
  refine ⟨by omega, levD k, ?_, h⟩
  rw [Int.toNat_natCast]
  match k, hk with
  | 0, _ => rfl
  | 1, _ => rfl
  | 2, _ => rfl
  | 3, _ => rfl
  | 4, _ => rfl
theorem idxT_bd (x : List UInt8) : ∀ (l : List (List UInt8)) (k : Nat), idxT x l k < ((k + l.length : Nat) : Int)
  | [], k => by rw [idxT]; omega
  | s :: l, k => by
    rw [idxT]
    split
    · simp only [List.length_cons]; omega
    · have := idxT_bd x l (k + 1)
      simp only [List.length_cons]; omega
theorem sign_bd (l : List (List UInt8)) (s : St) : (signI l s).1 < (l.length : Int) ∨ l.length = 0 := by
  obtain ⟨r, e⟩ := s
  cases r with
  | nil => simp only [signI]; omega
  | cons t r =>
    have := idxT_bd t.text l 0
    simp only [signI]
    split
    · split
      · dsimp only; omega
      · dsimp only; omega
    · dsimp only; omega
theorem signs_len (k : Nat) : (signs k).length = (kinds k).length ∧ 0 < (signs k).length ∧ (signs k).length ≤ 2 := by
  unfold signs kinds
  split <;> exact ⟨rfl, by decide, by decide⟩
theorem kinds_at {k : Nat} {s : St} (h : ¬ (signI (signs k) s).1 < 0) : (kinds k)[(signI (signs k) s).1.toNat]? = some (kindOf k (signI (signs k) s).1) := by
  have h1 := sign_bd (signs k) s
  obtain ⟨h2, h3, _⟩ := signs_len k
  have hlt : (signI (signs k) s).1.toNat < (kinds k).length := by omega
  unfold kindOf
  rw [List.getD_eq_getElem?_getD, List.getElem?_eq_getElem hlt]
  rfl
end Go.Proofs.Ytlilcfkcofafeaa
