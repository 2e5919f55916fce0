/-
  append, as the model runs it: there is room, or there is none.
-/
import Derived.Test.YtgmlcpmkonagcaaPlFw9
import Derived.ChangeKeysEq
import Derived.Laws.Append
import Derived.Laws.AppendOwn
namespace Go.Plat
open Go
set_option linter.unusedVariables false
set_option linter.unusedSimpArgs false

/-- what is appended: how many elements, of which cells -/
structure Appendix (P : Program) (w : World) (e : TypeId) (i : TI) (t2 : TypeId) (x : Value) (n : Nat) (news : List Value) : Prop where
  len : news.length = n * i.size
  run : ∀ (base : Option Addr) (sLen sCap : Nat) (t : TypeId) (ty : TypeId), P.underlying t = some (.slice e) →
    (sLen + n ≤ sCap → (Builtin.append_ #[t, t2] ty #[.slice base sLen sCap, x]).run P w =
      ((match base with | some a => storeCells (a.add (sLen * i.size)) news | none => pure ()).run P w).andThen fun _ w' => .ok (.slice base (sLen + n) sCap) w') ∧
    (sCap < sLen + n → (sLen + n) * i.bytes ≤ 140737488355328 → ∀ (olds : List Value), (∀ w' : World, (∀ a, w'.cell? a = w.cell? a) → (Builtin.firstCells i.size sLen (.slice base sLen sCap)).run P w' = .ok olds.toArray w') →
      (Builtin.append_ #[t, t2] ty #[.slice base sLen sCap, x]).run P w =
        .ok (.slice (some ⟨w.heap.size, 0, none⟩) (sLen + n) (grownCap w (sLen + n) sCap e))
          (w.drew.alloc (.cells (olds.toArray ++ news.toArray ++ Builtin.zeroCells i.zero.cells (grownCap w (sLen + n) sCap e - (sLen + n))) e)))

theorem Appendix.of_cells {P : Program} {w : World} {e : TypeId} {i : TI} (hi : TIOk P e i) {t2 : TypeId} {x : Value} {n : Nat} {news : List Value} {d : TypeDesc} (h2 : P.underlying t2 = some d) (hd : ∀ k, d ≠ .int k)
    (hn : ∀ w, (Builtin.lenOf x).run P w = .ok n w) (hl : news.length = n * i.size) (hb : n ≤ 4611686018427387904)
    (hnews : ∀ w' : World, (∀ a, w'.cell? a = w.cell? a) → (Builtin.firstCells i.size n x).run P w' = .ok news.toArray w') : Appendix P w e i t2 x n news := by
  refine ⟨hl, fun base sLen sCap t ty ht => ?_⟩
  obtain ⟨xi, h3, h4, h5, h6⟩ := hi.info
  have hm : (d matches .int _) = false := by cases d <;> simp at hd ⊢
  have hz : (sizeOf e).run P w = .ok i.size w := hi.sizeRun w
  constructor
  · intro hroom
    have hf := hnews w fun _ => rfl
    simp only [Builtin.append_, List.getElem?_toArray, List.getElem?_cons_zero, List.getElem?_cons_succ, Sem.run_bind, run_underlying ht, run_underlying h2, hi.sizeRun, Result.andThen, Sem.run_pure, hm, hn, Bool.false_eq_true, if_false, if_pos hroom, Bool.not_false, if_true, hf]
    cases base <;> simp only [Sem.run_pure, Sem.run_bind, Result.andThen] <;> rfl
  · intro hg hfit olds holds
    have hro : ¬ (sLen + n ≤ sCap) := by omega
    have hfit2 := growslice_fits hg hfit
    have hf := hnews w.drew fun _ => rfl
    have hfo := holds w.drew fun _ => rfl
    have hbp := hi.bpos
    have h63 : ¬ (((sLen + n : Nat) : Int) > IntKind.i64.max ∧ (False ∨ i.bytes = 0)) := by
      rintro ⟨_, h | h⟩
      · exact h
      · exact hbp h
    have hfit2' : ¬ (Builtin.nextslicecap (sLen + n) sCap * i.bytes > 2 ^ 48) := by omega
    have hch : (choose (.appendCap (sLen + n) sCap e)).run P w = .ok (grownCap w (sLen + n) sCap e) w.drew := by
      simp [choose, Sem.run, Question.forced, grownCap]
    have har : ∀ m, (askRoom m).run P w.drew = .ok () w.drew := fun m => by
      unfold askRoom; split <;> rfl
    simp only [Builtin.append_, List.getElem?_toArray, List.getElem?_cons_zero, List.getElem?_cons_succ, Sem.run_bind, run_underlying ht, run_underlying h2, hi.sizeRun, Result.andThen, Sem.run_pure, hm, hn, Bool.false_eq_true, if_false, if_neg hro, if_neg h63,
      run_typeInfo _ h3, h5, if_neg hfit2', hch, har, hf, hfo, Bool.not_false, if_true, hi.zeroRun, newRow_run]
    rfl

end Go.Plat
