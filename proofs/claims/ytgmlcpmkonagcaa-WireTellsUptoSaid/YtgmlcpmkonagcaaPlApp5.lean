/-
  append as an operation; bytes of a string.
-/
import Derived.Test.YtgmlcpmkonagcaaPlApp4
import Derived.Laws.IdiomStrings
namespace Go.Plat
open Go
set_option linter.unusedVariables false
set_option linter.unusedSimpArgs false

theorem exec_builtin' {P : Program} {w w' : World} {a : Act} {o : Oper} {b : Builtin} {args : Array Operand} {ts : Array TypeId} {v : Value}
    (ho : o.op = .call { callee := .builtin b, args := args, argTypes := ts })
    (h : ∀ cs, (builtin b ts o.type cs (args.map a.eval)).run P w = .ok (.value v) w') : (execOp a.eval o).run P w = .ok (.value v) w' := exec_builtin ho (h _)

theorem append_sound {P : Program} {T : Tab} (hT : TabOk P T) {t t2 : Nat} {x y : Operand} {σ : List (Nat × D)} {L : List Ob} {K : D → List Ob → Prop} {o : Oper}
    (ho : o.op = .call { callee := .builtin .append, args := #[x, y], argTypes := #[t, t2] }) (h : appendOp T t t2 (evalD σ x) (evalD σ y) L K) : ∃ d L', OpOk P o σ L d L' ∧ K d L' := by
  unfold appendOp at h
  split at h <;> try exact h.elim
  rename_i i hi
  have hi := hT _ _ hi
  split at h <;> try exact h.elim
  rename_i e hd
  have hu := under_slice hi hd
  split at h <;> try exact h.elim
  rename_i j hj
  have hj := hT _ _ hj
  split at h <;> try exact h.elim
  rename_i hb
  have hb := Nat.le_of_ble_eq_true hb
  obtain ⟨ys, h, hys⟩ := ysK_sound hT hj h
  have fin : ∀ {w w' : World} {a : Act} {v : Value}, (Builtin.append_ #[t, t2] o.type #[a.eval x, a.eval y]).run P w = .ok v w' → (execOp a.eval o).run P w = .ok (.value v) w' := fun hr =>
    exec_builtin' ho fun cs => by simp [builtin, hr]
  split at h <;> try exact h.elim
  · rename_i hx
    obtain ⟨hn, hK⟩ := h.out
    have hK := VS.out hK
    unfold NormL at hK
    refine ⟨_, _, OpOk.of_val fun a w ρ hf he => ?_, hK⟩
    have hv := he.eval x
    rw [hx] at hv
    obtain ⟨ad, hv⟩ := hv.nilsl_inv
    obtain ⟨hlen, news, h1, h2⟩ := hys w ρ L _ (he.eval y) (by omega)
    obtain ⟨v, w', ρ', h3, h4⟩ := append_new (ty := o.type) (a := ad) hf hu hj hb hlen h1 h2 hn
    exact ⟨v, w', ρ', fin (by rw [hv]; exact h3), h4⟩
  · rename_i es ds k hx
    split at h <;> try exact h.elim
    rename_i hes
    have hes := Nat.eq_of_beq_eq_true hes
    subst hes
    obtain ⟨ob, hk, h⟩ := nthK_eq h
    split at h <;> try exact h.elim
    rename_i n
    obtain ⟨⟨hn, hle⟩, h⟩ := h.out
    have h := VS.out h
    unfold NormL at h
    have hK := setLK_eq h
    rw [List.length_append] at hK
    refine ⟨_, _, OpOk.of_val fun a w ρ hf he => ?_, hK⟩
    have hv := he.eval x
    rw [hx] at hv
    subst hn
    obtain ⟨hlen, news, h1, h2⟩ := hys w ρ L _ (he.eval y) (by omega)
    obtain ⟨v, w', ρ', h3, h4⟩ := append_more (ty := o.type) hf hu hj hb hk hv hlen h1 h2 hle
    exact ⟨v, w', ρ', fin h3, h4⟩

/-- the text of bytes -/
def BytesS (ds : List D) (K : D → Prop) : Prop := ∃ l : List UInt8, ds = l.map (fun c => .int .u8 c.toNat) ∧ K (.str l)

def bytesStrK (x : D) (K : D → Prop) : Prop :=
  match x with
  | .sl e ds _ => match Nat.beq e 1 with
    | true => VS (BytesS ds K)
    | false => False
  | .nilsl => K (.str [])
  | _ => False

theorem bytesStr_sound {P : Program} {s t e : Nat} {x : Operand} {σ : List (Nat × D)} {K : D → Prop} {o : Oper} {i j ie : TI} (hi : TIOk P s i) (hj : TIOk P t j) (hie : TIOk P e ie)
    (hd : i.d = .slice e) (hde : ie.d = .int .u8) (hdj : j.d = .str)
    (ho : o.op = .convert s t x) (h : bytesStrK (evalD σ x) K) : ∃ d, (∀ L, OpOk P o σ L d L) ∧ K d := by
  have h1 := under_slice hi hd
  have h2 := under_int hie hde
  have h3 := under_str hj hdj
  unfold bytesStrK at h
  split at h <;> try exact h.elim
  · rename_i e' ds tok hx
    split at h <;> try exact h.elim
    rename_i he'
    have he' := Nat.eq_of_beq_eq_true he'
    subst he'
    obtain ⟨l, rfl, hK⟩ := h.out
    refine ⟨_, OpOk.of_pure fun a w ρ L hf he => ?_, hK⟩
    have hv := he.eval x
    rw [hx] at hv
    refine ⟨.string ⟨l.toArray⟩, ?_, .pure _ _ (.str _)⟩
    rcases hv.sl_inv.sl_shape with ⟨h4, ad, h5⟩ | ⟨b, off, cap, h5, h4, h6, h7⟩
    · have hl : l = [] := by simpa using h4
      subst hl
      cases ad with
      | none =>
        have := run_convert_bytes_nil (P := P) w s e h1 h2 0 0 t h3
        simp only [execOp, ho, h5, Sem.run_bind, this, Result.andThen, Sem.run_pure]
        rfl
      | some ad =>
        have := run_convert_bytes_back (P := P) w s t e ad 0 [] h1 h2 h3 (by simp)
        simp only [List.length_nil] at this
        simp only [execOp, ho, h5, Sem.run_bind, this, Result.andThen, Sem.run_pure]
    · have := run_convert_bytes_back (P := P) w s t e ⟨b, off, none⟩ cap l h1 h2 h3 fun q hq => by
        obtain ⟨u, h8, _, h9⟩ := h7 q (.int .u8 l[q].toNat) 0 (.int .u8 l[q].toNat) (by simp [hq]) rfl
        cases h9
        rw [addr_add]
        simpa using h8
      simp only [List.length_map] at h5
      simp only [execOp, ho, h5, Sem.run_bind, this, Result.andThen, Sem.run_pure]
  · rename_i hx
    refine ⟨_, OpOk.of_pure fun a w ρ L hf he => ?_, h⟩
    have hv := he.eval x
    rw [hx] at hv
    obtain ⟨ad, h5⟩ := hv.nilsl_inv
    refine ⟨.string ⟨#[]⟩, ?_, .pure _ _ (.str [])⟩
    cases ad with
    | none =>
      have := run_convert_bytes_nil (P := P) w s e h1 h2 0 0 t h3
      simp only [execOp, ho, h5, Sem.run_bind, this, Result.andThen, Sem.run_pure]
      rfl
    | some ad =>
      have := run_convert_bytes_back (P := P) w s t e ad 0 [] h1 h2 h3 (by simp)
      simp only [List.length_nil] at this
      simp only [execOp, ho, h5, Sem.run_bind, this, Result.andThen, Sem.run_pure]

/-- []byte(s) -/
theorem strBytes_sound {P : Program} {s t e : Nat} {x : Operand} {σ : List (Nat × D)} {L : List Ob} {K : D → List Ob → Prop} {o : Oper} {i j ie : TI} (hi : TIOk P s i) (hj : TIOk P t j) (hie : TIOk P e ie)
    (hdi : i.d = .str) (hd : j.d = .slice e) (hde : ie.d = .int .u8) {l : List UInt8} (hx : evalD σ x = .str l)
    (ho : o.op = .convert s t x) (h : K (.sl 1 (l.map fun c => .int .u8 c.toNat) (some L.length)) (L ++ [.spare l.length])) : ∃ d L', OpOk P o σ L d L' ∧ K d L' := by
  have h1 := under_slice hj hd
  have h2 := under_int hie hde
  have h3 := under_str hi hdi
  refine ⟨_, _, OpOk.of_val fun a w ρ hf he => ?_, h⟩
  have hv := he.eval x
  rw [hx] at hv
  have hrun := run_bytes_of_string (P := P) w s t e ⟨l.toArray⟩ h3 h1 h2
  have hsz : (⟨l.toArray⟩ : ByteArray).size = l.length := size_mk l
  have hcap : l.length ≤ grownCap w l.length 0 e := grownCap_ge _ _ _ _
  have hrow : bytesRow ⟨l.toArray⟩ (grownCap w l.length 0 e) = ((l.map fun c => Value.int .u8 c.toNat) ++ List.replicate (grownCap w l.length 0 e - l.length) (Value.int .u8 0)).toArray := by
    unfold bytesRow
    rw [hsz]
    apply Array.ext'
    simp
  rw [hsz, hrow] at hrun
  generalize grownCap w l.length 0 e = cap at *
  generalize hrl : ((l.map fun c => Value.int .u8 c.toNat) ++ List.replicate (cap - l.length) (Value.int .u8 0)).toArray = row at *
  have hrs : row.size = cap := by rw [← hrl]; simp; omega
  let w' := w.drew.alloc (.cells row e (row.size, row.size + 1))
  have hcell : ∀ q, w'.cell? ⟨w.heap.size, q, none⟩ = row[q]? := fun q => World.cell?_alloc_mark w.drew row e _ q
  have hfz : ∀ q, q < cap → w'.frozen? ⟨w.heap.size, q, none⟩ = false := fun q hq => by
    rw [show w'.frozen? ⟨w.heap.size, q, none⟩ = _ from World.frozen?_alloc_mark w.drew row e _ _ q]
    simp; omega
  have hext : Ext F0 w w' := (Ext.drew w).trans0 (Ext.alloc w.drew _)
  have hown : ∀ b off, Ob.owns (.spare l.length) ⟨w.heap.size, l.length, cap - l.length⟩ b off → w.heap.size ≤ b := fun b off h => by obtain ⟨rfl, _⟩ := h; exact Nat.le_refl _
  obtain ⟨g1, g2⟩ := hf.snoc hext (o := .spare l.length) (l := ⟨w.heap.size, l.length, cap - l.length⟩) hown (fun q hq => by
    have hq : q < cap - l.length := hq
    have hz2 := hfz (l.length + q) (by omega)
    refine ⟨?_, hz2⟩
    show ∃ v, w'.cell? ⟨w.heap.size, l.length + q, none⟩ = some v
    rw [hcell]
    exact ⟨_, Array.getElem?_eq_getElem (by omega)⟩)
  refine ⟨.slice (some ⟨w.heap.size, 0, none⟩) l.length cap, w', upd ρ L.length ⟨w.heap.size, l.length, cap - l.length⟩, ?_, g1, .tok _ _ _ _ (by simp) ?_ (fun n hn => ?_), hext.grow, g2, .snoc _ _ _ _⟩
  · simp only [execOp, ho, hv.str_inv, Sem.run_bind, hrun, Result.andThen, Sem.run_pure]
    rfl
  · have hgoal := rows_sl (w := w') (F := foot (upd ρ L.length ⟨w.heap.size, l.length, cap - l.length⟩) (L ++ [.spare l.length])) (e := 1) (b := w.heap.size) (off := 0) (cap := cap) (els := l.map fun c => D.int .u8 c.toNat) (vs := l.map fun c => Value.int .u8 c.toNat) (by simpa using hcap)
      (fun i d hi => by simp only [List.getElem?_map, Option.map_eq_some_iff] at hi; obtain ⟨c, _, rfl⟩ := hi; rfl)
      ⟨by simp, by simp; intro a _; rfl, fun i d q c hi hq => by
        simp only [List.getElem?_map, Option.map_eq_some_iff] at hi
        obtain ⟨c', h2, rfl⟩ := hi
        cases q with
        | zero => simp [D.cells] at hq; subst hq; exact ⟨_, by simp [h2], .int _ _⟩
        | succ q => simp [D.cells] at hq⟩
      (fun q u hq => by
        have hq' : q < l.length := by simpa using (List.getElem?_eq_some_iff.1 hq).1
        refine ⟨?_, fun hF => ?_⟩
        · rw [Nat.zero_add, hcell, ← hrl]
          rw [List.getElem?_toArray, List.getElem?_append_left (by simpa using hq')]
          exact hq
        · rw [Nat.zero_add] at hF
          rcases foot_snoc hF with h | ⟨_, h, _⟩
          · have := hf.foot_lt h; omega
          · have h : l.length ≤ q := h
            omega)
    simpa using hgoal
  · simp at hn
    subst hn
    refine ⟨by simp, fun _ => ?_⟩
    rw [upd_same]
    exact .inl ⟨rfl, by simp, by simp⟩

end Go.Plat
