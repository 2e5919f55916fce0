/-
  Arrays that are written in place: made, appended to.
-/
import Derived.Test.YtgmlcpmkonagcaaPlApp5
namespace Go.Plat
open Go
set_option linter.unusedVariables false
set_option linter.unusedSimpArgs false

/-- a new array -/
theorem newArr_post {w w' : World} {ρ : Pl} {L : List Ob} (hf : Fits w ρ L) (he : Ext F0 w w') {b e cap : Nat} (hb : w.heap.size ≤ b) {els : List D} (hlen : ∀ (i : Nat) d, els[i]? = some d → d.cells.length = e)
    (hcap : els.length ≤ cap) (hc : ∀ (i : Nat) d (j : Nat) c, els[i]? = some d → d.cells[j]? = some c → ∃ u, w'.cell? ⟨b, i * e + j, none⟩ = some u ∧ Rep w (foot ρ L) ρ L c u)
    (hall : ∀ j, j < cap * e → (∃ v, w'.cell? ⟨b, j, none⟩ = some v) ∧ w'.frozen? ⟨b, j, none⟩ = false) :
    Post w ρ L (.osl e L.length els.length 0 els.length) (L ++ [.arr e els]) (.slice (some ⟨b, 0, none⟩) els.length cap) w' (upd ρ L.length ⟨b, 0, cap * e⟩) := by
  have hown : ∀ b' off, Ob.owns (.arr e els) ⟨b, 0, cap * e⟩ b' off → w.heap.size ≤ b' := fun b' off h => by obtain ⟨rfl, _⟩ := h; exact hb
  have hfr : Fresh w (foot ρ L) (foot (upd ρ L.length ⟨b, 0, cap * e⟩) (L ++ [.arr e els])) := fun b' off h => (foot_snoc h).imp id (hown b' off)
  obtain ⟨h1, h2⟩ := hf.snoc he (o := .arr e els) (l := ⟨b, 0, cap * e⟩) hown
    ⟨Nat.mul_le_mul_right e hcap, hlen, fun i d j c hi hj => by
      obtain ⟨u, h3, h4⟩ := hc i d j c hi hj
      exact ⟨u, by rw [Nat.zero_add]; exact h3, h4.keep he.grow hfr (.snoc _ _ _ _)⟩, fun j hj => by rw [Nat.zero_add]; exact hall j hj⟩
  refine ⟨h1, .osl _ _ _ _ _ _ _ (by simp) ⟨hcap, by simp⟩ fun e' ds hds => ?_, he.grow, h2, .snoc _ _ _ _⟩
  simp at hds
  obtain ⟨rfl, rfl⟩ := hds
  refine ⟨rfl, Nat.le_refl _, fun _ => ?_⟩
  rw [upd_same]
  exact ⟨.inr (.inr (by simp)), by simp, by simp⟩

theorem alloc_all (w : World) (row : Array Value) (t : TypeId) (j : Nat) (hj : j < row.size) : (∃ v, (w.alloc (.cells row t)).cell? ⟨w.heap.size, j, none⟩ = some v) ∧ (w.alloc (.cells row t)).frozen? ⟨w.heap.size, j, none⟩ = false :=
  ⟨⟨row[j], by rw [World.cell?_alloc_new]; exact Array.getElem?_eq_getElem hj⟩, World.frozen?_alloc_new _ _ _ _⟩

def makeArrOp (T : Tab) (t : Nat) (x y : D) (L : List Ob) (K : D → List Ob → Prop) : Prop :=
  match ty T t with
  | some i => match i.d with
    | .slice e => match ty T e with
      | some j => match x with
        | .int .i64 n => match y with
          | .int .i64 c => match zeroD j.zero with
            | .any => False
            | _ => VS (SideS (0 ≤ n ∧ n = c ∧ n * j.bytes ≤ 140737488355328 ∧ n ≤ 140737488355328)
                (VS (NormL (List.replicate n.toNat (zeroD j.zero)) fun r m => K (.osl j.size L.length m 0 m) (L ++ [.arr j.size r]))))
          | _ => False
        | _ => False
      | none => False
    | _ => False
  | none => False

theorem makeArr_sound {P : Program} {T : Tab} (hT : TabOk P T) {t : Nat} {x y : Operand} {σ : List (Nat × D)} {L : List Ob} {K : D → List Ob → Prop} {o : Oper}
    (ho : o.op = .makeSlice t x y) (h : makeArrOp T t (evalD σ x) (evalD σ y) L K) : ∃ d L', OpOk P o σ L d L' ∧ K d L' := by
  unfold makeArrOp at h
  split at h <;> try exact h.elim
  rename_i i hi
  have hi := hT _ _ hi
  split at h <;> try exact h.elim
  rename_i e hd
  have hu := under_slice hi hd
  split at h <;> try exact h.elim
  rename_i j hj
  have hj := hT _ _ hj
  split at h <;> try exact h.elim
  rename_i n hx
  split at h <;> try exact h.elim
  rename_i c hy
  have hany : zeroD j.zero ≠ .any := by
    intro he
    rw [he] at h
    exact h
  have h : VS (SideS (0 ≤ n ∧ n = c ∧ n * j.bytes ≤ 140737488355328 ∧ n ≤ 140737488355328)
      (K (.osl j.size L.length (List.replicate n.toNat (zeroD j.zero)).length 0 (List.replicate n.toNat (zeroD j.zero)).length) (L ++ [.arr j.size (List.replicate n.toNat (zeroD j.zero))]))) := by
    split at h
    · exact h.elim
    · obtain ⟨h1, h2⟩ := h.out
      exact ⟨h1, VS.out h2⟩
  obtain ⟨⟨h0, h1, h2, h63⟩, hK⟩ := h.out
  subst h1
  obtain ⟨xi, h3, h4, h5, h6⟩ := hj.info
  refine ⟨_, _, OpOk.of_val fun a w ρ hf he => ?_, hK⟩
  have hv := he.eval x
  have hw := he.eval y
  rw [hx] at hv
  rw [hy] at hw
  have hr := run_make (P := P) w t e xi j.zero hu h3 h6 .i64 .i64 n n h0 (Int.le_refl _) (by rw [h5, Int.mul_comm]; omega) (by omega)
  rw [h4] at hr
  obtain ⟨h7, h8⟩ := zeroD_cells (w := w) (F := foot ρ L) hany
  rw [hj.szero] at h7
  have hsz : (madeCells j.zero.cells (n.toNat * j.size)).size = n.toNat * j.size := size_madeCells _ _
  have key := newArr_post hf (Ext.alloc w (.cells (madeCells j.zero.cells (n.toNat * j.size)) e)) (b := w.heap.size) (e := j.size) (cap := n.toNat) (Nat.le_refl _) (els := List.replicate n.toNat (zeroD j.zero)) (fun q d hq => by
      obtain ⟨_, rfl⟩ := repl_get hq
      exact h7) (by simp) (fun q d k c hq hk => by
      obtain ⟨hlt, rfl⟩ := repl_get hq
      obtain ⟨u, h9, h10⟩ := h8 k c hk
      refine ⟨u, ?_, .pure _ _ h10⟩
      have hk' : k < j.size := by rw [← h7]; exact (List.getElem?_eq_some_iff.1 hk).1
      have hb := row_lt (e := j.size) hlt hk'
      rw [World.cell?_alloc_new]
      unfold madeCells
      rw [made_get _ _ _ (by rw [hj.szero]; exact hj.pos) hb, hj.szero, Nat.mul_comm, Nat.mul_add_mod, Nat.mod_eq_of_lt hk']
      exact h9) (fun q hq => alloc_all _ _ _ _ (by rw [hsz]; exact hq))
  refine ⟨.slice (some ⟨w.heap.size, 0, none⟩) n.toNat n.toNat, w.alloc (.cells (madeCells j.zero.cells (n.toNat * j.size)) e), upd ρ L.length ⟨w.heap.size, 0, n.toNat * j.size⟩, by simp [execOp, ho, hv.int_inv, hw.int_inv, hr], ?_⟩
  have hlr : (List.replicate n.toNat (zeroD j.zero)).length = n.toNat := by simp
  rw [show Value.slice (some ⟨w.heap.size, 0, none⟩) n.toNat n.toNat = Value.slice (some ⟨w.heap.size, 0, none⟩) (List.replicate n.toNat (zeroD j.zero)).length n.toNat by rw [hlr]]
  exact key

/-- rows of cells, whatever they read as -/
theorem flat_rep {w : World} {R : D → Value → Prop} {b off e : Nat} (he : 0 < e) {ds : List D} (hlen : ∀ (i : Nat) d, ds[i]? = some d → d.cells.length = e)
    (h : ∀ (i : Nat) d (j : Nat) c, ds[i]? = some d → d.cells[j]? = some c → ∃ u, w.cell? ⟨b, off + (i * e + j), none⟩ = some u ∧ R c u) :
    ∃ vs : List Value, vs.length = ds.length * e ∧ (∀ (q : Nat) v, vs[q]? = some v → w.cell? ⟨b, off + q, none⟩ = some v) ∧
      ∀ (i : Nat) d (j : Nat) c, ds[i]? = some d → d.cells[j]? = some c → ∃ u, vs[i * e + j]? = some u ∧ R c u := by
  have hq : ∀ q, q < ds.length * e → ∃ u, w.cell? ⟨b, off + q, none⟩ = some u := by
    intro q hq
    have h1 : q / e < ds.length := Nat.div_lt_of_lt_mul (by rwa [Nat.mul_comm])
    have h2 : q % e < e := Nat.mod_lt _ he
    have hl := hlen _ _ (List.getElem?_eq_getElem h1)
    obtain ⟨u, h3, _⟩ := h (q / e) _ (q % e) _ (List.getElem?_eq_getElem h1) (List.getElem?_eq_getElem (by rw [hl]; exact h2))
    rw [Nat.mul_comm, Nat.div_add_mod] at h3
    exact ⟨u, h3⟩
  refine ⟨(List.range (ds.length * e)).map fun q => (w.cell? ⟨b, off + q, none⟩).getD undef, by simp, fun q v hv => ?_, fun i d j c hi hj => ?_⟩
  · simp only [List.getElem?_map, Option.map_eq_some_iff] at hv
    obtain ⟨q', h1, rfl⟩ := hv
    obtain ⟨h2, h3⟩ := List.getElem?_eq_some_iff.1 h1
    simp at h2 h3
    subst h3
    obtain ⟨u, h4⟩ := hq q h2
    simp [h4]
  · obtain ⟨u, h1, h3⟩ := h i d j c hi hj
    have hil : i < ds.length := (List.getElem?_eq_some_iff.1 hi).1
    have hjl : j < e := by rw [← hlen i d hi]; exact (List.getElem?_eq_some_iff.1 hj).1
    refine ⟨u, ?_, h3⟩
    rw [List.getElem?_map, List.getElem?_range (row_lt hil hjl)]
    simp [h1]

/-- the first elements of an array -/
theorem arr_new {P : Program} {w : World} {ρ : Pl} {L : List Ob} (hf : Fits w ρ L) {t t2 e : Nat} {ty : TypeId} {j : TI} (hu : P.underlying t = some (.slice e)) (hj : TIOk P e j) (hb : j.bytes ≤ 32768)
    {a : Option Addr} {x : Value} {ys : List D} {news : List Value} (hlen : ∀ (i : Nat) d, ys[i]? = some d → d.cells.length = j.size)
    (hx : Appendix P w e j t2 x ys.length news) (hr : RowsOf w (foot ρ L) j.size ys news) (hn : ys.length ≤ 4294967296) :
    ∃ v w' ρ', (Builtin.append_ #[t, t2] ty #[.slice a 0 0, x]).run P w = .ok v w' ∧ Post w ρ L (.osl j.size L.length ys.length 0 ys.length) (L ++ [.arr j.size ys]) v w' ρ' := by
  obtain ⟨hroom, hgrow⟩ := hx.run a 0 0 t ty hu
  rcases Nat.eq_zero_or_pos ys.length with h0 | h0
  · have hy : ys = [] := List.eq_nil_of_length_eq_zero h0
    subst hy
    have hnews : news = [] := List.eq_nil_of_length_eq_zero (by simpa using hr.1)
    subst hnews
    have hrun := hroom (by simp)
    obtain ⟨l, hlc⟩ : ∃ l : Loc, l.cap = 0 := ⟨⟨0, 0, 0⟩, rfl⟩
    obtain ⟨h1, h2⟩ := hf.snoc (Ext.refl F0 w) (o := .arr j.size []) (l := l) (fun b off h => by obtain ⟨_, h3, h4⟩ := h; omega) ⟨by simp, by simp, by simp, fun j hj => by omega⟩
    refine ⟨.slice a 0 0, w, _, by cases a <;> exact hrun, h1, .osl _ _ _ _ _ _ _ (by simp) ⟨Nat.le_refl _, fun _ => rfl⟩ (fun e' ds hds => ?_), .refl _ _, h2, .snoc _ _ _ _⟩
    simp at hds
    obtain ⟨rfl, rfl⟩ := hds
    exact ⟨rfl, Nat.le_refl _, fun _ => ⟨.inl rfl, by rw [upd_same]; simp [hlc], by simp⟩⟩
  · have hrun := hgrow (by simpa using h0) (by
      have : (0 + ys.length) * j.bytes ≤ 4294967296 * 32768 := Nat.mul_le_mul (by omega) hb
      omega) [] (fun w' _ => by cases a <;> simp [Builtin.firstCells, loadCells, loadCellsFrom])
    have hcap : 0 + ys.length ≤ grownCap w (0 + ys.length) 0 e := grownCap_ge _ _ _ _
    have harr : ([] : List Value).toArray ++ news.toArray ++ Builtin.zeroCells j.zero.cells (grownCap w (0 + ys.length) 0 e - (0 + ys.length)) = news.toArray ++ Builtin.zeroCells j.zero.cells (grownCap w (0 + ys.length) 0 e - (0 + ys.length)) := by simp
    rw [harr] at hrun
    simp only [Nat.zero_add] at hrun hcap
    generalize grownCap w ys.length 0 e = cap at *
    have hsz : (news.toArray ++ Builtin.zeroCells j.zero.cells (cap - ys.length)).size = cap * j.size := by
      simp [size_zeroCells, hr.1, hj.szero, ← Nat.add_mul]; congr 1; omega
    have key := newArr_post hf ((Ext.drew w).trans0 (Ext.alloc w.drew (.cells (news.toArray ++ Builtin.zeroCells j.zero.cells (cap - ys.length)) e))) (b := w.heap.size) (e := j.size) (cap := cap) (Nat.le_refl _) hlen hcap (fun q d k c hq hk => by
        obtain ⟨u, h1, h2⟩ := hr.2.2 q d k c hq hk
        refine ⟨u, ?_, .pure _ _ h2⟩
        have hlt : q * j.size + k < news.length := (List.getElem?_eq_some_iff.1 h1).1
        rw [show w.heap.size = w.drew.heap.size from rfl, World.cell?_alloc_new, Array.getElem?_append_left (by simpa using hlt)]
        simpa using h1) (fun q hq => alloc_all w.drew _ _ _ (by rw [hsz]; exact hq))
    exact ⟨_, _, _, hrun, key⟩

theorem set_same {L : List Ob} {k : Nat} {o : Ob} (hk : L[k]? = some o) : L.set k o = L := by
  apply List.ext_getElem?
  intro i
  by_cases hi : i = k
  · subst hi; rw [List.getElem?_set_self (List.getElem?_eq_some_iff.1 hk).1, hk]
  · rw [List.getElem?_set_ne (by omega)]

/-- more elements of an array -/
theorem arr_more {P : Program} {w : World} {ρ : Pl} {L : List Ob} (hf : Fits w ρ L) {t t2 e k : Nat} {ty : TypeId} {j : TI} (hu : P.underlying t = some (.slice e)) (hj : TIOk P e j) (hb : j.bytes ≤ 32768)
    {els : List D} {v x : Value} (hk : L[k]? = some (.arr j.size els)) (hv : Rep w (foot ρ L) ρ L (.osl j.size k els.length 0 els.length) v) {ys : List D} {news : List Value} (hlen : ∀ (i : Nat) d, ys[i]? = some d → d.cells.length = j.size)
    (hx : Appendix P w e j t2 x ys.length news) (hr : RowsOf w (foot ρ L) j.size ys news) (hn : els.length + ys.length ≤ 4294967296) :
    ∃ u w' ρ', (Builtin.append_ #[t, t2] ty #[v, x]).run P w = .ok u w' ∧ Post w ρ L (.osl j.size k (els ++ ys).length 0 (els ++ ys).length) (L.set k (.arr j.size (els ++ ys))) u w' ρ' := by
  have hpos : 0 < j.size := Nat.pos_of_ne_zero hj.pos
  have hkl : k < L.length := (List.getElem?_eq_some_iff.1 hk).1
  obtain ⟨a, cap, rfl, _, ⟨hc1, hc2⟩, hm⟩ := hv.osl_inv
  obtain ⟨_, _, hm⟩ := hm _ _ hk
  obtain ⟨hm1, hm2, _⟩ := hm rfl
  simp only [Nat.zero_mul, Nat.add_zero, Nat.zero_add] at hm1 hm2
  obtain ⟨o1, o2, o3, o4⟩ := hf.obj k _ hk
  have hlen2 : ∀ (i : Nat) d, (els ++ ys)[i]? = some d → d.cells.length = j.size := by
    intro i d hi
    rcases Nat.lt_or_ge i els.length with h | h
    · rw [List.getElem?_append_left h] at hi; exact o2 i d hi
    · rw [List.getElem?_append_right h] at hi; exact hlen _ d hi
  obtain ⟨hroom, hgrow⟩ := hx.run a els.length cap t ty hu
  rcases Nat.eq_zero_or_pos ys.length with h0 | h0
  · have hy : ys = [] := List.eq_nil_of_length_eq_zero h0
    subst hy
    have hnews : news = [] := List.eq_nil_of_length_eq_zero (by simpa using hr.1)
    subst hnews
    have hrun := hroom (by simpa using hc1)
    refine ⟨.slice a els.length cap, w, ρ, by cases a <;> exact hrun, ?_⟩
    rw [List.append_nil, set_same hk]
    exact .same hf hv
  · by_cases hfits : els.length + ys.length ≤ cap
    · have hrun := hroom hfits
      have ha : a = some ⟨(ρ k).block, (ρ k).off, none⟩ := (hm1.resolve_left (by omega)).resolve_left (by intro h; have := hc2 h; omega)
      subst ha
      have hnl : news.length = ys.length * j.size := hr.1
      have hle : (els.length + ys.length) * j.size ≤ (ρ k).cap := by rw [← hm2]; exact Nat.mul_le_mul_right _ hfits
      have hlsz : (els.length + ys.length) * j.size = els.length * j.size + ys.length * j.size := Nat.add_mul _ _ _
      have hex : ∀ q, q < news.length → ∃ u, w.cell? ⟨(ρ k).block, (ρ k).off + els.length * j.size + q, none⟩ = some u := fun q hq => by
        rw [Nat.add_assoc]; exact (o4 _ (by omega)).1
      have hfz : ∀ q, q < news.length → w.frozen? ⟨(ρ k).block, (ρ k).off + els.length * j.size + q, none⟩ = false := fun q hq => by
        rw [Nat.add_assoc]; exact (o4 _ (by omega)).2
      have hst : (storeCells ((⟨(ρ k).block, (ρ k).off, none⟩ : Addr).add (els.length * j.size)) news).run P w = .ok () (w.setCells (ρ k).block ((ρ k).off + els.length * j.size) news) := by
        rw [addr_add]
        have := run_storeCells_cells (P := P) (ρ k).block ((ρ k).off + els.length * j.size) news 0 w (fun q hq => by obtain ⟨u, hu⟩ := hex q hq; simp [hu]) (by simpa using hfz) hr.2.1
        simpa using this
      simp only [hst, Result.andThen] at hrun
      have hext := Ext.setCells w (ρ k).block ((ρ k).off + els.length * j.size) news
      have hsame := setCells_same (ρ k).block news ((ρ k).off + els.length * j.size) w
      have hc := Compat.setArr (ρ := ρ) (l' := ρ k) (ds' := els ++ ys) hk (by simp) (fun _ => rfl)
      have hat := fun q (hq : q < news.length) => setCells_at (ρ k).block news ((ρ k).off + els.length * j.size) w q hq hex
      obtain ⟨g1, g2, g3⟩ := hf.update (l' := ρ k) (o' := .arr j.size (els ++ ys)) hk hc _ (fun b' x ⟨e1, e2, e3⟩ => ⟨e1, by omega, by omega⟩) hext (fun b' x h => .inl h)
        (fun hfr he => ⟨by rw [List.length_append]; exact hle, hlen2, fun i d q c hi hq => by
          have hql : q < j.size := by rw [← hlen2 i d hi]; exact (List.getElem?_eq_some_iff.1 hq).1
          rcases Nat.lt_or_ge i els.length with hlt | hge
          · rw [List.getElem?_append_left hlt] at hi
            obtain ⟨u, h5, h6⟩ := o3 i d q c hi hq
            refine ⟨u, ?_, h6.keep he hfr hc⟩
            rw [setCells_other _ _ _ _ _ _ (fun _ => by have := row_lt hlt hql; omega)]
            exact h5
          · rw [List.getElem?_append_right hge] at hi
            obtain ⟨u, h5, h6⟩ := hr.2.2 _ d q c hi hq
            have hlt2 : (i - els.length) * j.size + q < news.length := (List.getElem?_eq_some_iff.1 h5).1
            have := hat _ hlt2
            have e1 : (ρ k).off + els.length * j.size + ((i - els.length) * j.size + q) = (ρ k).off + (i * j.size + q) := by
              have : i * j.size = els.length * j.size + (i - els.length) * j.size := by rw [← Nat.add_mul]; congr 1; omega
              omega
            rw [e1] at this
            exact ⟨u, this.trans h5, .pure _ _ (h6.keep he hfr)⟩, fun q hq => by
          obtain ⟨⟨u, h5⟩, h6⟩ := o4 q hq
          refine ⟨?_, by rw [hsame.2.2.2.2.1]; exact h6⟩
          by_cases hin : els.length * j.size ≤ q ∧ q < els.length * j.size + news.length
          · have := hat (q - els.length * j.size) (by omega)
            rw [show (ρ k).off + els.length * j.size + (q - els.length * j.size) = (ρ k).off + q by omega] at this
            exact ⟨_, this.trans (List.getElem?_eq_getElem (by omega))⟩
          · exact ⟨u, by rw [setCells_other _ _ _ _ _ _ (fun _ => by omega)]; exact h5⟩⟩)
      refine ⟨_, _, upd ρ k (ρ k), hrun, g1, ?_, g2, g3, hc⟩
      rw [← List.length_append]
      refine .osl _ _ _ _ _ _ _ (by simpa using hkl) ⟨by simpa using hfits, by simp⟩ fun e' ds hds => ?_
      rw [List.getElem?_set_self hkl] at hds
      cases hds
      refine ⟨rfl, Nat.le_refl _, fun _ => ?_⟩
      rw [upd_same]
      exact ⟨.inr (.inr (by simp)), by simpa using hm2, by simp⟩
    · obtain ⟨vs, p1, p2, p3⟩ := flat_rep (w := w) (R := Rep w (foot ρ L) ρ L) (b := (ρ k).block) (off := (ρ k).off) hpos o2 o3
      have hrun := hgrow (by omega) (by
        have : (els.length + ys.length) * j.bytes ≤ 4294967296 * 32768 := Nat.mul_le_mul hn hb
        omega) vs (fun w' hw => by
          rcases Nat.eq_zero_or_pos els.length with hz | hz
          · have : vs = [] := List.eq_nil_of_length_eq_zero (by rw [p1, hz, Nat.zero_mul])
            subst this
            rw [hz]
            cases a <;> simp [Builtin.firstCells, loadCells, loadCellsFrom]
          · have ha : a = some ⟨(ρ k).block, (ρ k).off, none⟩ := (hm1.resolve_left (by omega)).resolve_left (by intro h; have := hc2 h; omega)
            subst ha
            exact run_firstCells_some w' _ _ ⟨(ρ k).block, (ρ k).off, none⟩ _ _ vs p1 fun q u hq => by rw [addr_add, hw]; exact p2 q u hq)
      have hcap2 : els.length + ys.length ≤ grownCap w (els.length + ys.length) cap e := grownCap_ge _ _ _ _
      have harr : vs.toArray ++ news.toArray ++ Builtin.zeroCells j.zero.cells (grownCap w (els.length + ys.length) cap e - (els.length + ys.length)) = (vs ++ news).toArray ++ Builtin.zeroCells j.zero.cells (grownCap w (els.length + ys.length) cap e - (els.length + ys.length)) := by simp
      rw [harr] at hrun
      have hg1 := (Ext.drew w).trans0 (Ext.alloc w.drew (.cells ((vs ++ news).toArray ++ Builtin.zeroCells j.zero.cells (grownCap w (els.length + ys.length) cap e - (els.length + ys.length))) e))
      have hcell : ∀ q, (w.drew.alloc (.cells ((vs ++ news).toArray ++ Builtin.zeroCells j.zero.cells (grownCap w (els.length + ys.length) cap e - (els.length + ys.length))) e)).cell? ⟨w.heap.size, q, none⟩ = ((vs ++ news).toArray ++ Builtin.zeroCells j.zero.cells (grownCap w (els.length + ys.length) cap e - (els.length + ys.length)))[q]? := fun q => World.cell?_alloc_new w.drew _ _ _
      have hsz : ((vs ++ news).toArray ++ Builtin.zeroCells j.zero.cells (grownCap w (els.length + ys.length) cap e - (els.length + ys.length))).size = grownCap w (els.length + ys.length) cap e * j.size := by
        simp [size_zeroCells, p1, hr.1, hj.szero, ← Nat.add_mul]; congr 1; omega
      have hall := fun q (hq : q < grownCap w (els.length + ys.length) cap e * j.size) => alloc_all w.drew ((vs ++ news).toArray ++ Builtin.zeroCells j.zero.cells (grownCap w (els.length + ys.length) cap e - (els.length + ys.length))) e q (by rw [hsz]; exact hq)
      generalize w.drew.alloc (.cells ((vs ++ news).toArray ++ Builtin.zeroCells j.zero.cells (grownCap w (els.length + ys.length) cap e - (els.length + ys.length))) e) = w' at *
      generalize hzc : Builtin.zeroCells j.zero.cells (grownCap w (els.length + ys.length) cap e - (els.length + ys.length)) = zc at *
      generalize grownCap w (els.length + ys.length) cap e = cap' at *
      let l' : Loc := ⟨w.heap.size, 0, cap' * j.size⟩
      have hc := Compat.setArr (ρ := ρ) (l' := l') (ds' := els ++ ys) hk (by simp) (fun h => by rw [List.length_append] at h; omega)
      have hnews : ∀ (q : Nat) u, (vs ++ news)[q]? = some u → w'.cell? ⟨w.heap.size, 0 + q, none⟩ = some u := fun q u hq => by
        rw [Nat.zero_add, hcell, Array.getElem?_append_left (by simpa using (List.getElem?_eq_some_iff.1 hq).1)]
        simpa using hq
      obtain ⟨g1, g2, g3⟩ := hf.update (l' := l') (o' := .arr j.size (els ++ ys)) hk hc F0 (fun _ _ f => f.elim) hg1 (fun b off ⟨e1, _, _⟩ => .inr (by rw [e1]; exact Nat.le_refl _))
        (fun hfr he => ⟨by rw [List.length_append]; exact Nat.mul_le_mul_right _ hcap2, hlen2, fun i d q c hi hq => by
          have hql : q < j.size := by rw [← hlen2 i d hi]; exact (List.getElem?_eq_some_iff.1 hq).1
          rcases Nat.lt_or_ge i els.length with hlt | hge
          · rw [List.getElem?_append_left hlt] at hi
            obtain ⟨u, h5, h6⟩ := p3 i d q c hi hq
            exact ⟨u, hnews _ _ (by rw [List.getElem?_append_left (by rw [p1]; exact row_lt hlt hql)]; exact h5), h6.keep he hfr hc⟩
          · rw [List.getElem?_append_right hge] at hi
            obtain ⟨u, h5, h6⟩ := hr.2.2 _ d q c hi hq
            have e1 : i * j.size = els.length * j.size + (i - els.length) * j.size := by rw [← Nat.add_mul]; congr 1; omega
            have e2 : vs.length ≤ i * j.size + q := by omega
            have e3 : i * j.size + q - vs.length = (i - els.length) * j.size + q := by omega
            exact ⟨u, hnews (i * j.size + q) u (by rw [List.getElem?_append_right e2, e3]; exact h5), .pure _ _ (h6.keep he hfr)⟩, fun q hq => by
          have := hall q hq
          rw [show w.drew.heap.size = w.heap.size from rfl] at this
          rw [show l'.off + q = q from Nat.zero_add q]
          exact this⟩)
      refine ⟨_, w', upd ρ k l', hrun, g1, ?_, g2, g3, hc⟩
      rw [← List.length_append]
      refine .osl _ _ _ _ _ _ _ (by simpa using hkl) ⟨by simpa using hcap2, by simp⟩ fun e' ds hds => ?_
      rw [List.getElem?_set_self hkl] at hds
      cases hds
      refine ⟨rfl, Nat.le_refl _, fun _ => ?_⟩
      rw [upd_same]
      exact ⟨.inr (.inr (by simp [l'])), by simp [l'], by simp⟩

/-- either of two ways -/
def ModeS (A B : Prop) : Prop := A ∨ B
theorem md_l {A B : Prop} (h : A) : ModeS A B := .inl h
theorem md_r {A B : Prop} (h : B) : ModeS A B := .inr h

def appArrOp (T : Tab) (t t2 : Nat) (x y : D) (L : List Ob) (K : D → List Ob → Prop) : Prop :=
  match ty T t with
  | some i => match i.d with
    | .slice e => match ty T e with
      | some j => match Nat.ble j.bytes 32768 with
        | true => ysK T t2 j.size y fun ys => match x with
          | .nilsl => VS (SideS (ys.length ≤ 4294967296) (VS (NormL ys fun r m => K (.osl j.size L.length m 0 m) (L ++ [.arr j.size r]))))
          | .osl es k n off len => match Nat.beq es j.size with
            | true => match off with
              | 0 => nthK k L fun o => match o with
                | .arr e' els => match Nat.beq e' j.size with
                  | true => VS (SideS (n = els.length ∧ len = els.length ∧ els.length + ys.length ≤ 4294967296) (VS (NormL (els ++ ys) fun r m => setLK k (.arr j.size r) L fun L => K (.osl j.size k m 0 m) L)))
                  | false => False
                | _ => False
              | _ + 1 => False
            | false => False
          | _ => False
        | false => False
      | none => False
    | _ => False
  | none => False

theorem appArr_sound {P : Program} {T : Tab} (hT : TabOk P T) {t t2 : Nat} {x y : Operand} {σ : List (Nat × D)} {L : List Ob} {K : D → List Ob → Prop} {o : Oper}
    (ho : o.op = .call { callee := .builtin .append, args := #[x, y], argTypes := #[t, t2] }) (h : appArrOp T t t2 (evalD σ x) (evalD σ y) L K) : ∃ d L', OpOk P o σ L d L' ∧ K d L' := by
  unfold appArrOp at h
  split at h <;> try exact h.elim
  rename_i i hi
  have hi := hT _ _ hi
  split at h <;> try exact h.elim
  rename_i e hd
  have hu := under_slice hi hd
  split at h <;> try exact h.elim
  rename_i j hj
  have hj := hT _ _ hj
  split at h <;> try exact h.elim
  rename_i hb
  have hb := Nat.le_of_ble_eq_true hb
  obtain ⟨ys, h, hys⟩ := ysK_sound hT hj h
  have fin : ∀ {w w' : World} {a : Act} {v : Value}, (Builtin.append_ #[t, t2] o.type #[a.eval x, a.eval y]).run P w = .ok v w' → (execOp a.eval o).run P w = .ok (.value v) w' := fun hr =>
    exec_builtin' ho fun cs => by simp [builtin, hr]
  split at h <;> try exact h.elim
  · rename_i hx
    obtain ⟨hn, hK⟩ := h.out
    have hK := VS.out hK
    unfold NormL at hK
    refine ⟨_, _, OpOk.of_val fun a w ρ hf he => ?_, hK⟩
    have hv := he.eval x
    rw [hx] at hv
    obtain ⟨ad, hv⟩ := hv.nilsl_inv
    obtain ⟨hlen, news, h1, h2⟩ := hys w ρ L _ (he.eval y) (by omega)
    obtain ⟨v, w', ρ', h3, h4⟩ := arr_new (ty := o.type) (a := ad) hf hu hj hb hlen h1 h2 hn
    exact ⟨v, w', ρ', fin (by rw [hv]; exact h3), h4⟩
  · rename_i es k n off len hx
    split at h <;> try exact h.elim
    rename_i hes
    have hes := Nat.eq_of_beq_eq_true hes
    subst hes
    split at h <;> try exact h.elim
    obtain ⟨ob, hk, h⟩ := nthK_eq h
    split at h <;> try exact h.elim
    rename_i e' els
    split at h <;> try exact h.elim
    rename_i hee
    have hee := Nat.eq_of_beq_eq_true hee
    subst hee
    obtain ⟨⟨hn, hl, hle⟩, h⟩ := h.out
    have h := VS.out h
    unfold NormL at h
    have hK := setLK_eq h
    refine ⟨_, _, OpOk.of_val fun a w ρ hf he => ?_, hK⟩
    have hv := he.eval x
    rw [hx, hn, hl] at hv
    obtain ⟨hlen, news, h1, h2⟩ := hys w ρ L _ (he.eval y) (by omega)
    obtain ⟨v, w', ρ', h3, h4⟩ := arr_more (ty := o.type) hf hu hj hb hk hv hlen h1 h2 hle
    exact ⟨v, w', ρ', fin h3, h4⟩

def appendK (T : Tab) (t t2 : Nat) (x y : D) (L : List Ob) (K : D → List Ob → Prop) : Prop :=
  match x with
  | .nilsl => VS (ModeS (appendOp T t t2 .nilsl y L K) (appArrOp T t t2 .nilsl y L K))
  | .osl es k n off len => appArrOp T t t2 (.osl es k n off len) y L K
  | .sl e ds tok => appendOp T t t2 (.sl e ds tok) y L K
  | _ => False

theorem appendK_sound {P : Program} {T : Tab} (hT : TabOk P T) {t t2 : Nat} {x y : Operand} {σ : List (Nat × D)} {L : List Ob} {K : D → List Ob → Prop} {o : Oper}
    (ho : o.op = .call { callee := .builtin .append, args := #[x, y], argTypes := #[t, t2] }) (h : appendK T t t2 (evalD σ x) (evalD σ y) L K) : ∃ d L', OpOk P o σ L d L' ∧ K d L' := by
  unfold appendK at h
  split at h <;> try exact h.elim
  · rename_i hx
    rw [← hx] at h
    rcases h.out with h | h
    · exact append_sound hT ho h
    · exact appArr_sound hT ho h
  · rename_i hx
    rw [← hx] at h
    exact appArr_sound hT ho h
  · rename_i hx
    rw [← hx] at h
    exact append_sound hT ho h

/-- a literal that is appended to: no room behind it -/
def litK (K : D → List Ob → Prop) (L : List Ob) (d : D) : Prop :=
  match d with
  | .sl e ds _ => VS (NormL ds fun r n => K (.sl e r (some L.length)) (L ++ [.spare n]))
  | _ => False
def buildTokOp (T : Tab) (t len : Nat) (ps : List (Nat × Operand)) (σ : List (Nat × D)) (L : List Ob) (K : D → List Ob → Prop) : Prop := buildSliceOp T t len ps σ (litK K L)

theorem buildTok_sound {P : Program} {T : Tab} (hT : TabOk P T) {t len : Nat} {ps : Array (Nat × Operand)} {σ : List (Nat × D)} {L : List Ob} {K : D → List Ob → Prop} {o : Oper}
    (ho : o.op = .buildSlice t len ps) (h : buildTokOp T t len ps.toList σ L K) : ∃ d L', OpOk P o σ L d L' ∧ K d L' := by
  obtain ⟨d, h1, h2, h3⟩ := buildSlice_run hT ho h
  rcases h3 with rfl | ⟨e, ds, rfl, hlen⟩
  · exact h2.elim
  · have h2 := VS.out h2
    unfold NormL at h2
    refine ⟨_, _, OpOk.of_val fun a w ρ hf he => ?_, h2⟩
    obtain ⟨v, w', h4, h5, h6, ad, rfl⟩ := h1 L a w ρ hf he
    obtain ⟨g1, g2⟩ := hf.snoc h5 (o := .spare ds.length) (l := ⟨0, 0, 0⟩) (fun b off h => by
      obtain ⟨_, h3, h4⟩ := h
      have h4 : off < 0 + 0 := h4
      omega) (fun j hj => by simp at hj)
    have hfr := g2.foot (ρ' := upd ρ L.length ⟨0, 0, 0⟩) rfl
    refine ⟨_, w', upd ρ L.length ⟨0, 0, 0⟩, h4, g1, ?_, h5.grow, g2, .snoc _ _ _ _⟩
    refine .tok _ _ _ _ (by simp) (h6.keep (Ext.refl (foot ρ L) _) fun b off hb => ?_) fun n hn => ?_
    · rcases foot_snoc hb with h | ⟨_, h3, h4⟩
      · exact .inl h
      · have h4 : off < 0 + 0 := h4
        omega
    · simp at hn
      subst hn
      refine ⟨Nat.le_refl _, fun _ => ?_⟩
      rw [upd_same]
      exact .inr ⟨rfl, rfl⟩

end Go.Plat
