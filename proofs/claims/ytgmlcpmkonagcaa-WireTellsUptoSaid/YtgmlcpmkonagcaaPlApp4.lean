/-
  append: both ways.
-/
import Derived.Test.YtgmlcpmkonagcaaPlApp3
namespace Go.Plat
open Go
set_option linter.unusedVariables false
set_option linter.unusedSimpArgs false

theorem row_lt {e i j n : Nat} (hi : i < n) (hj : j < e) : i * e + j < n * e := by
  have := Nat.mul_le_mul_right e hi
  rw [Nat.succ_mul] at this
  omega

/-- cells that hold rows read as a slice -/
theorem rows_sl {w : World} {F : Nat → Nat → Prop} {e b off cap : Nat} {els : List D} {vs : List Value} (hcap : els.length ≤ cap) (hlen : ∀ (i : Nat) d, els[i]? = some d → d.cells.length = e)
    (hr : RowsOf w F e els vs) (hc : ∀ (q : Nat) v, vs[q]? = some v → w.cell? ⟨b, off + q, none⟩ = some v ∧ ¬ F b (off + q)) :
    RepP w F (.sl e els none) (.slice (some ⟨b, off, none⟩) els.length cap) := by
  refine .sl _ _ _ _ _ (fun i j => (vs[i * e + j]?).getD undef) hcap hlen (fun i d j c hi hj => ?_) (fun i d j c hi hj => ?_) fun i d j c hi hj => ?_
  all_goals obtain ⟨u, h1, h2⟩ := hr.2.2 i d j c hi hj
  · rw [h1]; exact hc _ _ h1
  · rw [h1]; exact hr.2.1 u (List.mem_of_getElem? h1)
  · rw [h1]; exact h2

theorem RowsOf.keep {w w' : World} {F F' : Nat → Nat → Prop} (he : Ext F w w') (hf : Fresh w F F') {e : Nat} {ys : List D} {news : List Value} (h : RowsOf w F e ys news) : RowsOf w' F' e ys news :=
  ⟨h.1, h.2.1, fun i d j c hi hj => by obtain ⟨u, h1, h2⟩ := h.2.2 i d j c hi hj; exact ⟨u, h1, h2.keep he hf⟩⟩

theorem RowsOf.append {w : World} {F : Nat → Nat → Prop} {e : Nat} {xs ys : List D} {vs us : List Value} (hlen : ∀ (i : Nat) d, (xs ++ ys)[i]? = some d → d.cells.length = e) (h : RowsOf w F e xs vs) (k : RowsOf w F e ys us) : RowsOf w F e (xs ++ ys) (vs ++ us) := by
  refine ⟨by simp [h.1, k.1, Nat.add_mul], fun v hv => (List.mem_append.1 hv).elim (h.2.1 v) (k.2.1 v), fun i d j c hi hj => ?_⟩
  have hjl : j < e := by rw [← hlen i d hi]; exact (List.getElem?_eq_some_iff.1 hj).1
  rcases Nat.lt_or_ge i xs.length with hlt | hge
  · rw [List.getElem?_append_left hlt] at hi
    obtain ⟨u, h1, h2⟩ := h.2.2 i d j c hi hj
    exact ⟨u, by rw [List.getElem?_append_left (by rw [h.1]; exact row_lt hlt hjl)]; exact h1, h2⟩
  · rw [List.getElem?_append_right hge] at hi
    obtain ⟨u, h1, h2⟩ := k.2.2 _ d j c hi hj
    refine ⟨u, ?_, h2⟩
    have hle : vs.length ≤ i * e + j := by
      rw [h.1]
      have := Nat.mul_le_mul_right e hge
      omega
    rw [List.getElem?_append_right hle, h.1]
    rw [show i * e + j - xs.length * e = (i - xs.length) * e + j by
      rw [Nat.sub_mul]
      have := Nat.mul_le_mul_right e hge
      omega]
    exact h1

/-- what a slice holds, as rows; and where its end is -/
theorem sl_rows {w : World} {F : Nat → Nat → Prop} {e : Nat} (he : 0 < e) {ds : List D} {v : Value} (h : RepP w F (.sl e ds none) v) :
    ∃ (base : Option Addr) (cap : Nat) (vs : List Value), v = .slice base ds.length cap ∧ ds.length ≤ cap ∧ RowsOf w F e ds vs ∧ (∀ (i : Nat) d, ds[i]? = some d → d.cells.length = e) ∧
      ((ds = [] ∧ cap = 0) ∨ ∃ b off, base = some ⟨b, off, none⟩ ∧ ∀ (q : Nat) u, vs[q]? = some u → w.cell? ⟨b, off + q, none⟩ = some u ∧ ¬ F b (off + q)) := by
  rcases h.sl_shape with ⟨h1, ad, h2⟩ | ⟨b, off, cap, h1, h2, h3, h4⟩
  · subst h1; subst h2
    exact ⟨ad, 0, [], rfl, Nat.le_refl _, ⟨by simp, by simp, by simp⟩, by simp, .inl ⟨rfl, rfl⟩⟩
  · subst h1
    obtain ⟨vs, h5, h6, h7, h8⟩ := flat_cells he h3 h4 h.sl_one
    exact ⟨some ⟨b, off, none⟩, cap, vs, rfl, h2, ⟨h5, h6, h8⟩, h3, .inr ⟨b, off, rfl, h7⟩⟩

/-- the world behind an append that found no room -/
theorem grown_world {w : World} {e : TypeId} {zs : Array Value} {vs : List Value} {len cap es : Nat} (hz : zs.size = es) (hl : vs.length = len * es) (hc : len ≤ cap) :
    let w' := w.drew.alloc (.cells (vs.toArray ++ Builtin.zeroCells zs (cap - len)) e)
    Ext F0 w w' ∧ (∀ (q : Nat) v, vs[q]? = some v → w'.cell? ⟨w.heap.size, q, none⟩ = some v) ∧
    ∀ j, j < (cap - len) * es → (∃ v, w'.cell? ⟨w.heap.size, len * es + j, none⟩ = some v) ∧ w'.frozen? ⟨w.heap.size, len * es + j, none⟩ = false := by
  intro w'
  have hcell : ∀ q, w'.cell? ⟨w.heap.size, q, none⟩ = (vs.toArray ++ Builtin.zeroCells zs (cap - len))[q]? := fun q => World.cell?_alloc_new w.drew _ _ _
  refine ⟨(Ext.drew w).trans0 (Ext.alloc w.drew _), fun q v hq => ?_, fun j hj => ⟨?_, World.frozen?_alloc_new w.drew _ _ _⟩⟩
  · have hlt : q < vs.length := (List.getElem?_eq_some_iff.1 hq).1
    rw [hcell, Array.getElem?_append_left (by simpa using hlt)]
    simpa using hq
  · rw [hcell, Array.getElem?_append_right (by simp [hl]), show len * es + j - vs.toArray.size = j by simp [hl]]
    have hs : j < (Builtin.zeroCells zs (cap - len)).size := by rw [size_zeroCells, hz]; exact hj
    exact ⟨_, Array.getElem?_eq_getElem hs⟩

theorem nil_tok {w : World} {F : Nat → Nat → Prop} {e : Nat} {a : Option Addr} : RepP w F (.sl e [] none) (.slice a 0 0) := .slnil _ _

/-- the first elements of a slice -/
theorem append_new {P : Program} {w : World} {ρ : Pl} {L : List Ob} (hf : Fits w ρ L) {t t2 e : Nat} {ty : TypeId} {j : TI} (hu : P.underlying t = some (.slice e)) (hj : TIOk P e j) (hb : j.bytes ≤ 32768)
    {a : Option Addr} {x : Value} {ys : List D} {news : List Value} (hlen : ∀ (i : Nat) d, ys[i]? = some d → d.cells.length = j.size)
    (hx : Appendix P w e j t2 x ys.length news) (hr : RowsOf w (foot ρ L) j.size ys news) (hn : ys.length ≤ 4294967296) :
    ∃ v w' ρ', (Builtin.append_ #[t, t2] ty #[.slice a 0 0, x]).run P w = .ok v w' ∧ Post w ρ L (.sl j.size ys (some L.length)) (L ++ [.spare ys.length]) v w' ρ' := by
  obtain ⟨hroom, hgrow⟩ := hx.run a 0 0 t ty hu
  rcases Nat.eq_zero_or_pos ys.length with h0 | h0
  · have hy : ys = [] := List.eq_nil_of_length_eq_zero h0
    subst hy
    have hnews : news = [] := List.eq_nil_of_length_eq_zero (by simpa using hr.1)
    subst hnews
    have hrun := hroom (by simp)
    obtain ⟨l, hl0, hl⟩ : ∃ l : Loc, l.cap = 0 ∧ TokMatch (.slice a 0 0) j.size l := by
      cases a with
      | none => exact ⟨⟨0, 0, 0⟩, rfl, rfl, rfl⟩
      | some x => exact ⟨⟨x.block, x.off, 0⟩, rfl, .inl ⟨rfl, by simp, by simp⟩⟩
    obtain ⟨h1, h2⟩ := hf.snoc (Ext.refl F0 w) (o := .spare 0) (l := l) (fun b off h => by obtain ⟨_, h3, h4⟩ := h; omega) (fun j hj => by omega)
    refine ⟨.slice a 0 0, w, _, by cases a <;> exact hrun, h1, .tok _ _ _ _ (by simp) nil_tok (fun n hn => ?_), .refl _ _, h2, .snoc _ _ _ _⟩
    simp at hn
    subst hn
    exact ⟨Nat.le_refl _, fun _ => by rw [upd_same]; exact hl⟩
  · have hrun := hgrow (by simpa using h0) (by
      have : (0 + ys.length) * j.bytes ≤ 4294967296 * 32768 := Nat.mul_le_mul (by omega) hb
      omega) [] (fun w' _ => by cases a <;> simp [Builtin.firstCells, loadCells, loadCellsFrom])
    have hcap : 0 + ys.length ≤ grownCap w (0 + ys.length) 0 e := grownCap_ge _ _ _ _
    have hgw := grown_world (w := w) (e := e) (zs := j.zero.cells) (vs := news) (len := 0 + ys.length) (cap := grownCap w (0 + ys.length) 0 e) (es := j.size) hj.szero (by simpa using hr.1) hcap
    have harr : ([] : List Value).toArray ++ news.toArray ++ Builtin.zeroCells j.zero.cells (grownCap w (0 + ys.length) 0 e - (0 + ys.length)) = news.toArray ++ Builtin.zeroCells j.zero.cells (grownCap w (0 + ys.length) 0 e - (0 + ys.length)) := by simp
    rw [harr] at hrun
    simp only [Nat.zero_add] at hrun hgw hcap
    obtain ⟨g1, g2, g3⟩ := hgw
    generalize w.drew.alloc (.cells (news.toArray ++ Builtin.zeroCells j.zero.cells (grownCap w ys.length 0 e - ys.length)) e) = w' at *
    generalize grownCap w ys.length 0 e = cap at *
    have hown : ∀ b off, Ob.owns (.spare ys.length) ⟨w.heap.size, ys.length * j.size, (cap - ys.length) * j.size⟩ b off → w.heap.size ≤ b := fun b off h => by obtain ⟨rfl, _⟩ := h; exact Nat.le_refl _
    obtain ⟨h1, h2⟩ := hf.snoc g1 (o := .spare ys.length) (l := ⟨w.heap.size, ys.length * j.size, (cap - ys.length) * j.size⟩) hown (fun q hq => g3 q hq)
    have hfr := h2.foot (ρ' := upd ρ L.length ⟨w.heap.size, ys.length * j.size, (cap - ys.length) * j.size⟩) rfl
    refine ⟨_, w', _, hrun, h1, .tok _ _ _ _ (by simp) ?_ (fun n hn => ?_), g1.grow, h2, .snoc _ _ _ _⟩
    · refine rows_sl hcap hlen (hr.keep g1.grow hfr) fun q u hq => ⟨by rw [Nat.zero_add]; exact g2 q u hq, fun hF => ?_⟩
      rw [Nat.zero_add] at hF
      have hq' : q < ys.length * j.size := by rw [← hr.1]; exact (List.getElem?_eq_some_iff.1 hq).1
      rcases foot_snoc hF with h | ⟨_, h, _⟩
      · have := hf.foot_lt h; omega
      · simp at h; omega
    · simp at hn
      subst hn
      refine ⟨Nat.le_refl _, fun _ => ?_⟩
      rw [upd_same]
      exact .inl ⟨rfl, by simp, rfl⟩

/-- more elements, behind those that have the room -/
theorem append_more {P : Program} {w : World} {ρ : Pl} {L : List Ob} (hf : Fits w ρ L) {t t2 e k : Nat} {ty : TypeId} {j : TI} (hu : P.underlying t = some (.slice e)) (hj : TIOk P e j) (hb : j.bytes ≤ 32768)
    {ds : List D} {v x : Value} (hk : L[k]? = some (.spare ds.length)) (hv : Rep w (foot ρ L) ρ L (.sl j.size ds (some k)) v) {ys : List D} {news : List Value} (hlen : ∀ (i : Nat) d, ys[i]? = some d → d.cells.length = j.size)
    (hx : Appendix P w e j t2 x ys.length news) (hr : RowsOf w (foot ρ L) j.size ys news) (hn : ds.length + ys.length ≤ 4294967296) :
    ∃ u w' ρ', (Builtin.append_ #[t, t2] ty #[v, x]).run P w = .ok u w' ∧ Post w ρ L (.sl j.size (ds ++ ys) (some k)) (L.set k (.spare (ds.length + ys.length))) u w' ρ' := by
  have hpos : 0 < j.size := Nat.pos_of_ne_zero hj.pos
  have hkl : k < L.length := (List.getElem?_eq_some_iff.1 hk).1
  have hval := hv.sl_inv
  have htok : TokMatch v j.size (ρ k) := by
    cases hv with
    | pure _ _ h => cases h
    | tok _ _ _ _ _ _ hm => exact (hm _ hk).2 rfl
  obtain ⟨base, cap, vs, rfl, hcap, hrows, hlenx, hbase⟩ := sl_rows hpos hval
  have hlen2 : ∀ (i : Nat) d, (ds ++ ys)[i]? = some d → d.cells.length = j.size := by
    intro i d hi
    rcases Nat.lt_or_ge i ds.length with h | h
    · rw [List.getElem?_append_left h] at hi; exact hlenx i d hi
    · rw [List.getElem?_append_right h] at hi; exact hlen _ d hi
  obtain ⟨hroom, hgrow⟩ := hx.run base ds.length cap t ty hu
  have hspare := hf.obj k _ hk
  by_cases hfits : ds.length + ys.length ≤ cap
  · have hrun := hroom hfits
    rcases hbase with ⟨rfl, rfl⟩ | ⟨b, off, rfl, hcells⟩
    · -- nil, and nothing is appended
      have hy : ys = [] := List.eq_nil_of_length_eq_zero (by simp at hfits; simpa using hfits)
      subst hy
      have hset : L.set k (.spare ([] : List D).length) = L := by
        apply List.ext_getElem?
        intro i
        by_cases hi : i = k
        · subst hi; rw [List.getElem?_set_self hkl, hk]
        · rw [List.getElem?_set_ne (by omega)]
      have hnews : news = [] := List.eq_nil_of_length_eq_zero (by simpa using hr.1)
      subst hnews
      refine ⟨.slice base 0 0, w, ρ, by cases base <;> exact hrun, ?_⟩
      simp only [List.append_nil, List.length_nil, Nat.add_zero] at hset ⊢
      rw [hset]
      exact .same hf hv
    · rcases htok with ⟨ht1, ht2, ht3⟩ | ⟨ht1, ht2⟩
      rotate_left
      · have hy : ys = [] := List.eq_nil_of_length_eq_zero (by omega)
        subst hy
        have hnews : news = [] := List.eq_nil_of_length_eq_zero (by simpa using hr.1)
        subst hnews
        have hst : (storeCells ((⟨b, off, none⟩ : Addr).add (ds.length * j.size)) []).run P w = .ok () w := by
          rw [addr_add]
          have := run_storeCells_cells (P := P) b (off + ds.length * j.size) [] 0 w (by simp) (by simp) (by simp)
          simpa [World.setCells] using this
        simp only [hst, Result.andThen] at hrun
        have hset : L.set k (.spare ([] : List D).length) = L ∨ True := .inr trivial
        have hset : L.set k (.spare ds.length) = L := by
          apply List.ext_getElem?
          intro i
          by_cases hi : i = k
          · subst hi; rw [List.getElem?_set_self hkl, hk]
          · rw [List.getElem?_set_ne (by omega)]
        refine ⟨_, w, ρ, hrun, ?_⟩
        simp only [List.append_nil, List.length_nil, Nat.add_zero] at hset ⊢
        rw [hset]
        exact .same hf hv
      dsimp only at ht1 ht2 ht3
      have hnl : news.length = ys.length * j.size := hr.1
      have hle : ys.length * j.size ≤ (cap - ds.length) * j.size := Nat.mul_le_mul_right _ (by omega)
      have hsplit : (cap - ds.length) * j.size = ys.length * j.size + (cap - (ds.length + ys.length)) * j.size := by
        rw [← Nat.add_mul]; congr 1; omega
      have hlsz : (ds.length + ys.length) * j.size = ds.length * j.size + ys.length * j.size := Nat.add_mul _ _ _
      have hex : ∀ q, q < news.length → ∃ u, w.cell? ⟨b, off + ds.length * j.size + q, none⟩ = some u := fun q hq => by
        have := (hspare q (by omega)).1
        rw [ht1, ht2] at this
        exact this
      have hfz : ∀ q, q < news.length → w.frozen? ⟨b, off + ds.length * j.size + q, none⟩ = false := fun q hq => by
        have := (hspare q (by omega)).2
        rw [ht1, ht2] at this
        exact this
      have hst : (storeCells ((⟨b, off, none⟩ : Addr).add (ds.length * j.size)) news).run P w = .ok () (w.setCells b (off + ds.length * j.size) news) := by
        rw [addr_add]
        have := run_storeCells_cells (P := P) b (off + ds.length * j.size) news 0 w (fun q hq => by obtain ⟨u, hu⟩ := hex q hq; simp [hu]) (by simpa using hfz) hr.2.1
        simpa using this
      simp only [hst, Result.andThen] at hrun
      have hext := Ext.setCells w b (off + ds.length * j.size) news
      have hsame := setCells_same b news (off + ds.length * j.size) w
      let l' : Loc := ⟨b, off + (ds.length + ys.length) * j.size, (cap - (ds.length + ys.length)) * j.size⟩
      have hc := Compat.setSpare (ρ := ρ) (l' := l') (m := ds.length + ys.length) hk (by omega) (fun h => by
        have h0 : ys.length = 0 := by omega
        have : ρ.place k = ⟨b, off + ds.length * j.size, (cap - ds.length) * j.size⟩ := by
          cases hρ : ρ.place k with
          | mk a1 a2 a3 => rw [hρ] at ht1 ht2 ht3; simp at ht1 ht2 ht3; rw [ht1, ht2, ht3]
        rw [this]
        show l' = _
        simp [l', h0])
      obtain ⟨g1, g2, g3⟩ := hf.update (l' := l') (o' := .spare (ds.length + ys.length)) hk hc _ (fun b' x ⟨e1, e2, e3⟩ => ⟨by rw [ht1]; exact e1, by rw [ht2]; exact e2, by rw [ht2, ht3]; omega⟩) hext
        (fun b' x ⟨e1, e2, e3⟩ => by
          have e2 : off + (ds.length + ys.length) * j.size ≤ x := e2
          have e3 : x < off + (ds.length + ys.length) * j.size + (cap - (ds.length + ys.length)) * j.size := e3
          exact .inl ⟨by rw [ht1]; exact e1, by rw [ht2]; omega, by rw [ht2, ht3]; omega⟩)
        (fun _ _ q hq => by
          have h1 := hspare (ys.length * j.size + q) (by
            have hq : q < (cap - (ds.length + ys.length)) * j.size := hq
            rw [ht3]; omega)
          rw [ht1, ht2] at h1
          have e1 : off + (ds.length + ys.length) * j.size + q = off + ds.length * j.size + (ys.length * j.size + q) := by omega
          refine ⟨?_, ?_⟩
          · obtain ⟨u, hu⟩ := h1.1
            refine ⟨u, ?_⟩
            show (w.setCells b _ news).cell? ⟨b, off + (ds.length + ys.length) * j.size + q, none⟩ = _
            rw [setCells_other b news _ w b _ (fun _ => .inr (by omega)), e1]
            exact hu
          · show (w.setCells b _ news).frozen? ⟨b, off + (ds.length + ys.length) * j.size + q, none⟩ = _
            rw [hsame.2.2.2.2.1, e1]
            exact h1.2)
      have hfr := g3.foot (ρ' := upd ρ k l') rfl
      refine ⟨_, _, upd ρ k l', hrun, g1, .tok _ _ _ _ (by simpa using hkl) ?_ (fun n hn' => ?_), g2, g3, hc⟩
      · have hkeep1 := hrows.keep g2.foot hfr
        have hkeep2 := hr.keep g2.foot hfr
        have hgoal := rows_sl (b := b) (off := off) (cap := cap) (by simpa using hfits) hlen2 (hkeep1.append hlen2 hkeep2) (fun q u hq => ?_)
        · simpa using hgoal
        · rcases Nat.lt_or_ge q vs.length with hq1 | hq1
          · rw [List.getElem?_append_left hq1] at hq
            obtain ⟨h1, h2⟩ := hcells q u hq
            refine ⟨(g2.foot.cell _ _ (cell_lt h1) h2).trans h1, fun hF => ?_⟩
            rcases hfr b _ hF with h | h
            · exact h2 h
            · have := cell_lt h1; omega
          · rw [List.getElem?_append_right hq1] at hq
            have hq2 : q - vs.length < news.length := (List.getElem?_eq_some_iff.1 hq).1
            have hvl := hrows.1
            have hat := setCells_at b news (off + ds.length * j.size) w (q - vs.length) hq2 hex
            rw [show off + ds.length * j.size + (q - vs.length) = off + q by omega] at hat
            refine ⟨by rw [hat]; exact hq, fun hF => ?_⟩
            have hown : Ob.owns (.spare ds.length) (ρ k) b (off + q) := ⟨ht1.symm, by rw [ht2]; omega, by rw [ht2, ht3]; omega⟩
            rcases hF with ⟨i, o, h1, h2⟩ | h
            · rcases set_get h1 with ⟨e1, e2⟩ | ⟨e1, e2⟩
              · rw [e1, upd_same] at h2
                rw [e2] at h2
                obtain ⟨_, h3, _⟩ := h2
                have h3 : off + (ds.length + ys.length) * j.size ≤ off + q := h3
                omega
              · rw [upd_ne e1] at h2
                exact e1 (hf.disj _ _ _ _ _ _ e2 hk h2 hown)
            · exact hf.sep _ _ ⟨k, _, hk, hown⟩ h
      · rw [List.getElem?_set_self hkl] at hn'
        cases hn'
        refine ⟨by simp, fun _ => ?_⟩
        rw [upd_same]
        exact .inl ⟨rfl, rfl, rfl⟩
  · -- a new block
    have hrun := hgrow (by omega) (by
      have : (ds.length + ys.length) * j.bytes ≤ 4294967296 * 32768 := Nat.mul_le_mul hn hb
      omega) vs (fun w' hw => by
        rcases hbase with ⟨rfl, rfl⟩ | ⟨b, off, rfl, hcells⟩
        · have : vs = [] := List.eq_nil_of_length_eq_zero (by simpa using hrows.1)
          subst this
          cases base <;> simp [Builtin.firstCells, loadCells, loadCellsFrom]
        · exact run_firstCells_some w' _ _ ⟨b, off, none⟩ _ _ vs hrows.1 fun q u hq => by rw [addr_add, hw]; exact (hcells q u hq).1)
    have hcap2 : ds.length + ys.length ≤ grownCap w (ds.length + ys.length) cap e := grownCap_ge _ _ _ _
    have hgw := grown_world (w := w) (e := e) (zs := j.zero.cells) (vs := vs ++ news) (len := ds.length + ys.length) (cap := grownCap w (ds.length + ys.length) cap e) (es := j.size) hj.szero (by simp [hrows.1, hr.1, Nat.add_mul]) hcap2
    have harr : vs.toArray ++ news.toArray ++ Builtin.zeroCells j.zero.cells (grownCap w (ds.length + ys.length) cap e - (ds.length + ys.length)) = (vs ++ news).toArray ++ Builtin.zeroCells j.zero.cells (grownCap w (ds.length + ys.length) cap e - (ds.length + ys.length)) := by simp
    rw [harr] at hrun
    obtain ⟨g1, g2, g3⟩ := hgw
    generalize w.drew.alloc (.cells ((vs ++ news).toArray ++ Builtin.zeroCells j.zero.cells (grownCap w (ds.length + ys.length) cap e - (ds.length + ys.length))) e) = w' at *
    generalize grownCap w (ds.length + ys.length) cap e = cap' at *
    let l' : Loc := ⟨w.heap.size, (ds.length + ys.length) * j.size, (cap' - (ds.length + ys.length)) * j.size⟩
    have hyp : 0 < ys.length := by omega
    have hc := Compat.setSpare (ρ := ρ) (l' := l') (m := ds.length + ys.length) hk (by omega) (fun h => by omega)
    obtain ⟨h1, h2, h3⟩ := hf.update (l' := l') (o' := .spare (ds.length + ys.length)) hk hc F0 (fun _ _ f => f.elim) g1 (fun b off ⟨e1, _, _⟩ => .inr (by rw [e1]; exact Nat.le_refl _)) (fun _ _ q hq => g3 q hq)
    have hfr := h3.foot (ρ' := upd ρ k l') rfl
    refine ⟨_, w', upd ρ k l', hrun, h1, .tok _ _ _ _ (by simpa using hkl) ?_ (fun n hn' => ?_), h2, h3, hc⟩
    · have hrw := RowsOf.append hlen2 hrows hr
      have hgoal := rows_sl (b := w.heap.size) (off := 0) (cap := cap') (by simpa using hcap2) hlen2 (hrw.keep h2.foot hfr) (fun q u hq => ⟨by rw [Nat.zero_add]; exact g2 q u hq, fun hF => ?_⟩)
      · simpa using hgoal
      · rw [Nat.zero_add] at hF
        have hq' : q < (ds ++ ys).length * j.size := by rw [← hrw.1]; exact (List.getElem?_eq_some_iff.1 hq).1
        rw [List.length_append] at hq'
        rcases hF with ⟨i, o, h4, h5⟩ | h
        · rcases set_get h4 with ⟨e1, e2⟩ | ⟨e1, e2⟩
          · rw [e1, upd_same] at h5
            rw [e2] at h5
            obtain ⟨_, h6, _⟩ := h5
            have h6 : (ds.length + ys.length) * j.size ≤ q := h6
            omega
          · rw [upd_ne e1] at h5
            have := hf.foot_lt (.inl ⟨i, o, e2, h5⟩)
            omega
        · have := hf.hid _ _ h
          omega
    · rw [List.getElem?_set_self hkl] at hn'
      cases hn'
      refine ⟨by simp, fun _ => ?_⟩
      rw [upd_same]
      exact .inl ⟨rfl, by simp [l'], rfl⟩

end Go.Plat
