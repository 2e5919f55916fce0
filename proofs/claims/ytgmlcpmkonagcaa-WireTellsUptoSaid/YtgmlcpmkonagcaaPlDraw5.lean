/-
  The condition of a region that draws its order is enough.
-/
import Derived.Test.YtgmlcpmkonagcaaPlDraw4
namespace Go.Plat
open Go
set_option linter.unusedVariables false
set_option linter.unusedSimpArgs false

/-! code -/
inductive Ex where
  | normal
  | exit (id : Nat)
  | ret

def AQ (n : Nat) (E : Entry) (Q : Ex → List (Nat × D) → List Ob → Prop) : Exit → Act → World → Prop
  | .normal, a, w => ∃ σ L, Q .normal σ L ∧ ARel n E σ L a w
  | .exit id, a, w => ∃ σ L, Q (.exit id) σ L ∧ ARel n E σ L a w
  | .ret, a, w => ∃ σ L, Q .ret σ L ∧ ARel n E σ L a w
  | _, _, _ => False

/-- from every state that reads so, the code comes to an exit that is asked for -/
def AWP (P : Program) (n : Nat) (E : Entry) (c : Code) (Q : Ex → List (Nat × D) → List Ob → Prop) (σ : List (Nat × D)) (L : List Ob) : Prop :=
  ∀ a w, ARel n E σ L a w → c.wp P (AQ n E Q) a w


/-- a state in the midst of a region -/
structure Mid (n : Nat) (E : Entry) (σ0 : List (Nat × D)) (A : List DE) (ws : List (Nat × List Ob)) (L : List Ob) (dn : List Nat) (c : Nat) (ρ : Pl) (a : Act) (w : World) : Prop where
  le : c ≤ ws.length
  size : a.tmps.size = n
  defers : a.defers = []
  fits : Fits w ρ (Lat ws L c)
  wsd : ∀ r i, Wat ws r = some i → (i ∈ dn ↔ r < c)
  done : ∀ e ∈ A, e.x.i ∈ dn → ∀ t, e.x.o.dst = some t → Rep w (foot ρ (Lat ws L c)) ρ (Lat ws L c) e.d (a.tmps.getD t undef)
  rest : ∀ t, (∀ e ∈ A, e.x.o.dst = some t → e.x.i ∉ dn) → Rep w (foot ρ (Lat ws L c)) ρ (Lat ws L c) (look σ0 t) (a.tmps.getD t undef)
  ext : Ext (own E.ρ E.L) E.w w
  fresh : Fresh E.w (own E.ρ E.L) (own ρ (Lat ws L c))
  compat : Compat E.ρ E.L ρ (Lat ws L c)

theorem Mid.env {P : Program} {n : Nat} {all : List Oper} {its : List DI} {E : Entry} {σ0 : List (Nat × D)} {A : List DE} {ws : List (Nat × List Ob)} {L : List Ob} {dn : List Nat} {c : Nat} {ρ : Pl} {a : Act} {w : World}
    (h : Mid n E σ0 A ws L dn c ρ a w) (hF : Facts P n all its σ0 A ws L) (hc : Clo its dn) {e : DE} (he : e ∈ A) (hni : e.x.i ∉ dn) (hb : ∀ j, bit e.x.m j = true → j ∈ dn) : Env w ρ (Lat ws L c) e.s a := fun t => by
  rcases hF.view e he t with ⟨e', h1, h2, h3, h4⟩ | h1 | ⟨h1, h2⟩
  · exact (h4 _ _ _ _ _).2 (h.done e' h1 (hb _ h3) t h2)
  · rw [h1]; exact .pure _ _ (.any _)
  · refine (h1 _ _ _ _ _).2 (h.rest t fun e' he' hd hdn => ?_)
    rcases h2 e'.x (hF.item e' he') hd with h3 | h3
    · rw [h3] at hdn; exact hni hdn
    · exact hni (hc e'.x (hF.item e' he') hdn _ h3)

theorem Mid.step {P : Program} {n : Nat} {all : List Oper} {its : List DI} {E : Entry} {σ0 : List (Nat × D)} {A : List DE} {ws : List (Nat × List Ob)} {L : List Ob} {dn : List Nat} {c c' : Nat} {ρ ρ' : Pl} {a : Act} {w w' : World} {v : Value}
    (h : Mid n E σ0 A ws L dn c ρ a w) (hF : Facts P n all its σ0 A ws L) (hdst : ∀ x ∈ its, ∀ y ∈ its, ∀ t, x.o.dst = some t → y.o.dst = some t → x.i = y.i)
    {e : DE} (he : e ∈ A) (hni : e.x.i ∉ dn) (hp : Post w ρ (Lat ws L c) e.d (Lat ws L c') v w' ρ') (hle : c' ≤ ws.length)
    (hws : ∀ r i, Wat ws r = some i → (i ∈ e.x.i :: dn ↔ r < c')) : Mid n E σ0 A ws L (e.x.i :: dn) c' ρ' (a.put e.x.o.dst v) w' := by
  have hfoot := hp.fresh.foot hp.compat.hid
  have keep : ∀ {d : D} {u : Value}, Rep w (foot ρ (Lat ws L c)) ρ (Lat ws L c) d u → Rep w' (foot ρ' (Lat ws L c')) ρ' (Lat ws L c') d u := fun h => h.keep hp.ext.foot hfoot hp.compat
  have hput : ∀ t, e.x.o.dst ≠ some t → (a.put e.x.o.dst v).tmps.getD t undef = a.tmps.getD t undef := fun t ht => by
    cases hd : e.x.o.dst with
    | none => rfl
    | some u =>
      rw [hd] at ht
      have hne : u ≠ t := fun e => ht (by rw [e])
      simp only [Act.put, Array.getD_eq_getD_getElem?]
      rw [Array.getElem?_setIfInBounds_ne hne]
  have hput2 : ∀ t, e.x.o.dst = some t → (a.put e.x.o.dst v).tmps.getD t undef = v := fun t ht => by
    have hlt := hF.dst e he t ht
    rw [ht]
    simp only [Act.put, Array.getD_eq_getD_getElem?]
    rw [Array.getElem?_setIfInBounds_self_of_lt (by rw [h.size]; exact hlt)]
    rfl
  refine ⟨hle, ?_, ?_, hp.fits, hws, fun e' he' hdn t ht => ?_, fun t ht => ?_, ?_, ?_, h.compat.trans hp.compat⟩
  · have := h.size
    cases e.x.o.dst <;> simp [Act.put, this]
  · have := h.defers
    cases e.x.o.dst <;> simp [Act.put, this]
  · by_cases hi : e'.x.i = e.x.i
    · have := nodup_inj hF.nodup e' he' e he hi
      subst this
      rw [hput2 t ht]
      exact hp.rep
    · rw [hput t fun hd => hi (hdst _ (hF.item e' he') _ (hF.item e he) t ht hd)]
      exact keep (h.done e' he' ((List.mem_cons.1 hdn).resolve_left hi) t ht)
  · rw [hput t fun hd => ht e he hd (by simp)]
    exact keep (h.rest t fun e' he' hd hdn => ht e' he' hd (by simp [hdn]))
  · exact h.ext.trans hp.ext fun x y hxl ho => (h.fresh x y ho).resolve_right (by omega)
  · intro b off ho
    rcases hp.fresh b off ho with h1 | h1
    · exact h.fresh b off h1
    · exact .inr (Nat.le_trans h.ext.size h1)

theorem mid_sound {P : Program} {n : Nat} {all : List Oper} {its : List DI} {E : Entry} {σ0 : List (Nat × D)} {A : List DE} {ws : List (Nat × List Ob)} {L : List Ob} {Q : Exit → Act → World → Prop}
    (hI : Items all its) (hF : Facts P n all its σ0 A ws L) (hdst : ∀ x ∈ its, ∀ y ∈ its, ∀ t, x.o.dst = some t → y.o.dst = some t → x.i = y.i) (hfull : ∀ y ∈ its, ∃ e ∈ A, e.x = y)
    (hQ : ∀ a w, (∃ ρ, a.tmps.size = n ∧ a.defers = [] ∧ Fits w ρ L ∧ (∀ e ∈ A, ∀ t, e.x.o.dst = some t → Rep w (foot ρ L) ρ L e.d (a.tmps.getD t undef)) ∧
      (∀ t, (∀ e ∈ A, e.x.o.dst ≠ some t) → Rep w (foot ρ L) ρ L (look σ0 t) (a.tmps.getD t undef)) ∧ Ext (own E.ρ E.L) E.w w ∧ Fresh E.w (own E.ρ E.L) (own ρ L) ∧ Compat E.ρ E.L ρ L) → Q .normal a w) :
    ∀ (π dn : List Nat) (c : Nat) (ρ : Pl) (a : Act) (w : World), Sched all.toArray dn π → Clo its dn → Mid n E σ0 A ws L dn c ρ a w → wpOps P all.toArray Q π a w
  | [], dn, c, ρ, a, w, hS, hC, hM => by
    have hmem : ∀ e ∈ A, e.x.i ∈ dn := fun e he => hS _ (by
      have := hI.at_ _ (hF.item e he)
      simpa using (List.getElem?_eq_some_iff.1 this).1)
    have hc : c = ws.length := by
      rcases Nat.lt_or_ge c ws.length with hlt | hge
      · obtain ⟨i, hi⟩ := Wat_some hlt
        obtain ⟨e, h1, h2⟩ := hF.wsA c i hi
        have := (hM.wsd c i hi).1 (by rw [← h2]; exact hmem e h1)
        omega
      · have := hM.le; omega
    subst hc
    have hL : Lat ws L ws.length = L := Lat_len
    have hM' := hM
    obtain ⟨_, h1, h2, h3, h4, h5, h6, h7, h8, h9⟩ := hM
    rw [hL] at h3 h5 h6 h8 h9
    exact hQ a w ⟨ρ, h1, h2, h3, fun e he t ht => h5 e he (hmem e he) t ht, fun t ht => h6 t fun e he hd => (ht e he hd).elim, h7, h8, h9⟩
  | i :: π, dn, c, ρ, a, w, hS, hC, hM => by
    obtain ⟨hi, hni, haft, hS'⟩ := hS
    obtain ⟨x, hx, hxi⟩ := hI.full i (by simpa using hi)
    subst hxi
    obtain ⟨e, he, hex⟩ := hfull x hx
    subst hex
    have hoi : all.toArray[e.x.i]? = some e.x.o := by rw [List.getElem?_toArray]; exact hI.at_ _ hx
    have hr := haft _ hoi
    have hb := hI.before hC hx hr
    have hC' := hI.clo hC hx hr
    have henv := hM.env hF hC he hni hb
    simp only [wpOps, hoi]
    have hnw : NotW ws e.x.i → ∀ r i, Wat ws r = some i → (i ∈ e.x.i :: dn ↔ r < c) := fun hn r i hri => by
      rw [← hM.wsd r i hri]
      constructor
      · intro hm
        rcases List.mem_cons.1 hm with rfl | hm
        · exact (hn r hri).elim
        · exact hm
      · intro hm; simp [hm]
    rcases hF.kind e he with ⟨h1, h2, h3, _⟩ | ⟨h1, hk⟩
    · rw [h1 a w ρ _ henv]
      simp only [Bool.false_eq_true, if_false]
      exact mid_sound hI hF hdst hfull hQ π _ c ρ _ w hS' hC' (hM.step hF hdst he hni (.same hM.fits (h2 _ _ _ _)) hM.le (hnw h3))
    · rw [h1 a w ρ _ henv]
      simp only [if_true]
      rcases hk with ⟨h2, h3, _⟩ | ⟨h2, h3, _⟩ | ⟨_, r, h2, h3⟩
      · refine .inl (h2 _ a w ρ _ _ hM.fits henv fun v w' ρ' hp => ?_)
        exact mid_sound hI hF hdst hfull hQ π _ c ρ' _ w' hS' hC' (hM.step hF hdst he hni hp hM.le (hnw h3))
      · refine .inl (h2 c hM.le (fun r i y hri hy hyi => ⟨fun hlt => ?_, fun hge => ?_⟩) a w ρ _ _ hM.fits henv fun v w' ρ' hp => ?_)
        · cases hbb : bit y.m e.x.i with
          | false => rfl
          | true => exact (hni (hC y hy (by rw [hyi]; exact (hM.wsd r i hri).2 hlt) _ hbb)).elim
        · cases hbb : bit e.x.m i with
          | false => rfl
          | true =>
            have := (hM.wsd r i hri).1 (hb i hbb)
            omega
        · exact mid_sound hI hF hdst hfull hQ π _ c ρ' _ w' hS' hC' (hM.step hF hdst he hni hp hM.le (hnw h3))
      · have hrl := Wat_lt h2
        have hrc : r = c := by
          have hge : ¬ r < c := fun hlt => hni ((hM.wsd r _ h2).2 hlt)
          rcases Nat.lt_or_ge c r with hlt | hge'
          · obtain ⟨i', hi'⟩ := Wat_some (ws := ws) (r := c) (by omega)
            have := hF.tot r c _ i' e.x hlt h2 hi' hx rfl
            have := (hM.wsd c i' hi').1 (hb _ this)
            omega
          · omega
        subst hrc
        refine .inl (h3 a w ρ _ _ hM.fits henv fun v w' ρ' hp => ?_)
        refine mid_sound hI hF hdst hfull hQ π _ (r + 1) ρ' _ w' hS' hC' (hM.step hF hdst he hni hp (by omega) fun r' i' hri' => ?_)
        constructor
        · intro hm
          rcases List.mem_cons.1 hm with rfl | hm
          · rcases Nat.lt_trichotomy r' r with h | h | h
            · omega
            · omega
            · exfalso
              have := hF.tot r' r _ _ e.x h hri' h2 hx rfl
              exact hni (hb _ this)
          · have := (hM.wsd r' i' hri').1 hm; omega
        · intro hlt
          rcases Nat.lt_or_ge r' r with h | h
          · have := (hM.wsd r' i' hri').2 h; simp [this]
          · have : r' = r := by omega
            subst this
            rw [h2] at hri'
            cases hri'
            simp

theorem draw_core {P : Program} {T : Tab} (hT : TabOk P T) {n : Nat} {E : Entry} {ops : Array Oper} {Q : Ex → List (Nat × D) → List Ob → Prop} {σ : List (Nat × D)} {L : List Ob}
    (h : drawK P T n ops.toList σ L (Q .normal)) {a : Act} {w : World} (hr : ARel n E σ L a w) :
    (∀ (i : Nat) o, ops[i]? = some o → ∀ e ∈ o.after.toList, Region.binds .any e = true → e.on < i) ∧ ∀ π, Sched ops [] π → wpOps P ops (AQ n E Q) π a { w with drawn := w.drawn + 1 } := by
  unfold drawK at h
  split at h
  · exact h.elim
  rename_i hd
  obtain ⟨_, hd⟩ := dstsB_eq hd
  obtain ⟨its, h, hI⟩ := itemsL_eq (all := ops.toList) (fun j k hk => by have := nats_get j k hk; omega) (by simp) (Nat.zero_le _) (by simp) (by simp) (by simp) (by simp) (by simp) (by simp) h
  have h := revDK_eq h
  have hdst : ∀ x ∈ its, ∀ y ∈ its, ∀ t, x.o.dst = some t → y.o.dst = some t → x.i = y.i := fun x hx y hy t h1 h2 => hd _ _ _ _ t (hI.at_ x hx) (hI.at_ y hy) h1 h2
  obtain ⟨A, ws, L', hQ, hF, hfull, h0⟩ := dvK_eq hT hI hdst (L0 := L) h ⟨by simp, by simp, by simp, by simp, by simp, by simp [Wat], by simp [Wat]⟩ (by simp) (fun y hy => .inr (by simpa using hy)) (by simp) (by
    simp only [List.append_nil, List.map_reverse]
    unfold List.Nodup
    rw [List.pairwise_reverse]
    exact List.Pairwise.imp Ne.symm hI.nodup) rfl
  obtain ⟨σ', hQ, hσ⟩ := finK_eq hQ
  obtain ⟨ρ, h1, h2, h3, h4, h5, h6, h7⟩ := hr
  have hex : Ext F0 w { w with drawn := w.drawn + 1 } := Ext.drew w
  have hp : Post w ρ L .any L undef { w with drawn := w.drawn + 1 } ρ := .grow h3 hex (.pure _ _ (.any _))
  have hback : ∀ (i : Nat) o, ops[i]? = some o → ∀ e ∈ o.after.toList, Region.binds .any e = true → e.on < i := fun i o hi e he hb => by
    have hil : i < ops.toList.length := by simpa using (Array.getElem?_eq_some_iff.1 hi).1
    obtain ⟨x, hx, hxi⟩ := hI.full i hil
    have := hI.at_ x hx
    rw [hxi, Array.getElem?_toList, hi] at this
    cases this
    rw [← hxi]
    exact hI.back x hx e he hb
  refine ⟨hback, fun π hπ => ?_⟩
  have key := mid_sound (P := P) (E := E) (Q := AQ n E Q) hI hF hdst hfull (fun a w ⟨ρ, g1, g2, g3, g4, g5, g6⟩ => ⟨σ', L', hQ, ρ, g1, g2, g3, fun t => by
      rcases hσ t with ⟨e, k1, k2, k3⟩ | ⟨k1, k2⟩
      · rw [k3]; exact g4 e k1 t k2
      · rw [k1]; exact g5 t k2, g6⟩) π [] 0 ρ a { w with drawn := w.drawn + 1 } (by simpa using hπ) (fun x hx hxi => by simp at hxi)
    ⟨Nat.zero_le _, h1, h2, by rw [h0]; exact hp.fits, fun r i hi => by simp, fun e he hi => by simp at hi, fun t _ => by rw [h0]; exact (hp.env h4) t, by
      exact h5.trans hp.ext fun x y hxl ho => (h6 x y ho).resolve_right (by omega), by rw [h0]; exact h6, by rw [h0]; exact h7⟩
  simpa using key

theorem draw_sound {P : Program} {T : Tab} (hT : TabOk P T) (hm : P.follows .mixedOrders = true) {n : Nat} {E : Entry} {id : Nat} {ops : Array Oper} {Q : Ex → List (Nat × D) → List Ob → Prop} {σ : List (Nat × D)} {L : List Ob}
    (h : drawK P T n ops.toList σ L (Q .normal)) : AWP P n E (.region id ops true) Q σ L := by
  intro a w hr
  obtain ⟨h1, h2⟩ := draw_core hT h hr
  refine wp_region_draw fun t => ?_
  rw [hm]
  exact h2 _ (sched_any h1 t)

end Go.Plat
