/- Each operation of the model comes to what the abstract interpreter says: those that touch memory. -/
import Derived.Test.YtmmlolampgnamaaDoorAx4
namespace Go.Proofs.YtmmlolampgnamaaDoor.Ax
open Go.RowKit
set_option linter.unusedVariables false
set_option linter.unusedSimpArgs false

section
variable {P : Program} {w0 w : World} {ok0 : Ctx0} {e : En} {lk : Nat → Option Blk} {o : Oper} {a : Act} {cx : Cx} {ev : Operand → AV} {T : Nat} {f : Ef}

theorem updF_one (lk : Nat → Option Blk) (t : Nat) (b : Blk) : updF lk [(t, b)] = fun u => if u = t then some b else lk u := rfl
theorem updF_app (lk : Nat → Option Blk) (l r : List (Nat × Blk)) : updF lk (l ++ r) = updF (updF lk l) r := by
  induction l generalizing lk with
  | nil => rfl
  | cons x l ih => exact ih _

/-- Tags frozen, one behind the other. -/
theorem Mem.freezeL (lk : Nat → Option Blk) : ∀ (ts : List Nat) (e1 : En) (lk1 : Nat → Option Blk), Mem w0 ok0 e1 lk1 w →
    (∀ t g fz k, lk t = some ⟨g, fz, k⟩ → ∃ fz', lk1 t = some ⟨g, fz', k⟩) → (∀ t ∈ ts, ∃ g fz k, lk t = some ⟨g, fz, k⟩ ∧ live k) →
    ∃ e2, Ext e1 w e2 w ∧ Mem w0 ok0 e2 (updF lk1 (freeze lk ts)) w ∧ e2.β = e1.β ∧ e2.G = e1.G ∧
      (∀ t ∈ ts, ∀ g fz k b c E, lk t = some ⟨g, fz, k⟩ → e1.β t g = some (b, c, E) → e2.ok b) ∧
      (∀ t g fz k, lk t = some ⟨g, fz, k⟩ → ∃ fz', updF lk1 (freeze lk ts) t = some ⟨g, fz', k⟩)
  | [], e1, lk1, hM, hlk, _ => ⟨e1, Ext.refl _ _, hM, rfl, rfl, fun _ h => by simp at h, hlk⟩
  | t :: ts, e1, lk1, hM, hlk, hts => by
    obtain ⟨g, fz, k, ht, hk⟩ := hts t (by simp)
    obtain ⟨fz', ht1⟩ := hlk t g fz k ht
    have hfr : freeze lk (t :: ts) = (t, ⟨g, true, k⟩) :: freeze lk ts := by simp [freeze, ht]
    obtain ⟨hx, hM2⟩ := hM.freeze1 (lk' := fun u => if u = t then some ⟨g, true, k⟩ else lk1 u) t g fz' k ht1 hk (fun u => rfl)
    obtain ⟨e2, hx2, hM3, hb, hG, hok, hl⟩ := Mem.freezeL lk ts _ _ hM2 (fun u g' fz'' k' hu => by
      by_cases hut : u = t
      · subst hut
        rw [ht] at hu
        obtain ⟨rfl, rfl, rfl⟩ : g = g' ∧ fz = fz'' ∧ k = k' := by simpa using hu
        exact ⟨true, by simp⟩
      · obtain ⟨q, hq⟩ := hlk u g' fz'' k' hu
        exact ⟨q, by simp [hut, hq]⟩) (fun u hu => hts u (by simp [hu]))
    rw [hfr]
    refine ⟨e2, hx.trans hx2, hM3, hb, hG, fun u hu g' fz'' k' b c E hu' hb' => ?_, hl⟩
    rcases List.mem_cons.1 hu with rfl | hu
    · rw [ht] at hu'
      obtain ⟨rfl, rfl, rfl⟩ : g = g' ∧ fz = fz'' ∧ k = k' := by simpa using hu'
      exact hx2.ok b (.inr ⟨c, E, hb'⟩)
    · exact hok u hu g' fz'' k' b c E hu' hb'

theorem load_run (hM : Mem w0 ok0 e lk w) {X : AV} {V : Value} (hv : RV e w X V) {t : TypeId} {n : Option Nat} (hs : shapeOf P t = some n) (he : loadE lk n X = some f) : ∃ ad v, V = .pointer (some ad) ∧ (loadVar t ad).run P w = .ok v w ∧ RV e w f.v v ∧ f.up = [] := by
  -- what lies at an address, as cells that are told
  have key : ∀ (ad : Addr) (cs : List Cl) (y : AV), V = .pointer (some ad) → (∀ (i : Nat) (z : Cl), cs[i]? = some z → ∃ u, w.cell? (ad.add i) = some u ∧ RC e w z u) → pickN n cs = some y →
      ∃ v, (loadVar t ad).run P w = .ok v w ∧ RV e w y v := by
    intro ad cs y hv hc hp
    cases n with
    | none =>
      simp only [pickN] at hp
      cases h0 : cs[0]? with
      | none => simp [h0] at hp
      | some z =>
        simp only [h0, Option.map_some, Option.some.injEq] at hp; subst hp
        obtain ⟨u, hu, hr⟩ := hc 0 z h0
        rw [show ad.add 0 = ad from by simp [Addr.add]] at hu
        exact ⟨u, by simp [loadVar, shape_none hs, hu], hr⟩
    | some n =>
      simp only [pickN] at hp
      split at hp
      · rename_i hn
        simp only [Option.some.injEq] at hp; subst hp
        obtain ⟨h1, h2⟩ := shape_some (P := P) (w := w) hs
        have hex : ∀ m, m ≤ n → ∃ vs : List Value, vs.length = m ∧ ∀ (i : Nat) (v : Value), vs[i]? = some v → w.cell? (ad.add i) = some v ∧ ∀ z, cs[i]? = some z → RC e w z v := by
          intro m
          induction m with
          | zero => intro _; exact ⟨[], rfl, fun i v h => by simp at h⟩
          | succ m ih =>
            intro hm
            obtain ⟨vs, hl, hvs⟩ := ih (by omega)
            have hlt : m < cs.length := by omega
            obtain ⟨u, hu, hr⟩ := hc m cs[m] (List.getElem?_eq_getElem hlt)
            refine ⟨vs ++ [u], by simp [hl], fun i v h => ?_⟩
            rcases Nat.lt_or_ge i m with hi | hi
            · rw [List.getElem?_append_left (by omega)] at h
              exact hvs i v h
            · rw [List.getElem?_append_right (by omega)] at h
              have h0 : i - vs.length = 0 := by
                rcases Nat.lt_or_ge (i - vs.length) 1 with h' | h'
                · omega
                · rw [List.getElem?_eq_none (by simpa using h')] at h; cases h
              rw [h0] at h
              simp only [List.getElem?_cons_zero, Option.some.injEq] at h
              subst h
              have : i = m := by omega
              subst this
              refine ⟨hu, fun z hz => ?_⟩
              rw [List.getElem?_eq_getElem hlt] at hz
              obtain rfl := Option.some.inj hz
              exact hr
        obtain ⟨vs, hl, hvs⟩ := hex n (Nat.le_refl _)
        have hload := run_loadCells_list (P := P) w ad vs (fun j v h => (hvs j v h).1)
        rw [hl] at hload
        refine ⟨.agg vs.toArray, by simp [loadVar, h1, h2, hload], vs, rfl, RCs.of (by simp [hl]; omega) fun i z v hz hv' => ?_⟩
        rw [List.getElem?_take] at hz
        split at hz
        · exact (hvs i v hv').2 z hz
        · cases hz
      · cases hp
  unfold loadE at he
  split at he
  · rename_i t' g j
    obtain ⟨hg, b, c, E, hb, hv⟩ := hv
    split at he
    · rename_i g' fz cells hl
      split at he
      · rename_i hc
        obtain ⟨rfl, hj⟩ := hc
        cases hp : pickN n (cells.drop j) with
        | none => simp [hp] at he
        | some y =>
          simp only [hp, Option.map_some, Option.some.injEq] at he; subst he
          obtain ⟨b', c', E', cs, ty, hb', hh, hr⟩ := hM.box t' g' fz cells hl
          rw [hb] at hb'
          obtain ⟨rfl, rfl, rfl⟩ : b = b' ∧ c = c' ∧ E = E' := by simpa only [Option.some.injEq, Prod.mk.injEq] using hb'
          obtain ⟨v, hv', hrv⟩ := key _ _ _ hv (fun i z hz => by
            rw [List.getElem?_drop] at hz
            obtain ⟨u, hu, hru⟩ := hr.get hz
            refine ⟨u, ?_, hru⟩
            rw [add_lit]
            simp only [World.cell?, hh]
            simpa using hu) hp
          exact ⟨_, v, hv, hv', hrv, rfl⟩
      · cases he
    · cases he
  · rename_i t' g i j
    obtain ⟨hg, b, c, E, hb, hv⟩ := hv
    split at he
    · rename_i g' fz E1 rows hl
      split at he
      · rename_i hgg
        subst hgg
        cases hsb : subN E1 rows i j with
        | none => simp [hsb] at he
        | some r =>
          simp only [hsb, Option.bind_some] at he
          cases hp : pickN n (r.map .d) with
          | none => simp [hp] at he
          | some y =>
            simp only [hp, Option.map_some, Option.some.injEq] at he; subst he
            obtain ⟨q, hq, hql, rfl⟩ := subN_some hsb
            have ha := hM.arr t' g' fz E1 rows hl
            rw [hb] at ha
            obtain ⟨rfl, hE0, cs, ty, hh, hcs, hrc, hrr⟩ := ha
            dsimp only at hv
            obtain ⟨_, hrow⟩ := hrr.get hq
            obtain ⟨v, hv', hrv⟩ := key _ _ _ hv (fun m z hz => by
              rw [List.getElem?_map, List.getElem?_drop] at hz
              cases hz' : q[j + m]? with
              | none => simp [hz'] at hz
              | some d =>
                simp only [hz', Option.map_some, Option.some.injEq] at hz; subst hz
                obtain ⟨u, hu, hru⟩ := hrow.get hz'
                refine ⟨u, ?_, hru⟩
                rw [add_lit] at hu ⊢
                rw [← hu]
                congr 2
                rw [Nat.zero_add, Nat.zero_add]
                omega) hp
            exact ⟨_, v, hv, hv', hrv, rfl⟩
      · cases he
    · cases he
  · rename_i cells
    simp only [RV, RC, RD] at hv
    obtain ⟨ad, hv, hk, hr⟩ := hv
    cases hp : pickN n (cells.map .d) with
    | none => simp [hp] at he
    | some y =>
      simp only [hp, Option.map_some, Option.some.injEq] at he; subst he
      obtain ⟨v, hv', hrv⟩ := key _ _ _ hv (fun m z hz => by
        rw [List.getElem?_map] at hz
        cases hz' : cells[m]? with
        | none => simp [hz'] at hz
        | some d =>
          simp only [hz', Option.map_some, Option.some.injEq] at hz; subst hz
          obtain ⟨u, hu, hru⟩ := hr.get hz'
          rw [Nat.zero_add] at hu
          exact ⟨u, hu, hru⟩) hp
      exact ⟨_, v, hv, hv', hrv, rfl⟩
  · cases he

theorem fits_load (hM : Mem w0 ok0 e lk w) (hev : ∀ x, RV e w (ev x) (a.eval x)) {x : Operand} {t : TypeId} {n : Option Nat} {sh : List Kd} (ho : o.op = .load t x) (hs : shapeOf P t = some n) (he : eff cx ev lk T (.load n sh x) = some f) : Fits P w0 ok0 e lk w o a f := by
  simp only [eff] at he
  obtain ⟨ad, v, h1, h2, h3, h4⟩ := load_run (P := P) hM (hev x) hs he
  obtain ⟨fv, fu, fr⟩ := f
  simp only at h3 h4
  subst h4
  exact fits_pure hM (v := v) (by simp [execOp, ho, Instr.loadAt, h1, Instr.sureAddr, h2]) h3

/-! ### cells as data -/
theorem dOf_rd (hM : Mem w0 ok0 e lk w) {x : Cl} {v : Value} {d : D} {ts : List Nat} (hr : RC e w x v) (hd : dOf lk x = some (d, ts)) {ok' : Nat → Prop} {w' : World}
    (hok : ∀ b, e.ok b → ok' b) (hw : ∀ b, e.ok b → w'.heap[b]? = w.heap[b]?)
    (hfr : ∀ t ∈ ts, ∀ g fz k b c E, lk t = some ⟨g, fz, k⟩ → live k → e.β t g = some (b, c, E) → ok' b ∧ w'.heap[b]? = w.heap[b]?) : RD ok' w' d v := by
  cases x with
  | d y =>
    simp only [dOf, Option.some.injEq, Prod.mk.injEq] at hd
    obtain ⟨rfl, rfl⟩ := hd
    exact RD.mono hok hw _ _ hr
  | undef => simp [dOf] at hd
  | nil =>
    simp only [dOf, Option.some.injEq, Prod.mk.injEq] at hd
    obtain ⟨rfl, rfl⟩ := hd
    simp only [RC] at hr
    simp [RD, hr]
  | clip rows =>
    simp only [dOf, Option.some.injEq, Prod.mk.injEq] at hd
    obtain ⟨rfl, rfl⟩ := hd
    obtain ⟨A, h1, h2⟩ := hr
    simp only [RD]
    refine ⟨A, _, h1, Nat.le_refl _, fun hne => ?_⟩
    obtain ⟨a', E, e1, hk, hh⟩ := h2 hne
    exact ⟨a', E, e1, hok _ hk, RDRows.mono hok hw a' (hw _ hk) E rows 0 hh⟩
  | own t g n =>
    simp only [dOf] at hd
    split at hd
    · rename_i fz E rows hro
      have hl := rowsOf_some hro
      simp only [Option.some.injEq, Prod.mk.injEq] at hd
      obtain ⟨rfl, rfl⟩ := hd
      have hn := own_len hM hl hr
      obtain ⟨hg, hv⟩ := hr
      have ha := hM.arr t g fz E rows hl
      simp only [RD]
      cases hb : e.β t g with
      | none =>
        rw [hb] at hv ha
        have h0 : rows = [] := ha
        subst h0
        obtain ⟨rfl, hv⟩ := hv
        exact ⟨none, 0, by simpa using hv, Nat.le_refl _, fun h => absurd rfl h⟩
      | some q =>
        obtain ⟨b, c, E'⟩ := q
        rw [hb] at hv ha
        obtain ⟨_, hnc, hv⟩ := hv
        obtain ⟨rfl, hE, cs, ty, hh, hcs, hrc, hrr⟩ := ha
        obtain ⟨h1, h2⟩ := hfr t (by simp) g fz _ b c _ hl (by simp [live]) hb
        exact ⟨some ⟨b, 0, none⟩, c, by rw [hn]; exact hv, hrc, fun _ => ⟨_, E, rfl, h1, RDRows.mono hok hw ⟨b, 0, none⟩ h2 E rows 0 hrr⟩⟩
    · cases hd
  | bptr _ _ _ => simp [dOf] at hd
  | aptr _ _ _ _ => simp [dOf] at hd

theorem dOf_live {x : Cl} {d : D} {ts : List Nat} (hd : dOf lk x = some (d, ts)) : ∀ t ∈ ts, ∃ g fz k, lk t = some ⟨g, fz, k⟩ ∧ live k := by
  intro t ht
  cases x <;> simp only [dOf] at hd
  case own t' g n =>
    split at hd
    · rename_i fz E rows hro
      have hl := rowsOf_some hro
      simp only [Option.some.injEq, Prod.mk.injEq] at hd
      obtain ⟨rfl, rfl⟩ := hd
      simp only [List.mem_singleton] at ht
      subst ht
      exact ⟨g, fz, _, hl, by simp [live]⟩
    · cases hd
  all_goals first
    | (simp only [Option.some.injEq, Prod.mk.injEq] at hd; obtain ⟨rfl, rfl⟩ := hd; simp at ht)
    | cases hd

theorem dsOf_live {xs : List Cl} : ∀ {ds : List D} {ts : List Nat}, dsOf lk xs = some (ds, ts) → ∀ t ∈ ts, ∃ g fz k, lk t = some ⟨g, fz, k⟩ ∧ live k := by
  induction xs with
  | nil => intro ds ts h t ht; simp only [dsOf, Option.some.injEq, Prod.mk.injEq] at h; obtain ⟨rfl, rfl⟩ := h; simp at ht
  | cons x xs ih =>
    intro ds ts h t ht
    simp only [dsOf] at h
    split at h
    · rename_i y l ys ls h1 h2
      simp only [Option.some.injEq, Prod.mk.injEq] at h
      obtain ⟨rfl, rfl⟩ := h
      rcases List.mem_append.1 ht with ht | ht
      · exact dOf_live h1 t ht
      · exact ih h2 t ht
    · cases h

theorem dsOf_rd (hM : Mem w0 ok0 e lk w) {xs : List Cl} : ∀ {vs : List Value} {ds : List D} {ts : List Nat}, RCs e w xs vs → dsOf lk xs = some (ds, ts) → ∀ {ok' : Nat → Prop} {w' : World},
    (∀ b, e.ok b → ok' b) → (∀ b, e.ok b → w'.heap[b]? = w.heap[b]?) →
    (∀ t ∈ ts, ∀ g fz k b c E, lk t = some ⟨g, fz, k⟩ → live k → e.β t g = some (b, c, E) → ok' b ∧ w'.heap[b]? = w.heap[b]?) →
    ds.length = vs.length ∧ ∀ (i : Nat) (d : D), ds[i]? = some d → ∃ v, vs[i]? = some v ∧ RD ok' w' d v := by
  induction xs with
  | nil =>
    intro vs ds ts hr h ok' w' _ _ _
    simp only [dsOf, Option.some.injEq, Prod.mk.injEq] at h
    obtain ⟨rfl, rfl⟩ := h
    cases vs with
    | nil => exact ⟨rfl, fun i d h => by simp at h⟩
    | cons _ _ => exact hr.elim
  | cons x xs ih =>
    intro vs ds ts hr h ok' w' hok hw hfr
    simp only [dsOf] at h
    split at h
    · rename_i y l ys ls h1 h2
      simp only [Option.some.injEq, Prod.mk.injEq] at h
      obtain ⟨rfl, rfl⟩ := h
      cases vs with
      | nil => exact hr.elim
      | cons v vs =>
        have hd := dOf_rd hM hr.1 h1 hok hw (fun t ht => hfr t (by simp [ht]))
        obtain ⟨g1, g2⟩ := ih hr.2 h2 hok hw (fun t ht => hfr t (by simp [ht]))
        refine ⟨by simp [g1], fun i d hi => ?_⟩
        cases i with
        | zero => simp only [List.getElem?_cons_zero, Option.some.injEq] at hi; subst hi; exact ⟨v, rfl, hd⟩
        | succ i => simp only [List.getElem?_cons_succ] at hi ⊢; exact g2 i d hi
    · cases h

theorem RCs.append {e : En} {w : World} : ∀ {xs : List Cl} {vs : List Value} {ys : List Cl} {us : List Value}, RCs e w xs vs → RCs e w ys us → RCs e w (xs ++ ys) (vs ++ us)
  | [], [], _, _, _, h => h
  | _ :: _, _ :: _, _, _, h, k => ⟨h.1, RCs.append h.2 k⟩
  | [], _ :: _, _, _, h, _ => h.elim
  | _ :: _, [], _, _, h, _ => h.elim

theorem RCs.splice {xs ys : List Cl} {vs us : List Value} (h : RCs e w xs vs) (k : RCs e w ys us) (j : Nat) : RCs e w (splice xs j ys) (vs.take j ++ us ++ vs.drop (j + us.length)) := by
  unfold Ax.splice
  rw [← k.length]
  exact ((h.take j).append k).append (h.drop _)

theorem updF_freeze_set (lk : Nat → Option Blk) (t : Nat) (B : Blk) : ∀ (ts : List Nat) (g : Nat → Option Blk), t ∉ ts → ∀ u, updF (fun u => if u = t then some B else g u) (freeze lk ts) u = if u = t then some B else updF g (freeze lk ts) u
  | [], g, _, u => rfl
  | s :: ts, g, h, u => by
    simp only [List.mem_cons, not_or] at h
    simp only [freeze]
    split
    · rename_i b hb
      simp only [updF]
      have := updF_freeze_set lk t B ts (fun u => if u = s then some ⟨b.g, true, b.k⟩ else g u) h.2 u
      rw [← this]
      congr 1
      funext u
      by_cases h1 : u = t
      · by_cases h2 : u = s
        · exact absurd (h1.symm.trans h2) h.1
        · simp [h1, h2]; intro h3; exact absurd h3 h.1
      · simp [h1]
    · exact updF_freeze_set lk t B ts g h.2 u

/-- Cells are stored, one behind the other, where none is frozen. -/
theorem run_storeCells_fr (g o : Nat) (t : TypeId) (fr : Nat × Nat) : ∀ (vs : List Value) (i : Nat) (cur : Array Value) (w : World), frOK fr cur.size → w.heap[g]? = some (.cells cur t fr) → o + i + vs.length ≤ cur.size → (∀ v ∈ vs, v.oneCell' = true) →
    (storeCells ⟨g, o, none⟩ vs i).run P w = .ok () (w.setRow g (cur.toList.take (o + i) ++ vs ++ cur.toList.drop (o + i + vs.length)).toArray)
  | [], i, cur, w, _, hg, _, _ => by
    simp only [storeCells, List.append_nil, List.length_nil, Nat.add_zero, List.take_append_drop, Array.toArray_toList]
    rw [setRow_self w g cur t fr hg]
    rfl
  | v :: rest, i, cur, w, hf, hg, hl, h1 => by
    have hi : o + i < cur.size := by simp at hl; omega
    have hcell : w.cell? ⟨g, o + i, none⟩ = some cur[o + i] := by simp [World.cell?, hg, hi]
    have hno := hf.no hi
    have hfro : w.frozen? ⟨g, o + i, none⟩ = false := by
      simp only [World.frozen?, hg]
      simp
      intro h; simp at hno; omega
    have hst : (store ((⟨g, o, none⟩ : Addr).add i) v).run P w = .ok () (w.setRow g (cur.setIfInBounds (o + i) v)) := by
      rw [add_lit, run_store P w _ v _ (h1 v (by simp)), hcell]
      simp [hfro, setCell_eq_setRow w g (o + i) cur t fr v hg]
    have ih := run_storeCells_fr g o t fr rest (i + 1) (cur.setIfInBounds (o + i) v) (w.setRow g (cur.setIfInBounds (o + i) v)) (by simpa using hf) (setRow_heap w g cur _ t _ hg) (by simp at hl ⊢; omega) (fun x hx => h1 x (by simp [hx]))
    simp only [storeCells, Sem.run_bind, hst, Result.andThen_ok, ih, setRow_setRow]
    congr 3
    have e := list_seg_step cur.toList (o + i) v rest (by simp at hl ⊢; omega)
    simpa [Array.toList_setIfInBounds, Nat.add_assoc] using e

theorem store_run {x y : Operand} {t : TypeId} (ho : o.op = .store t x y) {n : Nat} (hs : sizeIn P t = some n) {b j : Nat} (hv : a.eval x = .pointer (some ⟨b, j, none⟩)) {cs : Array Value} {ty : TypeId} {fr : Nat × Nat}
    (hfr : frOK fr cs.size) (hh : w.heap[b]? = some (.cells cs ty fr)) (hn : (a.eval y).cells.toList.length = n) (hj : j + n ≤ cs.size) (h1 : ∀ u ∈ (a.eval y).cells.toList, u.oneCell' = true) :
    (execOp a.eval o).run P w = .ok .skip (w.setRow b (cs.toList.take j ++ (a.eval y).cells.toList ++ cs.toList.drop (j + (a.eval y).cells.toList.length)).toArray) := by
  have := run_storeCells_fr (P := P) b j ty fr (a.eval y).cells.toList 0 cs w hfr hh (by omega) h1
  simp only [Nat.add_zero] at this
  have hsz : (a.eval y).cells.size = n := by rw [← hn]; simp
  simp [execOp, ho, Instr.storeAt, hv, Instr.sureAddr, storeVar, run_sizeOf hs, hsz, this]

theorem fits_store (hM : Mem w0 ok0 e lk w) (hev : ∀ x, RV e w (ev x) (a.eval x)) {x y : Operand} {t : TypeId} {n : Nat} (ho : o.op = .store t x y) (hs : sizeIn P t = some n) (he : eff cx ev lk T (.store n x y) = some f) : Fits P w0 ok0 e lk w o a f := by
  have hv := hev x
  simp only [eff] at he
  unfold storeE at he
  split at he
  · rename_i t' g j hx
    rw [hx] at hv
    obtain ⟨hg, b, c, E, hb, hv⟩ := hv
    split at he
    · rename_i g' cells l hl hcl
      split at he
      · rename_i hc
        obtain ⟨rfl, hln, hj, htold⟩ := hc
        simp only [Option.some.injEq] at he; subst he
        obtain ⟨hr, h1⟩ := rv_told (hev y) hcl htold
        obtain ⟨b', c', E', cs, ty, hb', hh, hrc⟩ := hM.box t' g' false cells hl
        rw [hb] at hb'
        obtain ⟨rfl, rfl, rfl⟩ : b = b' ∧ c = c' ∧ E = E' := by simpa only [Option.some.injEq, Prod.mk.injEq] using hb'
        have hlen := hr.length
        have hcl' := hrc.length
        have hrun := store_run (P := P) ho hs hv (.inr rfl) hh (by rw [← hlen]; exact hln) (by simp at hcl'; omega) h1
        obtain ⟨o1, o2, o3⟩ := hM.own t' g' _ b c E hl (by simp [live]) hb
        intro K Q hK
        have hx : Ext e w e (w.setRow b (cs.toList.take j ++ (a.eval y).cells.toList ++ cs.toList.drop (j + (a.eval y).cells.toList.length)).toArray) :=
          ⟨fun _ _ _ => rfl, fun _ => Nat.le_refl _, fun _ h => h, fun x h => setRow_other _ _ _ _ (fun e' => o1 (e' ▸ h)), fun x h => ⟨h, setRow_other _ _ _ _ (fun e' => hM.own2 t' g' _ b c E hl (by simp [live]) hb (e' ▸ h))⟩⟩
        obtain ⟨hx', hM'⟩ := hM.write (lk' := updF lk [(t', ⟨g', false, .box (splice cells j l)⟩)]) t' g' _ (.box (splice cells j l)) b c E hl (by simp [live]) hb (cs.toList.take j ++ (a.eval y).cells.toList ++ cs.toList.drop (j + (a.eval y).cells.toList.length)).toArray (fun u => rfl) (fun _ _ h => by cases h) (fun cells' h => by
          cases h
          refine ⟨b, c, E, _, ty, rfl, setRow_heap w b cs _ ty (0, 0) hh, ?_⟩
          exact RCs.ext hx (by simpa using hrc.splice hr j))
        exact wp_skip1 hrun (hK e _ undef hx' hM' trivial)
      · cases he
    · cases he
  · rename_i t' g i j hx
    rw [hx] at hv
    obtain ⟨hg, b, c, E, hb, hv⟩ := hv
    split at he
    · rename_i g' E1 rows l hl hcl
      split at he
      · rename_i ds ts r hds hr0
        split at he
        · rename_i hc
          obtain ⟨rfl, hdn, hrl, hj, hnt⟩ := hc
          simp only [Option.some.injEq] at he; subst he
          have htold : l.all Cl.told = true := by
            have key : ∀ (l : List Cl) (ds : List D) (ts : List Nat), dsOf lk l = some (ds, ts) → l.all Cl.told = true := by
              intro l
              induction l with
              | nil => intro _ _ _; rfl
              | cons z l ih =>
                intro ds ts h
                simp only [dsOf] at h
                split at h
                · rename_i y1 l1 ys ls h1 h2
                  simp only [List.all_cons, Bool.and_eq_true]
                  refine ⟨?_, ih _ _ h2⟩
                  cases z <;> simp_all [dOf, Cl.told]
                · cases h
            exact key l ds ts hds
          obtain ⟨hr, h1⟩ := rv_told (hev y) hcl htold
          have ha := hM.arr t' g' false E1 rows hl
          rw [hb] at ha
          obtain ⟨rfl, hE0, cs, ty, ⟨fr, hfr, hh⟩, hcs, hrc, hrr⟩ := ha
          dsimp only at hv
          have hnt' : t' ∉ ts := by simpa using hnt
          obtain ⟨e2, hx2, hM2, hβ, hG, hok, hlk2⟩ := Mem.freezeL lk ts e lk hM (fun t g fz k h => ⟨fz, h⟩) (dsOf_live hds)
          obtain ⟨fz', hl2⟩ := hlk2 t' g' false _ hl
          have hl2' : updF lk (freeze lk ts) t' = some ⟨g', false, .arr E1 rows⟩ := by
            have : ∀ (ts : List Nat) (h : Nat → Option Blk), t' ∉ ts → updF h (freeze lk ts) t' = h t' := by
              intro ts
              induction ts with
              | nil => intro _ _; rfl
              | cons s ts ih =>
                intro h hn
                simp only [List.mem_cons, not_or] at hn
                simp only [freeze]
                split
                · simp only [updF]; rw [ih _ hn.2]; simp [hn.1]
                · exact ih _ hn.2
            rw [this ts lk hnt']; exact hl
          obtain ⟨hdl, hdr⟩ := dsOf_rd hM hr hds hx2.ok hx2.heap (fun t ht g fz k b c E' h1 h2 h3 => ⟨hok t ht g fz k b c E' h1 h3, rfl⟩)
          have hi : i < rows.length := (List.getElem?_eq_some_iff.1 hr0).1
          have hpos : i * E1 + j + n ≤ cs.size := by
            have : (i + 1) * E1 ≤ c * E1 := Nat.mul_le_mul_right _ (by omega)
            rw [Nat.add_mul] at this
            omega
          have hrun := store_run (P := P) ho hs hv hfr hh (by rw [← hdl]; exact hdn) hpos h1
          have hb2 : e2.β t' g' = some (b, c, E1, rows.length) := by rw [hβ]; exact hb
          obtain ⟨o1, o2, o3⟩ := hM2.own t' g' _ b c (E1, rows.length) hl2' (by simp [live]) hb2
          intro K Q hK
          generalize hW : w.setRow b (cs.toList.take (i * E1 + j) ++ (a.eval y).cells.toList ++ cs.toList.drop (i * E1 + j + (a.eval y).cells.toList.length)).toArray = W at hrun
          have hxW : Ext e2 w e2 W := by
            rw [← hW]
            exact ⟨fun _ _ _ => rfl, fun _ => Nat.le_refl _, fun _ h => h, fun x h => setRow_other _ _ _ _ (fun e' => o1 (e' ▸ h)), fun x h => ⟨h, setRow_other _ _ _ _ (fun e' => hM2.own2 t' g' _ b c (E1, rows.length) hl2' (by simp [live]) hb2 (e' ▸ h))⟩⟩
          have hheap : W.heap[b]? = some (.cells (cs.toList.take (i * E1 + j) ++ (a.eval y).cells.toList ++ cs.toList.drop (i * E1 + j + (a.eval y).cells.toList.length)).toArray ty fr) := by
            rw [← hW]; exact setRow_heap w b cs _ ty fr hh
          have hfr2 : frOK fr (cs.toList.take (i * E1 + j) ++ (a.eval y).cells.toList ++ cs.toList.drop (i * E1 + j + (a.eval y).cells.toList.length)).toArray.size := by
            have hvz : (a.eval y).cells.size = n := by rw [← Array.length_toList, ← hdl]; exact hdn
            have : (cs.toList.take (i * E1 + j) ++ (a.eval y).cells.toList ++ cs.toList.drop (i * E1 + j + (a.eval y).cells.toList.length)).toArray.size = cs.size := by simp; omega
            rw [this]; exact hfr
          obtain ⟨hx', hM'⟩ := hM2.write (lk' := updF lk ((t', ⟨g', false, .arr E1 (rows.set i (splice r j ds))⟩) :: freeze lk ts)) t' g' _ (.arr E1 (rows.set i (splice r j ds))) b c (E1, rows.length) hl2' (by simp [live]) hb2
            (cs.toList.take (i * E1 + j) ++ (a.eval y).cells.toList ++ cs.toList.drop (i * E1 + j + (a.eval y).cells.toList.length)).toArray (fun u => updF_freeze_set lk t' _ ts lk hnt' u) (fun E1' rows' h => by
              cases h
              rw [hW]
              refine ⟨by rw [List.length_set], hE0, _, ty, ⟨fr, hfr2, hheap⟩, ?_, by simpa using hrc, RDRows.of fun m r' hm => ?_⟩
              · have hvz : (a.eval y).cells.size = n := by rw [← Array.length_toList, ← hdl]; exact hdn
                simp; omega
              · have hcell : ∀ q, W.cell? ⟨b, q, none⟩ = (cs.toList.take (i * E1 + j) ++ (a.eval y).cells.toList ++ cs.toList.drop (i * E1 + j + (a.eval y).cells.toList.length))[q]? := by
                  intro q; simp only [World.cell?, hheap]; simp
                have hvl : (a.eval y).cells.toList.length = n := by rw [← hdl]; exact hdn
                have hseg : ∀ q, (cs.toList.take (i * E1 + j) ++ (a.eval y).cells.toList ++ cs.toList.drop (i * E1 + j + (a.eval y).cells.toList.length))[q]? = if q < i * E1 + j then cs[q]? else if q < i * E1 + j + n then (a.eval y).cells.toList[q - (i * E1 + j)]? else cs[q]? := by
                  intro q
                  have hlt : (cs.toList.take (i * E1 + j)).length = i * E1 + j := by simp; omega
                  by_cases h1 : q < i * E1 + j
                  · rw [if_pos h1, List.append_assoc, List.getElem?_append_left (by omega), List.getElem?_take, if_pos h1]; simp
                  · rw [if_neg h1]
                    by_cases h2 : q < i * E1 + j + n
                    · rw [if_pos h2, List.getElem?_append_left (by simp only [List.length_append]; omega), List.getElem?_append_right (by omega), hlt]
                    · rw [if_neg h2, List.getElem?_append_right (by simp only [List.length_append]; omega), List.getElem?_drop]
                      simp only [List.length_append, hlt, hvl, Array.getElem?_toList]
                      congr 1
                      omega
                by_cases hmi : m = i
                · subst hmi
                  rw [List.getElem?_set_self hi] at hm
                  obtain rfl := Option.some.inj hm
                  have hsl : (splice r j ds).length = E1 := by unfold splice; simp; omega
                  refine ⟨hsl, RDRow.of fun q d hq => ?_⟩
                  obtain ⟨_, hrow⟩ := hrr.get hr0
                  rw [add_lit, Nat.zero_add, Nat.zero_add, hcell, hseg]
                  unfold splice at hq
                  have hqE : q < E1 := by
                    rw [← hsl]; unfold splice
                    exact (List.getElem?_eq_some_iff.1 hq).1
                  have htl : (r.take j).length = j := by simp; omega
                  by_cases h1 : q < j
                  · rw [if_pos (by omega)]
                    rw [List.append_assoc, List.getElem?_append_left (by omega), List.getElem?_take, if_pos h1] at hq
                    obtain ⟨u, hu, hru⟩ := hrow.get hq
                    rw [add_lit] at hu
                    simp only [World.cell?, hh] at hu
                    refine ⟨u, by simpa using hu, ?_⟩
                    exact RD.mono (fun b h => hxW.ok b (hx2.ok b h)) (fun x h => (hxW.heap x (hx2.ok x h)).trans (hx2.heap x h)) _ _ hru
                  · rw [if_neg (by omega)]
                    by_cases h2 : q < j + n
                    · rw [if_pos (by omega)]
                      rw [List.getElem?_append_left (by simp only [List.length_append]; omega), List.getElem?_append_right (by omega), htl] at hq
                      obtain ⟨u, hu, hru⟩ := hdr _ _ hq
                      refine ⟨u, ?_, ?_⟩
                      · rw [← hu]; congr 1; omega
                      · exact RD.mono hxW.ok hxW.heap _ _ hru
                    · rw [if_neg (by omega)]
                      rw [List.getElem?_append_right (by simp only [List.length_append]; omega), List.getElem?_drop] at hq
                      have hqq : j + ds.length + (q - ((List.take j r) ++ ds).length) = q := by simp only [List.length_append, htl]; omega
                      rw [hqq] at hq
                      obtain ⟨u, hu, hru⟩ := hrow.get hq
                      rw [add_lit] at hu
                      simp only [World.cell?, hh] at hu
                      refine ⟨u, by simpa using hu, ?_⟩
                      exact RD.mono (fun b h => hxW.ok b (hx2.ok b h)) (fun x h => (hxW.heap x (hx2.ok x h)).trans (hx2.heap x h)) _ _ hru
                · rw [List.getElem?_set_ne (Ne.symm hmi)] at hm
                  obtain ⟨hl', hrow⟩ := hrr.get hm
                  refine ⟨hl', RDRow.of fun q d hq => ?_⟩
                  obtain ⟨u, hu, hru⟩ := hrow.get hq
                  have hqE : q < E1 := by rw [← hl']; exact (List.getElem?_eq_some_iff.1 hq).1
                  refine ⟨u, ?_, RD.mono (fun b h => hxW.ok b (hx2.ok b h)) (fun x h => (hxW.heap x (hx2.ok x h)).trans (hx2.heap x h)) _ _ hru⟩
                  rw [add_lit] at hu ⊢
                  rw [hcell, hseg]
                  simp only [World.cell?, hh, Nat.zero_add] at hu ⊢
                  simp only [Option.isSome_none, Bool.false_eq_true, if_false] at hu
                  rcases Nat.lt_or_gt_of_ne hmi with hlt | hgt
                  · have : (m + 1) * E1 ≤ i * E1 := Nat.mul_le_mul_right _ hlt
                    rw [Nat.add_mul] at this
                    rw [if_pos (by omega)]; exact hu
                  · have : (i + 1) * E1 ≤ m * E1 := Nat.mul_le_mul_right _ hgt
                    rw [Nat.add_mul] at this
                    rw [if_neg (by omega), if_neg (by omega)]; exact hu)
            (fun cells h => by cases h)
          rw [hW] at hx' hM'
          exact wp_skip1 hrun (hK e2 _ undef (hx2.trans hx') hM' trivial)
        · cases he
      · cases he
    · cases he
  · cases he
end

end Go.Proofs.YtmmlolampgnamaaDoor.Ax
