/- Code. -/
import Derived.Test.YtmmlolampgnamaaDoorAx14
import Derived.LoopN
namespace Go.Proofs.YtmmlolampgnamaaDoor.Ax
open Go.RowKit
set_option linter.unusedVariables false

def Ex.to : Ex → Exit
  | .normal => .normal
  | .exit id => .exit id
  | .ret => .ret

section
variable {P : Program} {w0 : World} {ok0 : Ctx0} {cx : Cx} {N : Nat} {K : Code → List Nat}

theorem getL_map (f : Nat → Blk → Blk) : ∀ (l : List (Nat × Blk)) (t : Nat), getL (l.map fun p => (p.1, f p.1 p.2)) t = (getL l t).map (f t)
  | [], _ => rfl
  | (u, b) :: l, t => by
    simp only [List.map_cons, getL]
    by_cases h : u = t
    · subst h; simp
    · simp only [h, if_false]; exact getL_map f l t
theorem keepS_length (keep : List Nat) (cur : Nat → Option Nat) : ∀ (l : List AV) (i : Nat), (keepS keep cur l i).length = l.length
  | [], _ => rfl
  | v :: l, i => by simp only [keepS, List.length_cons]; rw [keepS_length keep cur l (i + 1)]
theorem keepS_get (keep : List Nat) (cur : Nat → Option Nat) : ∀ (l : List AV) (i t : Nat), slotsF (keepS keep cur l i) t = .c .undef ∨ slotsF (keepS keep cur l i) t = renV cur (slotsF l t)
  | [], _, _ => .inl rfl
  | v :: l, i, 0 => by
    simp only [slotsF, keepS, List.getD_cons_zero]
    split
    · exact .inr rfl
    · exact .inl rfl
  | v :: l, i, t + 1 => by
    have := keepS_get keep cur l (i + 1) t
    simpa only [slotsF, keepS, List.getD_cons_succ] using this

def En.renamed (e : En) (cur : Nat → Option Nat) (lk' : Nat → Option Blk) : En where
  β := fun t g => if g = 1 then (match cur t with
    | some g0 => e.β t g0
    | none => none) else none
  G := genOf lk'
  ok := e.ok
  ob := e.ob

theorem renC_rc {e e' : En} {w : World} {cur : Nat → Option Nat} (hok : e'.ok = e.ok) (hc : ∀ t g, cur t = some g → e'.β t 1 = e.β t g ∧ 1 ≤ e'.G t) {x : Cl} {v : Value} (h : RC e w x v) : RC e' w (renC cur x) v := by
  cases x with
  | d x => simp only [renC, RC, hok] at h ⊢; exact h
  | undef => exact trivial
  | nil => exact h
  | clip rows => simp only [renC, RC, hok] at h ⊢; exact h
  | own t g n =>
    simp only [renC]
    split
    · rename_i hg
      obtain ⟨h1, h2⟩ := hc t g hg
      simp only [RC] at h ⊢
      exact ⟨h2, by rw [h1]; exact h.2⟩
    · exact trivial
  | bptr t g j =>
    simp only [renC]
    split
    · rename_i hg
      obtain ⟨h1, h2⟩ := hc t g hg
      simp only [RC] at h ⊢
      exact ⟨h2, by rw [h1]; exact h.2⟩
    · exact trivial
  | aptr t g i j =>
    simp only [renC]
    split
    · rename_i hg
      obtain ⟨h1, h2⟩ := hc t g hg
      simp only [RC] at h ⊢
      exact ⟨h2, by rw [h1]; exact h.2⟩
    · exact trivial
theorem renC_rcs {e e' : En} {w : World} {cur : Nat → Option Nat} (hok : e'.ok = e.ok) (hc : ∀ t g, cur t = some g → e'.β t 1 = e.β t g ∧ 1 ≤ e'.G t) : ∀ {l : List Cl} {vs : List Value}, RCs e w l vs → RCs e' w (l.map (renC cur)) vs
  | [], [], _ => trivial
  | _ :: _, _ :: _, h => ⟨renC_rc hok hc h.1, renC_rcs hok hc h.2⟩
  | [], _ :: _, h => h.elim
  | _ :: _, [], h => h.elim
theorem renV_rv {e e' : En} {w : World} {cur : Nat → Option Nat} (hok : e'.ok = e.ok) (hc : ∀ t g, cur t = some g → e'.β t 1 = e.β t g ∧ 1 ≤ e'.G t) {x : AV} {v : Value} (h : RV e w x v) : RV e' w (renV cur x) v := by
  cases x with
  | c x => exact renC_rc hok hc h
  | agg l =>
    obtain ⟨vs, h1, h2⟩ := h
    exact ⟨vs, h1, renC_rcs hok hc h2⟩
  | tup l => exact trivial

theorem forget0_fits (hJ : ∀ e w, ok0.J e w) {s : St} {keep : List Nat} {a : Act} {w : World} (h : SimL w0 ok0 s a w) : SimL w0 ok0 (forget0 keep s) a w ∧ (forget0 keep s).slots.length = s.slots.length := by
  have hl : (forget0 keep s).slots.length = s.slots.length := keepS_length _ _ _ _
  refine ⟨?_, hl⟩
  obtain ⟨e, hM, hs, hsl, hd⟩ := h
  unfold SimL
  rw [hl]
  have hlk : ∀ t, getL (forget0 keep s).blk t = (getL s.blk t).map (renB (curOf (closeT s.blk 2 (heldBy keep s.slots 0)) (getL s.blk)) t) := fun t => getL_map _ _ _
  have hsl' : ∀ t, slotsF (forget0 keep s).slots t = .c .undef ∨ slotsF (forget0 keep s).slots t = renV (curOf (closeT s.blk 2 (heldBy keep s.slots 0)) (getL s.blk)) (slotsF s.slots t) := fun t => keepS_get _ _ _ _ _
  generalize hcur : curOf (closeT s.blk 2 (heldBy keep s.slots 0)) (getL s.blk) = cur at hlk hsl'
  generalize getL (forget0 keep s).blk = lk' at hlk
  generalize slotsF (forget0 keep s).slots = sl' at hsl'
  have hc0 : ∀ t g, cur t = some g → ∃ fz k, getL s.blk t = some ⟨g, fz, k⟩ ∧ live k := by
    intro t g h
    rw [← hcur] at h
    unfold curOf at h
    split at h
    · rename_i b hb
      split at h
      · rename_i hcond
        cases h
        refine ⟨b.fz, b.k, hb, ?_⟩
        intro hk
        rw [hk] at hcond
        simp [isDead] at hcond
      · cases h
    · cases h
  have hkey : ∀ t g fz k, lk' t = some ⟨g, fz, k⟩ → live k → ∃ g0 k0, cur t = some g0 ∧ g = 1 ∧ getL s.blk t = some ⟨g0, fz, k0⟩ ∧ live k0 ∧ k = renK cur k0 := by
    intro t g fz k h hk
    rw [hlk] at h
    cases hb : getL s.blk t with
    | none => rw [hb] at h; cases h
    | some b =>
      rw [hb] at h
      simp only [Option.map_some, Option.some.injEq] at h
      unfold renB at h
      split at h
      · rename_i g0 hg0
        obtain ⟨fz', k', h1, h2⟩ := hc0 t g0 hg0
        rw [hb] at h1
        cases h1
        simp only [Blk.mk.injEq] at h
        obtain ⟨rfl, rfl, rfl⟩ := h
        exact ⟨g0, k', hg0, rfl, rfl, h2, rfl⟩
      · simp only [Blk.mk.injEq] at h
        exact absurd h.2.2.symm hk
  have hG : ∀ t g, cur t = some g → genOf lk' t = 1 := by
    intro t g h
    obtain ⟨fz, k, h1, h2⟩ := hc0 t g h
    unfold genOf
    rw [hlk, h1]
    simp only [Option.map_some, renB, h]
  have hc : ∀ t g, cur t = some g → (e.renamed cur lk').β t 1 = e.β t g ∧ 1 ≤ (e.renamed cur lk').G t := fun t g h => by
    refine ⟨by simp [En.renamed, h], ?_⟩
    show 1 ≤ genOf lk' t
    rw [hG t g h]; exact Nat.le_refl _
  refine ⟨e.renamed cur lk', ⟨fun _ => rfl, ?_, ?_, ?_, ?_, ?_, hM.okl, hM.okr, hM.bel, ?_, hM.gl, hJ _ _, hM.ob, ?_⟩, hs, fun t => ?_, hd⟩
  · intro t g fz E rows h
    obtain ⟨g0, k0, h1, rfl, h3, h4, h5⟩ := hkey t g fz _ h (by simp [live])
    rw [(hc t g0 h1).1]
    cases k0 <;> simp only [renK] at h5 <;> cases h5
    exact hM.arr t g0 fz E rows h3
  · intro t g fz cells h
    obtain ⟨g0, k0, h1, rfl, h3, h4, h5⟩ := hkey t g fz _ h (by simp [live])
    rw [(hc t g0 h1).1]
    cases k0 <;> simp only [renK] at h5 <;> cases h5
    obtain ⟨b, c, E, cs, ty, q1, q2, q3⟩ := hM.box t g0 fz _ h3
    exact ⟨b, c, E, cs, ty, q1, q2, renC_rcs (e := e) (e' := e.renamed cur lk') rfl hc q3⟩
  · intro t g k b c E h hk hb
    obtain ⟨g0, k0, h1, rfl, h3, h4, h5⟩ := hkey t g true k h hk
    rw [(hc t g0 h1).1] at hb
    exact hM.frz t g0 k0 b c E h3 h4 hb
  · intro t g k b c E h hk hb
    obtain ⟨g0, k0, h1, rfl, h3, h4, h5⟩ := hkey t g false k h hk
    rw [(hc t g0 h1).1] at hb
    exact hM.own t g0 k0 b c E h3 h4 hb
  · intro t g k b c E t' g' k' c' E' h hk hb h' hk' hb'
    obtain ⟨g0, k0, h1, rfl, h3, h4, h5⟩ := hkey t g false k h hk
    obtain ⟨g0', k0', h1', rfl, h3', h4', h5'⟩ := hkey t' g' false k' h' hk'
    rw [(hc t g0 h1).1] at hb
    rw [(hc t' g0' h1').1] at hb'
    exact hM.inj t g0 k0 b c E t' g0' k0' c' E' h3 h4 hb h3' h4' hb'
  · intro t g fz s pos h
    obtain ⟨g0, k0, h1, rfl, h3, h4, h5⟩ := hkey t g fz _ h (by simp [live])
    rw [(hc t g0 h1).1]
    cases k0 <;> simp only [renK] at h5 <;> cases h5
    exact hM.iter t g0 fz s pos h3
  · intro t g k b c E h hk hb
    obtain ⟨g0, k0, h1, rfl, h3, h4, h5⟩ := hkey t g false k h hk
    rw [(hc t g0 h1).1] at hb
    exact hM.own2 t g0 k0 b c E h3 h4 hb
  · rcases hsl' t with h | h
    · rw [h]; exact trivial
    · rw [h]; exact renV_rv (e := e) (e' := e.renamed cur lk') rfl hc (hsl t)

theorem slotsF_set {l : List AV} {a : Nat} {x : AV} {y : AV} (hy : slotsF l a = y) (hne : y ≠ .c .undef) (t : Nat) : slotsF (l.set a x) t = if t = a then x else slotsF l t := by
  by_cases h : t = a
  · subst h
    rw [if_pos rfl]
    unfold slotsF at hy ⊢
    by_cases hl : t < l.length
    · rw [List.getD_eq_getElem?_getD, List.getElem?_set_self hl]; rfl
    · rw [List.getD_eq_getElem?_getD, List.getElem?_eq_none (by omega)] at hy
      exact absurd hy.symm hne
  · rw [if_neg h]
    unfold slotsF
    rw [List.getD_eq_getElem?_getD, List.getD_eq_getElem?_getD, List.getElem?_set_ne (fun e => h e.symm)]
theorem RCs.setv {e : En} {w : World} {x : Cl} : ∀ {xs : List Cl} {vs : List Value} {j : Nat} {y : Cl}, RCs e w xs vs → xs[j]? = some y → (∀ v, RC e w y v → RC e w x v) → RCs e w (xs.set j x) vs
  | [], [], _, _, _, h, _ => by simp at h
  | _ :: _, _ :: _, 0, y, h, hj, hx => by
    simp only [List.getElem?_cons_zero, Option.some.injEq] at hj
    subst hj
    exact ⟨hx _ h.1, h.2⟩
  | _ :: _, _ :: _, j + 1, y, h, hj, hx => ⟨h.1, RCs.setv h.2 (by simpa using hj) hx⟩
  | [], _ :: _, _, _, h, _, _ => h.elim
  | _ :: _, [], _, _, h, _, _ => h.elim
theorem rc_ownNil {e : En} (w : World) {lk : Nat → Option Blk} (T : Nat) (v : Value) (h : RC (e.none_ lk T) w .nil v) : RC (e.none_ lk T) w (.own T (genOf lk T + 1) 0) v := by
  refine ⟨by simp [En.none_], ?_⟩
  rw [En.none_at]
  exact ⟨rfl, h⟩

theorem canon_get : ∀ (l : List (Nat × Blk)) (u : Nat), getL (canon l) u = match getL l u with
    | some b => if gone b = true then none else some b
    | none => none
  | [], _ => rfl
  | (t, b) :: l, u => by
    have del : ∀ (l : List (Nat × Blk)), getL (delK t l) u = if u = t then none else getL l u := by
      intro l
      induction l with
      | nil => simp [delK, getL]
      | cons q l ih =>
        obtain ⟨v, c⟩ := q
        simp only [delK]
        by_cases h : v = t
        · rw [if_pos h, ih]
          by_cases hu : u = t
          · rw [if_pos hu, if_pos hu]
          · rw [if_neg hu, if_neg hu]
            simp only [getL]
            rw [if_neg (by omega)]
        · rw [if_neg h]
          simp only [getL, ih]
          by_cases hv : v = u
          · rw [if_pos hv, if_neg (by omega), if_pos hv]
          · rw [if_neg hv]
            by_cases hu : u = t
            · rw [if_pos hu, if_pos hu]
            · rw [if_neg hu, if_neg hu, if_neg hv]
    have insg : ∀ (l : List (Nat × Blk)), getL (insK (t, b) l) u = if u = t then some b else getL l u := by
      intro l
      induction l with
      | nil =>
        simp only [insK, getL]
        by_cases h : u = t
        · simp [h]
        · rw [if_neg h, if_neg (fun e => h e.symm)]
      | cons q l ih =>
        obtain ⟨v, c⟩ := q
        simp only [insK]
        split
        · simp only [getL]
          by_cases h : u = t
          · simp [h]
          · rw [if_neg (by omega), if_neg h]
        · split
          · rename_i h2
            simp only [getL]
            by_cases h : u = t
            · simp [h]
            · rw [if_neg (by omega), if_neg h, if_neg (by omega)]
          · rename_i h1 h2
            simp only [getL, ih]
            by_cases hv : v = u
            · rw [if_pos hv, if_neg (by omega), if_pos hv]
            · rw [if_neg hv]
              by_cases h : u = t
              · simp [h]
              · rw [if_neg h, if_neg h, if_neg hv]
    have ih := canon_get l u
    simp only [canon]
    cases hg : gone b with
    | true =>
      simp only [del, getL]
      by_cases h : u = t
      · subst h; simp [hg]
      · rw [if_neg h, ih, if_neg (show ¬ t = u from fun e => h e.symm)]
    | false =>
      simp only [insg, getL]
      by_cases h : u = t
      · subst h; simp [hg]
      · rw [if_neg h, ih, if_neg (show ¬ t = u from fun e => h e.symm)]
theorem canon_fits {s : St} {ac : Act} {w : World} (h : SimL w0 ok0 s ac w) : SimL w0 ok0 (canonS s) ac w := by
  obtain ⟨e, hM, hs, hsl, hd⟩ := h
  have hk : ∀ t g fz k, getL (canon s.blk) t = some ⟨g, fz, k⟩ → getL s.blk t = some ⟨g, fz, k⟩ := by
    intro t g fz k h
    rw [canon_get] at h
    cases hb : getL s.blk t with
    | none => rw [hb] at h; cases h
    | some b =>
      rw [hb] at h
      simp only [] at h
      split at h
      · cases h
      · exact h
  refine ⟨e, ⟨fun t => ?_, fun t g fz E rows h => hM.arr t g fz E rows (hk _ _ _ _ h), fun t g fz cells h => hM.box t g fz cells (hk _ _ _ _ h), fun t g k b c E h => hM.frz t g k b c E (hk _ _ _ _ h), fun t g k b c E h => hM.own t g k b c E (hk _ _ _ _ h),
    fun t g k b c E t' g' k' c' E' h1 h2 h3 h4 => hM.inj t g k b c E t' g' k' c' E' (hk _ _ _ _ h1) h2 h3 (hk _ _ _ _ h4), hM.okl, hM.okr, hM.bel, fun t g fz s pos h => hM.iter t g fz s pos (hk _ _ _ _ h), hM.gl, hM.j, hM.ob, fun t g k b c E h => hM.own2 t g k b c E (hk _ _ _ _ h)⟩, hs, hsl, hd⟩
  rw [hM.gen]
  unfold genOf canonS
  rw [canon_get]
  cases hb : getL s.blk t with
  | none => rfl
  | some b =>
    by_cases hg : gone b = true
    · simp only [hg, if_true]
      simp only [gone, Bool.and_eq_true, beq_iff_eq] at hg
      exact hg.2
    · simp only [hg]
      rfl

theorem nil1_fits {s : St} {kind a j T E : Nat} {ac : Act} {w : World} (h : SimL w0 ok0 s ac w) : SimL w0 ok0 (nil1 s kind a j T E) ac w ∧ (nil1 s kind a j T E).slots.length = s.slots.length := by
  unfold nil1
  split
  case h_2 => exact ⟨h, rfl⟩
  rename_i hT
  generalize hg : genOf (getL s.blk) T = g
  obtain ⟨e, hM, hs, hsl, hd⟩ := h
  obtain ⟨hx, hM'⟩ := hM.newNil (lk' := getL (setL s.blk T ⟨g + 1, false, .arr E []⟩)) T E (fun t => by rw [getL_setL, hg])
  have hsl' : ∀ t, RV (e.none_ (getL s.blk) T) w (slotsF s.slots t) (ac.tmps.getD t undef) := fun t => RV.ext hx (hsl t)
  have hd' := DefOK.ext hx hd
  split
  · split
    · rename_i hv
      refine ⟨⟨_, hM', by simpa using hs, fun t => ?_, hd'⟩, by simp⟩
      show RV _ w (slotsF (s.slots.set a _) t) _
      rw [slotsF_set hv (by simp)]
      by_cases ht : t = a
      · rw [if_pos ht]
        have := hsl' t
        rw [ht, hv] at this
        rw [ht, ← hg]
        exact rc_ownNil (lk := getL s.blk) w T _ this
      · rw [if_neg ht]; exact hsl' t
    · exact ⟨⟨e, hM, hs, hsl, hd⟩, rfl⟩
  · split
    · rename_i cs hv
      split
      · rename_i hj
        refine ⟨⟨_, hM', by simpa using hs, fun t => ?_, hd'⟩, by simp⟩
        show RV _ w (slotsF (s.slots.set a _) t) _
        rw [slotsF_set hv (by simp)]
        by_cases ht : t = a
        · rw [if_pos ht]
          have := hsl' t
          rw [ht, hv] at this
          rw [ht, ← hg]
          obtain ⟨vs, h1, h2⟩ := this
          exact ⟨vs, h1, RCs.setv h2 hj fun v hv => rc_ownNil (lk := getL s.blk) w T v hv⟩
        · rw [if_neg ht]; exact hsl' t
      · exact ⟨⟨e, hM, hs, hsl, hd⟩, rfl⟩
    · exact ⟨⟨e, hM, hs, hsl, hd⟩, rfl⟩
  · split
    · rename_i g2 cs hv
      split
      · rename_i hj
        have hne : a ≠ T := fun h => by rw [h] at hv; unfold deadAt at hT; rw [hv] at hT; simp [isDead] at hT
        have hv' : getL (setL s.blk T ⟨g + 1, false, .arr E []⟩) a = some ⟨g2, false, .box cs⟩ := by rw [getL_setL]; exact (if_neg hne).trans hv
        refine ⟨⟨_, hM'.upd1 (Ext.refl _ _) (lk' := getL (setL (setL s.blk T ⟨g + 1, false, .arr E []⟩) a ⟨g2, false, .box (cs.set j (.own T (g + 1) 0))⟩)) a ⟨g2, false, .box (cs.set j (.own T (g + 1) 0))⟩
          (fun t => by rw [getL_setL]) (fun t => ?_) (fun b => Iff.rfl) (fun _ _ _ _ _ _ _ _ _ _ _ => rfl) (Nat.le_refl _) (fun E rows h => by cases h) (fun cells h => ?_) (fun h => by cases h) (fun _ _ b c E hb => ?_) hM'.bel, hs, hsl', hd'⟩, rfl⟩
        · split
          · rename_i ht; rw [ht, hM'.gen, genOf_at hv']
          · rfl
        · cases h
          obtain ⟨b, c, E', cs', ty, q1, q2, q3⟩ := hM'.box a g2 false cs hv'
          exact ⟨b, c, E', cs', ty, q1, q2, RCs.setv q3 hj fun v hv => hg ▸ rc_ownNil (lk := getL s.blk) w T v hv⟩
        · obtain ⟨q1, q2, q3⟩ := hM'.own a g2 _ b c E hv' (by simp [live]) hb
          refine ⟨⟨q1, hM'.own2 a g2 _ b c E hv' (by simp [live]) hb⟩, q2, q3, fun t g' k c' E' ht h1 h2 h3 => ?_⟩
          exact ht (hM'.inj t g' k b c' E' a g2 _ c E h1 h2 h3 hv' (by simp [live]) hb)
      · exact ⟨⟨e, hM, hs, hsl, hd⟩, rfl⟩
    · exact ⟨⟨e, hM, hs, hsl, hd⟩, rfl⟩
  · exact ⟨⟨e, hM, hs, hsl, hd⟩, rfl⟩
theorem getL_delK (t u : Nat) : ∀ (l : List (Nat × Blk)), getL (delK t l) u = if u = t then none else getL l u := by
  intro l
  induction l with
  | nil => simp [delK, getL]
  | cons q l ih =>
    obtain ⟨v, c⟩ := q
    simp only [delK]
    by_cases h : v = t
    · rw [if_pos h, ih]
      by_cases hu : u = t
      · rw [if_pos hu, if_pos hu]
      · rw [if_neg hu, if_neg hu]
        simp only [getL]
        rw [if_neg (by omega)]
    · rw [if_neg h]
      simp only [getL, ih]
      by_cases hv : v = u
      · rw [if_pos hv, if_neg (by omega), if_pos hv]
      · rw [if_neg hv]
        by_cases hu : u = t
        · rw [if_pos hu, if_pos hu]
        · rw [if_neg hu, if_neg hu, if_neg hv]
def En.moved (e : En) (t0 g0 T G : Nat) (lk' : Nat → Option Blk) : En where
  β := fun t g => if t = T ∧ g = G then e.β t0 g0 else if t = t0 then none else e.β t g
  G := genOf lk'
  ok := e.ok
  ob := e.ob
theorem mvC_rc {e : En} {w : World} {t0 g0 T G : Nat} {lk' : Nat → Option Blk} (hT : genOf lk' T = G) (hG : e.G T < G) (hne : t0 ≠ T) (hgen : ∀ t, t ≠ t0 → t ≠ T → genOf lk' t = e.G t) {x : Cl} {v : Value} (h : RC e w x v) : RC (e.moved t0 g0 T G lk') w (mvC t0 g0 T G x) v := by
  have hnew : (e.moved t0 g0 T G lk').β T G = e.β t0 g0 := by simp [En.moved]
  have hold : ∀ t g, t ≠ t0 → g ≤ e.G t → (e.moved t0 g0 T G lk').β t g = e.β t g ∧ g ≤ (e.moved t0 g0 T G lk').G t := by
    intro t g ht hg
    refine ⟨?_, ?_⟩
    · show (if t = T ∧ g = G then _ else if t = t0 then _ else _) = _
      rw [if_neg, if_neg ht]
      rintro ⟨rfl, rfl⟩
      omega
    · show g ≤ genOf lk' t
      by_cases h2 : t = T
      · subst h2; omega
      · rw [hgen t ht h2]; exact hg
  have hTG : G ≤ (e.moved t0 g0 T G lk').G T := by show G ≤ genOf lk' T; omega
  cases x with
  | d x => exact h
  | undef => exact trivial
  | nil => exact h
  | clip rows => exact h
  | own t g n =>
    simp only [mvC]
    split
    · rename_i ht
      split
      · rename_i hg0
        subst ht hg0
        exact ⟨hTG, by rw [hnew]; exact h.2⟩
      · exact trivial
    · rename_i ht
      obtain ⟨q1, q2⟩ := hold t g ht h.1
      exact ⟨q2, by rw [q1]; exact h.2⟩
  | bptr t g j =>
    simp only [mvC]
    split
    · exact trivial
    · rename_i ht
      obtain ⟨q1, q2⟩ := hold t g ht h.1
      exact ⟨q2, by rw [q1]; exact h.2⟩
  | aptr t g i j =>
    simp only [mvC]
    split
    · rename_i ht
      split
      · rename_i hg0
        subst ht hg0
        exact ⟨hTG, by rw [hnew]; exact h.2⟩
      · exact trivial
    · rename_i ht
      obtain ⟨q1, q2⟩ := hold t g ht h.1
      exact ⟨q2, by rw [q1]; exact h.2⟩
theorem mvC_rcs {e : En} {w : World} {t0 g0 T G : Nat} {lk' : Nat → Option Blk} (hT : genOf lk' T = G) (hG : e.G T < G) (hne : t0 ≠ T) (hgen : ∀ t, t ≠ t0 → t ≠ T → genOf lk' t = e.G t) : ∀ {l : List Cl} {vs : List Value}, RCs e w l vs → RCs (e.moved t0 g0 T G lk') w (l.map (mvC t0 g0 T G)) vs
  | [], [], _ => trivial
  | _ :: _, _ :: _, h => ⟨mvC_rc hT hG hne hgen h.1, mvC_rcs hT hG hne hgen h.2⟩
  | [], _ :: _, h => h.elim
  | _ :: _, [], h => h.elim
theorem mvS_fits (hJ : ∀ e w, ok0.J e w) {s : St} {t0 T : Nat} {ac : Act} {w : World} (h : SimL w0 ok0 s ac w) : SimL w0 ok0 (mvS s t0 T) ac w ∧ (mvS s t0 T).slots.length = s.slots.length := by
  unfold mvS
  split
  case h_2 => exact ⟨h, rfl⟩
  rename_i g0 fz E rows h0
  split
  case isFalse => exact ⟨h, rfl⟩
  rename_i hc
  obtain ⟨hne, hdead⟩ := hc
  obtain ⟨e, hM, hs, hsl, hd⟩ := h
  refine ⟨?_, by simp⟩
  unfold SimL
  generalize hGG : genOf (getL s.blk) T + 1 = G
  have hlk : ∀ t, getL (setL ((delK t0 s.blk).map fun p => (p.1, Blk.mk p.2.g p.2.fz (mvK t0 g0 T G p.2.k))) T (Blk.mk G fz (.arr E rows))) t = if t = T then some (Blk.mk G fz (.arr E rows)) else if t = t0 then none else (getL s.blk t).map fun b => Blk.mk b.g b.fz (mvK t0 g0 T G b.k) := by
    intro t
    rw [getL_setL]
    by_cases h : t = T
    · simp only [if_pos h]
    · simp only [if_neg h]
      rw [getL_map (fun _ b => (⟨b.g, b.fz, mvK t0 g0 T G b.k⟩ : Blk)), getL_delK]
      by_cases h2 : t = t0
      · rw [if_pos h2, if_pos h2]; rfl
      · rw [if_neg h2, if_neg h2]
  simp only [List.length_map]
  have hsl' : ∀ t, slotsF (s.slots.map (mvV t0 g0 T G)) t = mvV t0 g0 T G (slotsF s.slots t) := by
    intro t
    unfold slotsF
    rw [List.getD_eq_getElem?_getD, List.getD_eq_getElem?_getD, List.getElem?_map]
    cases s.slots[t]? with
    | none => rfl
    | some x => rfl
  generalize getL (setL ((delK t0 s.blk).map fun p => (p.1, Blk.mk p.2.g p.2.fz (mvK t0 g0 T G p.2.k))) T (Blk.mk G fz (.arr E rows))) = lk' at hlk
  generalize slotsF (s.slots.map (mvV t0 g0 T G)) = sl' at hsl'
  have hTG : genOf lk' T = G := by unfold genOf; rw [hlk, if_pos rfl]
  have heG : e.G T < G := by rw [hM.gen]; omega
  have hgen : ∀ t, t ≠ t0 → t ≠ T → genOf lk' t = e.G t := by
    intro t h1 h2
    rw [hM.gen]
    unfold genOf
    rw [hlk, if_neg h2, if_neg h1]
    cases getL s.blk t <;> rfl
  have hkey : ∀ t g fz' k, lk' t = some ⟨g, fz', k⟩ → ∃ t1 g1 k1, getL s.blk t1 = some ⟨g1, fz', k1⟩ ∧ (live k → live k1) ∧ k = mvK t0 g0 T G k1 ∧ (e.moved t0 g0 T G lk').β t g = e.β t1 g1 ∧ ((t = T ∧ t1 = t0) ∨ (t ≠ T ∧ t1 = t ∧ t ≠ t0)) := by
    intro t g fz' k h
    rw [hlk] at h
    by_cases h1 : t = T
    · rw [if_pos h1] at h
      simp only [Option.some.injEq, Blk.mk.injEq] at h
      obtain ⟨rfl, rfl, rfl⟩ := h
      exact ⟨t0, g0, _, h0, fun _ => by simp [live], rfl, by simp [En.moved, h1], .inl ⟨h1, rfl⟩⟩
    · rw [if_neg h1] at h
      by_cases h2 : t = t0
      · rw [if_pos h2] at h; cases h
      · rw [if_neg h2] at h
        cases hb : getL s.blk t with
        | none => rw [hb] at h; cases h
        | some b =>
          rw [hb] at h
          simp only [Option.map_some, Option.some.injEq, Blk.mk.injEq] at h
          obtain ⟨rfl, rfl, rfl⟩ := h
          refine ⟨t, b.g, b.k, hb, fun hl hk => hl ?_, rfl, ?_, .inr ⟨h1, rfl, h2⟩⟩
          · rw [hk]; rfl
          · show (if t = T ∧ _ then _ else if t = t0 then _ else _) = _
            rw [if_neg (fun h => h1 h.1), if_neg h2]
  refine ⟨e.moved t0 g0 T G lk', ⟨fun _ => rfl, ?_, ?_, ?_, ?_, ?_, hM.okl, hM.okr, hM.bel, ?_, hM.gl, hJ _ _, hM.ob, ?_⟩, hs, fun t => ?_, hd⟩
  · intro t g fz' E' rows' h
    obtain ⟨t1, g1, k1, q1, q2, q3, q4, _⟩ := hkey t g fz' _ h
    rw [q4]
    cases k1 <;> simp only [mvK] at q3 <;> cases q3
    exact hM.arr t1 g1 fz' E' rows' q1
  · intro t g fz' cells h
    obtain ⟨t1, g1, k1, q1, q2, q3, q4, _⟩ := hkey t g fz' _ h
    rw [q4]
    cases k1 <;> simp only [mvK] at q3 <;> cases q3
    obtain ⟨b, c, E', cs, ty, r1, r2, r3⟩ := hM.box t1 g1 fz' _ q1
    exact ⟨b, c, E', cs, ty, r1, r2, mvC_rcs hTG heG hne hgen r3⟩
  · intro t g k b c E' h hk hb
    obtain ⟨t1, g1, k1, q1, q2, q3, q4, _⟩ := hkey t g true k h
    rw [q4] at hb
    exact hM.frz t1 g1 k1 b c E' q1 (q2 hk) hb
  · intro t g k b c E' h hk hb
    obtain ⟨t1, g1, k1, q1, q2, q3, q4, _⟩ := hkey t g false k h
    rw [q4] at hb
    exact hM.own t1 g1 k1 b c E' q1 (q2 hk) hb
  · intro t g k b c E' t' g' k' c' E'' h hk hb h' hk' hb'
    obtain ⟨t1, g1, k1, q1, q2, q3, q4, q5⟩ := hkey t g false k h
    obtain ⟨t2, g2, k2, r1, r2, r3, r4, r5⟩ := hkey t' g' false k' h'
    rw [q4] at hb
    rw [r4] at hb'
    have := hM.inj t1 g1 k1 b c E' t2 g2 k2 c' E'' q1 (q2 hk) hb r1 (r2 hk') hb'
    rcases q5 with ⟨rfl, rfl⟩ | ⟨u1, rfl, u3⟩ <;> rcases r5 with ⟨rfl, rfl⟩ | ⟨v1, rfl, v3⟩
    · rfl
    · exact absurd this.symm v3
    · exact absurd this u3
    · exact this
  · intro t g fz' s' pos h
    obtain ⟨t1, g1, k1, q1, q2, q3, q4, _⟩ := hkey t g fz' _ h
    rw [q4]
    cases k1 <;> simp only [mvK] at q3 <;> cases q3
    exact hM.iter t1 g1 fz' s' pos q1
  · intro t g k b c E' h hk hb
    obtain ⟨t1, g1, k1, q1, q2, q3, q4, _⟩ := hkey t g false k h
    rw [q4] at hb
    exact hM.own2 t1 g1 k1 b c E' q1 (q2 hk) hb
  · rw [hsl']
    have := hsl t
    generalize slotsF s.slots t = x at this
    cases x with
    | c x => exact mvC_rc hTG heG hne hgen this
    | agg l => obtain ⟨vs, h1, h2⟩ := this; exact ⟨vs, h1, mvC_rcs hTG heG hne hgen h2⟩
    | tup l => exact trivial
theorem mv1_fits (hJ : ∀ e w, ok0.J e w) {s : St} {kind a j T : Nat} {ac : Act} {w : World} (h : SimL w0 ok0 s ac w) : SimL w0 ok0 (mv1 s kind a j T) ac w ∧ (mv1 s kind a j T).slots.length = s.slots.length := by
  unfold mv1
  split
  · exact mvS_fits hJ h
  · exact ⟨h, rfl⟩
theorem nils_fits (hJ : ∀ e w, ok0.J e w) {a : Act} {w : World} : ∀ (l : List Nat) {s : St}, SimL w0 ok0 s a w → SimL w0 ok0 (nils l s) a w ∧ (nils l s).slots.length = s.slots.length
  | [], _, h => ⟨h, rfl⟩
  | q :: l, s, h => by
    simp only [nils]
    split
    · exact nils_fits hJ l h
    · obtain ⟨h0, h5⟩ := mv1_fits hJ h
      obtain ⟨h1, h2⟩ := nil1_fits h0
      obtain ⟨h3, h4⟩ := nils_fits hJ l h1
      exact ⟨h3, h4.trans (h2.trans h5)⟩
theorem forget_fits (hJ : ∀ e w, ok0.J e w) {s : St} {keep : List Nat} {a : Act} {w : World} (h : SimL w0 ok0 s a w) : SimL w0 ok0 (forget keep s) a w ∧ (forget keep s).slots.length = s.slots.length := by
  obtain ⟨h1, h2⟩ := forget0_fits hJ (keep := keep) h
  obtain ⟨h3, h4⟩ := nils_fits hJ keep h1
  exact ⟨canon_fits h3, h4.trans h2⟩

end

end Go.Proofs.YtmmlolampgnamaaDoor.Ax
