/- Code. -/
import Derived.Test.YtpiinlaaiaeacaaAx14
import Derived.LoopN
namespace Go.Proofs.Ytpiinlaaiaeacaa.Ax
open Go.RowKit
set_option linter.unusedVariables false

def Ex.to : Ex → Exit
  | .normal => .normal
  | .exit id => .exit id
  | .ret => .ret

section
variable {P : Program} {w0 : World} {ok0 : Nat → Prop} {cx : Cx} {N : Nat} {K : Code → List Nat}

theorem getL_map (f : Nat → Blk → Blk) : ∀ (l : List (Nat × Blk)) (t : Nat), getL (l.map fun p => (p.1, f p.1 p.2)) t = (getL l t).map (f t)
  | [], _ => rfl
  | (u, b) :: l, t => by
    simp only [List.map_cons, getL]
    by_cases h : u = t
    · subst h; simp
    · simp only [h, if_false]; exact getL_map f l t
theorem keepS_length (keep : List Nat) (cur : Nat → Option Nat) : ∀ (l : List AV) (i : Nat), (keepS keep cur l i).length = l.length
  | [], _ => rfl
  | v :: l, i => by simp only [keepS, List.length_cons]; rw [keepS_length keep cur l (i + 1)]
theorem keepS_get (keep : List Nat) (cur : Nat → Option Nat) : ∀ (l : List AV) (i t : Nat), slotsF (keepS keep cur l i) t = .c .undef ∨ slotsF (keepS keep cur l i) t = renV cur (slotsF l t)
  | [], _, _ => .inl rfl
  | v :: l, i, 0 => by
    simp only [slotsF, keepS, List.getD_cons_zero]
    split
    · exact .inr rfl
    · exact .inl rfl
  | v :: l, i, t + 1 => by
    have := keepS_get keep cur l (i + 1) t
    simpa only [slotsF, keepS, List.getD_cons_succ] using this

def En.renamed (e : En) (cur : Nat → Option Nat) (lk' : Nat → Option Blk) : En where
  β := fun t g => if g = 1 then (match cur t with
    | some g0 => e.β t g0
    | none => none) else none
  G := genOf lk'
  ok := e.ok

theorem renC_rc {e e' : En} {w : World} {cur : Nat → Option Nat} (hok : e'.ok = e.ok) (hc : ∀ t g, cur t = some g → e'.β t 1 = e.β t g ∧ 1 ≤ e'.G t) {x : Cl} {v : Value} (h : RC e w x v) : RC e' w (renC cur x) v := by
  cases x with
  | d x => simp only [renC, RC, hok] at h ⊢; exact h
  | undef => exact trivial
  | nil => exact h
  | clip rows => simp only [renC, RC, hok] at h ⊢; exact h
  | own t g n =>
    simp only [renC]
    split
    · rename_i hg
      obtain ⟨h1, h2⟩ := hc t g hg
      simp only [RC] at h ⊢
      exact ⟨h2, by rw [h1]; exact h.2⟩
    · exact trivial
  | bptr t g j =>
    simp only [renC]
    split
    · rename_i hg
      obtain ⟨h1, h2⟩ := hc t g hg
      simp only [RC] at h ⊢
      exact ⟨h2, by rw [h1]; exact h.2⟩
    · exact trivial
  | aptr t g i j =>
    simp only [renC]
    split
    · rename_i hg
      obtain ⟨h1, h2⟩ := hc t g hg
      simp only [RC] at h ⊢
      exact ⟨h2, by rw [h1]; exact h.2⟩
    · exact trivial
theorem renC_rcs {e e' : En} {w : World} {cur : Nat → Option Nat} (hok : e'.ok = e.ok) (hc : ∀ t g, cur t = some g → e'.β t 1 = e.β t g ∧ 1 ≤ e'.G t) : ∀ {l : List Cl} {vs : List Value}, RCs e w l vs → RCs e' w (l.map (renC cur)) vs
  | [], [], _ => trivial
  | _ :: _, _ :: _, h => ⟨renC_rc hok hc h.1, renC_rcs hok hc h.2⟩
  | [], _ :: _, h => h.elim
  | _ :: _, [], h => h.elim
theorem renV_rv {e e' : En} {w : World} {cur : Nat → Option Nat} (hok : e'.ok = e.ok) (hc : ∀ t g, cur t = some g → e'.β t 1 = e.β t g ∧ 1 ≤ e'.G t) {x : AV} {v : Value} (h : RV e w x v) : RV e' w (renV cur x) v := by
  cases x with
  | c x => exact renC_rc hok hc h
  | agg l =>
    obtain ⟨vs, h1, h2⟩ := h
    exact ⟨vs, h1, renC_rcs hok hc h2⟩
  | tup l => exact trivial

theorem forget_fits {s : St} {keep : List Nat} {a : Act} {w : World} (h : SimL w0 ok0 s a w) : SimL w0 ok0 (forget keep s) a w ∧ (forget keep s).slots.length = s.slots.length := by
  have hl : (forget keep s).slots.length = s.slots.length := keepS_length _ _ _ _
  refine ⟨?_, hl⟩
  obtain ⟨e, hM, hs, hsl, hd⟩ := h
  unfold SimL
  rw [hl]
  have hlk : ∀ t, getL (forget keep s).blk t = (getL s.blk t).map (renB (curOf (closeT s.blk 2 (heldBy keep s.slots 0)) (getL s.blk)) t) := fun t => getL_map _ _ _
  have hsl' : ∀ t, slotsF (forget keep s).slots t = .c .undef ∨ slotsF (forget keep s).slots t = renV (curOf (closeT s.blk 2 (heldBy keep s.slots 0)) (getL s.blk)) (slotsF s.slots t) := fun t => keepS_get _ _ _ _ _
  generalize hcur : curOf (closeT s.blk 2 (heldBy keep s.slots 0)) (getL s.blk) = cur at hlk hsl'
  generalize getL (forget keep s).blk = lk' at hlk
  generalize slotsF (forget keep s).slots = sl' at hsl'
  have hc0 : ∀ t g, cur t = some g → ∃ fz k, getL s.blk t = some ⟨g, fz, k⟩ ∧ live k := by
    intro t g h
    rw [← hcur] at h
    unfold curOf at h
    split at h
    · rename_i b hb
      split at h
      · rename_i hcond
        cases h
        refine ⟨b.fz, b.k, hb, ?_⟩
        intro hk
        rw [hk] at hcond
        simp [isDead] at hcond
      · cases h
    · cases h
  have hkey : ∀ t g fz k, lk' t = some ⟨g, fz, k⟩ → live k → ∃ g0 k0, cur t = some g0 ∧ g = 1 ∧ getL s.blk t = some ⟨g0, fz, k0⟩ ∧ live k0 ∧ k = renK cur k0 := by
    intro t g fz k h hk
    rw [hlk] at h
    cases hb : getL s.blk t with
    | none => rw [hb] at h; cases h
    | some b =>
      rw [hb] at h
      simp only [Option.map_some, Option.some.injEq] at h
      unfold renB at h
      split at h
      · rename_i g0 hg0
        obtain ⟨fz', k', h1, h2⟩ := hc0 t g0 hg0
        rw [hb] at h1
        cases h1
        simp only [Blk.mk.injEq] at h
        obtain ⟨rfl, rfl, rfl⟩ := h
        exact ⟨g0, k', hg0, rfl, rfl, h2, rfl⟩
      · simp only [Blk.mk.injEq] at h
        exact absurd h.2.2.symm hk
  have hG : ∀ t g, cur t = some g → genOf lk' t = 1 := by
    intro t g h
    obtain ⟨fz, k, h1, h2⟩ := hc0 t g h
    unfold genOf
    rw [hlk, h1]
    simp only [Option.map_some, renB, h]
  have hc : ∀ t g, cur t = some g → (e.renamed cur lk').β t 1 = e.β t g ∧ 1 ≤ (e.renamed cur lk').G t := fun t g h => by
    refine ⟨by simp [En.renamed, h], ?_⟩
    show 1 ≤ genOf lk' t
    rw [hG t g h]; exact Nat.le_refl _
  refine ⟨e.renamed cur lk', ⟨fun _ => rfl, ?_, ?_, ?_, ?_, ?_, hM.okl, hM.okr, hM.bel, ?_, hM.gl⟩, hs, fun t => ?_, hd⟩
  · intro t g fz E rows h
    obtain ⟨g0, k0, h1, rfl, h3, h4, h5⟩ := hkey t g fz _ h (by simp [live])
    rw [(hc t g0 h1).1]
    cases k0 <;> simp only [renK] at h5 <;> cases h5
    exact hM.arr t g0 fz E rows h3
  · intro t g fz cells h
    obtain ⟨g0, k0, h1, rfl, h3, h4, h5⟩ := hkey t g fz _ h (by simp [live])
    rw [(hc t g0 h1).1]
    cases k0 <;> simp only [renK] at h5 <;> cases h5
    obtain ⟨b, c, E, cs, ty, q1, q2, q3⟩ := hM.box t g0 fz _ h3
    exact ⟨b, c, E, cs, ty, q1, q2, renC_rcs (e := e) (e' := e.renamed cur lk') rfl hc q3⟩
  · intro t g k b c E h hk hb
    obtain ⟨g0, k0, h1, rfl, h3, h4, h5⟩ := hkey t g true k h hk
    rw [(hc t g0 h1).1] at hb
    exact hM.frz t g0 k0 b c E h3 h4 hb
  · intro t g k b c E h hk hb
    obtain ⟨g0, k0, h1, rfl, h3, h4, h5⟩ := hkey t g false k h hk
    rw [(hc t g0 h1).1] at hb
    exact hM.own t g0 k0 b c E h3 h4 hb
  · intro t g k b c E t' g' k' c' E' h hk hb h' hk' hb'
    obtain ⟨g0, k0, h1, rfl, h3, h4, h5⟩ := hkey t g false k h hk
    obtain ⟨g0', k0', h1', rfl, h3', h4', h5'⟩ := hkey t' g' false k' h' hk'
    rw [(hc t g0 h1).1] at hb
    rw [(hc t' g0' h1').1] at hb'
    exact hM.inj t g0 k0 b c E t' g0' k0' c' E' h3 h4 hb h3' h4' hb'
  · intro t g fz s pos h
    obtain ⟨g0, k0, h1, rfl, h3, h4, h5⟩ := hkey t g fz _ h (by simp [live])
    rw [(hc t g0 h1).1]
    cases k0 <;> simp only [renK] at h5 <;> cases h5
    exact hM.iter t g0 fz s pos h3
  · rcases hsl' t with h | h
    · rw [h]; exact trivial
    · rw [h]; exact renV_rv (e := e) (e' := e.renamed cur lk') rfl hc (hsl t)

/-- What code that is compiled comes to, the code runs to. -/
theorem code_fits (hcall : ∀ g as r, cx.call g as = some r → ACalls P g as r ∧ Enters P g) (n : Nat) : ∀ (c : Code) (ac : ACode), compC P N K c = some ac →
    ∀ (s : St) (e : Ex) (s' : St) (a : Act) (w : World) (Q : Exit → Act → World → Prop), s.slots.length = N → acode cx n ac s = some (e, s') → SimL w0 ok0 s a w →
      (s'.slots.length = N → ∀ a' w', SimL w0 ok0 s' a' w' → Q e.to a' w') → c.wp P Q a w := by
  intro c
  induction c with
  | skip =>
    intro ac hc s e s' a w Q hN hr hS hQ
    simp only [compC, Option.some.injEq] at hc; subst hc
    simp only [acode, Option.some.injEq, Prod.mk.injEq] at hr
    obtain ⟨rfl, rfl⟩ := hr
    exact wp_skip (hQ hN a w hS)
  | region id ops draw =>
    intro ac hc s e s' a w Q hN hr hS hQ
    cases draw with
    | false =>
      simp only [compC, Option.map_eq_some_iff] at hc
      obtain ⟨is, his, rfl⟩ := hc
      simp only [acode] at hr
      split at hr
      · rename_i s2 fs hrun
        simp only [Option.some.injEq, Prod.mk.injEq] at hr
        obtain ⟨rfl, rfl⟩ := hr
        have hl := (runI_steps is s s2 fs hrun).2.1
        exact wp_region_list (runI_fits hcall ops.toList is s s2 fs a w (by rw [hN]; exact his) hrun hS (hQ (hl.trans hN)))
      · cases hr
    | true =>
      simp only [compC] at hc
      split at hc
      · rename_i hcond
        simp only [Option.map_eq_some_iff] at hc
        obtain ⟨is, his, rfl⟩ := hc
        simp only [acode] at hr
        split at hr
        · rename_i s2 fs hrun
          split at hr
          · rename_i hok
            simp only [Option.some.injEq, Prod.mk.injEq] at hr
            obtain ⟨rfl, rfl⟩ := hr
            have hl := (runI_steps is s s2 fs hrun).2.1
            refine draw_fits hcall (by rw [hN]; exact his) hrun hok hcond.1 ?_ hS (hQ (hl.trans hN))
            intro i o ho x hx
            have := hcond.2
            simp only [List.all_eq_true] at this
            have h2 := this (o, i) (List.mem_zipIdx_iff_getElem?.2 (by simpa using ho))
            simp only [Array.all_eq_true_iff_forall_mem, decide_eq_true_eq] at h2
            exact h2 x hx
          · cases hr
        · cases hr
      · cases hc
  | seq x y ihx ihy =>
    intro ac hc s e s' a w Q hN hr hS hQ
    simp only [compC] at hc
    split at hc
    · rename_i ax ay hx hy
      simp only [Option.some.injEq] at hc; subst hc
      simp only [acode] at hr
      split at hr
      · rename_i s1 h1
        refine wp_seq (ihx ax hx s .normal s1 a w _ hN h1 hS fun hN1 a' w' hS' => ?_)
        exact ihy ay hy s1 e s' a' w' Q hN1 hr hS' hQ
      · rename_i e1 s1 hne h1
        simp only [Option.some.injEq, Prod.mk.injEq] at hr
        obtain ⟨rfl, rfl⟩ := hr
        refine wp_seq (ihx ax hx s e1 s1 a w _ hN h1 hS fun hN1 a' w' hS' => ?_)
        cases e1 with
        | normal => exact absurd rfl hne
        | exit id => exact hQ hN1 a' w' hS'
        | ret => exact hQ hN1 a' w' hS'
      · cases hr
    · cases hc
  | cond q x y ihx ihy =>
    intro ac hc s e s' a w Q hN hr hS hQ
    simp only [compC] at hc
    split at hc
    · rename_i ax ay hx hy
      simp only [Option.some.injEq] at hc; subst hc
      simp only [acode] at hr
      split at hr
      · rename_i b hb
        have hv : a.eval q = .bool b := by
          obtain ⟨en, hM, _, hsl, _⟩ := hS
          have := evalF_rv (lk := getL s.blk) hsl q
          rw [hb] at this
          simpa only [RV, RC, RD] using this
        refine wp_cond hv ?_
        cases b with
        | true => exact ihx ax hx s e s' a w Q hN (by simpa using hr) hS hQ
        | false => exact ihy ay hy s e s' a w Q hN (by simpa using hr) hS hQ
      · cases hr
    · cases hc
  | block id x ihx =>
    intro ac hc s e s' a w Q hN hr hS hQ
    simp only [compC, Option.map_eq_some_iff] at hc
    obtain ⟨ax, hx, rfl⟩ := hc
    simp only [acode] at hr
    split at hr
    · rename_i k s1 h1
      simp only [Option.some.injEq, Prod.mk.injEq] at hr
      obtain ⟨rfl, rfl⟩ := hr
      refine wp_block (ihx ax hx s (.exit k) s1 a w _ hN h1 hS fun hN1 a' w' hS' => ?_)
      have := hQ hN1 a' w' hS'
      show if k = id then Q .normal a' w' else Q (.exit k) a' w'
      split
      · rename_i hk; rw [if_pos hk] at this; exact this
      · rename_i hk; rw [if_neg hk] at this; exact this
    · rename_i e1 s1 hne h1
      simp only [Option.some.injEq, Prod.mk.injEq] at hr
      obtain ⟨rfl, rfl⟩ := hr
      refine wp_block (ihx ax hx s e1 s1 a w _ hN h1 hS fun hN1 a' w' hS' => ?_)
      cases e1 with
      | normal => exact hQ hN1 a' w' hS'
      | exit k => exact absurd rfl (hne k)
      | ret => exact hQ hN1 a' w' hS'
    · cases hr
  | loop x ihx =>
    intro ac hc s e s' a w Q hN hr hS hQ
    simp only [compC, Option.map_eq_some_iff] at hc
    obtain ⟨ax, hx, rfl⟩ := hc
    simp only [acode] at hr
    have key : ∀ (k : Nat) (s : St) (a : Act) (w : World), s.slots.length = N → aloop (acode cx n (.forget (K x) ax)) k s = some (e, s') → SimL w0 ok0 s a w → Code.rounds P x Q k a w := by
      intro k
      induction k with
      | zero => intro s a w _ h; simp [aloop] at h
      | succ k ih =>
        intro s a w hN h hS
        simp only [aloop, acode] at h
        rw [rounds_succ]
        obtain ⟨hS, hl⟩ := forget_fits (keep := K x) hS
        rw [← hl] at hN
        split at h
        · rename_i s1 h1
          exact ihx ax hx _ .normal s1 a w _ hN h1 hS fun hN1 a' w' hS' => ih s1 a' w' hN1 h hS'
        · rename_i e1 s1 hne h1
          simp only [Option.some.injEq, Prod.mk.injEq] at h
          obtain ⟨rfl, rfl⟩ := h
          refine ihx ax hx _ e1 s1 a w _ hN h1 hS fun hN1 a' w' hS' => ?_
          cases e1 with
          | normal => exact absurd rfl hne
          | exit k => exact hQ hN1 a' w' hS'
          | ret => exact hQ hN1 a' w' hS'
        · cases h
    exact wp_loop_rounds n (key n s a w hN hr hS)
  | exit id =>
    intro ac hc s e s' a w Q hN hr hS hQ
    simp only [compC, Option.some.injEq] at hc; subst hc
    simp only [acode, Option.some.injEq, Prod.mk.injEq] at hr
    obtain ⟨rfl, rfl⟩ := hr
    exact wp_exit (hQ hN a w hS)
  | ret =>
    intro ac hc s e s' a w Q hN hr hS hQ
    simp only [compC, Option.some.injEq] at hc; subst hc
    simp only [acode, Option.some.injEq, Prod.mk.injEq] at hr
    obtain ⟨rfl, rfl⟩ := hr
    exact wp_ret (hQ hN a w hS)
  | _ => intro ac hc; simp [compC] at hc
end

end Go.Proofs.Ytpiinlaaiaeacaa.Ax
