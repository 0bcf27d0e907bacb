/- Code. -/
import Derived.Test.YtcmmlcpfnbfloaaDoorAx14
import Derived.LoopN
namespace Go.Proofs.YtcmmlcpfnbfloaaDoor.Ax
open Go.RowKit
set_option linter.unusedVariables false

def Ex.to : Ex → Exit
  | .normal => .normal
  | .exit id => .exit id
  | .ret => .ret

section
variable {P : Program} {w0 : World} {ok0 : Ctx0} {cx : Cx} {N : Nat} {K : Code → List Nat}

theorem getL_map (f : Nat → Blk → Blk) : ∀ (l : List (Nat × Blk)) (t : Nat), getL (l.map fun p => (p.1, f p.1 p.2)) t = (getL l t).map (f t)
  | [], _ => rfl
  | (u, b) :: l, t => by
    simp only [List.map_cons, getL]
    by_cases h : u = t
    · subst h; simp
    · simp only [h, if_false]; exact getL_map f l t
theorem keepS_length (keep : List Nat) (cur : Nat → Option Nat) : ∀ (l : List AV) (i : Nat), (keepS keep cur l i).length = l.length
  | [], _ => rfl
  | v :: l, i => by simp only [keepS, List.length_cons]; rw [keepS_length keep cur l (i + 1)]
theorem keepS_get (keep : List Nat) (cur : Nat → Option Nat) : ∀ (l : List AV) (i t : Nat), slotsF (keepS keep cur l i) t = .c .undef ∨ slotsF (keepS keep cur l i) t = renV cur (slotsF l t)
  | [], _, _ => .inl rfl
  | v :: l, i, 0 => by
    simp only [slotsF, keepS, List.getD_cons_zero]
    split
    · exact .inr rfl
    · exact .inl rfl
  | v :: l, i, t + 1 => by
    have := keepS_get keep cur l (i + 1) t
    simpa only [slotsF, keepS, List.getD_cons_succ] using this

def En.renamed (e : En) (cur : Nat → Option Nat) (lk' : Nat → Option Blk) : En where
  β := fun t g => if g = 1 then (match cur t with
    | some g0 => e.β t g0
    | none => none) else none
  G := genOf lk'
  ok := e.ok

theorem renC_rc {e e' : En} {w : World} {cur : Nat → Option Nat} (hok : e'.ok = e.ok) (hc : ∀ t g, cur t = some g → e'.β t 1 = e.β t g ∧ 1 ≤ e'.G t) {x : Cl} {v : Value} (h : RC e w x v) : RC e' w (renC cur x) v := by
  cases x with
  | d x => simp only [renC, RC, hok] at h ⊢; exact h
  | undef => exact trivial
  | nil => exact h
  | clip rows => simp only [renC, RC, hok] at h ⊢; exact h
  | own t g n =>
    simp only [renC]
    split
    · rename_i hg
      obtain ⟨h1, h2⟩ := hc t g hg
      simp only [RC] at h ⊢
      exact ⟨h2, by rw [h1]; exact h.2⟩
    · exact trivial
  | bptr t g j =>
    simp only [renC]
    split
    · rename_i hg
      obtain ⟨h1, h2⟩ := hc t g hg
      simp only [RC] at h ⊢
      exact ⟨h2, by rw [h1]; exact h.2⟩
    · exact trivial
  | aptr t g i j =>
    simp only [renC]
    split
    · rename_i hg
      obtain ⟨h1, h2⟩ := hc t g hg
      simp only [RC] at h ⊢
      exact ⟨h2, by rw [h1]; exact h.2⟩
    · exact trivial
theorem renC_rcs {e e' : En} {w : World} {cur : Nat → Option Nat} (hok : e'.ok = e.ok) (hc : ∀ t g, cur t = some g → e'.β t 1 = e.β t g ∧ 1 ≤ e'.G t) : ∀ {l : List Cl} {vs : List Value}, RCs e w l vs → RCs e' w (l.map (renC cur)) vs
  | [], [], _ => trivial
  | _ :: _, _ :: _, h => ⟨renC_rc hok hc h.1, renC_rcs hok hc h.2⟩
  | [], _ :: _, h => h.elim
  | _ :: _, [], h => h.elim
theorem renV_rv {e e' : En} {w : World} {cur : Nat → Option Nat} (hok : e'.ok = e.ok) (hc : ∀ t g, cur t = some g → e'.β t 1 = e.β t g ∧ 1 ≤ e'.G t) {x : AV} {v : Value} (h : RV e w x v) : RV e' w (renV cur x) v := by
  cases x with
  | c x => exact renC_rc hok hc h
  | agg l =>
    obtain ⟨vs, h1, h2⟩ := h
    exact ⟨vs, h1, renC_rcs hok hc h2⟩
  | tup l => exact trivial

theorem forget_fits (hJ : ∀ e w, ok0.J e w) {s : St} {keep : List Nat} {a : Act} {w : World} (h : SimL w0 ok0 s a w) : SimL w0 ok0 (forget keep s) a w ∧ (forget keep s).slots.length = s.slots.length := by
  have hl : (forget keep s).slots.length = s.slots.length := keepS_length _ _ _ _
  refine ⟨?_, hl⟩
  obtain ⟨e, hM, hs, hsl, hd⟩ := h
  unfold SimL
  rw [hl]
  have hlk : ∀ t, getL (forget keep s).blk t = (getL s.blk t).map (renB (curOf (closeT s.blk 2 (heldBy keep s.slots 0)) (getL s.blk)) t) := fun t => getL_map _ _ _
  have hsl' : ∀ t, slotsF (forget keep s).slots t = .c .undef ∨ slotsF (forget keep s).slots t = renV (curOf (closeT s.blk 2 (heldBy keep s.slots 0)) (getL s.blk)) (slotsF s.slots t) := fun t => keepS_get _ _ _ _ _
  generalize hcur : curOf (closeT s.blk 2 (heldBy keep s.slots 0)) (getL s.blk) = cur at hlk hsl'
  generalize getL (forget keep s).blk = lk' at hlk
  generalize slotsF (forget keep s).slots = sl' at hsl'
  have hc0 : ∀ t g, cur t = some g → ∃ fz k, getL s.blk t = some ⟨g, fz, k⟩ ∧ live k := by
    intro t g h
    rw [← hcur] at h
    unfold curOf at h
    split at h
    · rename_i b hb
      split at h
      · rename_i hcond
        cases h
        refine ⟨b.fz, b.k, hb, ?_⟩
        intro hk
        rw [hk] at hcond
        simp [isDead] at hcond
      · cases h
    · cases h
  have hkey : ∀ t g fz k, lk' t = some ⟨g, fz, k⟩ → live k → ∃ g0 k0, cur t = some g0 ∧ g = 1 ∧ getL s.blk t = some ⟨g0, fz, k0⟩ ∧ live k0 ∧ k = renK cur k0 := by
    intro t g fz k h hk
    rw [hlk] at h
    cases hb : getL s.blk t with
    | none => rw [hb] at h; cases h
    | some b =>
      rw [hb] at h
      simp only [Option.map_some, Option.some.injEq] at h
      unfold renB at h
      split at h
      · rename_i g0 hg0
        obtain ⟨fz', k', h1, h2⟩ := hc0 t g0 hg0
        rw [hb] at h1
        cases h1
        simp only [Blk.mk.injEq] at h
        obtain ⟨rfl, rfl, rfl⟩ := h
        exact ⟨g0, k', hg0, rfl, rfl, h2, rfl⟩
      · simp only [Blk.mk.injEq] at h
        exact absurd h.2.2.symm hk
  have hG : ∀ t g, cur t = some g → genOf lk' t = 1 := by
    intro t g h
    obtain ⟨fz, k, h1, h2⟩ := hc0 t g h
    unfold genOf
    rw [hlk, h1]
    simp only [Option.map_some, renB, h]
  have hc : ∀ t g, cur t = some g → (e.renamed cur lk').β t 1 = e.β t g ∧ 1 ≤ (e.renamed cur lk').G t := fun t g h => by
    refine ⟨by simp [En.renamed, h], ?_⟩
    show 1 ≤ genOf lk' t
    rw [hG t g h]; exact Nat.le_refl _
  refine ⟨e.renamed cur lk', ⟨fun _ => rfl, ?_, ?_, ?_, ?_, ?_, hM.okl, hM.okr, hM.bel, ?_, hM.gl, hJ _ _⟩, hs, fun t => ?_, hd⟩
  · intro t g fz E rows h
    obtain ⟨g0, k0, h1, rfl, h3, h4, h5⟩ := hkey t g fz _ h (by simp [live])
    rw [(hc t g0 h1).1]
    cases k0 <;> simp only [renK] at h5 <;> cases h5
    exact hM.arr t g0 fz E rows h3
  · intro t g fz cells h
    obtain ⟨g0, k0, h1, rfl, h3, h4, h5⟩ := hkey t g fz _ h (by simp [live])
    rw [(hc t g0 h1).1]
    cases k0 <;> simp only [renK] at h5 <;> cases h5
    obtain ⟨b, c, E, cs, ty, q1, q2, q3⟩ := hM.box t g0 fz _ h3
    exact ⟨b, c, E, cs, ty, q1, q2, renC_rcs (e := e) (e' := e.renamed cur lk') rfl hc q3⟩
  · intro t g k b c E h hk hb
    obtain ⟨g0, k0, h1, rfl, h3, h4, h5⟩ := hkey t g true k h hk
    rw [(hc t g0 h1).1] at hb
    exact hM.frz t g0 k0 b c E h3 h4 hb
  · intro t g k b c E h hk hb
    obtain ⟨g0, k0, h1, rfl, h3, h4, h5⟩ := hkey t g false k h hk
    rw [(hc t g0 h1).1] at hb
    exact hM.own t g0 k0 b c E h3 h4 hb
  · intro t g k b c E t' g' k' c' E' h hk hb h' hk' hb'
    obtain ⟨g0, k0, h1, rfl, h3, h4, h5⟩ := hkey t g false k h hk
    obtain ⟨g0', k0', h1', rfl, h3', h4', h5'⟩ := hkey t' g' false k' h' hk'
    rw [(hc t g0 h1).1] at hb
    rw [(hc t' g0' h1').1] at hb'
    exact hM.inj t g0 k0 b c E t' g0' k0' c' E' h3 h4 hb h3' h4' hb'
  · intro t g fz s pos h
    obtain ⟨g0, k0, h1, rfl, h3, h4, h5⟩ := hkey t g fz _ h (by simp [live])
    rw [(hc t g0 h1).1]
    cases k0 <;> simp only [renK] at h5 <;> cases h5
    exact hM.iter t g0 fz s pos h3
  · rcases hsl' t with h | h
    · rw [h]; exact trivial
    · rw [h]; exact renV_rv (e := e) (e' := e.renamed cur lk') rfl hc (hsl t)

end

end Go.Proofs.YtcmmlcpfnbfloaaDoor.Ax
