/- Blocks of the machine's own: they are laid, they turn; a range over a closure that hands a slice's rows on, the last one first. -/
import Derived.Test.YtmmlolampgnamaaDoorAx15
import Derived.RangeFuncIn
namespace Go.Proofs.YtmmlolampgnamaaDoor.Ax
open Go.RowKit
set_option linter.unusedVariables false
set_option linter.unusedSimpArgs false

section
variable {P : Program} {w0 w : World} {C C' : Ctx0} {e : En} {lk : Nat → Option Blk}

theorem Mem.ctx (hM : Mem w0 C e lk w) (hok : C'.ok = C.ok) (hJ : C'.J e w) : Mem w0 C' e lk w :=
  ⟨hM.gen, hM.arr, hM.box, hM.frz, hM.own, hM.inj, hM.okl, fun b hb => by rw [hok]; exact hM.okr b hb, hM.bel, hM.iter, hM.gl, hJ, hM.ob, hM.own2⟩

/-- A block of the machine's own is laid. -/
theorem Mem.allocOb (hM : Mem w0 C e lk w) (o : Obj) : Ext e w { e with ob := fun b => e.ob b ∨ b = w.heap.size } (w.alloc o) ∧ Mem w0 C { e with ob := fun b => e.ob b ∨ b = w.heap.size } lk (w.alloc o) := by
  have hold : ∀ b, b < w.heap.size → (w.alloc o).heap[b]? = w.heap[b]? := fun b hb => Below.heap_alloc _ _ _ hb
  have hx : Ext e w { e with ob := fun b => e.ob b ∨ b = w.heap.size } (w.alloc o) := ⟨fun _ _ _ => rfl, fun _ => Nat.le_refl _, fun _ h => h, fun b hb => hold b (hM.okl b hb), fun b hb => ⟨.inl hb, hold b (hM.ob b hb).1⟩⟩
  refine ⟨hx, hM.gen, fun t g fz E rows ht => (hM.arr t g fz E rows ht).ext hx.ok hx.heap (fun b c E' hbb => hold b (hM.blk_lt ht (by simp [live]) hbb)),
    fun t g fz cells ht => (hM.box t g fz cells ht).ext hx (fun b c E' hbb => hold b (hM.blk_lt ht (by simp [live]) hbb)), hM.frz, fun t g k b c E h1 h2 h3 => ?_, hM.inj, fun b hk => ?_, hM.okr, hM.bel.alloc hM.bel.size _,
    fun t g fz s pos ht => (hM.iter t g fz s pos ht).ext (fun b c E' hbb => hold b (hM.blk_lt ht (by simp [live]) hbb)), hM.gl, C.mono hx.toO hM.j, fun b hb => ?_, fun t g k b c E h1 h2 h3 => ?_⟩
  · obtain ⟨q1, q2, q3⟩ := hM.own t g k b c E h1 h2 h3
    exact ⟨q1, q2, by simp; omega⟩
  · have := hM.okl b hk; simp; omega
  · rcases hb with hb | rfl
    · obtain ⟨q1, q2, q3⟩ := hM.ob b hb
      exact ⟨by simp; omega, q2, q3⟩
    · exact ⟨by simp, fun h => absurd (hM.okl _ h) (Nat.lt_irrefl _), hM.bel.size⟩
  · have hlt := hM.blk_lt h1 h2 h3
    rintro (h | rfl)
    · exact hM.own2 t g k b c E h1 h2 h3 h
    · omega

/-- A block of the machine's own turns. -/
theorem turnOb_ext (hM : Mem w0 C e lk w) {L : Nat} (hL : e.ob L) (p : Nat → Prop) (hp : ¬ p L) (o : Obj) : ExtO p e w e (w.putObj L o) := by
  obtain ⟨q1, q2, q3⟩ := hM.ob L hL
  exact ⟨fun _ _ _ => rfl, fun _ => Nat.le_refl _, fun _ h => h, fun b hb => World.putObj_heap_other (fun h => q2 (h ▸ hb)), fun b hb h => ⟨h, World.putObj_heap_other (fun h => hp (h ▸ hb))⟩⟩
theorem Mem.turnOb (hM : Mem w0 C e lk w) {L : Nat} (hL : e.ob L) (hp : ¬ C.p L) (o : Obj) : Mem w0 C e lk (w.putObj L o) := by
  obtain ⟨q1, q2, q3⟩ := hM.ob L hL
  have hx := turnOb_ext hM hL C.p hp o
  have hne : ∀ t g fz k b c E, lk t = some ⟨g, fz, k⟩ → live k → e.β t g = some (b, c, E) → b ≠ L := by
    intro t g fz k b c E h1 h2 h3 hb
    subst hb
    cases fz with
    | true => exact q2 (hM.frz t g k b c E h1 h2 h3)
    | false => exact hM.own2 t g k b c E h1 h2 h3 hL
  refine ⟨hM.gen, fun t g fz E rows ht => (hM.arr t g fz E rows ht).ext hx.ok hx.heap (fun b c E' hbb => World.putObj_heap_other (hne t g fz _ b c E' ht (by simp [live]) hbb)),
    fun t g fz cells ht => ?_, hM.frz, fun t g k b c E h1 h2 h3 => ?_, hM.inj, fun b hk => ?_, hM.okr, ?_,
    fun t g fz s pos ht => (hM.iter t g fz s pos ht).ext (fun b c E' hbb => World.putObj_heap_other (hne t g fz _ b c E' ht (by simp [live]) hbb)), hM.gl, C.mono hx hM.j, fun b hb => ?_, hM.own2⟩
  · obtain ⟨b, c, E, cs, ty, h1, h2, h3⟩ := hM.box t g fz cells ht
    exact ⟨b, c, E, cs, ty, h1, (World.putObj_heap_other (hne t g fz _ b c E ht (by simp [live]) h1)).trans h2, RCs.extO hx h3⟩
  · rw [World.putObj_size]; exact hM.own t g k b c E h1 h2 h3
  · rw [World.putObj_size]; exact hM.okl b hk
  · exact hM.bel.trans ⟨rfl, rfl, rfl, by rw [World.putObj_size]; exact Nat.le_refl _, fun x hx' => World.putObj_heap_other (by omega)⟩
  · rw [World.putObj_size]; exact hM.ob b hb

theorem DefOK.turn {p : Nat → Prop} {l : List Deferred} {L : Nat} {o : Obj} (h : DefOK p e w l) (hL : ∀ d ∈ l, d ≠ { target := .collected L, args := #[] }) : DefOK p e (w.putObj L o) l :=
  ⟨h.1, fun d hd => let ⟨D, h1, h2, h3, h4⟩ := h.2 d hd; ⟨D, h1, h2, h3, (World.putObj_heap_other (fun hD => hL d hd (by rw [h1, hD]))).trans h4⟩⟩

/-- A frame on its way out: its marks are come to. -/
theorem leaves_fits {fn : Func} {tmps : Array Value} {R : Ending → World → Prop} {n : Nat} : ∀ (ds : List Deferred) (e : En) (w : World), Mem w0 C e lk w → DefOK C.p e w ds →
    (∀ w', Mem w0 C e lk w' → (∀ x v, RV e w x v → RV e w' x v) → ∃ v, (results fn tmps).run P w' = .ok v w' ∧ R (.returned v) w') → LeavesInM (FW none) n P fn tmps R ds .returning w
  | [], e, w, hM, hd, h => by
    obtain ⟨v, h1, h2⟩ := h w hM (fun _ _ h => h)
    exact ⟨v, h1, h2⟩
  | d :: ds, e, w, hM, hd, h => by
    obtain ⟨hnd, hall⟩ := hd
    obtain ⟨D, rfl, h2, h3, h4⟩ := hall d (by simp)
    rw [List.nodup_cons] at hnd
    refine ⟨by simp, .inl ⟨D, _, rfl, run_takeDeferred h4, ?_⟩⟩
    refine leaves_fits ds e _ (hM.turnOb h2 h3 _) (DefOK.turn ⟨hnd.2, fun d hd => hall d (by simp [hd])⟩ fun d hd he => hnd.1 (he ▸ hd)) fun w' hM' hv => ?_
    exact h w' hM' fun x v hxv => hv x v (RV.extO (turnOb_ext hM h2 C.p h3 _) hxv)
end

section
variable {P : Program} {w0 w : World} {C : Ctx0} {cx : Cx} {N n : Nat}

theorem DefOK.keep {p p' : Nat → Prop} {e1 e e' : En} {w1 w w' : World} {l : List Deferred} (h1 : DefOK p e1 w1 l) (h : DefOK p e w l) (hx : ExtO p' e w e' w') (hp : ∀ b, e1.ob b → p' b) : DefOK p e' w' l := ⟨h.1, fun d hd => by
  obtain ⟨D, q1, q2, q3, q4⟩ := h.2 d hd
  obtain ⟨D', r1, r2, _⟩ := h1.2 d hd
  obtain rfl : D = D' := by rw [q1] at r1; simpa using r1
  exact ⟨D, q1, (hx.ob D (hp D r2) q2).1, q3, (hx.ob D (hp D r2) q2).2.trans q4⟩⟩

theorem pickN_rv {e e' : En} {w : World} {n : Option Nat} {r : List D} {y : AV} {v : Value} (h : pickN n (r.map .d) = some y) (hv : RV e w y v) (hok : e'.ok = e.ok) : RV e' w y v := by
  have key : ∀ (l : List D) (vs : List Value), RCs e w (l.map .d) vs → RCs e' w (l.map .d) vs := by
    intro l
    induction l with
    | nil => intro vs h; cases vs with
      | nil => trivial
      | cons _ _ => exact h.elim
    | cons x l ih => intro vs h; cases vs with
      | nil => exact h.elim
      | cons v vs => exact ⟨by have := h.1; simp only [RC] at this ⊢; rw [hok]; exact this, ih vs h.2⟩
  cases n with
  | none =>
    simp only [pickN, List.getElem?_map] at h
    cases hr : r[0]? with
    | none => rw [hr] at h; simp at h
    | some d =>
      rw [hr] at h
      simp only [Option.map_some, Option.some.injEq] at h; subst h
      simp only [RV, RC] at hv ⊢
      rw [hok]; exact hv
  | some m =>
    simp only [pickN] at h
    split at h
    · simp only [Option.some.injEq] at h; subst h
      rw [← List.map_take] at hv ⊢
      obtain ⟨vs, h1, h2⟩ := hv
      exact ⟨vs, h1, key _ _ h2⟩
    · cases h

/-- What was laid since, and nobody holds, is forgotten. -/
def En.reset (e : En) (R : Nat → Prop) [DecidablePred R] (g0 : Nat → Nat) : En where
  β := fun t g => if R t ∧ g0 t < g then none else e.β t g
  G := fun t => if R t then g0 t else e.G t
  ok := e.ok
  ob := e.ob
theorem Mem.reset {lk : Nat → Option Blk} {e : En} (hM : Mem w0 C e lk w) (R : Nat → Prop) [DecidablePred R] (g0 : Nat → Nat) {lk' : Nat → Option Blk} (hlk : ∀ t, lk' t = if R t then some ⟨g0 t, false, .dead⟩ else lk t)
    (hbox : ∀ t g fz cells, ¬ R t → lk t = some ⟨g, fz, .box cells⟩ → ∀ c ∈ cells, ∀ u ∈ tagsC c, ¬ R u) (hJ : C.J (e.reset R g0) w) : Mem w0 C (e.reset R g0) lk' w := by
  have hb : ∀ t g, ¬ R t → (e.reset R g0).β t g = e.β t g := fun t g h => by simp [En.reset, h]
  have hG : ∀ t, ¬ R t → (e.reset R g0).G t = e.G t := fun t h => by simp [En.reset, h]
  have hl : ∀ t g fz k, lk' t = some ⟨g, fz, k⟩ → live k → ¬ R t ∧ lk t = some ⟨g, fz, k⟩ := by
    intro t g fz k h hk
    rw [hlk] at h
    split at h
    · simp only [Option.some.injEq, Blk.mk.injEq] at h
      exact absurd h.2.2.symm hk
    · rename_i hR; exact ⟨hR, h⟩
  have hrc : ∀ (c : Cl) (v : Value), (∀ u ∈ tagsC c, ¬ R u) → RC e w c v → RC (e.reset R g0) w c v := by
    intro c v ht h
    cases c with
    | own t g n => have := ht t (by simp [tagsC]); simp only [RC] at h ⊢; rw [hb t g this, hG t this]; exact h
    | bptr t g n => have := ht t (by simp [tagsC]); simp only [RC] at h ⊢; rw [hb t g this, hG t this]; exact h
    | aptr t g i j => have := ht t (by simp [tagsC]); simp only [RC] at h ⊢; rw [hb t g this, hG t this]; exact h
    | d x => exact h
    | undef => exact h
    | nil => exact h
    | clip r => exact h
  have hrcs : ∀ (cs : List Cl) (vs : List Value), (∀ c ∈ cs, ∀ u ∈ tagsC c, ¬ R u) → RCs e w cs vs → RCs (e.reset R g0) w cs vs := by
    intro cs
    induction cs with
    | nil => intro vs _ h; cases vs with
      | nil => trivial
      | cons _ _ => exact h.elim
    | cons c cs ih => intro vs ht h; cases vs with
      | nil => exact h.elim
      | cons v vs => exact ⟨hrc c v (ht c (by simp)) h.1, ih vs (fun c hc => ht c (by simp [hc])) h.2⟩
  refine ⟨fun t => ?_, fun t g fz E rows h => ?_, fun t g fz cells h => ?_, fun t g k b c E h hk hb' => ?_, fun t g k b c E h hk hb' => ?_, fun t g k b c E t' g' k' c' E' h hk hb' h' hk' hb'' => ?_, hM.okl, hM.okr, hM.bel, fun t g fz s pos h => ?_, hM.gl, hJ, hM.ob, fun t g k b c E h hk hb' => ?_⟩
  · unfold genOf
    rw [hlk]
    by_cases hR : R t
    · simp [En.reset, hR]
    · simp only [hR, if_false]; rw [hG t hR, hM.gen t]; rfl
  · obtain ⟨h1, h2⟩ := hl t g fz _ h (by simp [live]); rw [hb t g h1]; exact hM.arr t g fz E rows h2
  · obtain ⟨h1, h2⟩ := hl t g fz _ h (by simp [live]); rw [hb t g h1]
    obtain ⟨b, c, E, cs, ty, q1, q2, q3⟩ := hM.box t g fz cells h2
    exact ⟨b, c, E, cs, ty, q1, q2, hrcs _ _ (hbox t g fz cells h1 h2) q3⟩
  · obtain ⟨h1, h2⟩ := hl t g true k h hk; rw [hb t g h1] at hb'; exact hM.frz t g k b c E h2 hk hb'
  · obtain ⟨h1, h2⟩ := hl t g false k h hk; rw [hb t g h1] at hb'; exact hM.own t g k b c E h2 hk hb'
  · obtain ⟨h1, h2⟩ := hl t g false k h hk; rw [hb t g h1] at hb'
    obtain ⟨h1', h2'⟩ := hl t' g' false k' h' hk'; rw [hb t' g' h1'] at hb''
    exact hM.inj t g k b c E t' g' k' c' E' h2 hk hb' h2' hk' hb''
  · obtain ⟨h1, h2⟩ := hl t g fz _ h (by simp [live]); rw [hb t g h1]; exact hM.iter t g fz s pos h2
  · obtain ⟨h1, h2⟩ := hl t g false k h hk; rw [hb t g h1] at hb'; exact hM.own2 t g k b c E h2 hk hb'

theorem getL_mem : ∀ {l : List (Nat × Blk)} {t : Nat} {b : Blk}, getL l t = some b → (t, b) ∈ l
  | (u, c) :: l, t, b, h => by
    simp only [getL] at h
    split at h
    · rename_i he; subst he; simp only [Option.some.injEq] at h; subst h; simp
    · exact List.mem_cons_of_mem _ (getL_mem h)

/-- A round's end. -/
theorem reset_fits {p : Nat → Prop} {e2 e : En} {W1 W : World} {blk0 blk : List (Nat × Blk)} (hg2 : ∀ t, e2.G t = genOf (getL blk0) t) (hM : Mem w0 C e (getL blk) W) (hx : ExtO p e2 W1 e W) (hJ : ∀ e', ExtO p e2 W1 e' W → C.J e' W) :
    ∃ e', Mem w0 C e' (getL (resetB blk0 blk)) W ∧ e'.ob = e.ob := by
  classical
  obtain ⟨held, hheld⟩ : ∃ held, held = blk.flatMap fun p => tagsK p.2.k := ⟨_, rfl⟩
  obtain ⟨R, hR⟩ : ∃ R : Nat → Prop, R = fun t => ∃ b b0, getL blk t = some b ∧ getL blk0 t = some b0 ∧ b0.g < b.g ∧ held.contains t = false := ⟨_, rfl⟩
  refine ⟨e.reset R e2.G, hM.reset R e2.G (fun t => ?_) (fun t g fz cells _ ht c hc u hu hRu => ?_) (hJ _ ?_), rfl⟩
  · unfold resetB
    rw [getL_map, ← hheld]
    by_cases h : R t
    · rw [if_pos h]
      rw [hR] at h
      obtain ⟨b, b0, h1, h2, h3, h4⟩ := h
      rw [h1]
      simp only [Option.map_some, resetG, h2]
      rw [if_pos ⟨h3, h4⟩, hg2 t, genOf_at h2]
    · rw [if_neg h]
      cases hb : getL blk t with
      | none => rfl
      | some b =>
        simp only [Option.map_some, resetG]
        cases hb0 : getL blk0 t with
        | none => rfl
        | some b0 =>
          simp only []
          rw [if_neg fun hc => h (by rw [hR]; exact ⟨b, b0, hb, hb0, hc.1, hc.2⟩)]
  · rw [hR] at hRu
    obtain ⟨_, _, _, _, _, hn⟩ := hRu
    have : u ∈ held := by
      rw [hheld, List.mem_flatMap]
      exact ⟨(t, ⟨g, fz, .box cells⟩), getL_mem ht, List.mem_flatMap.2 ⟨c, hc, hu⟩⟩
    rw [List.contains_iff_mem.2 this] at hn
    cases hn
  · refine ⟨fun t g hg => ?_, fun t => ?_, hx.ok, hx.heap, hx.ob⟩
    · show (if R t ∧ e2.G t < g then none else e.β t g) = _
      rw [if_neg (by omega)]
      exact hx.β t g hg
    · show e2.G t ≤ if R t then e2.G t else e.G t
      split
      · exact Nat.le_refl _
      · exact hx.G t

/-- A range over a closure that hands a slice's rows on, the last one first. -/
theorem back_fits (hcall : CxOK P cx) {g : Operand} {ps : Array Tmp} {p q : Nat} {x y : Code} {ax ay : ACode} {md : Nat} (hps : ps.toList = [p, q]) (hp : p < N) (hq : q < N)
    (fx : ∀ (C : Ctx0) (l md : Nat) (s : St) (e : Ex) (s' : St) (a : Act) (w : World) (Q : Exit → Act → World → Prop), s.slots.length = N → acode cx n ax s = some (e, s') → SimL w0 C s a w →
      (s'.slots.length = N → ∀ a' w', SimL w0 C s' a' w' → Q e.to a' w') → x.wpIn (FW (some l)) md P Q a w)
    (fy : ∀ (C : Ctx0) (l md : Nat) (s : St) (e : Ex) (s' : St) (a : Act) (w : World) (Q : Exit → Act → World → Prop), s.slots.length = N → acode cx n ay s = some (e, s') → SimL w0 C s a w →
      (s'.slots.length = N → ∀ a' w', SimL w0 C s' a' w' → Q e.to a' w') → y.wpIn (FW (some l)) md P Q a w)
    {s : St} {ex : Ex} {s' : St} {a : Act} {Q : Exit → Act → World → Prop} (hN : s.slots.length = N) (hr : acode cx n (.back g p q ax ay) s = some (ex, s')) (hS : SimL w0 C s a w)
    (hQ : s'.slots.length = N → ∀ a' w', SimL w0 C s' a' w' → Q ex.to a' w') : (Code.rangeFunc g ps x y).wpIn (FW none) md P Q a w := by
  simp only [acode] at hr
  split at hr
  case h_2 => cases hr
  rename_i f rows hg
  split at hr
  case h_2 => cases hr
  rename_i sh hsh
  split at hr
  case isFalse => cases hr
  rename_i hwid
  obtain ⟨e0, hM0, hs0, hsl0, hd0⟩ := hS
  obtain ⟨hback, hent⟩ := hcall.2 f sh hsh
  have hgv := evalF_rv (lk := getL s.blk) hsl0 g
  rw [hg] at hgv
  simp only [RV, RC] at hgv
  unfold RD at hgv
  obtain ⟨lb, hlb, hlbd⟩ := hgv
  obtain ⟨D, hD⟩ : ∃ D, D = w.heap.size := ⟨_, rfl⟩
  obtain ⟨L, hL⟩ : ∃ L, L = w.heap.size + 1 := ⟨_, rfl⟩
  obtain ⟨W1, hW1⟩ : ∃ W1 : Loop → World, W1 = fun r => (w.alloc (.deferred (some []))).alloc (.loop r) := ⟨_, rfl⟩
  refine wpIn_rangeFunc ?_
  intro fn hfn
  obtain ⟨rec, hrec⟩ : ∃ rec : LoopState → Option Code → Loop, rec = fun st pe => { state := st, pending := pe, fn, tmps := a.tmps, params := ps, assign := x, body := y, defers := w.heap.size } := ⟨_, rfl⟩
  -- the memory behind the two blocks
  obtain ⟨hx1, hM1⟩ := hM0.allocOb (.deferred (some []))
  obtain ⟨hx2, hM2⟩ := hM1.allocOb (.loop (rec .ready none))
  obtain ⟨e2, he2⟩ : ∃ e2 : En, e2 = { e0 with ob := fun b => (e0.ob b ∨ b = w.heap.size) ∨ b = (w.alloc (.deferred (some []))).heap.size } := ⟨_, rfl⟩
  have hx : Ext e0 w e2 (W1 (rec .ready none)) := by rw [he2, hW1]; exact hx1.trans hx2
  have hM : Mem w0 C e2 (getL s.blk) (W1 (rec .ready none)) := by rw [he2, hW1]; exact hM2
  clear hx1 hM1 hx2 hM2
  have hobD : e2.ob D := by rw [he2]; exact .inl (.inr hD)
  have hobL : e2.ob L := by rw [he2]; exact .inr (by rw [hL]; simp)
  have hhL : (W1 (rec .ready none)).heap[L]? = some (.loop (rec .ready none)) := by
    rw [hW1, hL]; have := World.alloc_heap_new (w.alloc (.deferred (some []))) (.loop (rec .ready none)); rwa [World.size_alloc] at this
  have hhD : (W1 (rec .ready none)).heap[D]? = some (.deferred (some [])) := by
    rw [hW1, hD]; exact (Below.heap_alloc _ _ _ (by simp)).trans (World.alloc_heap_new w _)
  have hDL : D ≠ L := by omega
  have hpD : ∀ b, e0.ob b → b ≠ D ∧ b ≠ L := fun b hb => by have := (hM0.ob b hb).1; omega
  have hCp : ∀ b, C.p b → e0.ob b := fun b hb => C.hp hM0.j b hb
  -- the contexts
  obtain ⟨ds, hds⟩ : ∃ ds : List Deferred, ds = ({ target := .collected D, args := #[] } : Deferred) :: a.defers := ⟨_, rfl⟩
  have hd2 : DefOK C.p e2 (W1 (rec .ready none)) ds := by
    have h0 := hd0.ext hx
    rw [hds]
    refine ⟨List.nodup_cons.2 ⟨fun hmem => ?_, h0.1⟩, fun d hd => ?_⟩
    · obtain ⟨D', q1, q2, _⟩ := hd0.2 _ hmem
      have : D = D' := by simpa using q1
      exact (hpD D' q2).1 this.symm
    · rcases List.mem_cons.1 hd with rfl | hd
      · exact ⟨D, rfl, hobD, fun h => (hpD D (hCp D h)).1 rfl, hhD⟩
      · exact h0.2 d hd
  have hdsb : ∀ d ∈ ds, ∀ D', d = { target := .collected D', args := #[] } → e0.ob D' ∨ D' = D := by
    intro d hd D' hD'
    rw [hds] at hd
    rcases List.mem_cons.1 hd with rfl | hd
    · exact .inr (by simpa using hD'.symm)
    · obtain ⟨D'', q1, q2, _⟩ := hd0.2 d hd
      have : D'' = D' := by rw [q1] at hD'; simpa using hD'
      exact .inl (this ▸ q2)
  obtain ⟨JI, hJI⟩ : ∃ JI : En → World → Prop, JI = fun e w => ExtO (fun b => e0.ob b ∨ b = D) e2 (W1 (rec .ready none)) e w := ⟨_, rfl⟩
  have hJ4 : ∀ {e w}, JI e w → C.J e w ∧ (∀ t, RV e w (slotsF s.slots t) (a.tmps.getD t undef)) ∧ DefOK C.p e w ds ∧ (∀ b, e0.ob b ∨ b = D → e.ob b) := by
    intro e w' hx'
    rw [hJI] at hx'
    refine ⟨C.mono (hx'.less fun b hb => .inl (hCp b hb)) hM.j, fun t => RV.extO hx' (RV.ext hx (hsl0 t)), ⟨hd2.1, fun d hd => ?_⟩, fun b hb => (hx'.ob b hb (by rw [he2]; exact .inl (hb.imp id fun h => h.trans hD))).1⟩
    obtain ⟨D', q1, q2, q3, q4⟩ := hd2.2 d hd
    have hb := hx'.ob D' (hdsb d hd D' q1) q2
    exact ⟨D', q1, hb.1, q3, hb.2.trans q4⟩
  have hmono : ∀ {e w e' w'}, ExtO (fun b => e0.ob b ∨ b = D) e w e' w' → JI e w → JI e' w' := by
    intro e w e' w' hx h
    rw [hJI] at h ⊢
    exact h.trans hx
  obtain ⟨CI, hCI⟩ : ∃ CI : Ctx0, CI = ⟨C.ok, fun b => e0.ob b ∨ b = D, JI, hmono, fun {e w} h b hb => (hJ4 h).2.2.2 b hb⟩ := ⟨_, rfl⟩
  obtain ⟨CR, hCR⟩ : ∃ CR : Obj → Ctx0, CR = fun o => ⟨C.ok, fun b => (e0.ob b ∨ b = D) ∨ b = L, fun e w => JI e w ∧ e.ob L ∧ w.heap[L]? = some o, fun {e w e' w'} hx h => ⟨hmono (hx.less fun b hb => .inl hb) h.1, (hx.ob L (.inr rfl) h.2.1).1, (hx.ob L (.inr rfl) h.2.1).2.trans h.2.2⟩,
    fun {e w} h b hb => (by rcases hb with hb | rfl
                            · exact (hJ4 h.1).2.2.2 b hb
                            · exact h.2.1)⟩ := ⟨_, rfl⟩
  have hnL : ¬ CI.p L := by rw [hCI]; rintro (h | h)
                            · exact (hpD L h).2 rfl
                            · exact hDL h.symm
  have toR : ∀ {e lk W o}, Mem w0 CI e lk W → e.ob L → W.heap[L]? = some o → Mem w0 (CR o) e lk W := fun {e lk W o} h h1 h2 =>
    h.ctx (by rw [hCI, hCR]) (by have := h.j; rw [hCI] at this; rw [hCR]; exact ⟨this, h1, h2⟩)
  have toI : ∀ {e lk W o}, Mem w0 (CR o) e lk W → Mem w0 CI e lk W ∧ e.ob L ∧ W.heap[L]? = some o := fun {e lk W o} h => by
    have hj := h.j
    rw [hCR] at hj
    exact ⟨h.ctx (by rw [hCI, hCR]) (by rw [hCI]; exact hj.1), hj.2.1, hj.2.2⟩
  have putL : ∀ {e lk W o}, Mem w0 CI e lk W → e.ob L → W.heap[L]? = some o → ∀ o', Mem w0 CI e lk (W.putObj L o') ∧ (W.putObj L o').heap[L]? = some o' := fun {e lk W o} h h1 h2 o' =>
    ⟨h.turnOb h1 hnL o', World.putObj_heap_same (heap_lt h2)⟩
  -- between the rounds
  obtain ⟨I, hI⟩ : ∃ I : Nat → World → Prop, I = fun k W => ∃ e blk, aback (acode cx n ax) (acode cx n ay) rows sh.1 p q s.slots s.blk k blk = some (ex, s') ∧ Mem w0 CI e (getL blk) W ∧ e.ob L ∧ W.heap[L]? = some (.loop (rec .ready none)) := ⟨_, rfl⟩
  obtain ⟨Ix, hIx⟩ : ∃ Ix : World → Prop, Ix = fun W => ∃ c e blk, s' = ⟨s.slots, blk⟩ ∧ ((c = Code.ret ∧ ex = .ret) ∨ ∃ id, c = Code.exit id ∧ ex = .exit id) ∧ Mem w0 CI e (getL blk) W ∧ e.ob L ∧ W.heap[L]? = some (.loop (rec .done (some c))) := ⟨_, rfl⟩
  have hfin : ∀ {e blk W o}, s' = ⟨s.slots, blk⟩ → Mem w0 CI e (getL blk) W → e.ob L → W.heap[L]? = some (.loop o) → ∀ o', SimL w0 C s' { a with defers := ds } (W.putObj L o') := by
    intro e blk W o hs' h1 h2 h3 o'
    obtain ⟨h4, _⟩ := putL h1 h2 h3 o'
    have hj := h4.j
    rw [hCI] at hj
    replace hj := hJ4 hj
    subst hs'
    exact ⟨e, h4.ctx (by rw [hCI]) hj.1, by simpa using hs0, hj.2.1, hj.2.2.1⟩
  refine ⟨L, [{ target := .collected D, args := #[] }], W1 (rec .ready none), { target := .fn (.func f) lb.toArray, args := #[.func (.yield L) #[] #[]] }, W1 (rec .ready none), f,
    #[.func (.yield L) #[] #[]] ++ lb.toArray, W1 (rec .ready none), ?_, ?_, fun _ _ => trivial, ?_, fun h => (by cases h), ?_⟩
  · rw [hW1, hrec, hL, hD]; exact run_enterLoop_outer _ _ _ _ _
  · simp only [resolve, hlb]
    simp [go_sem]
  · simp [invoke, go_sem, run_callFunc hent]
  · refine CallsIn.mono (hback lb rows L I Ix (W1 (rec .ready none)) (md - 1) hwid ?_ ?_ ?_) ?_
    · -- the data lies
      intro k W hk
      rw [hI] at hk
      obtain ⟨e, blk, _, hM, _, _⟩ := hk
      have hj := hM.j
      rw [hCI] at hj
      replace hj := hJ4 hj
      have := evalF_rv (a := a) (lk := getL s.blk) hj.2.1 g
      rw [hg] at this
      simp only [RV, RC] at this
      unfold RD at this
      obtain ⟨lb', h1, h2⟩ := this
      rw [hlb] at h1
      have hlbe : lb = lb' := by simpa using h1
      subst hlbe
      exact ⟨e.ok, hM.okl, h2⟩
    · -- a round
      intro i row yv v W hi hrow hpick hv
      rw [hI] at hi
      obtain ⟨e, blk, hab, hMi, hoL, hhLi⟩ := hi
      have hy := run_yield (P := P) (args := #[.int .i64 i, v]) hhLi (by rw [hrec]; show 2 = ps.size; rw [← Array.length_toList, hps]; rfl)
      rw [hrec] at hy
      refine ⟨fn, _, x, y, hy, roundIn_of_wpIn hfn ?_⟩
      simp only [aback, hrow, hpick] at hab
      have hj := hMi.j
      rw [hCI] at hj
      replace hj := hJ4 hj
      have hvR : RV e W yv v := by
        have hlbd' : RDList e.ok W [.rptr [.sl rows]] lb := by
          have := evalF_rv (a := a) (lk := getL s.blk) hj.2.1 g
          rw [hg] at this
          simp only [RV, RC] at this
          unfold RD at this
          obtain ⟨lb', h1, h2⟩ := this
          rw [hlb] at h1
          have hlbe : lb = lb' := by simpa using h1
          subst hlbe
          exact h2
        exact pickN_rv hpick (hv e.ok hMi.okl hlbd') rfl
      have htm : ((ps.zip #[Value.int .i64 i, v]).foldl (fun t (p, v) => t.setIfInBounds p v) a.tmps) = (a.tmps.setIfInBounds p (.int .i64 i)).setIfInBounds q v := by
        have : ps = #[p, q] := by apply Array.ext'; simpa using hps
        subst this; rw [show #[p, q].zip #[Value.int .i64 (i : Int), v] = #[(p, .int .i64 i), (q, v)] by apply Array.ext'; simp]; simp
      -- the state at its start
      obtain ⟨sa, hsa⟩ : ∃ sa : St, sa = ⟨(s.slots.set p (.c (.d (.int .i64 i)))).set q yv, blk⟩ := ⟨_, rfl⟩
      rw [← hsa] at hab
      have hSa : SimL w0 (CR (.loop (rec .ready none))) sa { tmps := (a.tmps.setIfInBounds p (.int .i64 i)).setIfInBounds q v, defers := [] } W := by
        rw [hsa]
        refine ⟨e, toR hMi hoL hhLi, by simp [hs0], fun t => ?_, DefOK.nil _ _ _⟩
        have hpt : ∀ (sl : List AV) (tm : Array Value) (j : Nat) (z : AV) (u : Value), sl.length = tm.size → (∀ t, RV e W (slotsF sl t) (tm.getD t undef)) → RV e W z u → ∀ t, RV e W (slotsF (sl.set j z) t) ((tm.setIfInBounds j u).getD t undef) := by
          intro sl tm j z u hlen hall hz t
          have := hall t
          simp only [slotsF, List.getD_eq_getElem?_getD, List.getElem?_set, Array.getD_eq_getD_getElem?, Array.getElem?_setIfInBounds] at this ⊢
          by_cases h : j = t
          · subst h
            by_cases hl : j < sl.length
            · simp only [hl, if_true, Option.getD_some, ← hlen]; exact hz
            · simp only [hl, if_true, if_false, ← hlen, Option.getD_none]; exact trivial
          · simp only [h, if_false]; exact this
        refine hpt _ _ q yv v (by simp [hs0]) (hpt _ _ p _ _ hs0.symm hj.2.1 ?_) hvR t
        show RD e.ok W (.int .i64 i) _
        unfold RD; rfl
      have hla : sa.slots.length = N := by rw [hsa]; simp [hN]
      simp only [htm]
      cases hfa : acode cx n ax sa with
      | none => rw [hfa] at hab; cases hab
      | some r1 =>
        obtain ⟨ea, s1⟩ := r1
        rw [hfa] at hab
        cases ea with
        | exit _ => cases hab
        | ret => cases hab
        | normal =>
          simp only [] at hab
          refine fx (CR (.loop (rec .ready none))) L _ sa .normal s1 _ W _ hla hfa hSa fun hN1 a1 w1 hS1 => ?_
          obtain ⟨e1, hM1, hs1, hsl1, hdd1⟩ := hS1
          obtain ⟨hM1i, hoL1, hhL1⟩ := toI hM1
          obtain ⟨hM1b, hhL1b⟩ := putL hM1i hoL1 hhL1 (.loop (rec .busy none))
          refine ⟨w1.putObj L (.loop (rec .busy none)), ?_, ?_⟩
          · have := run_beginRound (P := P) hhL1 (by rw [hrec])
            rw [hrec] at this ⊢
            exact this
          have hS1b : SimL w0 (CR (.loop (rec .busy none))) s1 a1 (w1.putObj L (.loop (rec .busy none))) := by
            refine ⟨e1, toR hM1b hoL1 hhL1b, hs1, fun t => RV.extO (turnOb_ext hM1i hoL1 CI.p hnL _) (hsl1 t), ⟨hdd1.1, fun d hd => ?_⟩⟩
            obtain ⟨D', q1, q2, q3, q4⟩ := hdd1.2 d hd
            rw [hCR] at q3
            refine ⟨D', q1, q2, by rw [hCR]; exact q3, (World.putObj_heap_other fun h => q3 (.inr h)).trans q4⟩
          cases hfb : acode cx n ay s1 with
          | none => rw [hfb] at hab; cases hab
          | some r2 =>
            obtain ⟨eb, s2⟩ := r2
            rw [hfb] at hab
            refine fy (CR (.loop (rec .busy none))) L _ s1 eb s2 a1 _ _ hN1 hfb hS1b fun hN2 a3 w3 hS3 => ?_
            obtain ⟨e3, hM3, _, _, _⟩ := hS3
            obtain ⟨hM3i, hoL3, hhL3⟩ := toI hM3
            have hend : ∀ jump : Option Code, (Instr.endRound L jump).run P w3 = .ok (.bool jump.isNone) (w3.putObj L (.loop (rec (if jump.isNone then .ready else .done) jump))) := fun jump => by
              have := run_endRound (P := P) jump hhL3
              rw [hrec] at this ⊢
              exact this
            cases eb with
            | normal =>
              simp only [] at hab
              obtain ⟨h1, h2⟩ := putL hM3i hoL3 hhL3 (.loop (rec .ready none))
              refine ⟨_, _, hend none, .inl ⟨rfl, ?_⟩⟩
              rw [hI]
              have hj3 := h1.j
              rw [hCI] at hj3
              simp only [] at hj3
              rw [hJI] at hj3
              obtain ⟨e4, hM4, hob4⟩ := reset_fits (blk0 := s.blk) hM.gen h1 hj3 (fun e' hx' => by rw [hCI]; simp only []; rw [hJI]; exact hx')
              exact ⟨e4, _, hab, hM4, by rw [hob4]; exact hoL3, h2⟩
            | ret =>
              simp only [Option.some.injEq, Prod.mk.injEq] at hab
              obtain ⟨h1, h2⟩ := putL hM3i hoL3 hhL3 (.loop (rec .done (some .ret)))
              refine ⟨_, _, hend (some .ret), .inr ⟨rfl, ?_⟩⟩
              rw [hIx]
              exact ⟨.ret, e3, s2.blk, hab.2.symm, .inl ⟨rfl, hab.1.symm⟩, h1, hoL3, h2⟩
            | exit id =>
              simp only [Option.some.injEq, Prod.mk.injEq] at hab
              obtain ⟨h1, h2⟩ := putL hM3i hoL3 hhL3 (.loop (rec .done (some (.exit id))))
              refine ⟨_, _, hend (some (.exit id)), .inr ⟨rfl, ?_⟩⟩
              rw [hIx]
              exact ⟨.exit id, e3, s2.blk, hab.2.symm, .inr ⟨id, rfl, hab.1.symm⟩, h1, hoL3, h2⟩
    · -- at the start
      rw [hI]
      refine ⟨e2, s.blk, hr, hM.ctx (by rw [hCI]) ?_, hobL, hhL⟩
      rw [hCI]
      simp only []
      rw [hJI]
      exact ⟨fun _ _ _ => rfl, fun _ => Nat.le_refl _, fun _ h => h, fun _ _ => rfl, fun _ _ h => ⟨h, rfl⟩⟩
    · -- behind it
      rintro en W2 ⟨⟨v, rfl⟩, h⟩
      show ∃ jump w₄, _
      have hds' : [({ target := .collected D, args := #[] } : Deferred)] ++ a.defers = ds := by rw [hds]; rfl
      rw [hds']
      rcases h with h | h
      · rw [hI] at h
        obtain ⟨e, blk, hab, hMi, hoL, hhLi⟩ := h
        simp only [aback, Option.some.injEq, Prod.mk.injEq] at hab
        refine ⟨none, W2.putObj L (.loop { rec .ready none with state := .exhausted }), ?_, ?_⟩
        · have := run_endLoop (P := P) hhLi (by rw [hrec]; simp)
          rw [hrec] at this ⊢; exact this
        · have hfin' := hfin hab.2.symm hMi hoL hhLi (.loop { rec .ready none with state := .exhausted })
          have := hQ (by rw [← hab.2]; exact hN) _ _ hfin'
          rw [← hab.1] at this
          exact this
      · rw [hIx] at h
        obtain ⟨c, e, blk, hs', hc, hMi, hoL, hhLi⟩ := h
        refine ⟨some c, W2.putObj L (.loop { rec .done (some c) with state := .exhausted }), ?_, ?_⟩
        · have := run_endLoop (P := P) hhLi (by rw [hrec]; simp)
          rw [hrec] at this ⊢; exact this
        · have hfin' := hfin hs' hMi hoL hhLi (.loop { rec .done (some c) with state := .exhausted })
          have := hQ (by rw [hs']; exact hN) _ _ hfin'
          rcases hc with ⟨rfl, rfl⟩ | ⟨id, rfl, rfl⟩
          · exact wpIn_ret this
          · exact wpIn_exit this
end

end Go.Proofs.YtmmlolampgnamaaDoor.Ax
