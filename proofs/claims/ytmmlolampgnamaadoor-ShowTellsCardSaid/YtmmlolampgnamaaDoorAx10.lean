/- A call of a function of which it is told what it comes to. -/
import Derived.Test.YtmmlolampgnamaaDoorAx9
namespace Go.Proofs.YtmmlolampgnamaaDoor.Ax
open Go.RowKit
set_option linter.unusedVariables false
set_option linter.unusedSimpArgs false

def RA (ok : Nat → Prop) (w : World) : A → Value → Prop
  | .c x, v => RD ok w x v
  | .agg l, v => ∃ vs : List Value, v = .agg vs.toArray ∧ RDList ok w l vs
def RAs (ok : Nat → Prop) (w : World) : List A → List Value → Prop
  | [], [] => True
  | x :: xs, v :: vs => RA ok w x v ∧ RAs ok w xs vs
  | _, _ => False

/-- A cell of an answer; the blocks that it alone holds. -/
def RRc (ok : Nat → Prop) (w : World) : Rc → Value → List Nat → Prop
  | .d x, v, bs => bs = [] ∧ RD ok w x v
  | .nil, v, bs => bs = [] ∧ v = .slice none 0 0
  | .new E rows, v, bs => (bs = [] ∧ rows = [] ∧ v = .slice none 0 0) ∨ ∃ b c cs ty, bs = [b] ∧ v = .slice (some ⟨b, 0, none⟩) rows.length c ∧ 0 < E ∧ HC w b cs ty ∧ cs.size = c * E ∧ rows.length ≤ c ∧ RDRows ok w ⟨b, 0, none⟩ E rows 0
def RRcs (ok : Nat → Prop) (w : World) : List Rc → List Value → List Nat → Prop
  | [], [], bs => bs = []
  | x :: xs, v :: vs, bs => ∃ b1 b2, bs = b1 ++ b2 ∧ RRc ok w x v b1 ∧ RRcs ok w xs vs b2
  | _, _, _ => False
def RR1 (ok : Nat → Prop) (w : World) : Sum Rc (List Rc) → Value → List Nat → Prop
  | .inl x, v, bs => RRc ok w x v bs
  | .inr l, v, bs => ∃ vs : List Value, v = .agg vs.toArray ∧ RRcs ok w l vs bs
def RR1s (ok : Nat → Prop) (w : World) : List (Sum Rc (List Rc)) → List Value → List Nat → Prop
  | [], [], bs => bs = []
  | x :: xs, v :: vs, bs => ∃ b1 b2, bs = b1 ++ b2 ∧ RR1 ok w x v b1 ∧ RR1s ok w xs vs b2
  | _, _, _ => False
def RRv (ok : Nat → Prop) (w : World) : RR → Value → List Nat → Prop
  | .c x, v, bs => RRc ok w x v bs
  | .agg l, v, bs => ∃ vs : List Value, v = .agg vs.toArray ∧ RRcs ok w l vs bs
  | .tup l, v, bs => ∃ vs : List Value, v = .tuple vs.toArray ∧ RR1s ok w l vs bs

/-- What is promised of a call: handed such data, wherever they lie, it answers this. -/
def ACalls (P : Program) (f : FuncId) (as : List A) (r : RR) : Prop :=
  ∀ (w : World) (vals : List Value) (ok : Nat → Prop), (∀ b, ok b → b < w.heap.size) → Gl w → RAs ok w as vals →
    Calls P f vals.toArray w fun e w' => ∃ v ok' bs, e = .returned v ∧ Below w.heap.size w w' ∧ (∀ b, ok' b → b < w'.heap.size) ∧ (∀ b, ok' b → ok b ∨ w.heap.size ≤ b) ∧
      RRv ok' w' r v bs ∧ bs.Nodup ∧ ∀ b ∈ bs, ¬ ok' b ∧ w.heap.size ≤ b ∧ b < w'.heap.size

section
variable {P : Program} {w0 w w' : World} {ok0 : Ctx0} {e : En} {lk lk' : Nat → Option Blk} {o : Oper} {a : Act} {cx : Cx} {ev : Operand → AV} {T : Nat} {f : Ef}

def En.more (e : En) (okn : Nat → Prop) : En where
  β := e.β
  G := e.G
  ok := fun b => e.ok b ∨ okn b
  ob := e.ob

/-- Behind a call. -/
theorem Mem.called (hM : Mem w0 ok0 e lk w) (hb : Below w.heap.size w w') (okn : Nat → Prop) (h : ∀ b, okn b → w.heap.size ≤ b ∧ b < w'.heap.size) : Ext e w (e.more okn) w' ∧ Mem w0 ok0 (e.more okn) lk w' := by
  have hx : Ext e w (e.more okn) w' := ⟨fun _ _ _ => rfl, fun _ => Nat.le_refl _, fun _ h => .inl h, fun b hk => hb.block b (hM.okl b hk), fun b hk => ⟨hk, hb.block b (hM.ob b hk).1⟩⟩
  have hold : ∀ t g fz k b c E, lk t = some ⟨g, fz, k⟩ → live k → e.β t g = some (b, c, E) → w'.heap[b]? = w.heap[b]? := fun t g fz k b c E h1 h2 h3 => hb.block b (hM.blk_lt h1 h2 h3)
  refine ⟨hx, hM.gen, fun t g fz E rows ht => (hM.arr t g fz E rows ht).ext hx.ok hx.heap (fun b c E' hbb => hold t g fz _ b c E' ht (by simp [live]) hbb),
    fun t g fz cells ht => (hM.box t g fz cells ht).ext hx (fun b c E' hbb => hold t g fz _ b c E' ht (by simp [live]) hbb), fun t g k b c E h1 h2 h3 => .inl (hM.frz t g k b c E h1 h2 h3), fun t g k b c E h1 h2 h3 => ?_, hM.inj, fun b hk => ?_, fun b hk => ?_, ?_, fun t g fz s pos ht => (hM.iter t g fz s pos ht).ext (fun b c E' hbb => hold t g fz _ b c E' ht (by simp [live]) hbb), hM.gl, ok0.mono hx.toO hM.j, fun b hk => ?_, hM.own2⟩
  · obtain ⟨q1, q2, q3⟩ := hM.own t g k b c E h1 h2 h3
    refine ⟨fun hk => ?_, q2, Nat.lt_of_lt_of_le q3 hb.size⟩
    rcases hk with hk | hk
    · exact q1 hk
    · have := (h b hk).1; omega
  · rcases hk with hk | hk
    · exact Nat.lt_of_lt_of_le (hM.okl b hk) hb.size
    · exact (h b hk).2
  · rcases hk with hk | hk
    · exact hM.okr b hk
    · exact .inr (Nat.le_trans hM.bel.size (h b hk).1)
  · exact hM.bel.trans (hb.mono hM.bel.size)
  · obtain ⟨q1, q2, q3⟩ := hM.ob b hk
    refine ⟨Nat.lt_of_lt_of_le q1 hb.size, fun hk' => ?_, q3⟩
    rcases hk' with hk' | hk'
    · exact q2 hk'
    · have := (h b hk').1; omega

def Holds (e : En) (lk : Nat → Option Blk) (b : Nat) : Prop := (∃ t g fz k c E, lk t = some ⟨g, fz, k⟩ ∧ live k ∧ e.β t g = some (b, c, E)) ∨ e.ob b

theorem genOf_upd (lk : Nat → Option Blk) (T : Nat) (B : Blk) (t : Nat) (h : t ≠ T) : genOf (fun u => if u = T then some B else lk u) t = genOf lk t := by unfold genOf; simp [h]

/-- A cell that came back is one of the frame's. -/
theorem impC_fits (hM : Mem w0 ok0 e lk w) (lkg : Nat → Option Blk) (hg : genOf lk T = genOf lkg T) {x : Rc} {v : Value} {bs : List Nat} (hr : RRc e.ok w x v bs) (hbs : ∀ b ∈ bs, ¬ e.ok b ∧ w0.heap.size ≤ b ∧ ¬ Holds e lk b) :
    ∃ e', Ext e w e' w ∧ Mem w0 ok0 e' (updF lk (impC lkg T x).2) w ∧ RC e' w (impC lkg T x).1 v ∧ e'.ok = e.ok ∧ (∀ b, b ∉ bs → ¬ Holds e lk b → ¬ Holds e' (updF lk (impC lkg T x).2) b) ∧ ∀ t, t ≠ T → genOf (updF lk (impC lkg T x).2) t = genOf lk t := by
  cases x with
  | d x =>
    obtain ⟨rfl, hr⟩ := hr
    exact ⟨e, Ext.refl e w, hM, hr, rfl, fun b _ h => h, fun t _ => rfl⟩
  | nil =>
    obtain ⟨rfl, hr⟩ := hr
    exact ⟨e, Ext.refl e w, hM, hr, rfl, fun b _ h => h, fun t _ => rfl⟩
  | new E rows =>
    simp only [impC, updF_one, ← hg]
    rcases hr with ⟨rfl, rfl, rfl⟩ | ⟨b, c, cs, ty, rfl, rfl, hE, hh, hcs, hrc, hrr⟩
    · obtain ⟨hx, hM'⟩ := hM.newNil (lk' := fun u => if u = T then some ⟨genOf lk T + 1, false, .arr E []⟩ else lk u) T E (fun _ => rfl)
      refine ⟨_, hx, hM', rv_ownNil (w' := w) T, rfl, fun b _ hn hh => ?_, fun t ht => genOf_upd lk T _ t ht⟩
      obtain ⟨t, g, fz, k, c, E', h1, h2, h3⟩ | hh := hh
      case inr => exact hn (.inr hh)
      by_cases ht : t = T
      · subst ht
        simp only [if_true, Option.some.injEq, Blk.mk.injEq] at h1
        obtain ⟨rfl, rfl, rfl⟩ := h1
        rw [En.none_at] at h3; cases h3
      · simp only [ht, if_false] at h1
        rw [show (e.none_ lk T).β t g = e.β t g from by simp [En.none_, ht]] at h3
        exact hn (.inl ⟨t, g, fz, k, c, E', h1, h2, h3⟩)
    · obtain ⟨n1, n2, n3⟩ := hbs b (by simp)
      have hx : Ext e w (e.with_ lk T b c (E, rows.length)) w := En.with_ext hM T b c (E, rows.length) (fun _ _ => rfl) (fun _ _ => rfl)
      have hM' : Mem w0 ok0 (e.with_ lk T b c (E, rows.length)) (fun u => if u = T then some ⟨genOf lk T + 1, false, .arr E rows⟩ else lk u) w := by
        refine hM.upd1 hx T ⟨genOf lk T + 1, false, .arr E rows⟩ (fun _ => rfl) (fun t => rfl) (fun b => Iff.rfl) (fun _ _ _ _ _ _ _ _ _ _ _ => rfl) (Nat.le_refl _) (fun E' rows' h => ?_) (fun cells' h => by cases h) (fun h => by cases h) (fun _ _ b' c' E' hb => ?_) hM.bel
        · cases h
          rw [show (e.with_ lk T b c (E, rows.length)).β T (⟨genOf lk T + 1, false, BK.arr E rows⟩ : Blk).g = some (b, c, E, rows.length) from En.with_at T _ _ _]
          exact ⟨rfl, hE, cs, ty, hh, hcs, hrc, hrr⟩
        · rw [show (e.with_ lk T b c (E, rows.length)).β T (⟨genOf lk T + 1, false, BK.arr E rows⟩ : Blk).g = some (b, c, E, rows.length) from En.with_at T _ _ _] at hb
          obtain ⟨rfl, rfl, rfl⟩ : b = b' ∧ c = c' ∧ (E, rows.length) = E' := by simpa using hb
          exact ⟨⟨n1, fun h => n3 (.inr h)⟩, n2, hh.lt, fun t g k c' E' ht h hk hb' => n3 (.inl ⟨t, g, false, k, c', E', h, hk, hb'⟩)⟩
      refine ⟨_, hx, hM', rv_own (w' := w) T b c E rows.length hrc, rfl, fun b' hb' hn hh' => ?_, fun t ht => genOf_upd lk T _ t ht⟩
      obtain ⟨t, g, fz, k, c', E', h1, h2, h3⟩ | hh' := hh'
      case inr => exact hn (.inr hh')
      by_cases ht : t = T
      · subst ht
        simp only [if_true, Option.some.injEq, Blk.mk.injEq] at h1
        obtain ⟨rfl, rfl, rfl⟩ := h1
        rw [En.with_at] at h3
        simp only [Option.some.injEq, Prod.mk.injEq] at h3
        exact hb' (by simp [h3.1])
      · simp only [ht, if_false] at h1
        rw [show (e.with_ lk T b c (E, rows.length)).β t g = e.β t g from by simp [En.with_, ht]] at h3
        exact hn (.inl ⟨t, g, fz, k, c', E', h1, h2, h3⟩)

theorem RRc.ext {ok ok' : Nat → Prop} {w : World} (hok : ∀ b, ok b → ok' b) {x : Rc} {v : Value} {bs : List Nat} (h : RRc ok w x v bs) : RRc ok' w x v bs := by
  cases x with
  | d x => exact ⟨h.1, RD.mono hok (fun _ _ => rfl) _ _ h.2⟩
  | nil => exact h
  | new E rows =>
    rcases h with h | ⟨b, c, cs, ty, h1, h2, h3, h4, h5, h6, h7⟩
    · exact .inl h
    · exact .inr ⟨b, c, cs, ty, h1, h2, h3, h4, h5, h6, RDRows.mono hok (fun _ _ => rfl) _ rfl E rows 0 h7⟩

theorem impCs_fits : ∀ (l : List Rc) (T : Nat) (e : En) (lk lkg : Nat → Option Blk) (vs : List Value) (bs : List Nat), Mem w0 ok0 e lk w → (∀ t, T ≤ t → genOf lk t = genOf lkg t) → RRcs e.ok w l vs bs → bs.Nodup → (∀ b ∈ bs, ¬ e.ok b ∧ w0.heap.size ≤ b ∧ ¬ Holds e lk b) →
    ∃ e', Ext e w e' w ∧ Mem w0 ok0 e' (updF lk (impCs lkg T l).2) w ∧ RCs e' w (impCs lkg T l).1 vs ∧ e'.ok = e.ok ∧ (∀ b, b ∉ bs → ¬ Holds e lk b → ¬ Holds e' (updF lk (impCs lkg T l).2) b) ∧ ∀ t, T + l.length ≤ t → genOf (updF lk (impCs lkg T l).2) t = genOf lk t
  | [], T, e, lk, lkg, vs, bs, hM, hg, hr, hn, hbs => by
    cases vs with
    | nil => exact ⟨e, Ext.refl e w, hM, trivial, rfl, fun b _ h => h, fun t _ => rfl⟩
    | cons _ _ => exact hr.elim
  | x :: l, T, e, lk, lkg, vs, bs, hM, hg, hr, hn, hbs => by
    cases vs with
    | nil => exact hr.elim
    | cons v vs =>
      obtain ⟨b1, b2, rfl, hr1, hr2⟩ := hr
      rw [List.nodup_append] at hn
      obtain ⟨n1, n2, n3⟩ := hn
      obtain ⟨e1, hx1, hM1, hc1, hok1, hh1, hg1⟩ := impC_fits hM lkg (hg T (Nat.le_refl _)) hr1 (fun b hb => hbs b (by simp [hb]))
      obtain ⟨e2, hx2, hM2, hc2, hok2, hh2, hg2⟩ := impCs_fits l (T + 1) e1 _ lkg vs b2 hM1 (fun t ht => (hg1 t (by omega)).trans (hg t (by omega))) (by rw [hok1]; exact hr2) n2 (fun b hb => by
        obtain ⟨q1, q2, q3⟩ := hbs b (by simp [hb])
        exact ⟨by rw [hok1]; exact q1, q2, hh1 b (fun hb1 => n3 b hb1 b hb rfl) q3⟩)
      refine ⟨e2, hx1.trans hx2, ?_, ⟨RC.ext hx2 hc1, hc2⟩, hok2.trans hok1, fun b hb hnh => ?_, fun t ht => ?_⟩
      · show Mem w0 ok0 e2 (updF lk ((impC lkg T x).2 ++ (impCs lkg (T + 1) l).2)) w
        rw [updF_app]; exact hM2
      · show ¬ Holds e2 (updF lk ((impC lkg T x).2 ++ (impCs lkg (T + 1) l).2)) b
        rw [updF_app]
        exact hh2 b (fun h => hb (by simp [h])) (hh1 b (fun h => hb (by simp [h])) hnh)
      · show genOf (updF lk ((impC lkg T x).2 ++ (impCs lkg (T + 1) l).2)) t = _
        rw [updF_app, hg2 t (by simp at ht; omega), hg1 t (by simp at ht; omega)]

theorem imp1s_fits : ∀ (l : List (Sum Rc (List Rc))) (T : Nat) (e : En) (lk lkg : Nat → Option Blk) (vs : List Value) (bs : List Nat), Mem w0 ok0 e lk w → (∀ t, T ≤ t → genOf lk t = genOf lkg t) → RR1s e.ok w l vs bs → bs.Nodup → (∀ b ∈ bs, ¬ e.ok b ∧ w0.heap.size ≤ b ∧ ¬ Holds e lk b) →
    ∃ e', Ext e w e' w ∧ Mem w0 ok0 e' (updF lk (imp1s lkg T l).2) w ∧ R1s e' w (imp1s lkg T l).1 vs ∧ e'.ok = e.ok ∧ (∀ b, b ∉ bs → ¬ Holds e lk b → ¬ Holds e' (updF lk (imp1s lkg T l).2) b)
  | [], T, e, lk, lkg, vs, bs, hM, hg, hr, hn, hbs => by
    cases vs with
    | nil => exact ⟨e, Ext.refl e w, hM, trivial, rfl, fun b _ h => h⟩
    | cons _ _ => exact hr.elim
  | .inl x :: l, T, e, lk, lkg, vs, bs, hM, hg, hr, hn, hbs => by
    cases vs with
    | nil => exact hr.elim
    | cons v vs =>
      obtain ⟨b1, b2, rfl, hr1, hr2⟩ := hr
      rw [List.nodup_append] at hn
      obtain ⟨n1, n2, n3⟩ := hn
      obtain ⟨e1, hx1, hM1, hc1, hok1, hh1, hg1⟩ := impC_fits hM lkg (hg T (Nat.le_refl _)) hr1 (fun b hb => hbs b (by simp [hb]))
      obtain ⟨e2, hx2, hM2, hc2, hok2, hh2⟩ := imp1s_fits l (T + 1) e1 _ lkg vs b2 hM1 (fun t ht => (hg1 t (by omega)).trans (hg t (by omega))) (by rw [hok1]; exact hr2) n2 (fun b hb => by
        obtain ⟨q1, q2, q3⟩ := hbs b (by simp [hb])
        exact ⟨by rw [hok1]; exact q1, q2, hh1 b (fun hb1 => n3 b hb1 b hb rfl) q3⟩)
      refine ⟨e2, hx1.trans hx2, ?_, ⟨RC.ext hx2 hc1, hc2⟩, hok2.trans hok1, fun b hb hnh => ?_⟩
      · show Mem w0 ok0 e2 (updF lk ((impC lkg T x).2 ++ (imp1s lkg (T + 1) l).2)) w
        rw [updF_app]; exact hM2
      · show ¬ Holds e2 (updF lk ((impC lkg T x).2 ++ (imp1s lkg (T + 1) l).2)) b
        rw [updF_app]
        exact hh2 b (fun h => hb (by simp [h])) (hh1 b (fun h => hb (by simp [h])) hnh)
  | .inr x :: l, T, e, lk, lkg, vs, bs, hM, hg, hr, hn, hbs => by
    cases vs with
    | nil => exact hr.elim
    | cons v vs =>
      obtain ⟨b1, b2, rfl, ⟨us, rfl, hr1⟩, hr2⟩ := hr
      rw [List.nodup_append] at hn
      obtain ⟨n1, n2, n3⟩ := hn
      obtain ⟨e1, hx1, hM1, hc1, hok1, hh1, hg1⟩ := impCs_fits x T e lk lkg us b1 hM hg hr1 n1 (fun b hb => hbs b (by simp [hb]))
      obtain ⟨e2, hx2, hM2, hc2, hok2, hh2⟩ := imp1s_fits l (T + x.length) e1 _ lkg vs b2 hM1 (fun t ht => (hg1 t ht).trans (hg t (by omega))) (by rw [hok1]; exact hr2) n2 (fun b hb => by
        obtain ⟨q1, q2, q3⟩ := hbs b (by simp [hb])
        exact ⟨by rw [hok1]; exact q1, q2, hh1 b (fun hb1 => n3 b hb1 b hb rfl) q3⟩)
      refine ⟨e2, hx1.trans hx2, ?_, ⟨⟨us, rfl, RCs.ext hx2 hc1⟩, hc2⟩, hok2.trans hok1, fun b hb hnh => ?_⟩
      · show Mem w0 ok0 e2 (updF lk ((impCs lkg T x).2 ++ (imp1s lkg (T + x.length) l).2)) w
        rw [updF_app]; exact hM2
      · show ¬ Holds e2 (updF lk ((impCs lkg T x).2 ++ (imp1s lkg (T + x.length) l).2)) b
        rw [updF_app]
        exact hh2 b (fun h => hb (by simp [h])) (hh1 b (fun h => hb (by simp [h])) hnh)

theorem imp_fits (r : RR) (T : Nat) (e : En) (lk lkg : Nat → Option Blk) (v : Value) (bs : List Nat) (hM : Mem w0 ok0 e lk w) (hg : ∀ t, genOf lk t = genOf lkg t) (hr : RRv e.ok w r v bs) (hn : bs.Nodup) (hbs : ∀ b ∈ bs, ¬ e.ok b ∧ w0.heap.size ≤ b ∧ ¬ Holds e lk b) :
    ∃ e', Ext e w e' w ∧ Mem w0 ok0 e' (updF lk (imp lkg T r).2) w ∧ RV e' w (imp lkg T r).1 v := by
  cases r with
  | c x =>
    obtain ⟨e1, h1, h2, h3, _⟩ := impC_fits hM lkg (hg T) hr hbs
    exact ⟨e1, h1, h2, h3⟩
  | agg l =>
    obtain ⟨vs, rfl, hr⟩ := hr
    obtain ⟨e1, h1, h2, h3, _⟩ := impCs_fits l T e lk lkg vs bs hM (fun t _ => hg t) hr hn hbs
    exact ⟨e1, h1, h2, vs, rfl, h3⟩
  | tup l =>
    obtain ⟨vs, rfl, hr⟩ := hr
    obtain ⟨e1, h1, h2, h3, _⟩ := imp1s_fits l T e lk lkg vs bs hM (fun t _ => hg t) hr hn hbs
    exact ⟨e1, h1, h2, vs, rfl, h3⟩

theorem rd_any {ok ok' : Nat → Prop} {x : D} {v : Value} (h : hasRef x = false) (hr : RD ok w x v) : RD ok' w x v := by
  cases x <;> first
    | (simp [hasRef] at h; done)
    | (simpa only [RD] using hr)

theorem rrc_any {ok ok' : Nat → Prop} {x : Rc} {v : Value} {bs : List Nat} (h : rcRef x = false) (hr : RRc ok w x v bs) : RRc ok' w x v bs := by
  cases x with
  | d x => exact ⟨hr.1, rd_any h hr.2⟩
  | nil => exact hr
  | new E rows =>
    rcases hr with hr | ⟨b, c, cs, ty, h1, h2, h3, h4, h5, h6, h7⟩
    · exact .inl hr
    · refine .inr ⟨b, c, cs, ty, h1, h2, h3, h4, h5, h6, RDRows.of fun i r hi => ?_⟩
      obtain ⟨g1, g2⟩ := h7.get hi
      refine ⟨g1, RDRow.of fun j d hj => ?_⟩
      obtain ⟨u, hu, hd⟩ := g2.get hj
      refine ⟨u, hu, rd_any ?_ hd⟩
      simp only [rcRef, Bool.not_eq_false'] at h
      have hr := List.all_eq_true.1 h r (List.mem_of_getElem? hi)
      have hd' := List.all_eq_true.1 hr d (List.mem_of_getElem? hj)
      simpa using hd'

theorem rrcs_any {ok ok' : Nat → Prop} : ∀ {l : List Rc} {vs : List Value} {bs : List Nat}, l.any rcRef = false → RRcs ok w l vs bs → RRcs ok' w l vs bs
  | [], [], _, _, hr => hr
  | [], _ :: _, _, _, hr => hr.elim
  | _ :: _, [], _, _, hr => hr.elim
  | x :: l, v :: vs, bs, h, ⟨b1, b2, e1, h1, h2⟩ => by
    simp only [List.any_cons, Bool.or_eq_false_iff] at h
    exact ⟨b1, b2, e1, rrc_any h.1 h1, rrcs_any h.2 h2⟩

theorem rr1s_any {ok ok' : Nat → Prop} : ∀ {l : List (Sum Rc (List Rc))} {vs : List Value} {bs : List Nat}, (l.any fun | .inl x => rcRef x | .inr xs => xs.any rcRef) = false → RR1s ok w l vs bs → RR1s ok' w l vs bs
  | [], [], _, _, hr => hr
  | [], _ :: _, _, _, hr => hr.elim
  | _ :: _, [], _, _, hr => hr.elim
  | .inl x :: l, v :: vs, bs, h, ⟨b1, b2, e1, h1, h2⟩ => by
    simp only [List.any_cons, Bool.or_eq_false_iff] at h
    exact ⟨b1, b2, e1, rrc_any h.1 h1, rr1s_any h.2 h2⟩
  | .inr x :: l, v :: vs, bs, h, ⟨b1, b2, e1, ⟨us, h0, h1⟩, h2⟩ => by
    simp only [List.any_cons, Bool.or_eq_false_iff] at h
    exact ⟨b1, b2, e1, ⟨us, h0, rrcs_any h.1 h1⟩, rr1s_any h.2 h2⟩

theorem rrv_any {ok ok' : Nat → Prop} {r : RR} {v : Value} {bs : List Nat} (h : rrRef r = false) (hr : RRv ok w r v bs) : RRv ok' w r v bs := by
  cases r with
  | c x => exact rrc_any h hr
  | agg l => obtain ⟨vs, h0, h1⟩ := hr; exact ⟨vs, h0, rrcs_any h h1⟩
  | tup l => obtain ⟨vs, h0, h1⟩ := hr; exact ⟨vs, h0, rr1s_any h h1⟩

theorem RRcs.ext {ok ok' : Nat → Prop} (hok : ∀ b, ok b → ok' b) : ∀ {l : List Rc} {vs : List Value} {bs : List Nat}, RRcs ok w l vs bs → RRcs ok' w l vs bs
  | [], [], _, hr => hr
  | [], _ :: _, _, hr => hr.elim
  | _ :: _, [], _, hr => hr.elim
  | x :: l, v :: vs, bs, ⟨b1, b2, e1, h1, h2⟩ => ⟨b1, b2, e1, h1.ext hok, RRcs.ext hok h2⟩
theorem RR1s.ext {ok ok' : Nat → Prop} (hok : ∀ b, ok b → ok' b) : ∀ {l : List (Sum Rc (List Rc))} {vs : List Value} {bs : List Nat}, RR1s ok w l vs bs → RR1s ok' w l vs bs
  | [], [], _, hr => hr
  | [], _ :: _, _, hr => hr.elim
  | _ :: _, [], _, hr => hr.elim
  | .inl x :: l, v :: vs, bs, ⟨b1, b2, e1, h1, h2⟩ => ⟨b1, b2, e1, RRc.ext hok h1, RR1s.ext hok h2⟩
  | .inr x :: l, v :: vs, bs, ⟨b1, b2, e1, ⟨us, h0, h1⟩, h2⟩ => ⟨b1, b2, e1, ⟨us, h0, RRcs.ext hok h1⟩, RR1s.ext hok h2⟩
theorem RRv.ext {ok ok' : Nat → Prop} (hok : ∀ b, ok b → ok' b) {r : RR} {v : Value} {bs : List Nat} (hr : RRv ok w r v bs) : RRv ok' w r v bs := by
  cases r with
  | c x => exact RRc.ext hok hr
  | agg l => obtain ⟨vs, h0, h1⟩ := hr; exact ⟨vs, h0, RRcs.ext hok h1⟩
  | tup l => obtain ⟨vs, h0, h1⟩ := hr; exact ⟨vs, h0, RR1s.ext hok h1⟩

theorem rdl_of {ok : Nat → Prop} : ∀ {ds : List D} {vs : List Value}, ds.length = vs.length → (∀ (i : Nat) (d : D), ds[i]? = some d → ∃ v, vs[i]? = some v ∧ RD ok w d v) → RDList ok w ds vs
  | [], [], _, _ => by simp [RDList]
  | [], _ :: _, h, _ => by simp at h
  | _ :: _, [], h, _ => by simp at h
  | d :: ds, v :: vs, hl, h => by
    simp only [RDList]
    obtain ⟨v', hv, hd⟩ := h 0 d rfl
    simp only [List.getElem?_cons_zero, Option.some.injEq] at hv
    subst hv
    exact ⟨hd, rdl_of (by simpa using hl) fun i d' hi => by
      obtain ⟨v2, h1, h2⟩ := h (i + 1) d' (by simpa using hi)
      exact ⟨v2, by simpa using h1, h2⟩⟩

theorem argOf_ra (hM : Mem w0 ok0 e lk w) {x : AV} {v : Value} {y : A} {ts : List Nat} (hr : RV e w x v) (h : argOf lk x = some (y, ts)) {ok' : Nat → Prop} (hok : ∀ b, e.ok b → ok' b)
    (hfr : ∀ t ∈ ts, ∀ g fz k b c E, lk t = some ⟨g, fz, k⟩ → live k → e.β t g = some (b, c, E) → ok' b) : RA ok' w y v := by
  cases x with
  | c x =>
    simp only [argOf] at h
    split at h
    · rename_i d l hd
      simp only [Option.some.injEq, Prod.mk.injEq] at h
      obtain ⟨rfl, rfl⟩ := h
      exact dOf_rd hM hr hd hok (fun _ _ => rfl) (fun t ht g fz k b c E h1 h2 h3 => ⟨hfr t ht g fz k b c E h1 h2 h3, rfl⟩)
    · cases h
  | agg cs =>
    simp only [argOf] at h
    split at h
    · rename_i ds l hd
      simp only [Option.some.injEq, Prod.mk.injEq] at h
      obtain ⟨rfl, rfl⟩ := h
      obtain ⟨vs, hv, hrc⟩ := hr
      obtain ⟨g1, g2⟩ := dsOf_rd hM hrc hd (ok' := ok') (w' := w) hok (fun _ _ => rfl) (fun t ht g fz k b c E h1 h2 h3 => ⟨hfr t ht g fz k b c E h1 h2 h3, rfl⟩)
      exact ⟨vs, hv, rdl_of g1 g2⟩
    · cases h
  | tup _ => simp [argOf] at h

theorem argOf_live {x : AV} {y : A} {ts : List Nat} (h : argOf lk x = some (y, ts)) : ∀ t ∈ ts, ∃ g fz k, lk t = some ⟨g, fz, k⟩ ∧ live k := by
  cases x with
  | c x =>
    simp only [argOf] at h
    split at h
    · rename_i d l hd
      simp only [Option.some.injEq, Prod.mk.injEq] at h
      obtain ⟨rfl, rfl⟩ := h
      exact dOf_live hd
    · cases h
  | agg cs =>
    simp only [argOf] at h
    split at h
    · rename_i ds l hd
      simp only [Option.some.injEq, Prod.mk.injEq] at h
      obtain ⟨rfl, rfl⟩ := h
      exact dsOf_live hd
    · cases h
  | tup _ => simp [argOf] at h

theorem argsOf_ra (hM : Mem w0 ok0 e lk w) (hev : ∀ x, RV e w (ev x) (a.eval x)) : ∀ (xs : List Operand) {ys : List A} {ts : List Nat}, argsOf lk (xs.map ev) = some (ys, ts) →
    (∀ t ∈ ts, ∃ g fz k, lk t = some ⟨g, fz, k⟩ ∧ live k) ∧ ∀ {ok' : Nat → Prop}, (∀ b, e.ok b → ok' b) →
    (∀ t ∈ ts, ∀ g fz k b c E, lk t = some ⟨g, fz, k⟩ → live k → e.β t g = some (b, c, E) → ok' b) → RAs ok' w ys (xs.map a.eval)
  | [], ys, ts, h => by
    simp only [List.map_nil, argsOf, Option.some.injEq, Prod.mk.injEq] at h
    obtain ⟨rfl, rfl⟩ := h
    exact ⟨fun t ht => by simp at ht, fun _ _ => trivial⟩
  | x :: xs, ys, ts, h => by
    simp only [List.map_cons, argsOf] at h
    split at h
    · rename_i y l ys' ls h1 h2
      simp only [Option.some.injEq, Prod.mk.injEq] at h
      obtain ⟨rfl, rfl⟩ := h
      obtain ⟨g1, g2⟩ := argsOf_ra hM hev xs h2
      refine ⟨fun t ht => ?_, fun hok hfr => ⟨argOf_ra hM (hev x) h1 hok (fun t ht => hfr t (by simp [ht])), g2 hok (fun t ht => hfr t (by simp [ht]))⟩⟩
      rcases List.mem_append.1 ht with ht | ht
      · exact argOf_live h1 t ht
      · exact g1 t ht
    · cases h

def Enters (P : Program) (g : FuncId) : Prop := ∃ fn, P.funcs[g]? = some fn ∧ (fn.name == "runtime.NumGoroutine") = false ∧ fn.body.isNone = false

theorem run_callFunc {g : FuncId} (h : Enters P g) (args : Array Value) : (callFunc g args).run P w = .ok (.enter g args) w := by
  obtain ⟨fn, h1, h2, h3⟩ := h
  unfold callFunc
  simp only [Sem.run_bind, run_program, Result.andThen_ok, h1, h2, h3, Bool.false_eq_true, if_false, Sem.run_pure]

theorem ras_app {ok : Nat → Prop} : ∀ {as bs : List A} {us vs : List Value}, RAs ok w as us → RAs ok w bs vs → RAs ok w (as ++ bs) (us ++ vs)
  | [], _, [], _, _, h => h
  | [], _, _ :: _, _, h, _ => h.elim
  | _ :: _, _, [], _, h, _ => h.elim
  | _ :: _, _, _ :: _, _, h, k => ⟨h.1, ras_app h.2 k⟩
theorem ras_caps {ok : Nat → Prop} : ∀ {ds : List D} {vs : List Value}, RDList ok w ds vs → RAs ok w (ds.map .c) vs
  | [], [], _ => trivial
  | [], _ :: _, h => by simp [RDList] at h
  | _ :: _, [], h => by simp [RDList] at h
  | _ :: _, _ :: _, h => by simp only [RDList] at h; exact ⟨h.1, ras_caps h.2⟩

theorem fits_call (hM : Mem w0 ok0 e lk w) (hev : ∀ x, RV e w (ev x) (a.eval x)) {fo : Operand} {args : Array Operand} {ts0 : Array TypeId} (ho : o.op = .call { callee := .value fo, args := args, argTypes := ts0 })
    (hcall : ∀ g as r, cx.call g as = some r → ACalls P g as r ∧ Enters P g) (he : eff cx ev lk T (.call fo args.toList) = some f) : Fits P w0 ok0 e lk w o a f := by
  simp only [eff] at he
  split at he
  · rename_i g caps hf
    split at he
    · cases he
    · split at he
      · rename_i as ts has
        unfold callE at he
        split at he
        · rename_i r hr
          simp only [Option.some.injEq] at he; subst he
          obtain ⟨hc, hent⟩ := hcall g _ r hr
          have hfv := hev fo
          rw [hf] at hfv
          simp only [RV, RC, RD] at hfv
          obtain ⟨cv, hcv, hcr⟩ := hfv
          obtain ⟨hlive, hras⟩ := argsOf_ra hM hev args.toList has
          have hrun : (execOp a.eval o).run P w = .ok (.enter g (args.toList.map a.eval ++ cv).toArray) w := by
            simp only [execOp, ho, resolve, hcv, Deferred.ofValue, Sem.run_bind, Sem.run_pure, Result.andThen_ok, invoke, run_callFunc hent]
            congr 2
            apply Array.ext'
            simp
          have hargs : ∀ {ok' : Nat → Prop}, (∀ b, e.ok b → ok' b) → (∀ t ∈ ts, ∀ g fz k b c E, lk t = some ⟨g, fz, k⟩ → live k → e.β t g = some (b, c, E) → ok' b) → RAs ok' w (as ++ caps.map .c) (args.toList.map a.eval ++ cv) := by
            intro ok' h1 h2
            refine ras_app (hras h1 h2) (ras_caps ?_)
            exact RDList.mono h1 (fun _ _ => rfl) _ _ hcr
          intro K Q hK
          unfold Oper.wp
          rw [hrun]
          simp only [Oper.upon]
          cases href : rrRef r with
          | false =>
            rw [href] at hK
            simp only [Bool.false_eq_true, if_false, List.nil_append] at hK
            have hlt : ∀ b, (e.ok b ∨ ∃ t ∈ ts, ∃ g fz k c E, lk t = some ⟨g, fz, k⟩ ∧ live k ∧ e.β t g = some (b, c, E)) → b < w.heap.size := by
              rintro b (hb | ⟨t, ht, g, fz, k, c, E, h1, h2, h3⟩)
              · exact hM.okl b hb
              · exact hM.blk_lt h1 h2 h3
            refine (hc w _ _ hlt hM.glw (hargs (fun b h => .inl h) (fun t ht g fz k b c E h1 h2 h3 => .inr ⟨t, ht, g, fz, k, c, E, h1, h2, h3⟩))).mono ?_
            rintro en w' ⟨v, ok', bs, rfl, hb, ho1, ho2, hrv, hnd, hbs⟩
            obtain ⟨hx1, hM1⟩ := hM.called hb (fun _ => False) (fun _ h => h.elim)
            obtain ⟨e2, hx2, hM2, hrv2⟩ := imp_fits r T (e.more fun _ => False) lk lk v bs hM1 (fun _ => rfl) (rrv_any href hrv) hnd (fun b hbm => by
              obtain ⟨q1, q2, q3⟩ := hbs b hbm
              refine ⟨fun h => ?_, Nat.le_trans hM.bel.size q2, fun h => ?_⟩
              · rcases h with h | h
                · have := hM.okl b h; omega
                · exact h
              · rcases h with ⟨t, g, fz, k, c, E, h1, h2, h3⟩ | h
                · have := hM.blk_lt h1 h2 h3; omega
                · have := (hM.ob b h).1; omega)
            exact hK e2 w' v (hx1.trans hx2) hM2 hrv2
          | true =>
            rw [href] at hK
            simp only [if_true] at hK
            obtain ⟨e1, hx1, hM1, hβ, hG, hok, hlkk⟩ := Mem.freezeL lk ts e lk hM (fun t g fz k h => ⟨fz, h⟩) hlive
            refine (hc w _ e1.ok hM1.okl hM.glw (hargs hx1.ok (fun t ht g fz k b c E h1 h2 h3 => hok t ht g fz k b c E h1 h3))).mono ?_
            rintro en w' ⟨v, ok', bs, rfl, hb, ho1, ho2, hrv, hnd, hbs⟩
            obtain ⟨hx2, hM2⟩ := hM1.called hb (fun b => ok' b ∧ w.heap.size ≤ b) (fun b h => ⟨h.2, ho1 b h.1⟩)
            obtain ⟨e3, hx3, hM3, hrv3⟩ := imp_fits r T (e1.more fun b => ok' b ∧ w.heap.size ≤ b) (updF lk (freeze lk ts)) lk v bs hM2 (fun t => by rw [← hM1.gen t, hG, hM.gen t]) (hrv.ext (fun b h => by
              rcases ho2 b h with h' | h'
              · exact .inl h'
              · exact .inr ⟨h, h'⟩)) hnd (fun b hbm => by
              obtain ⟨q1, q2, q3⟩ := hbs b hbm
              refine ⟨fun h => ?_, Nat.le_trans hM.bel.size q2, fun h => ?_⟩
              · rcases h with h | h
                · have := hM1.okl b h; omega
                · exact q1 h.1
              · rcases h with ⟨t, g, fz, k, c, E, h1, h2, h3⟩ | h
                · have := hM1.blk_lt h1 h2 h3; omega
                · have := (hM1.ob b h).1; omega)
            refine hK e3 w' v (hx1.trans (hx2.trans hx3)) ?_ hrv3
            rw [updF_app]; exact hM3
        · cases he
      · cases he
  · cases he
end

end Go.Proofs.YtmmlolampgnamaaDoor.Ax
