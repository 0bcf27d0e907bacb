/- Memory behind the abstract interpreter: what a state stands for, and how it turns. -/
import Derived.Test.YtmmlolampgnamaaDoorAx1
import Derived.Laws.CopyRow
namespace Go.Proofs.YtmmlolampgnamaaDoor.Ax
open Go.RowKit

/-- None of so many cells is frozen. -/
def frOK (fr : Nat × Nat) (n : Nat) : Prop := n ≤ fr.1 ∨ fr = (0, 0)
theorem frOK.no {fr : Nat × Nat} {n i : Nat} (h : frOK fr n) (hi : i < n) : ¬ (fr.1 ≤ i ∧ i < fr.2) := by
  rcases h with h | rfl
  · omega
  · simp
/-- A row of cells, none of them frozen. -/
def HC (w : World) (b : Nat) (cs : Array Value) (ty : TypeId) : Prop := ∃ fr, frOK fr cs.size ∧ w.heap[b]? = some (.cells cs ty fr)
theorem HC.lt {w : World} {b : Nat} {cs : Array Value} {ty : TypeId} (h : HC w b cs ty) : b < w.heap.size := by
  obtain ⟨fr, _, h⟩ := h
  exact (Array.getElem?_eq_some_iff.1 h).1
def ArrOK (ok : Nat → Prop) (w : World) (β : Option (Nat × Nat × Nat × Nat)) (E : Nat) (rows : List (List D)) : Prop :=
  match β with
  | none => rows = []
  | some (b, c, E') => E' = (E, rows.length) ∧ 0 < E ∧ ∃ cs ty, HC w b cs ty ∧ cs.size = c * E ∧ rows.length ≤ c ∧ RDRows ok w ⟨b, 0, none⟩ E rows 0

def BoxOK (e : En) (w : World) (β : Option (Nat × Nat × Nat × Nat)) (cells : List Cl) : Prop :=
  ∃ b c E cs ty, β = some (b, c, E) ∧ w.heap[b]? = some (.cells cs ty (0, 0)) ∧ RCs e w cells cs.toList

def IterOK (w : World) (β : Option (Nat × Nat × Nat × Nat)) (s : ByteArray) (pos : Nat) : Prop :=
  ∃ b c E, β = some (b, c, E) ∧ w.heap[b]? = some (.stringIter s pos)

def live (k : BK) : Prop := k ≠ .dead

structure Mem (w0 : World) (ok0 : Ctx0) (e : En) (lk : Nat → Option Blk) (w : World) : Prop where
  gen : ∀ t, e.G t = genOf lk t
  arr : ∀ t g fz E rows, lk t = some ⟨g, fz, .arr E rows⟩ → ArrOK e.ok w (e.β t g) E rows
  box : ∀ t g fz cells, lk t = some ⟨g, fz, .box cells⟩ → BoxOK e w (e.β t g) cells
  frz : ∀ t g k b c E, lk t = some ⟨g, true, k⟩ → live k → e.β t g = some (b, c, E) → e.ok b
  own : ∀ t g k b c E, lk t = some ⟨g, false, k⟩ → live k → e.β t g = some (b, c, E) → ¬ e.ok b ∧ w0.heap.size ≤ b ∧ b < w.heap.size
  inj : ∀ t g k b c E t' g' k' c' E', lk t = some ⟨g, false, k⟩ → live k → e.β t g = some (b, c, E) → lk t' = some ⟨g', false, k'⟩ → live k' → e.β t' g' = some (b, c', E') → t = t'
  okl : ∀ b, e.ok b → b < w.heap.size
  okr : ∀ b, e.ok b → ok0.ok b ∨ w0.heap.size ≤ b
  bel : Below w0.heap.size w0 w
  iter : ∀ t g fz s pos, lk t = some ⟨g, fz, .iter s pos⟩ → IterOK w (e.β t g) s pos
  gl : Gl w0
  j : ok0.J e w
  ob : ∀ b, e.ob b → b < w.heap.size ∧ ¬ e.ok b ∧ w0.heap.size ≤ b
  own2 : ∀ t g k b c E, lk t = some ⟨g, false, k⟩ → live k → e.β t g = some (b, c, E) → ¬ e.ob b

theorem Mem.glw {w0 w : World} {ok0 : Ctx0} {e : En} {lk : Nat → Option Blk} (hM : Mem w0 ok0 e lk w) : Gl w := hM.gl.below hM.bel
theorem genOf_at {lk : Nat → Option Blk} {t : Nat} {B : Blk} (h : lk t = some B) : genOf lk t = B.g := by
  unfold genOf; rw [h]

theorem ArrOK.ext {ok ok' : Nat → Prop} {w w' : World} {β : Option (Nat × Nat × Nat × Nat)} {E : Nat} {rows : List (List D)} (h : ArrOK ok w β E rows)
    (hok : ∀ b, ok b → ok' b) (hw : ∀ b, ok b → w'.heap[b]? = w.heap[b]?) (hb : ∀ b c E, β = some (b, c, E) → w'.heap[b]? = w.heap[b]?) : ArrOK ok' w' β E rows := by
  cases β with
  | none => exact h
  | some q =>
    obtain ⟨b, c, E'⟩ := q
    obtain ⟨h1, h2, cs, ty, h3, h4, h5, h6⟩ := h
    have := hb b c E' rfl
    exact ⟨h1, h2, cs, ty, (let ⟨fr, q1, q2⟩ := h3; ⟨fr, q1, this.trans q2⟩), h4, h5, RDRows.mono hok hw ⟨b, 0, none⟩ this E rows 0 h6⟩

theorem BoxOK.ext {e e' : En} {w w' : World} {β : Option (Nat × Nat × Nat × Nat)} {cells : List Cl} (h : BoxOK e w β cells) (hx : Ext e w e' w')
    (hb : ∀ b c E, β = some (b, c, E) → w'.heap[b]? = w.heap[b]?) : BoxOK e' w' β cells := by
  obtain ⟨b, c, E, cs, ty, h1, h2, h3⟩ := h
  exact ⟨b, c, E, cs, ty, h1, (hb b c E h1).trans h2, RCs.ext hx h3⟩

theorem IterOK.ext {w w' : World} {β : Option (Nat × Nat × Nat × Nat)} {s : ByteArray} {pos : Nat} (h : IterOK w β s pos)
    (hb : ∀ b c E, β = some (b, c, E) → w'.heap[b]? = w.heap[b]?) : IterOK w' β s pos := by
  obtain ⟨b, c, E, h1, h2⟩ := h
  exact ⟨b, c, E, h1, (hb b c E h1).trans h2⟩

section
variable {w0 w w' : World} {ok0 : Ctx0} {e e' : En} {lk lk' : Nat → Option Blk}

theorem Mem.at_ (hM : Mem w0 ok0 e lk w) (hx : Ext e w e' w') {t g : Nat} {fz : Bool} {k : BK} (h : lk t = some ⟨g, fz, k⟩) : e'.β t g = e.β t g :=
  hx.β t g (by rw [hM.gen t, genOf_at h]; exact Nat.le_refl _)

/-- One tag turns; every other block is as it was. -/
theorem Mem.upd1 (hM : Mem w0 ok0 e lk w) (hx : Ext e w e' w') (T : Nat) (B : Blk) (hlk : ∀ t, lk' t = if t = T then some B else lk t)
    (hG : ∀ t, e'.G t = if t = T then B.g else e.G t) (hok : ∀ b, e'.ok b ↔ e.ok b)
    (hheap : ∀ t g fz k b c E, t ≠ T → lk t = some ⟨g, fz, k⟩ → live k → e.β t g = some (b, c, E) → w'.heap[b]? = w.heap[b]?)
    (hsz : w.heap.size ≤ w'.heap.size)
    (harr : ∀ E rows, B.k = .arr E rows → ArrOK e'.ok w' (e'.β T B.g) E rows)
    (hbox : ∀ cells, B.k = .box cells → BoxOK e' w' (e'.β T B.g) cells)
    (hfz : B.fz = true → live B.k → ∀ b c E, e'.β T B.g = some (b, c, E) → e'.ok b)
    (hown : B.fz = false → live B.k → ∀ b c E, e'.β T B.g = some (b, c, E) → (¬ e.ok b ∧ ¬ e.ob b) ∧ w0.heap.size ≤ b ∧ b < w'.heap.size ∧
      ∀ t g k c' E', t ≠ T → lk t = some ⟨g, false, k⟩ → live k → e.β t g = some (b, c', E') → False)
    (hbel : Below w0.heap.size w0 w') (hit : ∀ s pos, B.k = .iter s pos → IterOK w' (e'.β T B.g) s pos := by intro s pos h; cases h) (hob : ∀ b, e'.ob b ↔ e.ob b := by intro b; exact Iff.rfl) : Mem w0 ok0 e' lk' w' := by
  have other : ∀ t, t ≠ T → lk' t = lk t := fun t ht => by rw [hlk, if_neg ht]
  have same : lk' T = some B := by rw [hlk, if_pos rfl]
  refine ⟨fun t => ?_, ?_, ?_, ?_, ?_, ?_, fun b hb => Nat.lt_of_lt_of_le (hM.okl b ((hok b).1 hb)) hsz, fun b hb => hM.okr b ((hok b).1 hb), hbel, ?_, hM.gl, ok0.mono hx.toO hM.j, fun b hb => (let ⟨q1, q2, q3⟩ := hM.ob b ((hob b).1 hb); ⟨Nat.lt_of_lt_of_le q1 hsz, fun h => q2 ((hok b).1 h), q3⟩), ?_⟩
  · rw [hG]
    by_cases ht : t = T
    · rw [if_pos ht, ht, genOf_at same]
    · rw [if_neg ht, hM.gen t]; unfold genOf; rw [other t ht]
  · intro t g fz E rows h
    by_cases ht : t = T
    · subst ht; rw [same] at h; obtain rfl := Option.some.inj h; exact harr E rows rfl
    · rw [other t ht] at h
      rw [hM.at_ hx h]
      exact (hM.arr t g fz E rows h).ext (fun b => (hok b).2) hx.heap (fun b c E' hb => hheap t g fz _ b c E' ht h (by simp [live]) hb)
  · intro t g fz cells h
    by_cases ht : t = T
    · subst ht; rw [same] at h; obtain rfl := Option.some.inj h; exact hbox cells rfl
    · rw [other t ht] at h
      rw [hM.at_ hx h]
      exact (hM.box t g fz cells h).ext hx (fun b c E' hb => hheap t g fz _ b c E' ht h (by simp [live]) hb)
  · intro t g k b c E h hk hb
    by_cases ht : t = T
    · subst ht; rw [same] at h; obtain rfl := Option.some.inj h; exact hfz rfl hk b c E hb
    · rw [other t ht] at h; rw [hM.at_ hx h] at hb
      exact (hok b).2 (hM.frz t g k b c E h hk hb)
  · intro t g k b c E h hk hb
    by_cases ht : t = T
    · subst ht; rw [same] at h; obtain rfl := Option.some.inj h
      obtain ⟨h1, h2, h3, _⟩ := hown rfl hk b c E hb
      exact ⟨fun h => h1.1 ((hok b).1 h), h2, h3⟩
    · rw [other t ht] at h; rw [hM.at_ hx h] at hb
      obtain ⟨h1, h2, h3⟩ := hM.own t g k b c E h hk hb
      exact ⟨fun h => h1 ((hok b).1 h), h2, Nat.lt_of_lt_of_le h3 hsz⟩
  · intro t g k b c E t' g' k' c' E' h hk hb h' hk' hb'
    by_cases ht : t = T
    · subst ht
      rw [same] at h; obtain rfl := Option.some.inj h
      by_cases ht' : t' = t
      · exact ht'.symm
      · rw [other t' ht'] at h'; rw [hM.at_ hx h'] at hb'
        exact ((hown rfl hk b c E hb).2.2.2 t' g' k' c' E' ht' h' hk' hb').elim
    · rw [other t ht] at h; rw [hM.at_ hx h] at hb
      by_cases ht' : t' = T
      · subst ht'
        rw [same] at h'; obtain rfl := Option.some.inj h'
        exact ((hown rfl hk' b c' E' hb').2.2.2 t g k c E ht h hk hb).elim
      · rw [other t' ht'] at h'; rw [hM.at_ hx h'] at hb'
        exact hM.inj t g k b c E t' g' k' c' E' h hk hb h' hk' hb'
  · intro t g fz s pos h
    by_cases ht : t = T
    · subst ht; rw [same] at h; obtain rfl := Option.some.inj h; exact hit s pos rfl
    · rw [other t ht] at h
      rw [hM.at_ hx h]
      exact (hM.iter t g fz s pos h).ext (fun b c E' hb => hheap t g fz _ b c E' ht h (by simp [live]) hb)
  · intro t g k b c E h hk hb
    by_cases ht : t = T
    · subst ht; rw [same] at h; obtain rfl := Option.some.inj h
      obtain ⟨h1, _⟩ := hown rfl hk b c E hb
      exact fun h => h1.2 ((hob b).1 h)
    · rw [other t ht] at h; rw [hM.at_ hx h] at hb
      exact fun h' => hM.own2 t g k b c E h hk hb ((hob b).1 h')

/-- Memory where something has been drawn, or marked, and nothing else. -/
theorem Mem.drew (hM : Mem w0 ok0 e lk w) : Mem w0 ok0 e lk w.drew := by
  have hx : Ext e w e w.drew := ⟨fun _ _ _ => rfl, fun _ => Nat.le_refl _, fun _ h => h, fun _ _ => rfl, fun _ h => ⟨h, rfl⟩⟩
  exact ⟨hM.gen, fun t g fz E rows h => (hM.arr t g fz E rows h).ext (fun _ h => h) hx.heap (fun _ _ _ _ => rfl),
    fun t g fz cells h => (hM.box t g fz cells h).ext hx (fun _ _ _ _ => rfl), hM.frz, hM.own, hM.inj, hM.okl, hM.okr, hM.bel.drew, fun t g fz s pos h => (hM.iter t g fz s pos h).ext (fun _ _ _ _ => rfl), hM.gl, ok0.mono hx.toO hM.j, hM.ob, hM.own2⟩
theorem Ext.drew (e : En) (w : World) : Ext e w e w.drew := ⟨fun _ _ _ => rfl, fun _ => Nat.le_refl _, fun _ h => h, fun _ _ => rfl, fun _ h => ⟨h, rfl⟩⟩

/-- The memory's words behind a new tag. -/
def En.with_ (e : En) (lk : Nat → Option Blk) (T b c : Nat) (E : Nat × Nat) : En where
  β := fun t g => if t = T ∧ g = genOf lk T + 1 then some (b, c, E) else e.β t g
  G := fun t => if t = T then genOf lk T + 1 else e.G t
  ok := e.ok
  ob := e.ob
/-- A new tag that stands for no block: a slice that is nil. -/
def En.none_ (e : En) (lk : Nat → Option Blk) (T : Nat) : En where
  β := fun t g => if t = T ∧ g = genOf lk T + 1 then none else e.β t g
  G := fun t => if t = T then genOf lk T + 1 else e.G t
  ok := e.ok
  ob := e.ob

theorem En.with_ext (hM : Mem w0 ok0 e lk w) (T b c : Nat) (E : Nat × Nat) (hw : ∀ b, e.ok b → w'.heap[b]? = w.heap[b]?) (hwo : ∀ b, e.ob b → w'.heap[b]? = w.heap[b]?) : Ext e w (e.with_ lk T b c E) w' := by
  refine ⟨fun t g hg => ?_, fun t => ?_, fun _ h => h, hw, fun b h => ⟨h, hwo b h⟩⟩
  · show (if t = T ∧ g = genOf lk T + 1 then _ else _) = _
    rw [if_neg]
    rintro ⟨rfl, rfl⟩
    rw [hM.gen t] at hg
    omega
  · show e.G t ≤ if t = T then _ else _
    split
    · rename_i h; rw [hM.gen t, h]; omega
    · exact Nat.le_refl _
theorem En.none_ext (hM : Mem w0 ok0 e lk w) (T : Nat) (hw : ∀ b, e.ok b → w'.heap[b]? = w.heap[b]?) (hwo : ∀ b, e.ob b → w'.heap[b]? = w.heap[b]?) : Ext e w (e.none_ lk T) w' := by
  refine ⟨fun t g hg => ?_, fun t => ?_, fun _ h => h, hw, fun b h => ⟨h, hwo b h⟩⟩
  · show (if t = T ∧ g = genOf lk T + 1 then _ else _) = _
    rw [if_neg]
    rintro ⟨rfl, rfl⟩
    rw [hM.gen t] at hg
    omega
  · show e.G t ≤ if t = T then _ else _
    split
    · rename_i h; rw [hM.gen t, h]; omega
    · exact Nat.le_refl _
theorem En.with_at (T b c : Nat) (E : Nat × Nat) : (e.with_ lk T b c E).β T (genOf lk T + 1) = some (b, c, E) := by simp [En.with_]
theorem En.none_at (T : Nat) : (e.none_ lk T).β T (genOf lk T + 1) = none := by simp [En.none_]

theorem heap_lt {w : World} {b : Nat} {o : Obj} (h : w.heap[b]? = some o) : b < w.heap.size := (Array.getElem?_eq_some_iff.1 h).1
theorem alloc_new (w : World) (o : Obj) : (w.alloc o).heap[w.heap.size]? = some o := by
  show (w.heap.push o)[w.heap.size]? = some o
  simp

theorem Mem.blk_lt (hM : Mem w0 ok0 e lk w) {t g : Nat} {fz : Bool} {k : BK} {b c : Nat} {E : Nat × Nat} (h : lk t = some ⟨g, fz, k⟩) (hk : live k) (hb : e.β t g = some (b, c, E)) : b < w.heap.size := by
  cases fz with
  | true => exact hM.okl b (hM.frz t g k b c E h hk hb)
  | false => exact (hM.own t g k b c E h hk hb).2.2

/-- A new block of a variable. -/
theorem Mem.newBox (hM : Mem w0 ok0 e lk w) (T : Nat) (cells : List Cl) (vs : List Value) (ty : TypeId) (hc : RCs e w cells vs)
    (hlk : ∀ t, lk' t = if t = T then some ⟨genOf lk T + 1, false, .box cells⟩ else lk t) :
    Ext e w (e.with_ lk T w.heap.size 1 (1, 0)) (w.alloc (.cells vs.toArray ty)) ∧ Mem w0 ok0 (e.with_ lk T w.heap.size 1 (1, 0)) lk' (w.alloc (.cells vs.toArray ty)) := by
  have hold : ∀ b, b < w.heap.size → (w.alloc (.cells vs.toArray ty)).heap[b]? = w.heap[b]? := fun b hb => Below.heap_alloc _ _ _ hb
  have hx : Ext e w (e.with_ lk T w.heap.size 1 (1, 0)) (w.alloc (.cells vs.toArray ty)) := En.with_ext hM T _ _ _ (fun b hb => hold b (hM.okl b hb)) (fun b hb => hold b (hM.ob b hb).1)
  refine ⟨hx, hM.upd1 hx T ⟨genOf lk T + 1, false, .box cells⟩ hlk (fun t => rfl) (fun b => Iff.rfl) (fun t g fz k b c E _ h hk hb => hold b (hM.blk_lt h hk hb)) (by simp) (fun E rows h => by cases h)
    (fun cells' h => ?_) (fun h => by cases h) (fun _ _ b c E hb => ?_) (hM.bel.alloc hM.bel.size _)⟩
  · cases h
    exact ⟨_, _, _, vs.toArray, ty, En.with_at T _ _ _, alloc_new _ _, RCs.ext hx hc⟩
  · rw [show (e.with_ lk T w.heap.size 1 (1, 0)).β T (⟨genOf lk T + 1, false, BK.box cells⟩ : Blk).g = some (w.heap.size, 1, 1, 0) from En.with_at T _ _ _] at hb
    obtain ⟨rfl, rfl, rfl⟩ : w.heap.size = b ∧ 1 = c ∧ (1, 0) = E := by simpa using hb
    refine ⟨⟨fun h => absurd (hM.okl _ h) (Nat.lt_irrefl _), fun h => absurd (hM.ob _ h).1 (Nat.lt_irrefl _)⟩, hM.bel.size, by simp, fun t g k c' E' _ h hk hb' => ?_⟩
    exact absurd (hM.blk_lt h hk hb') (Nat.lt_irrefl _)

theorem add_lit (b o n : Nat) : Addr.add ⟨b, o, none⟩ n = ⟨b, o + n, none⟩ := by
  unfold Addr.add
  split
  · subst_vars; rfl
  · rfl

/-- A new block of a slice. -/
theorem Mem.newArrF (fr : Nat × Nat) (hM : Mem w0 ok0 e lk w) (T E c : Nat) (rows : List (List D)) (cs : Array Value) (ty : TypeId) (hfr : frOK fr cs.size) (hE : 0 < E) (hs : cs.size = c * E) (hr : rows.length ≤ c)
    (hrd : ∀ (i : Nat) (r : List D), rows[i]? = some r → r.length = E ∧ ∀ (j : Nat) (x : D), r[j]? = some x → ∃ u, cs[i * E + j]? = some u ∧ RD e.ok w x u)
    (hlk : ∀ t, lk' t = if t = T then some ⟨genOf lk T + 1, false, .arr E rows⟩ else lk t) :
    Ext e w (e.with_ lk T w.heap.size c (E, rows.length)) (w.alloc (.cells cs ty fr)) ∧ Mem w0 ok0 (e.with_ lk T w.heap.size c (E, rows.length)) lk' (w.alloc (.cells cs ty fr)) := by
  have hold : ∀ b, b < w.heap.size → (w.alloc (.cells cs ty fr)).heap[b]? = w.heap[b]? := fun b hb => Below.heap_alloc _ _ _ hb
  have hx : Ext e w (e.with_ lk T w.heap.size c (E, rows.length)) (w.alloc (.cells cs ty fr)) := En.with_ext hM T _ _ _ (fun b hb => hold b (hM.okl b hb)) (fun b hb => hold b (hM.ob b hb).1)
  refine ⟨hx, hM.upd1 hx T ⟨genOf lk T + 1, false, .arr E rows⟩ hlk (fun t => rfl) (fun b => Iff.rfl) (fun t g fz k b c E _ h hk hb => hold b (hM.blk_lt h hk hb)) (by simp) (fun E' rows' h => ?_)
    (fun cells' h => by cases h) (fun h => by cases h) (fun _ _ b c' E' hb => ?_) (hM.bel.alloc hM.bel.size _)⟩
  · cases h
    rw [show (e.with_ lk T w.heap.size c (E, rows.length)).β T (⟨genOf lk T + 1, false, BK.arr E rows⟩ : Blk).g = some (w.heap.size, c, E, rows.length) from En.with_at T _ _ _]
    refine ⟨rfl, hE, cs, ty, ⟨fr, hfr, alloc_new _ _⟩, hs, hr, RDRows.of fun i r hi => ?_⟩
    obtain ⟨h1, h2⟩ := hrd i r hi
    refine ⟨h1, RDRow.of fun j x hj => ?_⟩
    obtain ⟨u, hu, hd⟩ := h2 j x hj
    refine ⟨u, ?_, RD.ext hx hd⟩
    rw [add_lit, Nat.zero_add, Nat.zero_add]
    simp only [World.cell?, alloc_new]
    simpa using hu
  · rw [show (e.with_ lk T w.heap.size c (E, rows.length)).β T (⟨genOf lk T + 1, false, BK.arr E rows⟩ : Blk).g = some (w.heap.size, c, E, rows.length) from En.with_at T _ _ _] at hb
    obtain ⟨rfl, rfl, rfl⟩ : w.heap.size = b ∧ c = c' ∧ (E, rows.length) = E' := by simpa using hb
    refine ⟨⟨fun h => absurd (hM.okl _ h) (Nat.lt_irrefl _), fun h => absurd (hM.ob _ h).1 (Nat.lt_irrefl _)⟩, hM.bel.size, by simp, fun t g k c' E' _ h hk hb' => ?_⟩
    exact absurd (hM.blk_lt h hk hb') (Nat.lt_irrefl _)

theorem Mem.newArr (hM : Mem w0 ok0 e lk w) (T E c : Nat) (rows : List (List D)) (cs : Array Value) (ty : TypeId) (hE : 0 < E) (hs : cs.size = c * E) (hr : rows.length ≤ c)
    (hrd : ∀ (i : Nat) (r : List D), rows[i]? = some r → r.length = E ∧ ∀ (j : Nat) (x : D), r[j]? = some x → ∃ u, cs[i * E + j]? = some u ∧ RD e.ok w x u)
    (hlk : ∀ t, lk' t = if t = T then some ⟨genOf lk T + 1, false, .arr E rows⟩ else lk t) :
    Ext e w (e.with_ lk T w.heap.size c (E, rows.length)) (w.alloc (.cells cs ty)) ∧ Mem w0 ok0 (e.with_ lk T w.heap.size c (E, rows.length)) lk' (w.alloc (.cells cs ty)) :=
  hM.newArrF (0, 0) T E c rows cs ty (.inr rfl) hE hs hr hrd hlk

/-- A slice of the call's own that is nil. -/
theorem Mem.newNil (hM : Mem w0 ok0 e lk w) (T E : Nat) (hlk : ∀ t, lk' t = if t = T then some ⟨genOf lk T + 1, false, .arr E []⟩ else lk t) :
    Ext e w (e.none_ lk T) w ∧ Mem w0 ok0 (e.none_ lk T) lk' w := by
  have hx : Ext e w (e.none_ lk T) w := En.none_ext hM T (fun _ _ => rfl) (fun _ _ => rfl)
  refine ⟨hx, hM.upd1 hx T ⟨genOf lk T + 1, false, .arr E []⟩ hlk (fun t => rfl) (fun b => Iff.rfl) (fun _ _ _ _ _ _ _ _ _ _ _ => rfl) (Nat.le_refl _) (fun E' rows' h => ?_)
    (fun cells' h => by cases h) (fun h => by cases h) (fun _ _ b c' E' hb => ?_) hM.bel⟩
  · cases h
    rw [show (e.none_ lk T).β T (⟨genOf lk T + 1, false, BK.arr E []⟩ : Blk).g = none from En.none_at T]
    rfl
  · rw [show (e.none_ lk T).β T (⟨genOf lk T + 1, false, BK.arr E []⟩ : Blk).g = none from En.none_at T] at hb
    cases hb

/-- A new iterator over a string. -/
theorem Mem.newIter (hM : Mem w0 ok0 e lk w) (T : Nat) (s : ByteArray) (hlk : ∀ t, lk' t = if t = T then some ⟨genOf lk T + 1, false, .iter s 0⟩ else lk t) :
    Ext e w (e.with_ lk T w.heap.size 1 (1, 0)) (w.alloc (.stringIter s 0)) ∧ Mem w0 ok0 (e.with_ lk T w.heap.size 1 (1, 0)) lk' (w.alloc (.stringIter s 0)) := by
  have hold : ∀ b, b < w.heap.size → (w.alloc (.stringIter s 0)).heap[b]? = w.heap[b]? := fun b hb => Below.heap_alloc _ _ _ hb
  have hx : Ext e w (e.with_ lk T w.heap.size 1 (1, 0)) (w.alloc (.stringIter s 0)) := En.with_ext hM T _ _ _ (fun b hb => hold b (hM.okl b hb)) (fun b hb => hold b (hM.ob b hb).1)
  refine ⟨hx, hM.upd1 hx T ⟨genOf lk T + 1, false, .iter s 0⟩ hlk (fun t => rfl) (fun b => Iff.rfl) (fun t g fz k b c E _ h hk hb => hold b (hM.blk_lt h hk hb)) (by simp) (fun E rows h => by cases h)
    (fun cells' h => by cases h) (fun h => by cases h) (fun _ _ b c E hb => ?_) (hM.bel.alloc hM.bel.size _) (fun s' pos h => ?_)⟩
  · rw [show (e.with_ lk T w.heap.size 1 (1, 0)).β T (⟨genOf lk T + 1, false, BK.iter s 0⟩ : Blk).g = some (w.heap.size, 1, 1, 0) from En.with_at T _ _ _] at hb
    obtain ⟨rfl, rfl, rfl⟩ : w.heap.size = b ∧ 1 = c ∧ (1, 0) = E := by simpa using hb
    refine ⟨⟨fun h => absurd (hM.okl _ h) (Nat.lt_irrefl _), fun h => absurd (hM.ob _ h).1 (Nat.lt_irrefl _)⟩, hM.bel.size, by simp, fun t g k c' E' _ h hk hb' => ?_⟩
    exact absurd (hM.blk_lt h hk hb') (Nat.lt_irrefl _)
  · cases h
    exact ⟨_, _, _, En.with_at T _ _ _, alloc_new _ _⟩

def iterAt (w : World) (k : Nat) (s : ByteArray) (pos : Nat) : World := { w with heap := w.heap.setIfInBounds k (.stringIter s pos) }
theorem iterAt_other (w : World) (k : Nat) (s : ByteArray) (pos x : Nat) (h : x ≠ k) : (iterAt w k s pos).heap[x]? = w.heap[x]? := by
  simp only [iterAt, Array.getElem?_setIfInBounds]
  rw [if_neg (fun h' => h h'.symm)]
theorem iterAt_size (w : World) (k : Nat) (s : ByteArray) (pos : Nat) : (iterAt w k s pos).heap.size = w.heap.size := by simp [iterAt]

/-- An iterator goes on. -/
theorem Mem.setIter (hM : Mem w0 ok0 e lk w) (T g : Nat) (s : ByteArray) (pos pos' : Nat) (b c : Nat) (E : Nat × Nat) (hT : lk T = some ⟨g, false, .iter s pos⟩) (hb : e.β T g = some (b, c, E))
    (hlk : ∀ t, lk' t = if t = T then some ⟨g, false, .iter s pos'⟩ else lk t) : Ext e w e (iterAt w b s pos') ∧ Mem w0 ok0 e lk' (iterAt w b s pos') := by
  have hk : live (BK.iter s pos) := by simp [live]
  obtain ⟨o1, o2, o3⟩ := hM.own T g _ b c E hT hk hb
  have hx : Ext e w e (iterAt w b s pos') := ⟨fun _ _ _ => rfl, fun _ => Nat.le_refl _, fun _ h => h, fun x h => iterAt_other _ _ _ _ _ (fun e' => o1 (e' ▸ h)), fun x h => ⟨h, iterAt_other _ _ _ _ _ (fun e' => hM.own2 T g _ b c E hT hk hb (e' ▸ h))⟩⟩
  refine ⟨hx, hM.upd1 hx T ⟨g, false, .iter s pos'⟩ hlk (fun t => ?_) (fun b => Iff.rfl) (fun t g' fz' k'' b' c' E' ht h hk'' hb' => iterAt_other _ _ _ _ _ fun eb => ?_) (by rw [iterAt_size]; exact Nat.le_refl _)
    (fun E' rows' h => by cases h) (fun cells' h => by cases h) (fun h => by cases h) (fun _ _ b' c' E' hb' => ?_) ?_ (fun s' p h => ?_)⟩
  · split
    · rename_i h; subst h; rw [hM.gen t, genOf_at hT]
    · rfl
  · subst eb
    cases fz' with
    | true => exact o1 (hM.frz t g' k'' b' c' E' h hk'' hb')
    | false => exact ht (hM.inj t g' k'' b' c' E' T g _ c E h hk'' hb' hT hk hb)
  · rw [show e.β T (⟨g, false, BK.iter s pos'⟩ : Blk).g = some (b, c, E) from hb] at hb'
    obtain ⟨rfl, rfl, rfl⟩ : b = b' ∧ c = c' ∧ E = E' := by simpa using hb'
    exact ⟨⟨o1, hM.own2 T g _ b c E hT hk hb⟩, o2, by rw [iterAt_size]; exact o3, fun t g' k'' c' E' ht h hk'' hb'' => ht (hM.inj t g' k'' b c' E' T g _ c E h hk'' hb'' hT hk hb)⟩
  · exact hM.bel.trans ⟨rfl, rfl, rfl, by rw [iterAt_size]; exact Nat.le_refl _, fun x hx' => iterAt_other _ _ _ _ _ (by omega)⟩
  · cases h
    refine ⟨b, c, E, hb, ?_⟩
    simp [iterAt, o3]

/-- A tag is dead. -/
theorem Mem.kill1 (hM : Mem w0 ok0 e lk w) (T : Nat) (hlk : ∀ t, lk' t = if t = T then some ⟨genOf lk T, false, .dead⟩ else lk t) : Mem w0 ok0 e lk' w :=
  hM.upd1 (Ext.refl e w) T ⟨genOf lk T, false, .dead⟩ hlk (fun t => by split <;> simp_all [hM.gen]) (fun b => Iff.rfl) (fun _ _ _ _ _ _ _ _ _ _ _ => rfl) (Nat.le_refl _)
    (fun E' rows' h => by cases h) (fun cells' h => by cases h) (fun h => by cases h) (fun _ h => absurd rfl h) hM.bel

/-- The memory's words where a block is written no more. -/
def En.froze (e : En) (b : Option (Nat × Nat × Nat × Nat)) : En where
  β := e.β
  G := e.G
  ok := fun x => e.ok x ∨ ∃ c E, b = some (x, c, E)
  ob := e.ob

/-- A tag is frozen. -/
theorem Mem.freeze1 (hM : Mem w0 ok0 e lk w) (T g : Nat) (fz : Bool) (k : BK) (hT : lk T = some ⟨g, fz, k⟩) (hk : live k) (hlk : ∀ t, lk' t = if t = T then some ⟨g, true, k⟩ else lk t) :
    Ext e w (e.froze (e.β T g)) w ∧ Mem w0 ok0 (e.froze (e.β T g)) lk' w := by
  have hx : Ext e w (e.froze (e.β T g)) w := ⟨fun _ _ _ => rfl, fun _ => Nat.le_refl _, fun _ h => .inl h, fun _ _ => rfl, fun _ h => ⟨h, rfl⟩⟩
  have other : ∀ t, t ≠ T → lk' t = lk t := fun t ht => by rw [hlk, if_neg ht]
  have same : lk' T = some ⟨g, true, k⟩ := by rw [hlk, if_pos rfl]
  have inT : ∀ b c E, e.β T g = some (b, c, E) → b < w.heap.size ∧ (ok0.ok b ∨ w0.heap.size ≤ b) := fun b c E hb => by
    refine ⟨hM.blk_lt hT hk hb, ?_⟩
    cases fz with
    | true => exact hM.okr b (hM.frz T g k b c E hT hk hb)
    | false => exact .inr (hM.own T g k b c E hT hk hb).2.1
  refine ⟨hx, fun t => ?_, ?_, ?_, ?_, ?_, ?_, ?_, ?_, hM.bel, ?_, hM.gl, ok0.mono hx.toO hM.j, fun b hb => ?_, ?_⟩
  · show e.G t = _
    rw [hM.gen t]
    by_cases ht : t = T
    · rw [ht, genOf_at hT, genOf_at same]
    · unfold genOf; rw [other t ht]
  · intro t g' fz' E rows h
    by_cases ht : t = T
    · subst ht; rw [same] at h; obtain ⟨rfl, rfl, rfl⟩ : g = g' ∧ true = fz' ∧ k = BK.arr E rows := by simpa using h
      exact (hM.arr t g fz E rows hT).ext hx.ok hx.heap (fun _ _ _ _ => rfl)
    · rw [other t ht] at h
      exact (hM.arr t g' fz' E rows h).ext hx.ok hx.heap (fun _ _ _ _ => rfl)
  · intro t g' fz' cells h
    by_cases ht : t = T
    · subst ht; rw [same] at h; obtain ⟨rfl, rfl, rfl⟩ : g = g' ∧ true = fz' ∧ k = BK.box cells := by simpa using h
      exact (hM.box t g fz cells hT).ext hx (fun _ _ _ _ => rfl)
    · rw [other t ht] at h
      exact (hM.box t g' fz' cells h).ext hx (fun _ _ _ _ => rfl)
  · intro t g' k' b c E h hk' hb
    by_cases ht : t = T
    · subst ht; rw [same] at h; obtain ⟨rfl, rfl⟩ : g = g' ∧ k = k' := by simpa using h
      exact .inr ⟨c, E, hb⟩
    · rw [other t ht] at h
      exact .inl (hM.frz t g' k' b c E h hk' hb)
  · intro t g' k' b c E h hk' hb
    by_cases ht : t = T
    · subst ht; rw [same] at h; simp at h
    · rw [other t ht] at h
      obtain ⟨h1, h2, h3⟩ := hM.own t g' k' b c E h hk' hb
      refine ⟨fun h' => ?_, h2, h3⟩
      rcases h' with h' | ⟨c', E', h'⟩
      · exact h1 h'
      · cases fz with
        | true => exact h1 (hM.frz T g k b c' E' hT hk h')
        | false => exact ht (hM.inj t g' k' b c E T g k c' E' h hk' hb hT hk h')
  · intro t g1 k1 b c E t' g2 k2 c' E' h hk1 hb h' hk2 hb'
    by_cases ht : t = T
    · subst ht; rw [same] at h; simp at h
    · by_cases ht' : t' = T
      · subst ht'; rw [same] at h'; simp at h'
      · rw [other t ht] at h; rw [other t' ht'] at h'
        exact hM.inj t g1 k1 b c E t' g2 k2 c' E' h hk1 hb h' hk2 hb'
  · intro b hb
    rcases hb with hb | ⟨c, E, hb⟩
    · exact hM.okl b hb
    · exact (inT b c E hb).1
  · intro b hb
    rcases hb with hb | ⟨c, E, hb⟩
    · exact hM.okr b hb
    · exact (inT b c E hb).2
  · intro t g' fz' s pos h
    by_cases ht : t = T
    · subst ht; rw [same] at h; obtain ⟨rfl, rfl, rfl⟩ : g = g' ∧ true = fz' ∧ k = BK.iter s pos := by simpa using h
      exact hM.iter t g fz s pos hT
    · rw [other t ht] at h
      exact hM.iter t g' fz' s pos h
  · obtain ⟨q1, q2, q3⟩ := hM.ob b hb
    refine ⟨q1, fun h => ?_, q3⟩
    rcases h with h | ⟨c, E, h⟩
    · exact q2 h
    · cases fz with
      | true => exact q2 (hM.frz T g k b c E hT hk h)
      | false => exact hM.own2 T g k b c E hT hk h hb
  · intro t g' k' b c E h hk' hb
    by_cases ht : t = T
    · subst ht; rw [same] at h; simp at h
    · rw [other t ht] at h
      exact hM.own2 t g' k' b c E h hk' hb

theorem setRow_other (w : World) (g : Nat) (cs : Array Value) (k : Nat) (h : k ≠ g) : (w.setRow g cs).heap[k]? = w.heap[k]? := by
  simp only [World.setRow, Array.getElem?_modify]
  rw [if_neg (by omega)]
theorem setRow_size (w : World) (g : Nat) (cs : Array Value) : (w.setRow g cs).heap.size = w.heap.size := by simp [World.setRow]

/-- A block of the call's own is written. -/
theorem Mem.write (hM : Mem w0 ok0 e lk w) (T g : Nat) (k k' : BK) (b c : Nat) (E : Nat × Nat) (hT : lk T = some ⟨g, false, k⟩) (hk : live k) (hb : e.β T g = some (b, c, E)) (cs : Array Value)
    (hlk : ∀ t, lk' t = if t = T then some ⟨g, false, k'⟩ else lk t)
    (harr : ∀ E' rows, k' = .arr E' rows → ArrOK e.ok (w.setRow b cs) (some (b, c, E)) E' rows)
    (hbox : ∀ cells, k' = .box cells → BoxOK e (w.setRow b cs) (some (b, c, E)) cells) (hit : ∀ s pos, k' ≠ .iter s pos := by intro s pos h; cases h) :
    Ext e w e (w.setRow b cs) ∧ Mem w0 ok0 e lk' (w.setRow b cs) := by
  obtain ⟨o1, o2, o3⟩ := hM.own T g k b c E hT hk hb
  have hx : Ext e w e (w.setRow b cs) := ⟨fun _ _ _ => rfl, fun _ => Nat.le_refl _, fun _ h => h, fun x h => setRow_other _ _ _ _ (fun e' => o1 (e' ▸ h)), fun x h => ⟨h, setRow_other _ _ _ _ (fun e' => hM.own2 T g k b c E hT hk hb (e' ▸ h))⟩⟩
  refine ⟨hx, hM.upd1 hx T ⟨g, false, k'⟩ hlk (fun t => ?_) (fun b => Iff.rfl) (fun t g' fz' k'' b' c' E' ht h hk'' hb' => setRow_other _ _ _ _ fun eb => ?_) (by rw [setRow_size]; exact Nat.le_refl _)
    (fun E' rows' h => ?_) (fun cells' h => ?_) (fun h => by cases h) (fun _ _ b' c' E' hb' => ?_) ?_ ?_⟩
  · split
    · rename_i h; subst h; rw [hM.gen t, genOf_at hT]
    · rfl
  · subst eb
    cases fz' with
    | true => exact o1 (hM.frz t g' k'' b' c' E' h hk'' hb')
    | false => exact ht (hM.inj t g' k'' b' c' E' T g k c E h hk'' hb' hT hk hb)
  · rw [show e.β T (⟨g, false, k'⟩ : Blk).g = some (b, c, E) from hb]; exact harr E' rows' h
  · rw [show e.β T (⟨g, false, k'⟩ : Blk).g = some (b, c, E) from hb]; exact hbox cells' h
  · rw [show e.β T (⟨g, false, k'⟩ : Blk).g = some (b, c, E) from hb] at hb'
    obtain ⟨rfl, rfl, rfl⟩ : b = b' ∧ c = c' ∧ E = E' := by simpa using hb'
    exact ⟨⟨o1, hM.own2 T g k b c E hT hk hb⟩, o2, by rw [setRow_size]; exact o3, fun t g' k'' c' E' ht h hk'' hb'' => ht (hM.inj t g' k'' b c' E' T g k c E h hk'' hb'' hT hk hb)⟩
  · exact hM.bel.trans ⟨rfl, rfl, rfl, by rw [setRow_size]; exact Nat.le_refl _, fun x hx' => setRow_other _ _ _ _ (by omega)⟩
  · exact fun s pos h => absurd h (hit s pos)
end

end Go.Proofs.YtmmlolampgnamaaDoor.Ax
