/- Each operation of the model comes to what the abstract interpreter says: slices that are made, and appended to. -/
import Derived.Test.YtmmlolampgnamaaDoorAx6
import Derived.Laws.Append
namespace Go.Proofs.YtmmlolampgnamaaDoor.Ax
open Go.RowKit
set_option linter.unusedVariables false
set_option linter.unusedSimpArgs false

/-- Rows of data in a row of cells. -/
def RowsRep (ok : Nat → Prop) (w : World) (E : Nat) (rows : List (List D)) (cells : List Value) : Prop :=
  ∀ (i : Nat) (r : List D), rows[i]? = some r → r.length = E ∧ ∀ (j : Nat) (d : D), r[j]? = some d → ∃ u, cells[i * E + j]? = some u ∧ RD ok w d u

theorem RowsRep.mono {ok ok' : Nat → Prop} {w w' : World} {E : Nat} {rows : List (List D)} {cells : List Value} (h : RowsRep ok w E rows cells) (hok : ∀ b, ok b → ok' b) (hw : ∀ b, ok b → w'.heap[b]? = w.heap[b]?) : RowsRep ok' w' E rows cells :=
  fun i r hi => let ⟨h1, h2⟩ := h i r hi; ⟨h1, fun j d hj => let ⟨u, hu, hd⟩ := h2 j d hj; ⟨u, hu, RD.mono hok hw _ _ hd⟩⟩

theorem seg_get (l vs : List Value) (k : Nat) (hk : k + vs.length ≤ l.length) (q : Nat) : (l.take k ++ vs ++ l.drop (k + vs.length))[q]? = if q < k then l[q]? else if q < k + vs.length then vs[q - k]? else l[q]? := by
  have hlt : (l.take k).length = k := by simp; omega
  by_cases h1 : q < k
  · rw [if_pos h1, List.append_assoc, List.getElem?_append_left (by omega), List.getElem?_take, if_pos h1]
  · rw [if_neg h1]
    by_cases h2 : q < k + vs.length
    · rw [if_pos h2, List.getElem?_append_left (by simp only [List.length_append]; omega), List.getElem?_append_right (by omega), hlt]
    · rw [if_neg h2, List.getElem?_append_right (by simp only [List.length_append]; omega), List.getElem?_drop]
      simp only [List.length_append, hlt]
      congr 1
      omega

theorem RowsRep.set {ok : Nat → Prop} {w : World} {E : Nat} {rows : List (List D)} {cells : List Value} (h : RowsRep ok w E rows cells) {i : Nat} {ds : List D} {vs : List Value} (hi : i < rows.length) (hl : rows.length * E ≤ cells.length)
    (hd : ds.length = E) (hv : vs.length = E) (hr : ∀ (j : Nat) (d : D), ds[j]? = some d → ∃ u, vs[j]? = some u ∧ RD ok w d u) : RowsRep ok w E (rows.set i ds) (cells.take (i * E) ++ vs ++ cells.drop (i * E + vs.length)) := by
  have hfit : i * E + E ≤ cells.length := by
    have : (i + 1) * E ≤ rows.length * E := Nat.mul_le_mul_right _ hi
    rw [Nat.add_mul] at this; omega
  intro m r hm
  by_cases hmi : m = i
  · subst hmi
    rw [List.getElem?_set_self hi] at hm
    obtain rfl := Option.some.inj hm
    refine ⟨hd, fun j d hj => ?_⟩
    have hjE : j < E := by rw [← hd]; exact (List.getElem?_eq_some_iff.1 hj).1
    obtain ⟨u, hu, hr'⟩ := hr j d hj
    refine ⟨u, ?_, hr'⟩
    rw [seg_get _ _ _ (by omega), if_neg (by omega), if_pos (by omega), show m * E + j - m * E = j by omega]
    exact hu
  · rw [List.getElem?_set_ne (Ne.symm hmi)] at hm
    obtain ⟨h1, h2⟩ := h m r hm
    refine ⟨h1, fun j d hj => ?_⟩
    have hjE : j < E := by rw [← h1]; exact (List.getElem?_eq_some_iff.1 hj).1
    obtain ⟨u, hu, hr'⟩ := h2 j d hj
    refine ⟨u, ?_, hr'⟩
    rw [seg_get _ _ _ (by omega)]
    rcases Nat.lt_or_gt_of_ne hmi with hlt | hgt
    · have : (m + 1) * E ≤ i * E := Nat.mul_le_mul_right _ hlt
      rw [Nat.add_mul] at this
      rw [if_pos (by omega)]; exact hu
    · have : (i + 1) * E ≤ m * E := Nat.mul_le_mul_right _ hgt
      rw [Nat.add_mul] at this
      rw [if_neg (by omega), if_neg (by omega)]; exact hu

theorem RowsRep.app {ok : Nat → Prop} {w : World} {E : Nat} {r1 r2 : List (List D)} {c1 c2 c3 : List Value} (h1 : RowsRep ok w E r1 c1) (h2 : RowsRep ok w E r2 c2) (hl : c1.length = r1.length * E) : RowsRep ok w E (r1 ++ r2) (c1 ++ c2 ++ c3) := by
  intro i r hi
  rcases Nat.lt_or_ge i r1.length with h | h
  · rw [List.getElem?_append_left h] at hi
    obtain ⟨g1, g2⟩ := h1 i r hi
    refine ⟨g1, fun j d hj => ?_⟩
    obtain ⟨u, hu, hd⟩ := g2 j d hj
    exact ⟨u, by rw [List.append_assoc, List.getElem?_append_left (List.getElem?_eq_some_iff.1 hu).1]; exact hu, hd⟩
  · rw [List.getElem?_append_right h] at hi
    obtain ⟨g1, g2⟩ := h2 _ r hi
    refine ⟨g1, fun j d hj => ?_⟩
    obtain ⟨u, hu, hd⟩ := g2 j d hj
    have hlt := (List.getElem?_eq_some_iff.1 hu).1
    have hle : r1.length * E ≤ i * E := Nat.mul_le_mul_right _ h
    have he : i * E + j - c1.length = (i - r1.length) * E + j := by rw [hl, Nat.sub_mul]; omega
    refine ⟨u, ?_, hd⟩
    rw [List.append_assoc, List.getElem?_append_right (by omega), he, List.getElem?_append_left hlt]
    exact hu

theorem rd_one {ok : Nat → Prop} {w : World} {d : D} {u : Value} (h : RD ok w d u) : u.oneCell' = true := by
  cases d <;> simp only [RD] at h
  case int => subst h; rfl
  case bool => subst h; rfl
  case str => subst h; rfl
  case sl => obtain ⟨A, c, h, _⟩ := h; subst h; rfl
  case rptr => obtain ⟨A, h, _⟩ := h; subst h; rfl
  case nilp => subst h; rfl
  case nilf => subst h; rfl
  case fn => obtain ⟨A, h, _⟩ := h; subst h; rfl

theorem RowsRep.one {ok : Nat → Prop} {w : World} {E : Nat} {rows : List (List D)} {cells : List Value} (h : RowsRep ok w E rows cells) (hl : cells.length = rows.length * E) : ∀ u ∈ cells, u.oneCell' = true := by
  intro u hu
  obtain ⟨q, hq0, rfl⟩ := List.mem_iff_getElem.1 hu
  have hq := hq0
  rw [hl] at hq
  have hE : 0 < E := by
    rcases Nat.eq_zero_or_pos E with h0 | h0
    · rw [h0] at hq; simp at hq
    · exact h0
  have hi : q / E < rows.length := (Nat.div_lt_iff_lt_mul hE).2 hq
  obtain ⟨h1, h2⟩ := h (q / E) _ (List.getElem?_eq_getElem hi)
  have hj : q % E < (rows[q / E]).length := by rw [h1]; exact Nat.mod_lt _ hE
  obtain ⟨u', hu', hd⟩ := h2 (q % E) _ (List.getElem?_eq_getElem hj)
  have : q / E * E + q % E = q := by rw [Nat.mul_comm]; exact Nat.div_add_mod q E
  rw [this, List.getElem?_eq_getElem hq0] at hu'
  rw [Option.some.inj hu']
  exact rd_one hd

section
variable {P : Program} {w0 w : World} {ok0 : Ctx0} {e : En} {lk lk' : Nat → Option Blk} {o : Oper} {a : Act} {cx : Cx} {ev : Operand → AV} {T : Nat} {f : Ef}

/-- Rows that stand at an address, as the cells that a load of them finds. -/
theorem rows_cells {ok : Nat → Prop} {ad : Addr} {E : Nat} {rows : List (List D)} (hr : RDRows ok w ad E rows 0) : ∃ vals : List Value, vals.length = rows.length * E ∧ RowsRep ok w E rows vals ∧ ∀ w' : World, w'.heap = w.heap → (loadCells ad (rows.length * E)).run P w' = .ok vals.toArray w' := by
  have hcell : ∀ q, q < rows.length * E → w.cell? (ad.add q) = some ((w.cell? (ad.add q)).getD undef) := by
    intro q hq
    have hE : 0 < E := by
      rcases Nat.eq_zero_or_pos E with h0 | h0
      · rw [h0] at hq; simp at hq
      · exact h0
    have hi : q / E < rows.length := (Nat.div_lt_iff_lt_mul hE).2 hq
    obtain ⟨h1, h2⟩ := hr.get (List.getElem?_eq_getElem hi)
    have hj : q % E < (rows[q / E]).length := by rw [h1]; exact Nat.mod_lt _ hE
    obtain ⟨u, hu, _⟩ := h2.get (List.getElem?_eq_getElem hj)
    have : (0 + q / E) * E + q % E = q := by rw [Nat.zero_add, Nat.mul_comm]; exact Nat.div_add_mod q E
    rw [this] at hu
    rw [hu]; rfl
  refine ⟨(List.range (rows.length * E)).map fun q => (w.cell? (ad.add q)).getD undef, by simp, fun i r hi => ?_, fun w' hw => run_loadCells w' ad _ _ (fun q hq => by rw [show w'.cell? (ad.add q) = w.cell? (ad.add q) from by unfold World.cell?; rw [hw]]; exact hcell q hq)⟩
  obtain ⟨h1, h2⟩ := hr.get hi
  refine ⟨h1, fun j d hj => ?_⟩
  obtain ⟨u, hu, hd⟩ := h2.get hj
  rw [Nat.zero_add] at hu
  have hjE : j < E := by rw [← h1]; exact (List.getElem?_eq_some_iff.1 hj).1
  have hiL : i < rows.length := (List.getElem?_eq_some_iff.1 hi).1
  have hlt : i * E + j < rows.length * E := by
    have : (i + 1) * E ≤ rows.length * E := Nat.mul_le_mul_right _ hiL
    rw [Nat.add_mul] at this; omega
  refine ⟨u, ?_, hd⟩
  rw [List.getElem?_map, List.getElem?_range hlt]
  simp [hu]

/-- What an append finds in its second slice. -/
theorem src_cells (hM : Mem w0 ok0 e lk w) {y : AV} {v : Value} {E : Nat} {r2 : List (List D)} {ts : List Nat} (hv : RV e w y v) (hs : srcOf lk y = some (r2, ts)) (hall : r2.all (fun r => r.length == E) = true) :
    ∃ (A : Option Addr) (c : Nat) (vals : List Value), v = .slice A r2.length c ∧ vals.length = r2.length * E ∧ RowsRep e.ok w E r2 vals ∧ ∀ w' : World, w'.heap = w.heap → (Builtin.firstCells E r2.length v).run P w' = .ok vals.toArray w' := by
  have empty : ∀ (A : Option Addr) (c : Nat), r2 = [] → v = .slice A r2.length c → ∃ (A : Option Addr) (c : Nat) (vals : List Value), v = .slice A r2.length c ∧ vals.length = r2.length * E ∧ RowsRep e.ok w E r2 vals ∧ ∀ w' : World, w'.heap = w.heap → (Builtin.firstCells E r2.length v).run P w' = .ok vals.toArray w' := by
    intro A c h0 hv
    subst h0
    refine ⟨A, c, [], hv, by simp, fun i r h => by simp at h, fun w' _ => ?_⟩
    subst hv
    cases A with
    | none => simp [Builtin.firstCells]
    | some ad => simp [Builtin.firstCells, loadCells, loadCellsFrom]
  have full : ∀ (ad : Addr) (E' c : Nat), r2 ≠ [] → v = .slice (some ad) r2.length c → RDRows e.ok w ad E' r2 0 → ∃ (A : Option Addr) (c : Nat) (vals : List Value), v = .slice A r2.length c ∧ vals.length = r2.length * E ∧ RowsRep e.ok w E r2 vals ∧ ∀ w' : World, w'.heap = w.heap → (Builtin.firstCells E r2.length v).run P w' = .ok vals.toArray w' := by
    intro ad E' c hne hv hr
    have hE : E' = E := by
      cases r2 with
      | nil => exact absurd rfl hne
      | cons r rs =>
        obtain ⟨g1, _⟩ := hr.get (i := 0) rfl
        simp only [List.all_cons, Bool.and_eq_true, beq_iff_eq] at hall
        rw [← g1, hall.1]
    subst hE
    obtain ⟨vals, h1, h2, h3⟩ := rows_cells (P := P) hr
    exact ⟨_, c, vals, hv, h1, h2, fun w' hw => by subst hv; simpa [Builtin.firstCells] using h3 w' hw⟩
  unfold srcOf at hs
  split at hs
  · rename_i rows
    simp only [Option.some.injEq, Prod.mk.injEq] at hs
    obtain ⟨rfl, rfl⟩ := hs
    simp only [RV, RC, RD] at hv
    obtain ⟨A, c, h1, h2, h3⟩ := hv
    by_cases hne : rows = []
    · exact empty A c hne h1
    · obtain ⟨ad, E', rfl, hk, hr⟩ := h3 hne
      exact full ad E' c hne h1 hr
  · simp only [Option.some.injEq, Prod.mk.injEq] at hs
    obtain ⟨rfl, rfl⟩ := hs
    exact empty none 0 rfl hv
  · rename_i rows
    simp only [Option.some.injEq, Prod.mk.injEq] at hs
    obtain ⟨rfl, rfl⟩ := hs
    obtain ⟨A, h1, h2⟩ := hv
    by_cases hne : rows = []
    · exact empty A _ hne h1
    · obtain ⟨ad, E', rfl, hk, hr⟩ := h2 hne
      exact full ad E' _ hne h1 hr
  · rename_i t g n
    split at hs
    · rename_i fz E1 rows hro
      have hl := rowsOf_some hro
      simp only [Option.some.injEq, Prod.mk.injEq] at hs
      obtain ⟨rfl, rfl⟩ := hs
      have hn := own_len hM hl hv
      obtain ⟨hg, hv⟩ := hv
      have ha := hM.arr t g fz E1 rows hl
      cases hb : e.β t g with
      | none =>
        rw [hb] at hv ha
        have h0 : rows = [] := ha
        obtain ⟨h1, hv⟩ := hv
        exact empty none 0 h0 (by rw [h0]; exact hv)
      | some q =>
        obtain ⟨b, c, E2⟩ := q
        rw [hb] at hv ha
        obtain ⟨_, hnc, hv⟩ := hv
        obtain ⟨rfl, hE, cs, ty, hh, hcs, hrc, hrr⟩ := ha
        by_cases hne : rows = []
        · exact empty _ c hne (by rw [hn]; exact hv)
        · exact full _ E1 c hne (by rw [hn]; exact hv) hrr
    · cases hs
  · cases hs

/-- A block that nobody holds any more is taken up again, and written. -/
theorem Mem.adopt (hM : Mem w0 ok0 e lk w) (T b c E : Nat) (rows : List (List D)) (old cs : Array Value) (ty : TypeId) (hsz0 : old.size = cs.size) (hh : HC w b old ty) (hok : ¬ e.ok b) (hob : ¬ e.ob b) (h0 : w0.heap.size ≤ b)
    (hno : ∀ t g fz k c' E', t ≠ T → lk t = some ⟨g, fz, k⟩ → live k → e.β t g = some (b, c', E') → False) (hE : 0 < E) (hs : cs.size = c * E) (hr : rows.length ≤ c) (hrep : RowsRep e.ok w E rows cs.toList)
    (hlk : ∀ t, lk' t = if t = T then some ⟨genOf lk T + 1, false, .arr E rows⟩ else lk t) :
    Ext e w (e.with_ lk T b c (E, rows.length)) (w.setRow b cs) ∧ Mem w0 ok0 (e.with_ lk T b c (E, rows.length)) lk' (w.setRow b cs) := by
  have hx : Ext e w (e.with_ lk T b c (E, rows.length)) (w.setRow b cs) := En.with_ext hM T b c (E, rows.length) (fun x h => setRow_other _ _ _ _ (fun e' => hok (e' ▸ h))) (fun x h => setRow_other _ _ _ _ (fun e' => hob (e' ▸ h)))
  obtain ⟨fr, hfr, hh⟩ := hh
  rw [hsz0] at hfr
  have hheap := setRow_heap w b old cs ty fr hh
  refine ⟨hx, hM.upd1 hx T ⟨genOf lk T + 1, false, .arr E rows⟩ hlk (fun t => rfl) (fun b => Iff.rfl) (fun t g fz k b' c' E' ht h hk hb => setRow_other _ _ _ _ fun eb => ?_) (by rw [setRow_size]; exact Nat.le_refl _) (fun E' rows' h => ?_)
    (fun cells' h => by cases h) (fun h => by cases h) (fun _ _ b' c' E' hb => ?_) ?_⟩
  · subst eb
    exact hno t g fz k c' E' ht h hk hb
  · cases h
    rw [show (e.with_ lk T b c (E, rows.length)).β T (⟨genOf lk T + 1, false, BK.arr E rows⟩ : Blk).g = some (b, c, E, rows.length) from En.with_at T _ _ _]
    refine ⟨rfl, hE, cs, ty, ⟨fr, hfr, hheap⟩, hs, hr, RDRows.of fun i r hi => ?_⟩
    obtain ⟨h1, h2⟩ := hrep i r hi
    refine ⟨h1, RDRow.of fun j x hj => ?_⟩
    obtain ⟨u, hu, hd⟩ := h2 j x hj
    refine ⟨u, ?_, RD.ext hx hd⟩
    rw [add_lit, Nat.zero_add, Nat.zero_add]
    simp only [World.cell?, hheap]
    simpa using hu
  · rw [show (e.with_ lk T b c (E, rows.length)).β T (⟨genOf lk T + 1, false, BK.arr E rows⟩ : Blk).g = some (b, c, E, rows.length) from En.with_at T _ _ _] at hb
    obtain ⟨rfl, rfl, rfl⟩ : b = b' ∧ c = c' ∧ (E, rows.length) = E' := by simpa using hb
    exact ⟨⟨hok, hob⟩, h0, by rw [setRow_size]; exact heap_lt hh, fun t g k c' E' ht h hk hb' => hno t g false k c' E' ht h hk hb'⟩
  · exact hM.bel.trans ⟨rfl, rfl, rfl, by rw [setRow_size]; exact Nat.le_refl _, fun x hx' => setRow_other _ _ _ _ (by omega)⟩

theorem Mem.newRep (hM : Mem w0 ok0 e lk w) (T E c : Nat) (rows : List (List D)) (cs : Array Value) (ty : TypeId) (hE : 0 < E) (hs : cs.size = c * E) (hr : rows.length ≤ c) (hrep : RowsRep e.ok w E rows cs.toList)
    (hlk : ∀ t, lk' t = if t = T then some ⟨genOf lk T + 1, false, .arr E rows⟩ else lk t) :
    Ext e w (e.with_ lk T w.heap.size c (E, rows.length)) (w.alloc (.cells cs ty)) ∧ Mem w0 ok0 (e.with_ lk T w.heap.size c (E, rows.length)) lk' (w.alloc (.cells cs ty)) :=
  hM.newArr T E c rows cs ty hE hs hr (fun i r hi => let ⟨h1, h2⟩ := hrep i r hi; ⟨h1, fun j x hj => let ⟨u, hu, hd⟩ := h2 j x hj; ⟨u, by simpa using hu, hd⟩⟩) hlk

theorem rv_own (T b c E n : Nat) (hn : n ≤ c) {w' : World} : RV (e.with_ lk T b c (E, n)) w' (.c (.own T (genOf lk T + 1) n)) (.slice (some ⟨b, 0, none⟩) n c) := by
  refine ⟨by simp [En.with_], ?_⟩
  rw [En.with_at]
  exact ⟨rfl, hn, rfl⟩
theorem rv_ownNil (T : Nat) {w' : World} : RV (e.none_ lk T) w' (.c (.own T (genOf lk T + 1) 0)) (.slice none 0 0) := by
  refine ⟨by simp [En.none_], ?_⟩
  rw [En.none_at]
  exact ⟨rfl, rfl⟩

/-- Tags that are dead, one behind the other. -/
theorem Mem.killL : ∀ (ts : List Nat) (lk lk1 : Nat → Option Blk), Mem w0 ok0 e lk1 w → (∀ t, genOf lk1 t = genOf lk t) → Mem w0 ok0 e (updF lk1 (kill lk ts)) w ∧ (∀ t, genOf (updF lk1 (kill lk ts)) t = genOf lk t) ∧ (∀ t ∈ ts, ∃ g, updF lk1 (kill lk ts) t = some ⟨g, false, .dead⟩) ∧ (∀ t, t ∉ ts → updF lk1 (kill lk ts) t = lk1 t) ∧ ∀ t g, lk1 t = some ⟨g, false, .dead⟩ → ∃ g', updF lk1 (kill lk ts) t = some ⟨g', false, .dead⟩
  | [], lk, lk1, hM, hg => ⟨hM, hg, fun t h => by simp at h, fun _ _ => rfl, fun t g h => ⟨g, h⟩⟩
  | t :: ts, lk, lk1, hM, hg => by
    have hM1 := hM.kill1 (lk' := fun u => if u = t then some ⟨genOf lk t, false, .dead⟩ else lk1 u) t (fun u => by rw [hg])
    obtain ⟨h1, h2, h3, h4, h5⟩ := Mem.killL ts lk (fun u => if u = t then some ⟨genOf lk t, false, .dead⟩ else lk1 u) hM1 (fun u => by
      unfold genOf
      by_cases hu : u = t
      · simp [hu]
      · simp [hu]; exact hg u)
    refine ⟨h1, h2, fun u hu => ?_, fun u hu => ?_, fun u g hu => ?_⟩
    · rcases List.mem_cons.1 hu with rfl | hu
      · exact h5 u (genOf lk u) (by simp)
      · exact h3 u hu
    · simp only [List.mem_cons, not_or] at hu
      show updF _ (kill lk ts) u = _
      rw [h4 u hu.2]; simp [hu.1]
    · by_cases hut : u = t
      · subst hut; exact h5 u (genOf lk u) (by simp)
      · exact h5 u g (by simp [hut, hu])

theorem run_choose_cap (w : World) (need old : Nat) (t : TypeId) (hn : need < 2 ^ 63) : ∃ c, need ≤ c ∧ (choose (.appendCap need old t)).run P w = .ok c w.drew := by
  refine ⟨(Question.appendCap need old t).cut (w.tape w.drawn (.appendCap need old t)), ?_, ?_⟩
  · simp [Question.cut]
  · simp [Question.forced]

theorem fits_append (hM : Mem w0 ok0 e lk w) (hev : ∀ x, RV e w (ev x) (a.eval x)) {x y : Operand} {ts : Array TypeId} {t u el el2 : TypeId} {i : TypeInfo} {z : Value} (ho : o.op = .call { callee := .builtin .append, args := #[x, y], argTypes := ts })
    (ht0 : ts[0]? = some t) (ht1 : ts[1]? = some u) (hut : P.underlying t = some (.slice el)) (huu : P.underlying u = some (.slice el2)) (hi : P.info? el = some i) (hE : 0 < i.size) (hz : i.zero = some z) (hzs : z.cells.size = i.size)
    (he : eff cx ev lk T (.append i.size i.bytes x y) = some f) : Fits P w0 ok0 e lk w o a f := by
  simp only [eff] at he
  split at he
  · rename_i r1 ts1 r2 ts2 hb1 hs2
    split at he
    · rename_i hc
      obtain ⟨hall, hclip, hall1, hbnd⟩ := hc
      simp only [Option.some.injEq] at he; subst he
      obtain ⟨A2, c2, v2, hv2, hl2, hrep2, hfc2⟩ := src_cells (P := P) hM (hev y) hs2 hall
      have hsz : (sizeOf el).run P w = .ok i.size w := by simp [sizeOf, typeInfo, hi]
      have hti : (typeInfo el).run P w = .ok i w := by simp [typeInfo, hi]
      have hbnd' : (r1.length + r2.length) * i.bytes ≤ 140737488355328 := by
        have h1 : (r1.length + r2.length) * i.bytes ≤ (r1.length + r2.length + 100) * (i.bytes + 1) := Nat.mul_le_mul (by omega) (by omega)
        omega
      have hbnd2 : r1.length + r2.length ≤ 70368744177664 := by
        have h1 : (r1.length + r2.length) * 1 ≤ (r1.length + r2.length + 100) * (i.bytes + 1) := Nat.mul_le_mul (by omega) (by omega)
        omega
      -- a new block
      have grow : ∀ (A1 : Option Addr) (c1 : Nat) (v1 : List Value), a.eval x = .slice A1 r1.length c1 → v1.length = r1.length * i.size → RowsRep e.ok w i.size r1 v1 → (∀ w' : World, w'.heap = w.heap → (Builtin.firstCells i.size r1.length (a.eval x)).run P w' = .ok v1.toArray w') →
          (∀ w' : World, w'.heap = w.heap → (Builtin.firstCells i.size r2.length (a.eval y)).run P w' = .ok v2.toArray w') → c1 < r1.length + r2.length →
          Fits P w0 ok0 e lk w o a ⟨.c (.own T (genOf lk T + 1) (r1.length + r2.length)), kill lk ts1 ++ [(T, ⟨genOf lk T + 1, false, .arr i.size (r1 ++ r2)⟩)], ts2⟩ := by
        intro A1 c1 v1 hv1 hl1 hrep1 hf1 hf2 hc1
        obtain ⟨cap, hcap, hch⟩ := run_choose_cap (P := P) w (r1.length + r2.length) c1 el (by omega)
        have hgs := growslice_fits (bytes := i.bytes) hc1 hbnd'
        obtain ⟨hMk, hgk, _, _, _⟩ := Mem.killL ts1 lk lk hM.drew (fun _ => rfl)
        have hcs : ((v1.toArray ++ v2.toArray ++ Builtin.zeroCells z.cells (cap - (r1.length + r2.length))).size) = cap * i.size := by
          simp only [Array.size_append, List.size_toArray, hl1, hl2, Builtin.zeroCells, Array.size_map, Array.size_range, hzs]
          rw [← Nat.add_mul, ← Nat.add_mul]; congr 1; omega
        obtain ⟨hx, hM'⟩ := hMk.newRep (lk' := updF lk (kill lk ts1 ++ [(T, ⟨genOf lk T + 1, false, .arr i.size (r1 ++ r2)⟩)])) T i.size cap (r1 ++ r2) (v1.toArray ++ v2.toArray ++ Builtin.zeroCells z.cells (cap - (r1.length + r2.length))) el hE hcs (by simp; omega)
          (by
            have := RowsRep.app (c3 := (Builtin.zeroCells z.cells (cap - (r1.length + r2.length))).toList) hrep1 hrep2 hl1
            have := this.mono (w' := w.drew) (fun _ h => h) (fun _ _ => rfl)
            simpa using this) (fun q => by rw [updF_app, updF_one, hgk])
        intro K Q hK
        refine wp_value ?_ (hK _ _ (.slice (some ⟨w.heap.size, 0, none⟩) (r1.length + r2.length) cap) ((Ext.drew e w).trans hx) hM' ?_)
        · have h1 := hf1 w.drew rfl
          have h2 := hf2 w.drew rfl
          have hz0 : ∀ w', (zeroValue el).run P w' = .ok z w' := fun w' => run_zeroValue hi hz
          have hti' : ∀ w', (typeInfo el).run P w' = .ok i w' := fun w' => by simp [typeInfo, hi]
          have hnm : ¬ ((r1.length + r2.length : Nat) : Int) > 9223372036854775807 := by omega
          have hng : ¬ Builtin.nextslicecap (r1.length + r2.length) c1 * i.bytes > 2 ^ 48 := by omega
          have hnn : ¬ r1.length + r2.length ≤ c1 := by omega
          have hun := fun w' => run_underlying (P := P) hut w'
          have huu' := fun w' => run_underlying (P := P) huu w'
          have hln : ∀ w', (Builtin.lenOf (a.eval y)).run P w' = .ok r2.length w' := fun w' => by rw [hv2]; simp [Builtin.lenOf]
          have hargs : (Builtin.append_ ts o.type #[a.eval x, a.eval y]).run P w = .ok (.slice (some ⟨w.heap.size, 0, none⟩) (r1.length + r2.length) cap) (w.drew.alloc (.cells (v1.toArray ++ v2.toArray ++ Builtin.zeroCells z.cells (cap - (r1.length + r2.length))) el)) := by
            rw [hv1] at h1
            unfold Builtin.append_
            simp only [ht0, ht1, Array.getElem?_eq_getElem, List.size_toArray, List.length_cons, List.length_nil, Nat.zero_add, Nat.reduceAdd, Nat.zero_lt_succ, Nat.lt_add_one, List.getElem_toArray, List.getElem_cons_zero, List.getElem_cons_succ]
            simp only [hv1, Sem.run_bind, hun, Result.andThen_ok, hsz, huu', Sem.run_pure, Bool.false_eq_true, if_false, hln]
            rw [if_neg hnn]
            simp only [Sem.run_bind, hti', Result.andThen_ok, IntKind.max_i64, hnm, false_and, if_false, hng, hch, run_askRoom, h1, Bool.not_false, if_true, h2, hz0, newRow, run_newObj, Sem.run_pure, World.alloc_eq]
            rfl
          simp only [execOp, ho, resolve, Sem.run_bind, Sem.run_pure, Result.andThen_ok, invoke, builtin, List.map_toArray, List.map_cons, List.map_nil]
          rw [hargs]
          rfl
        · have := rv_own (e := e) (lk := updF lk (kill lk ts1)) T w.heap.size cap i.size (r1.length + r2.length) hcap (w' := w.drew.alloc (.cells (v1.toArray ++ v2.toArray ++ Builtin.zeroCells z.cells (cap - (r1.length + r2.length))) el))
          rw [hgk] at this
          rw [List.length_append]; exact this
      -- nothing is there, and nothing comes
      have nils : a.eval x = .slice none 0 0 → r1 = [] → (r2 = [] ∨ r2 ≠ []) → Fits P w0 ok0 e lk w o a ⟨.c (.own T (genOf lk T + 1) (r1.length + r2.length)), kill lk ts1 ++ [(T, ⟨genOf lk T + 1, false, .arr i.size (r1 ++ r2)⟩)], ts2⟩ := by
        intro hv1 hr1 hr2
        rcases hr2 with hr2 | hr2
        · subst hr1; subst hr2
          obtain ⟨hMk, hgk, _, _, _⟩ := Mem.killL ts1 lk lk hM (fun _ => rfl)
          obtain ⟨hx, hM'⟩ := hMk.newNil (lk' := updF lk (kill lk ts1 ++ [(T, ⟨genOf lk T + 1, false, .arr i.size ([] ++ [])⟩)])) T i.size (fun q => by rw [updF_app, updF_one, hgk]; rfl)
          intro K Q hK
          refine wp_value ?_ (hK _ _ (.slice none 0 0) hx hM' ?_)
          · have h2 := hfc2 w rfl
            have hln : (Builtin.lenOf (a.eval y)).run P w = .ok 0 w := by rw [hv2]; simp [Builtin.lenOf]
            have hun := run_underlying (P := P) hut w
            have huu' := run_underlying (P := P) huu w
            have hargs : (Builtin.append_ ts o.type #[a.eval x, a.eval y]).run P w = .ok (.slice none 0 0) w := by
              simp only [List.length_nil] at h2
              unfold Builtin.append_
              simp only [ht0, ht1, Array.getElem?_eq_getElem, List.size_toArray, List.length_cons, List.length_nil, Nat.zero_add, Nat.reduceAdd, Nat.zero_lt_succ, Nat.lt_add_one, List.getElem_toArray, List.getElem_cons_zero, List.getElem_cons_succ]
              simp only [hv1, Sem.run_bind, hun, Result.andThen_ok, hsz, huu', Sem.run_pure, Bool.false_eq_true, if_false, hln]
              rw [if_pos (by omega)]
              simp only [Bool.not_false, if_true, Sem.run_bind, h2, Result.andThen_ok, Sem.run_pure, Nat.add_zero]
            simp only [execOp, ho, resolve, Sem.run_bind, Sem.run_pure, Result.andThen_ok, invoke, builtin, List.map_toArray, List.map_cons, List.map_nil]
            rw [hargs]
            rfl
          · have := rv_ownNil (e := e) (lk := updF lk (kill lk ts1)) T (w' := w)
            rw [hgk] at this
            exact this
        · subst hr1
          refine grow none 0 [] hv1 (by simp) (fun i r h => by simp at h) (fun w' _ => by rw [hv1]; simp [Builtin.firstCells]) hfc2 ?_
          have : r2.length ≠ 0 := fun h => hr2 (List.eq_nil_of_length_eq_zero h)
          simp; omega
      unfold baseOf at hb1
      split at hb1
      · rename_i hx
        simp only [Option.some.injEq, Prod.mk.injEq] at hb1
        obtain ⟨rfl, rfl⟩ := hb1
        have hv := hev x
        rw [hx] at hv
        exact nils hv rfl (Decidable.em _)
      · rename_i rows hx
        simp only [Option.some.injEq, Prod.mk.injEq] at hb1
        obtain ⟨rfl, rfl⟩ := hb1
        have hv := hev x
        rw [hx] at hv
        obtain ⟨A, h1, h2⟩ := hv
        have hr2 : r2 ≠ [] := by
          intro h0; rw [h0, hx] at hclip; simp [isClip] at hclip
        have hlt : rows.length < rows.length + r2.length := by
          have : r2.length ≠ 0 := fun h => hr2 (List.eq_nil_of_length_eq_zero h)
          omega
        by_cases hne : rows = []
        · subst hne
          refine grow A 0 [] h1 (by simp) (fun i r h => by simp at h) (fun w' _ => ?_) hfc2 hlt
          rw [h1]
          cases A with
          | none => simp [Builtin.firstCells]
          | some ad => simp [Builtin.firstCells, loadCells, loadCellsFrom]
        · obtain ⟨ad, E', rfl, hk, hr⟩ := h2 hne
          have hEE : E' = i.size := by
            cases rows with
            | nil => exact absurd rfl hne
            | cons r rs =>
              obtain ⟨g1, _⟩ := hr.get (i := 0) rfl
              simp only [List.all_cons, Bool.and_eq_true, beq_iff_eq] at hall1
              rw [← g1, hall1.1]
          subst hEE
          obtain ⟨vals, g1, g2, g3⟩ := rows_cells (P := P) hr
          refine grow (some ad) rows.length vals h1 g1 g2 (fun w' hw => ?_) hfc2 hlt
          rw [h1]
          simpa [Builtin.firstCells] using g3 w' hw
      · rename_i t' g n hx
        have hv := hev x
        rw [hx] at hv
        obtain ⟨hg, hv⟩ := hv
        split at hb1
        · rename_i E' rows hro
          have hl := rowsOf_some hro
          have hn := own_len hM hl (n := n) (v := a.eval x) ⟨hg, hv⟩
          split at hb1
          · rename_i hEE
            subst hEE
            simp only [Option.some.injEq, Prod.mk.injEq] at hb1
            obtain ⟨rfl, rfl⟩ := hb1
            have ha := hM.arr t' g false i.size rows hl
            cases hb : e.β t' g with
            | none =>
              rw [hb] at hv ha
              obtain ⟨hn0, hv⟩ := hv
              exact nils hv ha (Decidable.em _)
            | some q =>
              obtain ⟨b, c, E2⟩ := q
              rw [hb] at hv ha
              obtain ⟨_, hnc, hv⟩ := hv
              obtain ⟨rfl, hE0, cs, ty, hhc, hcs, hrc, hrr⟩ := ha
              obtain ⟨fr, hfr, hh⟩ := id hhc
              rw [← hn] at hv
              obtain ⟨vals, g1, g2, g3⟩ := rows_cells (P := P) hrr
              rcases Nat.lt_or_ge c (rows.length + r2.length) with hlt | hge
              · refine grow (some ⟨b, 0, none⟩) c vals hv g1 g2 (fun w' hw => ?_) hfc2 hlt
                rw [hv]
                simpa [Builtin.firstCells] using g3 w' hw
              · -- in place
                obtain ⟨o1, o2, o3⟩ := hM.own t' g _ b c _ hl (by simp [live]) hb
                obtain ⟨hMk, hgk, hdead, hrest, _⟩ := Mem.killL [t'] lk lk hM (fun _ => rfl)
                obtain ⟨gd, hgd⟩ := hdead t' (by simp)
                have hfit : rows.length * i.size + r2.length * i.size ≤ c * i.size := by rw [← Nat.add_mul]; exact Nat.mul_le_mul_right _ hge
                have hone : ∀ u ∈ v2, u.oneCell' = true := hrep2.one hl2
                have hst := run_storeCells_fr (P := P) b (rows.length * i.size) ty fr v2 0 cs w hfr hh (by rw [hl2, hcs]; omega) hone
                simp only [Nat.add_zero] at hst
                have hrep1 : RowsRep e.ok w i.size rows cs.toList := by
                  intro k r hk
                  obtain ⟨q1, q2⟩ := hrr.get hk
                  refine ⟨q1, fun j d hj => ?_⟩
                  obtain ⟨u, hu, hd⟩ := q2.get hj
                  rw [add_lit, Nat.zero_add, Nat.zero_add] at hu
                  simp only [World.cell?, hh] at hu
                  exact ⟨u, by simpa using hu, hd⟩
                have hnew : RowsRep e.ok w i.size (rows ++ r2) (cs.toList.take (rows.length * i.size) ++ v2 ++ cs.toList.drop (rows.length * i.size + v2.length)) := by
                  refine RowsRep.app ?_ hrep2 (by
                    have q1 := Nat.mul_le_mul_right i.size hrc
                    have q2 : cs.toList.length = c * i.size := by simpa using hcs
                    rw [List.length_take, q2]; exact Nat.min_eq_left q1)
                  intro k r hk
                  obtain ⟨q1, q2⟩ := hrep1 k r hk
                  refine ⟨q1, fun j d hj => ?_⟩
                  obtain ⟨u, hu, hd⟩ := q2 j d hj
                  have hjE : j < i.size := by rw [← q1]; exact (List.getElem?_eq_some_iff.1 hj).1
                  have hkL : k < rows.length := (List.getElem?_eq_some_iff.1 hk).1
                  have : (k + 1) * i.size ≤ rows.length * i.size := Nat.mul_le_mul_right _ hkL
                  rw [Nat.add_mul] at this
                  exact ⟨u, by rw [List.getElem?_take, if_pos (by omega)]; exact hu, hd⟩
                obtain ⟨hx', hM'⟩ := hMk.adopt (lk' := updF lk (kill lk [t'] ++ [(T, ⟨genOf lk T + 1, false, .arr i.size (rows ++ r2)⟩)])) T b c i.size (rows ++ r2) cs (cs.toList.take (rows.length * i.size) ++ v2 ++ cs.toList.drop (rows.length * i.size + v2.length)).toArray ty (by simp only [List.size_toArray, List.length_append, List.length_take, List.length_drop, Array.length_toList, hl2, hcs]; omega) hhc o1 (hM.own2 t' g _ b c _ hl (by simp [live]) hb) o2
                  (fun t2 g2 fz2 k2 c2 E2 ht2 hl2' hk2 hb2 => by
                    by_cases h2 : t2 = t'
                    · subst h2
                      rw [hgd] at hl2'
                      obtain ⟨rfl, rfl, rfl⟩ : gd = g2 ∧ false = fz2 ∧ BK.dead = k2 := by simpa using hl2'
                      exact hk2 rfl
                    · rw [hrest t2 (by simpa using h2)] at hl2'
                      cases fz2 with
                      | true => exact o1 (hM.frz t2 g2 k2 b c2 E2 hl2' hk2 hb2)
                      | false => exact h2 (hM.inj t2 g2 k2 b c2 E2 t' g _ c _ hl2' hk2 hb2 hl (by simp [live]) hb))
                  hE (by simp only [List.size_toArray, List.length_append, List.length_take, List.length_drop, Array.length_toList, hl2, hcs]; omega) (by simp; omega) (by simpa using hnew) (fun q => by rw [updF_app, updF_one, hgk])
                intro K Q hK
                refine wp_value ?_ (hK _ _ (.slice (some ⟨b, 0, none⟩) (rows.length + r2.length) c) hx' hM' ?_)
                · have h2 := hfc2 w rfl
                  have hln : (Builtin.lenOf (a.eval y)).run P w = .ok r2.length w := by rw [hv2]; simp [Builtin.lenOf]
                  have hun := run_underlying (P := P) hut w
                  have huu' := run_underlying (P := P) huu w
                  have hargs : (Builtin.append_ ts o.type #[a.eval x, a.eval y]).run P w = .ok (.slice (some ⟨b, 0, none⟩) (rows.length + r2.length) c) (w.setRow b (cs.toList.take (rows.length * i.size) ++ v2 ++ cs.toList.drop (rows.length * i.size + v2.length)).toArray) := by
                    unfold Builtin.append_
                    simp only [ht0, ht1, Array.getElem?_eq_getElem, List.size_toArray, List.length_cons, List.length_nil, Nat.zero_add, Nat.reduceAdd, Nat.zero_lt_succ, Nat.lt_add_one, List.getElem_toArray, List.getElem_cons_zero, List.getElem_cons_succ]
                    simp only [hv, Sem.run_bind, hun, Result.andThen_ok, hsz, huu', Sem.run_pure, Bool.false_eq_true, if_false, hln]
                    rw [if_pos hge]
                    simp only [Bool.not_false, if_true, Sem.run_bind, h2, Result.andThen_ok, Sem.run_pure, add_lit, Nat.zero_add, hst]
                  simp only [execOp, ho, resolve, Sem.run_bind, Sem.run_pure, Result.andThen_ok, invoke, builtin, List.map_toArray, List.map_cons, List.map_nil]
                  rw [hargs]
                  rfl
                · have := rv_own (e := e) (lk := updF lk (kill lk [t'])) T b c i.size (rows.length + r2.length) hge (w' := w.setRow b (cs.toList.take (rows.length * i.size) ++ v2 ++ cs.toList.drop (rows.length * i.size + v2.length)).toArray)
                  rw [hgk] at this
                  rw [List.length_append]; exact this
          · cases hb1
        · cases hb1
      · cases hb1
    · cases he
  · cases he

/-- A tag takes over a block that nobody holds. -/
theorem Mem.adopt0 (hM : Mem w0 ok0 e lk w) (T b c E : Nat) (rows : List (List D)) (cs : Array Value) (ty : TypeId) (hh : HC w b cs ty) (hok : ¬ e.ok b) (hob : ¬ e.ob b) (h0 : w0.heap.size ≤ b)
    (hno : ∀ t g fz k c' E', t ≠ T → lk t = some ⟨g, fz, k⟩ → live k → e.β t g = some (b, c', E') → False) (hE : 0 < E) (hs : cs.size = c * E) (hr : rows.length ≤ c) (hrr : RDRows e.ok w ⟨b, 0, none⟩ E rows 0)
    (hlk : ∀ t, lk' t = if t = T then some ⟨genOf lk T + 1, false, .arr E rows⟩ else lk t) :
    Ext e w (e.with_ lk T b c (E, rows.length)) w ∧ Mem w0 ok0 (e.with_ lk T b c (E, rows.length)) lk' w := by
  have hx : Ext e w (e.with_ lk T b c (E, rows.length)) w := En.with_ext hM T b c (E, rows.length) (fun _ _ => rfl) (fun _ _ => rfl)
  refine ⟨hx, hM.upd1 hx T ⟨genOf lk T + 1, false, .arr E rows⟩ hlk (fun t => rfl) (fun b => Iff.rfl) (fun _ _ _ _ _ _ _ _ _ _ _ => rfl) (Nat.le_refl _) (fun E' rows' h => ?_) (fun cells' h => by cases h) (fun h => by cases h) (fun _ _ b' c' E' hb => ?_) hM.bel⟩
  · cases h
    rw [show (e.with_ lk T b c (E, rows.length)).β T (⟨genOf lk T + 1, false, BK.arr E rows⟩ : Blk).g = some (b, c, E, rows.length) from En.with_at T _ _ _]
    exact ⟨rfl, hE, cs, ty, hh, hs, hr, hrr⟩
  · rw [show (e.with_ lk T b c (E, rows.length)).β T (⟨genOf lk T + 1, false, BK.arr E rows⟩ : Blk).g = some (b, c, E, rows.length) from En.with_at T _ _ _] at hb
    obtain ⟨rfl, rfl, rfl⟩ : b = b' ∧ c = c' ∧ (E, rows.length) = E' := by simpa using hb
    exact ⟨⟨hok, hob⟩, h0, hh.lt, fun t g k c' E' ht h hk hb' => hno t g false k c' E' ht h hk hb'⟩

theorem fits_slice (hM : Mem w0 ok0 e lk w) (hev : ∀ x, RV e w (ev x) (a.eval x)) {x : Operand} {lo hi : Option Operand} {t u : TypeId} {E : Nat} (ho : o.op = .slice t x lo hi none)
    (hu : P.underlying t = some (.slice u)) (hs : sizeIn P u = some E) (he : eff cx ev lk T (.slice x lo hi E) = some f) : Fits P w0 ok0 e lk w o a f := by
  have hrun : ∀ ad len cap l h, a.eval x = .slice ad len cap → boundOr ev 0 lo = some l → boundOr ev len hi = some h → 0 ≤ l → l ≤ h → h ≤ len → len ≤ cap →
      (execOp a.eval o).run P w = .ok (.value (.slice (if cap = l.toNat then ad else ad.map (·.add (l.toNat * E))) (h.toNat - l.toNat) (cap - l.toNat))) w := by
    intro ad len cap l h hv hl hh h0 h1 h2 h3
    have := run_bounds (P := P) (w := w) true hev hl hh h0 h1 h2 h3
    simp [execOp, ho, Instr.sliceAt, Instr.slice, run_underlying hu, hv, this, run_sizeOf hs]
  have hv := hev x
  simp only [eff] at he
  unfold sliceE at he
  split at he
  · rename_i rows hx
    rw [hx] at hv
    simp only [RV, RC, RD] at hv
    obtain ⟨A, c, h1, h2, h3⟩ := hv
    split at he
    · rename_i l h hl hh
      split at he
      · rename_i hall
        cases hsd : sliceD rows l h with
        | none => simp [hsd] at he
        | some r =>
          simp only [hsd, Option.map_some, Option.some.injEq] at he; subst he
          obtain ⟨q0, q1, q2, rfl⟩ := sliceD_some hsd
          refine fits_pure hM (hrun _ _ _ _ _ h1 hl hh q0 q1 q2 h2) ?_
          by_cases hne : rows = []
          · subst hne
            simp only [List.length_nil] at q2
            have e1 : l.toNat = 0 := by simp at q2; omega
            have e2 : h.toNat = 0 := by simp at q2; omega
            simp [RV, RC, RD, e1, e2]
          · obtain ⟨ad, E', rfl, hk, hr⟩ := h3 hne
            have hE : E' = E := by
              cases rows with
              | nil => exact absurd rfl hne
              | cons r rs =>
                obtain ⟨g1, _⟩ := hr.get (i := 0) rfl
                simp only [List.all_cons, Bool.and_eq_true, beq_iff_eq] at hall
                rw [← g1, hall.1]
            subst hE
            have := rows_piece hr hk l.toNat h.toNat (c - l.toNat) c rfl (by omega) (by omega) h2
            simpa only [RV, RC, Option.map_some] using this
      · cases he
    · cases he
  · rename_i t' g n hx
    rw [hx] at hv
    obtain ⟨hg, hv⟩ := hv
    split at he
    · rename_i fz E' rows hro
      have hl := rowsOf_some hro
      have hn := own_len hM hl (n := n) (v := a.eval x) ⟨hg, hv⟩
      split at he
      · rename_i l h hbl hbh
        split at he
        · rename_i hEE
          subst hEE
          split at he
          · rename_i hmv
            have hlo : lo = none ∧ fz = false := by
              unfold moves at hmv
              split at hmv
              · exact ⟨rfl, by simpa using hmv⟩
              · cases hmv
            obtain ⟨rfl, rfl⟩ := hlo
            split at he
            case isFalse => cases he
            rename_i hb2
            simp only [Option.some.injEq] at he; subst he
            obtain rfl : l = 0 := by simpa [boundOr] using hbl.symm
            have ha := hM.arr t' g false E' rows hl
            obtain ⟨hMk, hgk, hdead, hrest, _⟩ := Mem.killL [t'] lk lk hM (fun _ => rfl)
            obtain ⟨gd, hgd⟩ := hdead t' (by simp)
            cases hb : e.β t' g with
            | none =>
              rw [hb] at hv ha
              obtain ⟨hn0, hv⟩ := hv
              have hr0 : rows = [] := ha
              subst hr0
              simp only [List.length_nil] at hb2 hbh
              have hh0 : h = 0 := by simp at hb2; omega
              subst hh0
              obtain ⟨hx', hM'⟩ := hMk.newNil (lk' := updF lk (kill lk [t'] ++ [(T, ⟨genOf lk T + 1, false, .arr E' []⟩)])) T E' (fun q => by rw [updF_app, updF_one, hgk])
              intro K Q hK
              refine wp_value (hrun _ _ _ _ _ hv hbl (by simpa using hbh) (Int.le_refl _) (Int.le_refl _) (by simp) (Nat.le_refl _)) (hK _ w _ hx' (by simpa using hM') ?_)
              have := rv_ownNil (e := e) (lk := updF lk (kill lk [t'])) T (w' := w)
              rw [hgk] at this
              simpa using this
            | some q =>
              obtain ⟨b, c, E2⟩ := q
              rw [hb] at hv ha
              obtain ⟨_, hnc, hv⟩ := hv
              obtain ⟨rfl, hE0, cs, ty, hh, hcs, hrc, hrr⟩ := ha
              rw [← hn] at hv
              obtain ⟨o1, o2, o3⟩ := hM.own t' g _ b c _ hl (by simp [live]) hb
              have hlen : (rows.take h.toNat).length = h.toNat := by rw [List.length_take]; omega
              obtain ⟨hx', hM'⟩ := hMk.adopt0 (lk' := updF lk (kill lk [t'] ++ [(T, ⟨genOf lk T + 1, false, .arr E' (rows.take h.toNat)⟩)])) T b c E' (rows.take h.toNat) cs ty hh o1 (hM.own2 t' g _ b c _ hl (by simp [live]) hb) o2
                (fun t2 g2 fz2 k2 c2 E2 ht2 hl2' hk2 hb2 => by
                  by_cases h2 : t2 = t'
                  · subst h2
                    rw [hgd] at hl2'
                    obtain ⟨rfl, rfl, rfl⟩ : gd = g2 ∧ false = fz2 ∧ BK.dead = k2 := by simpa using hl2'
                    exact hk2 rfl
                  · rw [hrest t2 (by simpa using h2)] at hl2'
                    cases fz2 with
                    | true => exact o1 (hM.frz t2 g2 k2 b c2 E2 hl2' hk2 hb2)
                    | false => exact h2 (hM.inj t2 g2 k2 b c2 E2 t' g _ c _ hl2' hk2 hb2 hl (by simp [live]) hb))
                hE0 hcs (by omega) (RDRows.of fun i r hi => hrr.get (by
                  rw [List.getElem?_take] at hi
                  split at hi
                  · exact hi
                  · cases hi)) (fun q => by rw [updF_app, updF_one, hgk])
              intro K Q hK
              refine wp_value (hrun _ _ _ _ _ hv hbl hbh (Int.le_refl _) hb2.1 hb2.2 hrc) (hK _ w _ hx' hM' ?_)
              have := rv_own (e := e) (lk := updF lk (kill lk [t'])) (w' := w) T b c E' h.toNat (by omega)
              rw [hgk] at this
              rw [hlen]
              have hz : (if c = (0 : Int).toNat then (some ⟨b, 0, none⟩ : Option Addr) else (some ⟨b, 0, none⟩ : Option Addr).map (·.add ((0 : Int).toNat * E'))) = some ⟨b, 0, none⟩ := by
                split
                · rfl
                · simp [add_lit]
              rw [hz]
              simpa using this
          rename_i hmv
          cases hsd : sliceD rows l h with
          | none => simp [hsd] at he
          | some r =>
            simp only [hsd, Option.map_some, Option.some.injEq] at he; subst he
            obtain ⟨q0, q1, q2, rfl⟩ := sliceD_some hsd
            obtain ⟨e2, hx2, hM2, hβ, hG, hok, _⟩ := Mem.freezeL lk [t'] e lk hM (fun t g fz k h => ⟨fz, h⟩) (fun u hu => by simp at hu; subst hu; exact ⟨g, fz, _, hl, by simp [live]⟩)
            have ha := hM.arr t' g fz E' rows hl
            cases hb : e.β t' g with
            | none =>
              rw [hb] at hv ha
              obtain ⟨hn0, hv⟩ := hv
              have hr0 : rows = [] := ha
              subst hr0
              simp only [List.length_nil] at q2 hbh
              intro K Q hK
              refine wp_value (hrun _ _ _ _ _ hv hbl (by simpa using hbh) q0 q1 (by simpa using q2) (Nat.le_refl _)) (hK e2 w _ hx2 hM2 ?_)
              have e1 : l.toNat = 0 := by simp at q2; omega
              have e2 : h.toNat = 0 := by simp at q2; omega
              simp [RV, RC, RD, e1, e2]
            | some q =>
              obtain ⟨b, c, E2⟩ := q
              rw [hb] at hv ha
              obtain ⟨_, hnc, hv⟩ := hv
              obtain ⟨rfl, hE0, cs, ty, hh, hcs, hrc, hrr⟩ := ha
              intro K Q hK
              rw [← hn] at hv
              refine wp_value (hrun _ _ _ _ _ hv hbl hbh q0 q1 q2 hrc) (hK e2 w _ hx2 hM2 ?_)
              have hk2 : e2.ok b := hok t' (by simp) g fz _ b c _ hl hb
              have hrr2 := RDRows.mono hx2.ok hx2.heap ⟨b, 0, none⟩ rfl E' rows 0 hrr
              have := rows_piece hrr2 hk2 l.toNat h.toNat (c - l.toNat) c rfl (by omega) (by omega) hrc
              simpa only [RV, RC, Option.map_some] using this
        · cases he
      · cases he
    · cases he
  · rename_i hx
    rw [hx] at hv
    split at he
    · rename_i l h hl hh
      split at he
      · rename_i hc
        obtain ⟨rfl, rfl⟩ := hc
        simp only [Option.some.injEq] at he; subst he
        refine fits_pure hM (hrun none 0 0 0 0 hv hl (by simpa using hh) (by omega) (by omega) (by omega) (by omega)) ?_
        simp [RV, RC, RD]
      · cases he
    · cases he
  · cases he


end

end Go.Proofs.YtmmlolampgnamaaDoor.Ax
