/- Drawn regions: a variable that is laid at any time, ahead of a call that is run in its caller's place or behind it. -/
import Derived.Test.YtmmlolampgnamaaDoorAxR
namespace Go.Proofs.YtmmlolampgnamaaDoor.Ax
open Go.RowKit
set_option linter.unusedVariables false
set_option linter.unusedSimpArgs false

section
variable {P : Program} {w0 w : World} {ok0 : Ctx0} {a : Act} {cx : Cx} {N off : Nat} {ro : Option Nat} {md : Nat}

/-- A block lies still until it is taken. -/
def EarlyC (ok0 : Ctx0) (b : Nat) (o : Obj) : Ctx0 where
  ok := ok0.ok
  p := fun x => ok0.p x ∨ x = b
  J := fun e w => ok0.J e w ∧ e.ob b ∧ w.heap[b]? = some o
  mono := fun hx h => ⟨ok0.mono (hx.less fun _ hb => .inl hb) h.1, (hx.ob b (.inr rfl) h.2.1).1, (hx.ob b (.inr rfl) h.2.1).2.trans h.2.2⟩
  hp := fun h x hx => by
    rcases hx with hx | rfl
    · exact ok0.hp h.1 x hx
    · exact h.2.1
def maskF (d : Nat) (sl : Nat → AV) : Nat → AV := fun t => if t = d then .c .undef else sl t
/-- The variable was laid early. -/
def Early (w0 : World) (ok0 : Ctx0) (N d : Nat) (z : List Cl) (sl : Nat → AV) (lk : Nat → Option Blk) (a : Act) (w : World) : Prop :=
  ∃ b cs ty, ¬ ok0.p b ∧ d < N ∧ a.tmps.getD d undef = .pointer (some ⟨b, 0, none⟩) ∧ (∀ (e : En) (w : World), RCs e w z cs.toList) ∧ SimF w0 (EarlyC ok0 b (.cells cs ty (0, 0))) N (maskF d sl) lk a w

theorem put_getD {d : Nat} {dst : Option Nat} {v : Value} (h : dst ≠ some d) : (a.put dst v).tmps.getD d undef = a.tmps.getD d undef := by
  cases dst with
  | none => rfl
  | some t =>
    simp only [Act.put, Array.getD_eq_getD_getElem?, Array.getElem?_setIfInBounds]
    rw [if_neg (fun e => h (by rw [e]))]

/-- What was laid early is told as what was laid now. -/
theorem Early.take {d : Nat} {z : List Cl} {sl : Nat → AV} {lk : Nat → Option Blk} {T : Nat} (h : Early w0 ok0 N d z sl lk a w) :
    SimF w0 ok0 N (putF N sl (some d) (.c (.bptr T (genOf lk T + 1) 0))) (updF lk [(T, ⟨genOf lk T + 1, false, .box z⟩)]) a w := by
  obtain ⟨b, cs, ty, hpb, hdN, hv, hz, e, hM, hs, hsl, hd⟩ := h
  obtain ⟨hj, hob, hheap⟩ : ok0.J e w ∧ e.ob b ∧ w.heap[b]? = some (.cells cs ty (0, 0)) := hM.j
  obtain ⟨qb1, qb2, qb3⟩ := hM.ob b hob
  -- the block is let go
  obtain ⟨eA, heA⟩ : ∃ eA : En, eA = { e with ob := fun x => e.ob x ∧ x ≠ b } := ⟨_, rfl⟩
  have hxA : ExtO (fun x => x ≠ b) e w eA w := by
    subst heA
    exact ⟨fun _ _ _ => rfl, fun _ => Nat.le_refl _, fun _ h => h, fun _ _ => rfl, fun x hx hb => ⟨⟨hb, hx⟩, rfl⟩⟩
  have hMA : Mem w0 ok0 eA lk w := by
    refine ⟨?_, ?_, fun t g fz cells ht => ?_, ?_, ?_, ?_, ?_, ?_, hM.bel, ?_, hM.gl, ok0.mono (hxA.less fun x hx (e : x = b) => hpb (e ▸ hx)) hj, ?_, ?_⟩
    · subst heA; exact hM.gen
    · subst heA; exact hM.arr
    · obtain ⟨b', c, E, cs', ty', h1, h2, h3⟩ := hM.box t g fz cells ht
      exact ⟨b', c, E, cs', ty', by subst heA; exact h1, h2, RCs.extO hxA h3⟩
    · subst heA; exact hM.frz
    · subst heA; exact hM.own
    · subst heA; exact hM.inj
    · subst heA; exact hM.okl
    · subst heA; exact hM.okr
    · subst heA; exact hM.iter
    · subst heA; exact fun x hx => hM.ob x hx.1
    · subst heA; exact fun t g k b' c E h1 h2 h3 hx => hM.own2 t g k b' c E h1 h2 h3 hx.1
  have hnb : ¬ eA.ob b := by subst heA; exact fun h => h.2 rfl
  have hokA : ¬ eA.ok b := by subst heA; exact qb2
  have hx : Ext eA w (eA.with_ lk T b 1 (1, 0)) w := En.with_ext hMA T _ _ _ (fun _ _ => rfl) (fun _ _ => rfl)
  have hM' : Mem w0 ok0 (eA.with_ lk T b 1 (1, 0)) (updF lk [(T, ⟨genOf lk T + 1, false, .box z⟩)]) w := by
    refine hMA.upd1 hx T ⟨genOf lk T + 1, false, .box z⟩ (fun u => rfl) (fun t => rfl) (fun b => Iff.rfl) (fun _ _ _ _ _ _ _ _ _ _ _ => rfl) (Nat.le_refl _) (fun E rows h => by cases h)
      (fun cells' h => ?_) (fun h => by cases h) (fun _ _ b' c E hb => ?_) hM.bel
    · cases h
      exact ⟨b, 1, (1, 0), cs, ty, En.with_at T _ _ _, hheap, hz _ _⟩
    · rw [show (eA.with_ lk T b 1 (1, 0)).β T (⟨genOf lk T + 1, false, BK.box z⟩ : Blk).g = some (b, 1, 1, 0) from En.with_at T _ _ _] at hb
      obtain ⟨rfl, rfl, rfl⟩ : b = b' ∧ 1 = c ∧ (1, 0) = E := by simpa using hb
      refine ⟨⟨hokA, hnb⟩, qb3, qb1, fun t g k c' E' _ h hk hb' => ?_⟩
      subst heA
      exact hM.own2 t g k b c' E' h hk hb' hob
  have hdA : DefOK ok0.p eA w a.defers := ⟨hd.1, fun x hx' => by
    obtain ⟨D, h1, h2, h3, h4⟩ := hd.2 x hx'
    exact ⟨D, h1, by subst heA; exact ⟨h2, fun e => h3 (.inr e)⟩, fun h => h3 (.inl h), h4⟩⟩
  refine ⟨_, hM', hs, fun t => ?_, hdA.ext hx⟩
  unfold putF
  by_cases ht : d = t
  · subst ht
    rw [if_pos ⟨rfl, hdN⟩, hv]
    exact ⟨by simp [En.with_], b, 1, (1, 0), En.with_at T _ _ _, rfl⟩
  · rw [if_neg (by simp [ht])]
    have := hsl t
    unfold maskF at this
    rw [if_neg (Ne.symm ht)] at this
    exact RV.ext hx (RV.extO hxA this)

/-- It is laid early. -/
theorem early_step {o : Oper} {d : Nat} {tq : TypeId} {z : List Cl} {sl : Nat → AV} {lk : Nat → Option Blk} {K : Act → World → Prop} {Q : Exit → Act → World → Prop} {ops : Array Oper} (ho : o.op = .alloc tq) (hg : o.guard = none) (hd : o.dst = some d) (hdN : d < N) (hz : zeroC P tq = some z)
    (hS : SimF w0 ok0 N sl lk a w) (hK : ∀ a' w', Early w0 ok0 N d z sl lk a' w' → K a' w') :
    if Region.wanted o (yielded ops a.tmps) = true then o.wpIn (FW ro) md P a w K Q else (∀ f, o.about P w a.eval = some f → (FW ro).fn f) ∧ K (a.put o.dst undef) w := by
  rw [if_pos (by simp [Region.wanted, hg])]
  obtain ⟨i, v, hi, hv, hm⟩ := zeroC_some hz
  obtain ⟨e, hM, hs, hsl, hdf⟩ := hS
  obtain ⟨hx, hM'⟩ := hM.allocOb (.cells v.cells.toList.toArray tq)
  refine wpIn_of_wp (by rw [ho]; intro c h; cases h) (wp_value (v := .pointer (some ⟨w.heap.size, 0, none⟩)) (w' := w.alloc (.cells v.cells.toList.toArray tq)) (by simp [execOp, ho, Instr.alloc, run_zeroValue hi hv, newVar, newRow]) (hK _ _ ?_))
  have hnew := alloc_new w (.cells v.cells.toList.toArray tq)
  have hfresh : ∀ x, e.ob x → x ≠ w.heap.size := fun x hx h => by have := (hM.ob x hx).1; omega
  refine ⟨w.heap.size, v.cells.toList.toArray, tq, fun h => hfresh _ (ok0.hp hM.j _ h) rfl, hdN, ?_, fun e w => (mapO_val (e := e) (w := w) hm).1, ⟨_, hM'.ctx (C' := EarlyC ok0 w.heap.size (.cells v.cells.toList.toArray tq (0, 0))) rfl ⟨hM'.j, .inr rfl, hnew⟩, ?_, fun t => ?_, ?_⟩⟩
  · rw [hd]
    simp only [Act.put, Array.getD_eq_getD_getElem?, Array.getElem?_setIfInBounds]
    simp [hs, hdN]
  · rw [hd]; simp [Act.put, hs]
  · unfold maskF
    by_cases ht : t = d
    · rw [if_pos ht]; exact trivial
    · rw [if_neg ht, hd, put_getD (by simp [Ne.symm ht])]
      exact RV.ext hx (hsl t)
  · have hde : (a.put o.dst (.pointer (some ⟨w.heap.size, 0, none⟩))).defers = a.defers := by rw [hd]; rfl
    rw [hde]
    refine ⟨hdf.1, fun x hx' => ?_⟩
    obtain ⟨D, h1, h2, h3, h4⟩ := hdf.2 x hx'
    refine ⟨D, h1, .inl h2, ?_, (hx.ob D h2).2.trans h4⟩
    rintro (h | h)
    · exact h3 h
    · exact hfresh D h2 h
/-- What one operation more comes to, in the order of the text. -/
theorem foldS_put {its : List (AInst × Ef)} {i : Nat} {x : AInst × Ef} (hz : its[i]? = some x) {X Y : Nat → Bool} (hY : ∀ j, Y j = (decide (j = i) || X j)) (key : ∀ j y, its[j]? = some y → (∃ t, y.1.dst = some t ∧ x.1.dst = some t) → X j = decide (j < i)) (sl : Nat → AV) :
    putF N (foldS N X its 0 sl) x.1.dst x.2.v = foldS N Y its 0 sl := by
  funext t
  by_cases hd : x.1.dst = some t
  · have h0 : foldS N X its 0 sl t = foldS N (fun j => decide (j < i)) its 0 sl t := foldS_congr _ _ _ _ rfl fun j y hy hdy => by
      rw [Nat.zero_add]; exact key j y hy ⟨t, hdy, hd⟩
    have hYt : foldS N Y its 0 sl t = foldS N (fun j => decide (j ≤ 0 + i)) its 0 sl t := foldS_congr _ _ _ _ rfl fun j y hy hdy => by
      rw [Nat.zero_add, Nat.zero_add, hY, key j y hy ⟨t, hdy, hd⟩]
      by_cases h1 : j = i
      · simp [h1]
      · by_cases h2 : j < i
        · simp [h2, Nat.le_of_lt h2]
        · simp [h1, h2]; omega
    rw [hYt, foldS_upto _ _ _ _ _ hz, Nat.zero_add]
    show (if x.1.dst = some t ∧ t < N then x.2.v else _) = (if x.1.dst = some t ∧ t < N then x.2.v else _)
    rw [h0]
  · rw [putF_ne hd]
    exact foldS_congr _ _ _ _ rfl fun j y hy hdy => by
      rw [Nat.zero_add, hY]
      have : j ≠ i := fun h => by subst h; rw [hz] at hy; cases hy; exact hd hdy
      simp [this]
theorem foldL_put {its : List (AInst × Ef)} {i : Nat} {x : AInst × Ef} (hz : its[i]? = some x) {X Y : Nat → Bool} (hY : ∀ j, Y j = (decide (j = i) || X j)) (key : ∀ j y, its[j]? = some y → (∃ t, t ∈ y.2.up.map (·.1) ∧ t ∈ x.2.up.map (·.1)) → X j = decide (j < i)) (lk : Nat → Option Blk) :
    updF (foldL X its 0 lk) x.2.up = foldL Y its 0 lk := by
  funext t
  by_cases hd : t ∈ x.2.up.map (·.1)
  · have hYt : foldL Y its 0 lk t = foldL (fun j => decide (j ≤ 0 + i)) its 0 lk t := foldL_congr _ _ _ _ rfl fun j y hy hdy => by
      rw [Nat.zero_add, Nat.zero_add, hY, key j y hy ⟨t, hdy, hd⟩]
      by_cases h1 : j = i
      · simp [h1]
      · by_cases h2 : j < i
        · simp [h2, Nat.le_of_lt h2]
        · simp [h1, h2]; omega
    rw [hYt, foldL_upto _ _ _ _ _ hz, Nat.zero_add]
    exact updF_eq (.inr hd)
  · rw [updF_ne hd]
    exact foldL_congr _ _ _ _ rfl fun j y hy hdy => by
      rw [Nat.zero_add, hY]
      have : j ≠ i := fun h => by subst h; rw [hz] at hy; cases hy; exact hd hdy
      simp [this]
theorem foldS_mask {d : Nat} {X : Nat → Bool} : ∀ (its : List (AInst × Ef)) (k : Nat) (sl : Nat → AV), (∀ x ∈ its, x.1.dst ≠ some d) → foldS N X its k (maskF d sl) = maskF d (foldS N X its k sl)
  | [], _, _, _ => rfl
  | x :: its, k, sl, h => by
    have hx := h x List.mem_cons_self
    simp only [foldS]
    have e : (if X k = true then putF N (maskF d sl) x.1.dst x.2.v else maskF d sl) = maskF d (if X k = true then putF N sl x.1.dst x.2.v else sl) := by
      split
      · funext t
        unfold putF maskF
        by_cases ht : t = d
        · subst ht
          rw [if_neg (fun q => hx q.1)]
          simp
        · simp [ht]
      · rfl
    rw [e]
    exact foldS_mask its (k + 1) _ fun y hy => h y (List.mem_cons_of_mem _ hy)
theorem putF_mask {d : Nat} {dst : Option Nat} {v : AV} {sl : Nat → AV} (h : dst ≠ some d) : putF N (maskF d sl) dst v = maskF d (putF N sl dst v) := by
  funext t
  unfold putF maskF
  by_cases ht : t = d
  · subst ht
    rw [if_neg (fun q => h q.1)]
    simp
  · simp [ht]

/-- A drawn region's first part, up to one operation that all wait for but a variable that is laid at any time. -/
theorem draw_float {ops : Array Oper} {is : List AInst} {s s' : St} {fs : List Ef} {m q d : Nat} {oq : Oper} {tq : TypeId} {z : List Cl} {Q : Exit → Act → World → Prop} {R RE : Act → World → Prop} (hcall : CxOK P cx) (hmq : m < q)
    (hq : ops[q]? = some oq) (hqo : oq.op = .alloc tq) (hqg : oq.guard = none) (hqd : oq.dst = some d) (hdN : d < s.slots.length) (hz : zeroC P tq = some z) (hdis : ∀ x ∈ is, d ∉ x.temps ∧ x.dst ≠ some d)
    (hcomp : mapO (compI P s.slots.length off ops) (ops.toList.take m) = some is) (hrun : runI cx is s = some (s', fs)) (hok : okDraw (ops.toList.map anyAfter) is fs = true)
    (hbefore : ∀ (i : Nat) (o : Oper), ops[i]? = some o → ∀ e ∈ o.after, Region.binds .any e = true → e.on < i)
    (hlast : ∀ (o : Oper), ops[m]? = some o → (∀ j, j < m → reach (ops.toList.map anyAfter) ops.size m j = true) ∧
      (∀ (a : Act) (w : World), SimL w0 ok0 s' a w → ∀ K : Act → World → Prop, (∀ a' w', R a' w' → K a' w') → if Region.wanted o (yielded ops a.tmps) = true then o.wpIn (FW ro) md P a w K Q else (∀ f, o.about P w a.eval = some f → (FW ro).fn f) ∧ K (a.put o.dst undef) w) ∧
      (∀ (a : Act) (w : World), Early w0 ok0 s.slots.length d z (slotsF s'.slots) (getL s'.blk) a w → ∀ K : Act → World → Prop, (∀ a' w', RE a' w' → K a' w') → if Region.wanted o (yielded ops a.tmps) = true then o.wpIn (FW ro) md P a w K Q else (∀ f, o.about P w a.eval = some f → (FW ro).fn f) ∧ K (a.put o.dst undef) w))
    (hrest : ∀ (i : Nat) (o : Oper), m < i → i ≠ q → ops[i]? = some o → reach (ops.toList.map anyAfter) ops.size i m = true)
    (htail : ∀ (fuel : Nat) (listed : Array Bool) (a : Act) (w : World), listed.size = ops.size → listed.toList.count false ≤ fuel →
      (∀ j o, ops[j]? = some o → listedX listed j = true → ∀ e ∈ o.after, Region.binds .any e = true → listedX listed e.on = true) →
      (∀ j, j < m + 1 → listedX listed j = true) → ((∀ j, m + 1 ≤ j → listedX listed j = false) ∧ R a w ∨ (∀ j, m + 1 ≤ j → listedX listed j = decide (j = q)) ∧ RE a w) → wpAnyIn (FW ro) md P .any ops Q fuel listed a w) :
    ∀ (fuel : Nat) (listed : Array Bool) (a : Act) (w : World), listed.size = ops.size → listed.toList.count false ≤ fuel →
      (∀ j o, ops[j]? = some o → listedX listed j = true → ∀ e ∈ o.after, Region.binds .any e = true → listedX listed e.on = true) →
      ((∀ i, m ≤ i → listedX listed i = false) ∧ SimF w0 ok0 s.slots.length (foldS s.slots.length (listedX listed) (is.zip fs) 0 (slotsF s.slots)) (foldL (listedX listed) (is.zip fs) 0 (getL s.blk)) a w ∨
       (∀ i, m ≤ i → listedX listed i = decide (i = q)) ∧ Early w0 ok0 s.slots.length d z (foldS s.slots.length (listedX listed) (is.zip fs) 0 (slotsF s.slots)) (foldL (listedX listed) (is.zip fs) 0 (getL s.blk)) a w) →
      wpAnyIn (FW ro) md P .any ops Q fuel listed a w := by
  obtain ⟨r1, r2, r3, r4, r5⟩ := runI_steps is s s' fs hrun
  obtain ⟨m1, m2⟩ := mapO_get hcomp
  have hqs : q < ops.size := (Array.getElem?_eq_some_iff.1 hq).1
  have hlenis : is.length = m := by
    have := m1
    rw [List.length_take] at this
    simp only [Array.length_toList] at this
    omega
  have hlen : ∀ j x, (is.zip fs)[j]? = some x → j < m := fun j x hj => by
    have := (List.getElem?_eq_some_iff.1 hj).1
    rw [List.length_zip] at this
    omega
  have hfold : ∀ (listed : Array Bool), (∀ i, i < m → listedX listed i = true) → slotsF s'.slots = foldS s.slots.length (listedX listed) (is.zip fs) 0 (slotsF s.slots) ∧ getL s'.blk = foldL (listedX listed) (is.zip fs) 0 (getL s.blk) := by
    intro listed hallL
    rw [r4, r5]
    refine ⟨?_, ?_⟩
    · funext t
      exact foldS_congr _ _ _ _ rfl fun j x hj _ => by rw [Nat.zero_add, hallL j (hlen j x hj)]
    · funext t
      exact foldL_congr _ _ _ _ rfl fun j x hj _ => by rw [Nat.zero_add, hallL j (hlen j x hj)]
  have hdone : ∀ (listed : Array Bool) (a : Act) (w : World), listed.size = ops.size → listedX listed m = false → Region.ready .any ops listed = [] → Q .normal a w := by
    intro listed a w hsz hlm hready
    have hallL : ∀ i, i < ops.size → listedX listed i = true := by
      intro i
      induction i using Nat.strongRecOn with
      | ind i ih =>
        intro hi
        cases hl : listedX listed i
        · exfalso
          have : i ∈ Region.ready .any ops listed := mem_ready.2 ⟨by
              unfold listedX at hl
              rw [Array.getD_eq_getD_getElem?, Array.getElem?_eq_getElem (by omega)] at hl ⊢
              simpa using hl, ops[i], Array.getElem?_eq_getElem hi, fun e he hb => ih e.on (hbefore i _ (Array.getElem?_eq_getElem hi) e he hb) (Nat.lt_trans (hbefore i _ (Array.getElem?_eq_getElem hi) e he hb) hi)⟩
          rw [hready] at this; cases this
        · rfl
    rw [hallL m (by omega)] at hlm; cases hlm
  intro fuel
  induction fuel with
  | zero =>
    intro listed a w hsz hcnt hcl hS
    have hlm : listedX listed m = false := by
      rcases hS with hS | hS
      · exact hS.1 m (Nat.le_refl _)
      · rw [hS.1 m (Nat.le_refl _)]; simp; omega
    have hnil : Region.ready .any ops listed = [] := by
      rw [List.eq_nil_iff_forall_not_mem]
      intro i hi
      obtain ⟨h1, o, ho, _⟩ := mem_ready.1 hi
      have hlt : i < listed.size := by rw [hsz]; exact (Array.getElem?_eq_some_iff.1 ho).1
      have : false ∈ listed.toList := by
        rw [Array.getD_eq_getD_getElem?, Array.getElem?_eq_getElem hlt, Option.getD_some] at h1
        rw [← h1, Array.mem_toList_iff]; exact Array.getElem_mem hlt
      have := List.count_pos_iff.2 this
      omega
    exact ⟨hnil, hdone listed a w hsz hlm hnil⟩
  | succ fuel ih =>
    intro listed a w hsz hcnt hcl hS
    have hlm : listedX listed m = false := by
      rcases hS with hS | hS
      · exact hS.1 m (Nat.le_refl _)
      · rw [hS.1 m (Nat.le_refl _)]; simp; omega
    refine ⟨hdone listed a w hsz hlm, fun i hi => ?_⟩
    obtain ⟨h1, o, ho, hall⟩ := mem_ready.1 hi
    have hlt : i < listed.size := by rw [hsz]; exact (Array.getElem?_eq_some_iff.1 ho).1
    have hli : listedX listed i = false := by
      unfold listedX
      rw [Array.getD_eq_getD_getElem?, Array.getElem?_eq_getElem hlt, Option.getD_some] at h1 ⊢
      exact h1
    have hall' : ∀ e ∈ o.after, Region.binds .any e = true → listedX listed e.on = true := fun e he hb => hall e he hb
    have hcnt' : (listed.setIfInBounds i true).toList.count false ≤ fuel := by
      have hg : listed.toList[i]'(by simpa using hlt) = false := by
        unfold listedX at hli
        rw [Array.getD_eq_getD_getElem?, Array.getElem?_eq_getElem hlt, Option.getD_some] at hli
        simpa using hli
      have hpos : 0 < listed.toList.count false := List.count_pos_iff.2 (by rw [← hg]; exact List.getElem_mem _)
      rw [Array.toList_setIfInBounds, List.count_set (by simpa using hlt), hg]
      have e1 : (if (false == false) = true then 1 else 0) = 1 := rfl
      have e2 : (if (true == false) = true then 1 else 0) = 0 := rfl
      rw [e1, e2]
      omega
    have hcl' : ∀ j o', ops[j]? = some o' → listedX (listed.setIfInBounds i true) j = true → ∀ e ∈ o'.after, Region.binds .any e = true → listedX (listed.setIfInBounds i true) e.on = true := by
      intro j o' ho' hj e he hb
      rw [setX hlt] at hj ⊢
      simp only [Bool.or_eq_true, decide_eq_true_eq] at hj ⊢
      rcases hj with rfl | hj
      · rw [ho] at ho'; cases ho'; exact .inr (hall' e he hb)
      · exact .inr (hcl j o' ho' hj e he hb)
    have hfinish : (if Region.wanted o (yielded ops a.tmps) = true then o.wpIn (FW ro) md P a w (wpAnyIn (FW ro) md P .any ops Q fuel (listed.setIfInBounds i true)) Q else (∀ f, o.about P w a.eval = some f → (FW ro).fn f) ∧ wpAnyIn (FW ro) md P .any ops Q fuel (listed.setIfInBounds i true) (a.put o.dst undef) w) → wpOpIn (FW ro) md P ops Q i (wpAnyIn (FW ro) md P .any ops Q fuel (listed.setIfInBounds i true)) a w := by
      intro hmain
      unfold wpOpIn
      rw [ho]
      simp only []
      split
      · rename_i hw; rw [if_pos hw] at hmain; exact hmain
      · rename_i hw; rw [if_neg hw] at hmain; exact hmain
    refine hfinish ?_
    rcases Nat.lt_or_ge i m with him | him
    case inr =>
      by_cases hiq : i = q
      · -- the variable is laid
        subst hiq
        rw [hq] at ho; cases ho
        rcases hS with ⟨hno, hS⟩ | ⟨hno, _⟩
        · have eX : ∀ j, j < m → listedX (listed.setIfInBounds i true) j = listedX listed j := fun j hj => by
            rw [setX hlt]
            have : j ≠ i := by omega
            simp [this]
          refine early_step hqo hqg hqd hdN hz hS fun a' w' hE => ih (listed.setIfInBounds i true) a' w' (by simp [hsz]) hcnt' hcl' (.inr ⟨fun j hj => ?_, ?_⟩)
          · rw [setX hlt, hno j hj, Bool.or_false]
          · have e1 : foldS s.slots.length (listedX (listed.setIfInBounds i true)) (is.zip fs) 0 (slotsF s.slots) = foldS s.slots.length (listedX listed) (is.zip fs) 0 (slotsF s.slots) := by
              funext t
              exact foldS_congr _ _ _ _ rfl fun j x hj _ => by rw [Nat.zero_add, eX j (hlen j x hj)]
            have e2 : foldL (listedX (listed.setIfInBounds i true)) (is.zip fs) 0 (getL s.blk) = foldL (listedX listed) (is.zip fs) 0 (getL s.blk) := by
              funext t
              exact foldL_congr _ _ _ _ rfl fun j x hj _ => by rw [Nat.zero_add, eX j (hlen j x hj)]
            rw [e1, e2]
            exact hE
        · rw [hno i him, decide_eq_true rfl] at hli; cases hli
      · have him2 : i = m := by
          rcases Nat.lt_or_ge m i with h | h
          · have := (reach_closed hcl _ _ _ (hrest i o h hiq ho)).2 o ho hall'
            rw [hlm] at this; cases this
          · omega
        subst him2
        obtain ⟨hreach, hh0, hh1⟩ := hlast o ho
        have hpre : ∀ j, j < i → listedX listed j = true := fun j hj => (reach_closed hcl _ _ _ (hreach j hj)).2 o ho hall'
        obtain ⟨f1, f2⟩ := hfold listed hpre
        have hpre' : ∀ j, j < i + 1 → listedX (listed.setIfInBounds i true) j = true := fun j hj => by
          rw [setX hlt]
          by_cases hji : j = i
          · simp [hji]
          · simp [hpre j (by omega)]
        rcases hS with ⟨hno, hS⟩ | ⟨hno, hS⟩
        · refine hh0 a w ?_ _ fun a' w' hr => htail fuel (listed.setIfInBounds i true) a' w' (by simp [hsz]) hcnt' hcl' hpre' (.inl ⟨fun j hj => ?_, hr⟩)
          · unfold SimL; rw [r2, f1, f2]; exact hS
          · rw [setX hlt, hno j (by omega)]
            simp; omega
        · refine hh1 a w ?_ _ fun a' w' hr => htail fuel (listed.setIfInBounds i true) a' w' (by simp [hsz]) hcnt' hcl' hpre' (.inr ⟨fun j hj => ?_, hr⟩)
          · rw [f1, f2]; exact hS
          · rw [setX hlt, hno j (by omega)]
            have : j ≠ i := by omega
            simp [this]
    obtain ⟨x, hx, hcx⟩ := m2 i o (by rw [List.getElem?_take, if_pos him, Array.getElem?_toList]; exact ho)
    have hxm : x ∈ is := List.mem_of_getElem? hx
    obtain ⟨hdt, hdd⟩ := hdis x hxm
    have hfi : i < fs.length := by rw [r1]; exact (List.getElem?_eq_some_iff.1 hx).1
    have hf : fs[i]? = some fs[i] := List.getElem?_eq_getElem hfi
    generalize hfe : fs[i] = f at hf
    have hzip : (is.zip fs)[i]? = some (x, f) := by rw [List.getElem?_zip_eq_some]; exact ⟨hx, hf⟩
    have key : ∀ j y, (is.zip fs)[j]? = some y → confl y (x, f) = true → listedX listed j = decide (j < i) := fun j y hy hc => draw_key hok hcl ho hli hall' hzip hy hc
    have hS0 : ∀ t, t ∈ x.temps → foldS s.slots.length (listedX listed) (is.zip fs) 0 (slotsF s.slots) t = foldS s.slots.length (fun j => decide (j < i)) (is.zip fs) 0 (slotsF s.slots) t := fun t ht =>
      foldS_congr _ _ _ _ rfl fun j y hy hd => by
        rw [Nat.zero_add]
        refine key j y hy ?_
        unfold confl
        simp only [hd, Bool.or_eq_true, List.contains_iff_mem, beq_iff_eq]
        exact .inl (.inl ht)
    have hL0 : ∀ t, (t ∈ f.rd ∨ t ∈ f.up.map (·.1)) → foldL (listedX listed) (is.zip fs) 0 (getL s.blk) t = foldL (fun j => decide (j < i)) (is.zip fs) 0 (getL s.blk) t := fun t ht =>
      foldL_congr _ _ _ _ rfl fun j y hy hd => by
        rw [Nat.zero_add]
        refine key j y hy ?_
        unfold confl
        obtain ⟨p, hp, rfl⟩ := List.mem_map.1 hd
        simp only [Bool.or_eq_true, List.any_eq_true, List.contains_iff_mem, beq_iff_eq]
        refine .inr ⟨p, hp, ht.imp id fun h => ?_⟩
        obtain ⟨q, hq, hqe⟩ := List.mem_map.1 h
        exact ⟨q, hq, hqe⟩
    have hstep := r3 i x f hx hf
    have hgen : ∀ sl : Nat → AV, (∀ t, t ∈ x.temps → sl t = foldS s.slots.length (fun j => decide (j < i)) (is.zip fs) 0 (slotsF s.slots) t) →
        (wantF sl x.guard = some true ∧ eff cx (evalF sl) (foldL (listedX listed) (is.zip fs) 0 (getL s.blk)) (x.tag) x.op = some f) ∨ (wantF sl x.guard = some false ∧ f = ⟨.tup [], [], []⟩) := by
      intro sl hsl
      have hw : wantF sl x.guard = wantF (foldS s.slots.length (fun j => decide (j < i)) (is.zip fs) 0 (slotsF s.slots)) x.guard :=
        wantF_congr fun t b hg => hsl t (by unfold AInst.temps; rw [hg]; simp)
      rw [hw]
      refine hstep.imp (fun h => ⟨h.1, eff_congr h.2 (fun y hy => evalF_congr fun t ht => hsl t ?_) hL0⟩) id
      unfold AInst.temps
      exact List.mem_append_left _ (operands_temps hy ht)
    have eS := foldS_put (N := s.slots.length) hzip (X := listedX listed) (Y := listedX (listed.setIfInBounds i true)) (fun j => setX hlt j) (fun j y hy ⟨t, h1, h2⟩ => key j y hy (by
      have h2 : x.dst = some t := h2
      unfold confl
      simp [h1, h2])) (slotsF s.slots)
    have eL := foldL_put hzip (X := listedX listed) (Y := listedX (listed.setIfInBounds i true)) (fun j => setX hlt j) (fun j y hy ⟨t, h1, h2⟩ => key j y hy (by
      unfold confl
      obtain ⟨p, hp, hpt⟩ := List.mem_map.1 h1
      obtain ⟨q, hq, hqt⟩ := List.mem_map.1 h2
      simp only [Bool.or_eq_true, List.any_eq_true, List.contains_iff_mem, beq_iff_eq]
      exact .inr ⟨p, hp, .inr ⟨q, hq, by rw [hqt, hpt]⟩⟩)) (getL s.blk)
    have hni : ∀ j, m ≤ j → listedX (listed.setIfInBounds i true) j = listedX listed j := fun j hj => by
      rw [setX hlt]
      have : j ≠ i := by omega
      simp [this]
    rcases hS with ⟨hno, hS⟩ | ⟨hno, b, cs, ty, g1, g2, g3, g4, hS⟩
    · refine step_Fp (ro := ro) (md := md) (Q := Q) hcx hcall hS (hgen _ hS0) fun v w' hS' => ih (listed.setIfInBounds i true) _ w' (by simp [hsz]) hcnt' hcl' (.inl ⟨fun j hj => by rw [hni j hj]; exact hno j hj, ?_⟩)
      rw [← eS, ← eL]
      exact hS'
    · refine step_Fp (ro := ro) (md := md) (Q := Q) hcx hcall hS (hgen _ fun t ht => ?_) fun v w' hS' => ih (listed.setIfInBounds i true) _ w' (by simp [hsz]) hcnt' hcl' (.inr ⟨fun j hj => by rw [hni j hj]; exact hno j hj, b, cs, ty, g1, g2, (put_getD hdd).trans g3, g4, ?_⟩)
      · unfold maskF
        rw [if_neg (fun h : t = d => hdt (h ▸ ht))]
        exact hS0 t ht
      · rw [← eS, ← eL, ← putF_mask hdd]
        exact hS'
/-- The rest of a drawn region, of which the variable was laid early. -/
theorem draw_tailE {ops : Array Oper} {is : List AInst} {s s' : St} {fs : List Ef} {b q d : Nat} {oq : Oper} {tq : TypeId} {z : List Cl} {Q : Exit → Act → World → Prop} (hcall : CxOK P cx) (hb : b ≤ ops.size)
    (hq : ops[b + q]? = some oq) (hqo : oq.op = .alloc tq) (hqg : oq.guard = none) (hqd : oq.dst = some d) (hz : zeroC P tq = some z)
    (hcomp : mapO (compI P s.slots.length off ops) (ops.toList.drop b) = some is) (hrun : runI cx is s = some (s', fs)) (hok : okDraw (tailAfter b (ops.toList.map anyAfter)) is fs = true)
    (hbefore : ∀ (i : Nat) (o : Oper), ops[i]? = some o → ∀ e ∈ o.after, Region.binds .any e = true → e.on < i)
    (hQ : ∀ a' w', SimL w0 ok0 s' a' w' → Q .normal a' w') (fuel : Nat) (listed : Array Bool) (hsz : listed.size = ops.size) (hcnt : listed.toList.count false ≤ fuel)
    (hcl : ∀ j o, ops[j]? = some o → listedX listed j = true → ∀ e ∈ o.after, Region.binds .any e = true → listedX listed e.on = true) (hpre : ∀ j, j < b → listedX listed j = true) (hno : ∀ j, b ≤ j → listedX listed j = decide (j = b + q))
    (hE : Early w0 ok0 s.slots.length d z (slotsF s.slots) (getL s.blk) a w) : wpAnyIn (FW ro) md P .any ops Q fuel listed a w := by
  refine draw_tail hcall hb hcomp hrun hok hbefore hQ fuel listed a w hsz hcnt hcl hpre ?_
  obtain ⟨r1, r2, r3, r4, r5⟩ := runI_steps is s s' fs hrun
  obtain ⟨m1, m2⟩ := mapO_get hcomp
  have hqs : b + q < ops.size := (Array.getElem?_eq_some_iff.1 hq).1
  obtain ⟨x, hx, hcx⟩ := m2 q oq (by rw [List.getElem?_drop, Array.getElem?_toList]; exact hq)
  have hfi : q < fs.length := by rw [r1]; exact (List.getElem?_eq_some_iff.1 hx).1
  have hf : fs[q]? = some fs[q] := List.getElem?_eq_getElem hfi
  generalize hfe : fs[q] = f at hf
  have hzip : (is.zip fs)[q]? = some (x, f) := by rw [List.getElem?_zip_eq_some]; exact ⟨hx, hf⟩
  have hxe : x = ⟨some d, none, .alloc z, x.tag⟩ := by
    unfold compI at hcx
    have hc : comp P oq = some (.alloc z) := by unfold comp; rw [hqo]; simp only [hz, Option.map_some]
    rw [hc] at hcx
    dsimp only at hcx
    split at hcx
    · obtain rfl := Option.some.inj hcx
      simp [hqd, hqg]
    · cases hcx
  have hset : ∀ j, listedX (listed.setIfInBounds (b + q) false) j = (if j = b + q then false else listedX listed j) := fun j => by
    unfold listedX
    simp only [Array.getD_eq_getD_getElem?, Array.getElem?_setIfInBounds]
    by_cases h : b + q = j
    · subst h; simp [hsz, hqs]
    · rw [if_neg h, if_neg (Ne.symm h)]
  have key : ∀ j y, (is.zip fs)[j]? = some y → confl y (x, f) = true → false = decide (j < q) := fun j y hy hc => by
    have := draw_keyT (listed := listed.setIfInBounds (b + q) false) hok (fun j o ho hl e he hbd => ?_) hq (by rw [hset, if_pos rfl]) (fun e he hbd => ?_) hzip hy hc
    · rw [← this, hset]
      by_cases h : b + j = b + q
      · rw [if_pos h]
      · rw [if_neg h, hno _ (by omega)]; simp; omega
    · rw [hset] at hl
      split at hl
      · cases hl
      · rename_i hne
        have hjb : j < b := by
          rcases Nat.lt_or_ge j b with h | h
          · exact h
          · rw [hno j h] at hl; simp at hl; omega
        have := hbefore j o ho e he hbd
        rw [hset, if_neg (by omega)]
        exact hpre _ (by omega)
    · have h1 := hbefore _ _ hq e he hbd
      rw [hset, if_neg (by omega)]
      exact hcl _ _ hq (by rw [hno _ (by omega)]; simp) e he hbd
  have hnoS : ∀ (its : List (AInst × Ef)) (k' : Nat) (sl : Nat → AV), foldS s.slots.length (fun _ => false) its k' sl = sl := by
    intro its
    induction its with
    | nil => intro _ _; rfl
    | cons z its ih => intro k' sl; simp only [foldS, Bool.false_eq_true, if_false]; exact ih _ _
  have hnoL : ∀ (its : List (AInst × Ef)) (k' : Nat) (lk : Nat → Option Blk), foldL (fun _ => false) its k' lk = lk := by
    intro its
    induction its with
    | nil => intro _ _; rfl
    | cons z its ih => intro k' lk; simp only [foldL, Bool.false_eq_true, if_false]; exact ih _ _
  have hL0 : ∀ t, (t ∈ f.rd ∨ t ∈ f.up.map (·.1)) → getL s.blk t = foldL (fun j => decide (j < q)) (is.zip fs) 0 (getL s.blk) t := fun t ht => by
    have := foldL_congr (X := fun _ => false) (Y := fun j => decide (j < q)) (t := t) (is.zip fs) 0 (getL s.blk) (getL s.blk) rfl fun j y hy hd => by
      rw [Nat.zero_add]
      refine key j y hy ?_
      unfold confl
      obtain ⟨p, hp, rfl⟩ := List.mem_map.1 hd
      simp only [Bool.or_eq_true, List.any_eq_true, List.contains_iff_mem, beq_iff_eq]
      refine .inr ⟨p, hp, ht.imp id fun h => ?_⟩
      obtain ⟨q, hq, hqe⟩ := List.mem_map.1 h
      exact ⟨q, hq, hqe⟩
    rwa [hnoL] at this
  have hf2 : f = ⟨.c (.bptr x.tag (genOf (getL s.blk) x.tag + 1) 0), [(x.tag, ⟨genOf (getL s.blk) x.tag + 1, false, .box z⟩)], []⟩ := by
    rcases r3 q x f hx hf with ⟨_, h⟩ | ⟨h, _⟩
    · have h2 := eff_congr (ev' := fun _ => .c .undef) h (fun y hy => by rw [show x.op = .alloc z by rw [hxe]] at hy; cases hy) hL0
      rw [hxe] at h2
      simp only [eff, Option.some.injEq] at h2
      exact h2.symm
    · rw [hxe] at h; simp [wantF] at h
  have eS := foldS_put (N := s.slots.length) hzip (X := fun _ => false) (Y := fun j => listedX listed (b + j)) (fun j => by rw [hno _ (by omega)]; simp) (fun j y hy ⟨t, h1, h2⟩ => key j y hy (by
      have h2 : x.dst = some t := h2
      unfold confl
      simp [h1, h2])) (slotsF s.slots)
  have eL := foldL_put hzip (X := fun _ => false) (Y := fun j => listedX listed (b + j)) (fun j => by rw [hno _ (by omega)]; simp) (fun j y hy ⟨t, h1, h2⟩ => key j y hy (by
      unfold confl
      obtain ⟨p, hp, hpt⟩ := List.mem_map.1 h1
      obtain ⟨q, hq, hqt⟩ := List.mem_map.1 h2
      simp only [Bool.or_eq_true, List.any_eq_true, List.contains_iff_mem, beq_iff_eq]
      exact .inr ⟨p, hp, .inr ⟨q, hq, by rw [hqt, hpt]⟩⟩)) (getL s.blk)
  rw [← eS, ← eL, hnoS, hnoL]
  have hd : x.dst = some d := by rw [hxe]
  have := hE.take (T := x.tag)
  show SimF w0 ok0 s.slots.length (putF s.slots.length (slotsF s.slots) x.dst f.v) (updF (getL s.blk) f.up) a w
  rw [hd, hf2]
  exact this

theorem draw_last_float {id : Nat} {ops : Array Oper} {is : List AInst} {s s' : St} {fs : List Ef} {m q d : Nat} {oq : Oper} {tq : TypeId} {z : List Cl} {Q : Exit → Act → World → Prop} {R RE : Act → World → Prop} (hcall : CxOK P cx) (hmix : P.follows .mixedOrders = true) (hmq : m < q)
    (hq : ops[q]? = some oq) (hqo : oq.op = .alloc tq) (hqg : oq.guard = none) (hqd : oq.dst = some d) (hdN : d < s.slots.length) (hz : zeroC P tq = some z) (hdis : ∀ x ∈ is, d ∉ x.temps ∧ x.dst ≠ some d)
    (hcomp : mapO (compI P s.slots.length off ops) (ops.toList.take m) = some is) (hrun : runI cx is s = some (s', fs)) (hok : okDraw (ops.toList.map anyAfter) is fs = true)
    (hbefore : ∀ (i : Nat) (o : Oper), ops[i]? = some o → ∀ e ∈ o.after, Region.binds .any e = true → e.on < i)
    (hlast : ∀ (o : Oper), ops[m]? = some o → (∀ j, j < m → reach (ops.toList.map anyAfter) ops.size m j = true) ∧
      (∀ (a : Act) (w : World), SimL w0 ok0 s' a w → ∀ K : Act → World → Prop, (∀ a' w', R a' w' → K a' w') → if Region.wanted o (yielded ops a.tmps) = true then o.wpIn (FW ro) md P a w K Q else (∀ f, o.about P w a.eval = some f → (FW ro).fn f) ∧ K (a.put o.dst undef) w) ∧
      (∀ (a : Act) (w : World), Early w0 ok0 s.slots.length d z (slotsF s'.slots) (getL s'.blk) a w → ∀ K : Act → World → Prop, (∀ a' w', RE a' w' → K a' w') → if Region.wanted o (yielded ops a.tmps) = true then o.wpIn (FW ro) md P a w K Q else (∀ f, o.about P w a.eval = some f → (FW ro).fn f) ∧ K (a.put o.dst undef) w))
    (hrest : ∀ (i : Nat) (o : Oper), m < i → i ≠ q → ops[i]? = some o → reach (ops.toList.map anyAfter) ops.size i m = true)
    (htail : ∀ (fuel : Nat) (listed : Array Bool) (a : Act) (w : World), listed.size = ops.size → listed.toList.count false ≤ fuel →
      (∀ j o, ops[j]? = some o → listedX listed j = true → ∀ e ∈ o.after, Region.binds .any e = true → listedX listed e.on = true) →
      (∀ j, j < m + 1 → listedX listed j = true) → ((∀ j, m + 1 ≤ j → listedX listed j = false) ∧ R a w ∨ (∀ j, m + 1 ≤ j → listedX listed j = decide (j = q)) ∧ RE a w) → wpAnyIn (FW ro) md P .any ops Q fuel listed a w)
    (hS : SimL w0 ok0 s a w) : (Code.region id ops true).wpIn (FW ro) md P Q a w := by
  refine wpIn_region_draw fun t => ?_
  simp only [Region.schedule, hmix, Bool.true_or, if_true]
  have hno : ∀ j, listedX (Array.replicate ops.size false) j = false := fun j => by
    unfold listedX
    rw [Array.getD_eq_getD_getElem?, Array.getElem?_replicate]
    split <;> rfl
  have hX : listedX (Array.replicate ops.size false) = fun _ => false := funext hno
  have hnoS : ∀ (its : List (AInst × Ef)) (k' : Nat) (sl : Nat → AV), foldS s.slots.length (fun _ => false) its k' sl = sl := by
    intro its
    induction its with
    | nil => intro _ _; rfl
    | cons z its ih => intro k' sl; simp only [foldS, Bool.false_eq_true, if_false]; exact ih _ _
  have hnoL : ∀ (its : List (AInst × Ef)) (k' : Nat) (lk : Nat → Option Blk), foldL (fun _ => false) its k' lk = lk := by
    intro its
    induction its with
    | nil => intro _ _; rfl
    | cons z its ih => intro k' lk; simp only [foldL, Bool.false_eq_true, if_false]; exact ih _ _
  refine wpAnyIn_sound ops.size t _ a _ (draw_float hcall hmq hq hqo hqg hqd hdN hz hdis hcomp hrun hok hbefore hlast hrest htail ops.size _ a _ (by simp) (by simp) (fun j o _ h => by rw [hno] at h; cases h) (.inl ⟨fun i _ => hno i, ?_⟩))
  rw [hX, hnoS, hnoL]
  exact SimF.drew hS
end
end Go.Proofs.YtmmlolampgnamaaDoor.Ax
