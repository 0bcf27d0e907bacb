/- Regions whose operations come up in any order that their edges allow. -/
import Derived.Test.YtmmlolampgnamaaDoorAx13
import Derived.Orders
namespace Go.Proofs.YtmmlolampgnamaaDoor.Ax
open Go.RowKit
set_option linter.unusedVariables false
set_option linter.unusedSimpArgs false

section
variable {P : Program} {w0 w : World} {ok0 : Ctx0} {a : Act} {cx : Cx} {N off : Nat} {ro : Option Nat} {md : Nat}

theorem SimF.drew {sl : Nat → AV} {lk : Nat → Option Blk} (h : SimF w0 ok0 N sl lk a w) : SimF w0 ok0 N sl lk a w.drew :=
  let ⟨e, hM, hs, hsl, hd⟩ := h
  ⟨e, hM.drew, hs, fun t => RV.ext (Ext.drew e w) (hsl t), hd.ext (Ext.drew e w)⟩

theorem operands_temps {ao : AOp} {x : Operand} (hx : x ∈ ao.operands) {t : Nat} (ht : t ∈ tempsOp x) : t ∈ ao.temps := by
  cases ao <;> simp only [AOp.operands, List.mem_cons, List.not_mem_nil, or_false, List.mem_append, List.mem_map, AOp.temps, List.mem_flatMap] at hx ⊢
  all_goals first
    | (subst hx; exact ht)
    | exact ⟨x, hx, ht⟩
    | (rcases hx with rfl | rfl | rfl <;> simp [ht])
    | (rcases hx with rfl | rfl <;> simp [ht])
    | (obtain ⟨p, hp, rfl⟩ := hx; exact ⟨p, hp, ht⟩)
    | (rcases hx with rfl | hx | hx; (exact .inl ht); (exact .inr (.inl ⟨x, hx, ht⟩)); (exact .inr (.inr ⟨x, hx, ht⟩)))
    | (rcases hx with rfl | hx; (exact .inl ht); (exact .inr ⟨x, hx, ht⟩))
    | exact ⟨x, hx, ht⟩

theorem evalF_congr {sl sl' : Nat → AV} {x : Operand} (h : ∀ t ∈ tempsOp x, sl' t = sl t) : evalF sl' x = evalF sl x := by
  cases x <;> simp only [evalF]
  exact h _ (by simp [tempsOp])

theorem wantF_congr {sl sl' : Nat → AV} {g : Option (Option Nat × Bool)} (h : ∀ t b, g = some (some t, b) → sl' t = sl t) : wantF sl' g = wantF sl g := by
  cases g with
  | none => rfl
  | some g =>
    obtain ⟨t, b⟩ := g
    cases t with
    | none => rfl
    | some t => simp only [wantF]; rw [h t b rfl]

def listedX (l : Array Bool) (j : Nat) : Bool := l.getD j false

theorem reach_closed {ops : Array Oper} {listed : Array Bool} (hcl : ∀ j o, ops[j]? = some o → listedX listed j = true → ∀ e ∈ o.after, Region.binds .any e = true → listedX listed e.on = true) :
    ∀ (k j i : Nat), reach (ops.toList.map anyAfter) k j i = true → (listedX listed j = true → listedX listed i = true) ∧
      (∀ o, ops[j]? = some o → (∀ e ∈ o.after, Region.binds .any e = true → listedX listed e.on = true) → listedX listed i = true)
  | 0, _, _, h => by simp [reach] at h
  | k + 1, j, i, h => by
    simp only [reach, List.any_eq_true] at h
    obtain ⟨x, hx, hxi⟩ := h
    rw [List.getD_eq_getElem?_getD, List.getElem?_map, Array.getElem?_toList] at hx
    cases ho : ops[j]? with
    | none => rw [ho] at hx; simp at hx
    | some o =>
      rw [ho] at hx
      simp only [Option.map_some, Option.getD_some, anyAfter, List.mem_map, List.mem_filter, Array.mem_toList_iff] at hx
      obtain ⟨e, ⟨he, hb⟩, rfl⟩ := hx
      have key : listedX listed e.on = true → listedX listed i = true := fun hl => by
        simp only [Bool.or_eq_true, beq_iff_eq] at hxi
        rcases hxi with rfl | hxi
        · exact hl
        · exact (reach_closed hcl k _ _ hxi).1 hl
      exact ⟨fun hj => key (hcl j o ho hj e he hb), fun o' ho' hall => by cases ho'; exact key (hall e he hb)⟩

theorem okDraw_at {after : List (List Nat)} {is : List AInst} {fs : List Ef} (h : okDraw after is fs = true) {i j : Nat} {x y : AInst × Ef} (hx : (is.zip fs)[i]? = some x) (hy : (is.zip fs)[j]? = some y) (hc : confl x y = true) (hne : i ≠ j) :
    ∃ n, (if i < j then reach after n j i else reach after n i j) = true := by
  rw [List.getElem?_zip_eq_some] at hx hy
  unfold okDraw at h
  split at h
  · rename_i hs
    unfold confl at hc
    rw [Bool.or_eq_true] at hc
    rcases hc with hc | hc
    · unfold okS at hs
      simp only [List.all_eq_true, List.mem_range] at hs
      have h1 := hs i (List.getElem?_eq_some_iff.1 hx.1).1 j (List.getElem?_eq_some_iff.1 hy.1).1
      rw [hx.1, hy.1] at h1
      have hc' : conflS x.1 y.1 = true := hc
      simp only [hc', Bool.not_true, Bool.or_false, Bool.or_eq_true, beq_iff_eq, hne, false_or] at h1
      exact ⟨_, h1⟩
    · unfold okT at h
      simp only [List.all_eq_true, List.mem_range] at h
      have h1 := h i (List.getElem?_eq_some_iff.1 hx.2).1
      rw [hx.2] at h1
      simp only [Bool.or_eq_true] at h1
      rcases h1 with h1 | h1
      · have hup : x.2.up = [] := by simpa using h1
        rw [hup] at hc; simp at hc
      · simp only [List.all_eq_true, List.mem_range] at h1
        have h2 := h1 j (List.getElem?_eq_some_iff.1 hy.2).1
        rw [hy.2] at h2
        have hc' : conflT x.2 y.2 = true := hc
        simp only [hc', Bool.not_true, Bool.or_false, Bool.or_eq_true, beq_iff_eq, hne, false_or] at h2
        exact ⟨_, h2⟩
  · cases h

/-- The one that may be listed now: whatever stands against it stands as in the order of the text. -/
theorem draw_key {ops : Array Oper} {listed : Array Bool} {is : List AInst} {fs : List Ef} (hok : okDraw (ops.toList.map anyAfter) is fs = true)
    (hcl : ∀ j o, ops[j]? = some o → listedX listed j = true → ∀ e ∈ o.after, Region.binds .any e = true → listedX listed e.on = true)
    {i : Nat} {o : Oper} (ho : ops[i]? = some o) (hi : listedX listed i = false) (hall : ∀ e ∈ o.after, Region.binds .any e = true → listedX listed e.on = true) {x : AInst × Ef} (hx : (is.zip fs)[i]? = some x) {j : Nat} {y : AInst × Ef} (hy : (is.zip fs)[j]? = some y) (hc : confl y x = true) : listedX listed j = decide (j < i) := by
  by_cases hji : j = i
  · subst hji; simp [hi]
  · obtain ⟨n, this⟩ := okDraw_at hok hy hx hc hji
    by_cases hlt : j < i
    · rw [if_pos hlt] at this
      simp only [hlt, decide_true]
      exact (reach_closed hcl _ _ _ this).2 o ho hall
    · rw [if_neg hlt] at this
      simp only [hlt, decide_false]
      cases hj : listedX listed j
      · rfl
      · have := (reach_closed hcl _ _ _ this).1 hj
        rw [hi] at this; cases this

theorem setX {listed : Array Bool} {i : Nat} (hi : i < listed.size) (j : Nat) : listedX (listed.setIfInBounds i true) j = (decide (j = i) || listedX listed j) := by
  unfold listedX
  simp only [Array.getD_eq_getD_getElem?, Array.getElem?_setIfInBounds]
  by_cases h : i = j
  · subst h; simp [hi]
  · simp [h, Ne.symm h]

theorem reach_tail {after : List (List Nat)} (b : Nat) : ∀ (k j i : Nat), reach (tailAfter b after) k j i = true → reach after k (b + j) (b + i) = true
  | 0, _, _, h => by simp [reach] at h
  | k + 1, j, i, h => by
    simp only [reach, List.any_eq_true] at h ⊢
    obtain ⟨x, hx, hxi⟩ := h
    unfold tailAfter at hx
    rw [List.getD_eq_getElem?_getD, List.getElem?_map, List.getElem?_drop] at hx
    cases ho : after[b + j]? with
    | none => rw [ho] at hx; simp at hx
    | some l =>
      rw [ho] at hx
      simp only [Option.map_some, Option.getD_some, List.mem_filterMap] at hx
      obtain ⟨y, hy, hyx⟩ := hx
      split at hyx
      · rename_i hby
        simp only [Option.some.injEq] at hyx
        subst hyx
        refine ⟨y, by rw [List.getD_eq_getElem?_getD, ho]; exact hy, ?_⟩
        simp only [Bool.or_eq_true, beq_iff_eq] at hxi ⊢
        rcases hxi with h | h
        · exact .inl (by omega)
        · refine .inr ?_
          have := reach_tail b k _ _ h
          rwa [show b + (y - b) = y by omega] at this
      · cases hyx
theorem draw_keyT {ops : Array Oper} {listed : Array Bool} {is : List AInst} {fs : List Ef} {b : Nat} (hok : okDraw (tailAfter b (ops.toList.map anyAfter)) is fs = true)
    (hcl : ∀ j o, ops[j]? = some o → listedX listed j = true → ∀ e ∈ o.after, Region.binds .any e = true → listedX listed e.on = true)
    {i : Nat} {o : Oper} (ho : ops[b + i]? = some o) (hi : listedX listed (b + i) = false) (hall : ∀ e ∈ o.after, Region.binds .any e = true → listedX listed e.on = true) {x : AInst × Ef} (hx : (is.zip fs)[i]? = some x) {j : Nat} {y : AInst × Ef} (hy : (is.zip fs)[j]? = some y) (hc : confl y x = true) : listedX listed (b + j) = decide (j < i) := by
  by_cases hji : j = i
  · subst hji; simp [hi]
  · obtain ⟨n, this⟩ := okDraw_at hok hy hx hc hji
    by_cases hlt : j < i
    · rw [if_pos hlt] at this
      simp only [hlt, decide_true]
      exact (reach_closed hcl _ _ _ (reach_tail b _ _ _ this)).2 o ho hall
    · rw [if_neg hlt] at this
      simp only [hlt, decide_false]
      cases hj : listedX listed (b + j)
      · rfl
      · have := (reach_closed hcl _ _ _ (reach_tail b _ _ _ this)).1 hj
        rw [hi] at this; cases this
theorem draw_tail {ops : Array Oper} {is : List AInst} {s s' : St} {fs : List Ef} {b : Nat} {Q : Exit → Act → World → Prop} (hcall : CxOK P cx) (hb : b ≤ ops.size)
    (hcomp : mapO (compI P s.slots.length off ops) (ops.toList.drop b) = some is) (hrun : runI cx is s = some (s', fs)) (hok : okDraw (tailAfter b (ops.toList.map anyAfter)) is fs = true)
    (hbefore : ∀ (i : Nat) (o : Oper), ops[i]? = some o → ∀ e ∈ o.after, Region.binds .any e = true → e.on < i)
    (hQ : ∀ a' w', SimL w0 ok0 s' a' w' → Q .normal a' w') :
    ∀ (fuel : Nat) (listed : Array Bool) (a : Act) (w : World), listed.size = ops.size → listed.toList.count false ≤ fuel →
      (∀ j o, ops[j]? = some o → listedX listed j = true → ∀ e ∈ o.after, Region.binds .any e = true → listedX listed e.on = true) → (∀ j, j < b → listedX listed j = true) →
      SimF w0 ok0 s.slots.length (foldS s.slots.length (fun j => listedX listed (b + j)) (is.zip fs) 0 (slotsF s.slots)) (foldL (fun j => listedX listed (b + j)) (is.zip fs) 0 (getL s.blk)) a w →
      wpAnyIn (FW ro) md P .any ops Q fuel listed a w := by
  obtain ⟨r1, r2, r3, r4, r5⟩ := runI_steps is s s' fs hrun
  obtain ⟨m1, m2⟩ := mapO_get hcomp
  have hlenis : is.length = ops.size - b := by
    have := m1
    rw [List.length_drop] at this
    simp only [Array.length_toList] at this
    omega
  have hlen : ∀ j x, (is.zip fs)[j]? = some x → b + j < ops.size := fun j x hj => by
    have := (List.getElem?_eq_some_iff.1 hj).1
    rw [List.length_zip] at this
    omega
  have hfull : ∀ (listed : Array Bool) (a : Act) (w : World), (∀ i, i < ops.size → listedX listed i = true) →
      SimF w0 ok0 s.slots.length (foldS s.slots.length (fun j => listedX listed (b + j)) (is.zip fs) 0 (slotsF s.slots)) (foldL (fun j => listedX listed (b + j)) (is.zip fs) 0 (getL s.blk)) a w → SimL w0 ok0 s' a w := by
    intro listed a w hallL hS
    unfold SimL
    rw [r2, r4, r5]
    have e1 : foldS s.slots.length (fun _ => true) (is.zip fs) 0 (slotsF s.slots) = foldS s.slots.length (fun j => listedX listed (b + j)) (is.zip fs) 0 (slotsF s.slots) := by
      funext t
      exact foldS_congr _ _ _ _ rfl fun j x hj _ => by rw [Nat.zero_add, hallL _ (hlen j x hj)]
    have e2 : foldL (fun _ => true) (is.zip fs) 0 (getL s.blk) = foldL (fun j => listedX listed (b + j)) (is.zip fs) 0 (getL s.blk) := by
      funext t
      exact foldL_congr _ _ _ _ rfl fun j x hj _ => by rw [Nat.zero_add, hallL _ (hlen j x hj)]
    rw [e1, e2]
    exact hS
  have hdone : ∀ (listed : Array Bool) (a : Act) (w : World), listed.size = ops.size →
      SimF w0 ok0 s.slots.length (foldS s.slots.length (fun j => listedX listed (b + j)) (is.zip fs) 0 (slotsF s.slots)) (foldL (fun j => listedX listed (b + j)) (is.zip fs) 0 (getL s.blk)) a w →
      Region.ready .any ops listed = [] → Q .normal a w := by
    intro listed a w hsz hS hready
    have hallL : ∀ i, i < ops.size → listedX listed i = true := by
      intro i
      induction i using Nat.strongRecOn with
      | ind i ih =>
        intro hi
        cases hl : listedX listed i
        · exfalso
          have : i ∈ Region.ready .any ops listed := mem_ready.2 ⟨by
              unfold listedX at hl
              rw [Array.getD_eq_getD_getElem?, Array.getElem?_eq_getElem (by omega)] at hl ⊢
              simpa using hl, ops[i], Array.getElem?_eq_getElem hi, fun e he hb => ih e.on (hbefore i _ (Array.getElem?_eq_getElem hi) e he hb) (Nat.lt_trans (hbefore i _ (Array.getElem?_eq_getElem hi) e he hb) hi)⟩
          rw [hready] at this; cases this
        · rfl
    exact hQ a w (hfull listed a w hallL hS)
  intro fuel
  induction fuel with
  | zero =>
    intro listed a w hsz hcnt hcl hpre hS
    have hnil : Region.ready .any ops listed = [] := by
      rw [List.eq_nil_iff_forall_not_mem]
      intro i hi
      obtain ⟨h1, o, ho, _⟩ := mem_ready.1 hi
      have hlt : i < listed.size := by rw [hsz]; exact (Array.getElem?_eq_some_iff.1 ho).1
      have : false ∈ listed.toList := by
        rw [Array.getD_eq_getD_getElem?, Array.getElem?_eq_getElem hlt, Option.getD_some] at h1
        rw [← h1, Array.mem_toList_iff]; exact Array.getElem_mem hlt
      have := List.count_pos_iff.2 this
      omega
    exact ⟨hnil, hdone listed a w hsz hS hnil⟩
  | succ fuel ih =>
    intro listed a w hsz hcnt hcl hpre hS
    refine ⟨hdone listed a w hsz hS, fun i hi => ?_⟩
    obtain ⟨h1, o, ho, hall⟩ := mem_ready.1 hi
    have hlt : i < listed.size := by rw [hsz]; exact (Array.getElem?_eq_some_iff.1 ho).1
    have hli : listedX listed i = false := by
      unfold listedX
      rw [Array.getD_eq_getD_getElem?, Array.getElem?_eq_getElem hlt, Option.getD_some] at h1 ⊢
      exact h1
    have hall' : ∀ e ∈ o.after, Region.binds .any e = true → listedX listed e.on = true := fun e he hb => hall e he hb
    have hcnt' : (listed.setIfInBounds i true).toList.count false ≤ fuel := by
      have hg : listed.toList[i]'(by simpa using hlt) = false := by
        unfold listedX at hli
        rw [Array.getD_eq_getD_getElem?, Array.getElem?_eq_getElem hlt, Option.getD_some] at hli
        simpa using hli
      have hpos : 0 < listed.toList.count false := List.count_pos_iff.2 (by rw [← hg]; exact List.getElem_mem _)
      rw [Array.toList_setIfInBounds, List.count_set (by simpa using hlt), hg]
      have e1 : (if (false == false) = true then 1 else 0) = 1 := rfl
      have e2 : (if (true == false) = true then 1 else 0) = 0 := rfl
      rw [e1, e2]
      omega
    have hcl' : ∀ j o', ops[j]? = some o' → listedX (listed.setIfInBounds i true) j = true → ∀ e ∈ o'.after, Region.binds .any e = true → listedX (listed.setIfInBounds i true) e.on = true := by
      intro j o' ho' hj e he hb
      rw [setX hlt] at hj ⊢
      simp only [Bool.or_eq_true, decide_eq_true_eq] at hj ⊢
      rcases hj with rfl | hj
      · rw [ho] at ho'; cases ho'; exact .inr (hall' e he hb)
      · exact .inr (hcl j o' ho' hj e he hb)
    obtain ⟨i, rfl⟩ : ∃ i', i = b + i' := by
      rcases Nat.lt_or_ge i b with h | h
      · rw [hpre i h] at hli; cases hli
      · exact ⟨i - b, by omega⟩
    have hpre' : ∀ j, j < b → listedX (listed.setIfInBounds (b + i) true) j = true := fun j hj => by rw [setX hlt, hpre j hj, Bool.or_true]
    have setB : ∀ j, listedX (listed.setIfInBounds (b + i) true) (b + j) = (decide (j = i) || listedX listed (b + j)) := fun j => by
      rw [setX hlt]
      have : decide (b + j = b + i) = decide (j = i) := by congr 1; exact propext ⟨by omega, by omega⟩
      rw [this]
    obtain ⟨x, hx, hcx⟩ := m2 i o (by rw [List.getElem?_drop, Array.getElem?_toList]; exact ho)
    have hfi : i < fs.length := by rw [r1]; exact (List.getElem?_eq_some_iff.1 hx).1
    have hf : fs[i]? = some fs[i] := List.getElem?_eq_getElem hfi
    generalize hfe : fs[i] = f at hf
    have hzip : (is.zip fs)[i]? = some (x, f) := by rw [List.getElem?_zip_eq_some]; exact ⟨hx, hf⟩
    have key : ∀ j y, (is.zip fs)[j]? = some y → confl y (x, f) = true → listedX listed (b + j) = decide (j < i) := fun j y hy hc => draw_keyT hok hcl ho hli hall' hzip hy hc
    have hS0 : ∀ t, (t ∈ x.temps ∨ x.dst = some t) → foldS s.slots.length (fun j => listedX listed (b + j)) (is.zip fs) 0 (slotsF s.slots) t = foldS s.slots.length (fun j => decide (j < i)) (is.zip fs) 0 (slotsF s.slots) t := fun t ht =>
      foldS_congr _ _ _ _ rfl fun j y hy hd => by
        rw [Nat.zero_add]
        refine key j y hy ?_
        unfold confl
        simp only [hd, Bool.or_eq_true, List.contains_iff_mem, beq_iff_eq]
        exact .inl (ht.imp id id)
    have hL0 : ∀ t, (t ∈ f.rd ∨ t ∈ f.up.map (·.1)) → foldL (fun j => listedX listed (b + j)) (is.zip fs) 0 (getL s.blk) t = foldL (fun j => decide (j < i)) (is.zip fs) 0 (getL s.blk) t := fun t ht =>
      foldL_congr _ _ _ _ rfl fun j y hy hd => by
        rw [Nat.zero_add]
        refine key j y hy ?_
        unfold confl
        obtain ⟨p, hp, rfl⟩ := List.mem_map.1 hd
        simp only [Bool.or_eq_true, List.any_eq_true, List.contains_iff_mem, beq_iff_eq]
        refine .inr ⟨p, hp, ht.imp id fun h => ?_⟩
        obtain ⟨q, hq, hqe⟩ := List.mem_map.1 h
        exact ⟨q, hq, hqe⟩
    have hstep := r3 i x f hx hf
    have hstep' : (wantF (foldS s.slots.length (fun j => listedX listed (b + j)) (is.zip fs) 0 (slotsF s.slots)) x.guard = some true ∧ eff cx (evalF (foldS s.slots.length (fun j => listedX listed (b + j)) (is.zip fs) 0 (slotsF s.slots))) (foldL (fun j => listedX listed (b + j)) (is.zip fs) 0 (getL s.blk)) (x.tag) x.op = some f) ∨
        (wantF (foldS s.slots.length (fun j => listedX listed (b + j)) (is.zip fs) 0 (slotsF s.slots)) x.guard = some false ∧ f = ⟨.tup [], [], []⟩) := by
      have hw : wantF (foldS s.slots.length (fun j => listedX listed (b + j)) (is.zip fs) 0 (slotsF s.slots)) x.guard = wantF (foldS s.slots.length (fun j => decide (j < i)) (is.zip fs) 0 (slotsF s.slots)) x.guard :=
        wantF_congr fun t b hg => hS0 t (.inl (by unfold AInst.temps; rw [hg]; simp))
      rw [hw]
      refine hstep.imp (fun h => ⟨h.1, eff_congr h.2 (fun y hy => evalF_congr fun t ht => hS0 t (.inl ?_)) hL0⟩) id
      unfold AInst.temps
      exact List.mem_append_left _ (operands_temps hy ht)
    have hmain := step_F (ro := ro) (md := md) (Q := Q) hcx hcall hS hstep' (K := wpAnyIn (FW ro) md P .any ops Q fuel (listed.setIfInBounds (b + i) true)) fun a' w' hS' => by
      refine ih (listed.setIfInBounds (b + i) true) a' w' (by simp [hsz]) hcnt' hcl' hpre' ?_
      · have eS : putF s.slots.length (foldS s.slots.length (fun j => listedX listed (b + j)) (is.zip fs) 0 (slotsF s.slots)) x.dst f.v = foldS s.slots.length (fun j => listedX (listed.setIfInBounds (b + i) true) (b + j)) (is.zip fs) 0 (slotsF s.slots) := by
          funext t
          by_cases hd : x.dst = some t
          · have hY : foldS s.slots.length (fun j => listedX (listed.setIfInBounds (b + i) true) (b + j)) (is.zip fs) 0 (slotsF s.slots) t = foldS s.slots.length (fun j => decide (j ≤ 0 + i)) (is.zip fs) 0 (slotsF s.slots) t :=
              foldS_congr _ _ _ _ rfl fun j y hy hdy => by
                rw [Nat.zero_add, Nat.zero_add, setB]
                have := key j y hy (by
                  unfold confl
                  simp [hdy, hd])
                rw [this]
                by_cases h1 : j = i
                · simp [h1]
                · by_cases h2 : j < i
                  · simp [h2, Nat.le_of_lt h2]
                  · simp [h1, h2]; omega
            rw [hY, foldS_upto _ _ _ _ _ hzip, Nat.zero_add]
            show (if x.dst = some t ∧ t < s.slots.length then f.v else _) = (if x.dst = some t ∧ t < s.slots.length then f.v else _)
            rw [hS0 t (.inr hd)]
          · rw [putF_ne hd]
            exact foldS_congr _ _ _ _ rfl fun j y hy hdy => by
              rw [Nat.zero_add, setB]
              have : j ≠ i := fun h => by subst h; rw [hzip] at hy; cases hy; exact hd hdy
              simp [this]
        have eL : updF (foldL (fun j => listedX listed (b + j)) (is.zip fs) 0 (getL s.blk)) f.up = foldL (fun j => listedX (listed.setIfInBounds (b + i) true) (b + j)) (is.zip fs) 0 (getL s.blk) := by
          funext t
          by_cases hd : t ∈ f.up.map (·.1)
          · have hY : foldL (fun j => listedX (listed.setIfInBounds (b + i) true) (b + j)) (is.zip fs) 0 (getL s.blk) t = foldL (fun j => decide (j ≤ 0 + i)) (is.zip fs) 0 (getL s.blk) t :=
              foldL_congr _ _ _ _ rfl fun j y hy hdy => by
                rw [Nat.zero_add, Nat.zero_add, setB]
                have := key j y hy (by
                  unfold confl
                  obtain ⟨p, hp, hpt⟩ := List.mem_map.1 hdy
                  obtain ⟨q, hq, hqt⟩ := List.mem_map.1 hd
                  simp only [Bool.or_eq_true, List.any_eq_true, List.contains_iff_mem, beq_iff_eq]
                  exact .inr ⟨p, hp, .inr ⟨q, hq, by rw [hqt, hpt]⟩⟩)
                rw [this]
                by_cases h1 : j = i
                · simp [h1]
                · by_cases h2 : j < i
                  · simp [h2, Nat.le_of_lt h2]
                  · simp [h1, h2]; omega
            rw [hY, foldL_upto _ _ _ _ _ hzip, Nat.zero_add]
            exact updF_eq (.inr hd)
          · rw [updF_ne hd]
            exact foldL_congr _ _ _ _ rfl fun j y hy hdy => by
              rw [Nat.zero_add, setB]
              have : j ≠ i := fun h => by subst h; rw [hzip] at hy; cases hy; exact hd hdy
              simp [this]
        rw [← eS, ← eL]
        exact hS'
    unfold wpOpIn
    rw [ho]
    simp only []
    split
    · rename_i hw; rw [if_pos hw] at hmain; exact hmain
    · rename_i hw; rw [if_neg hw] at hmain; exact hmain

theorem draw_any {ops : Array Oper} {is : List AInst} {s s' : St} {fs : List Ef} {m : Nat} {Q : Exit → Act → World → Prop} {R : Act → World → Prop} (hcall : CxOK P cx) (hm : m ≤ ops.size)
    (hcomp : mapO (compI P s.slots.length off ops) (ops.toList.take m) = some is) (hrun : runI cx is s = some (s', fs)) (hok : okDraw (ops.toList.map anyAfter) is fs = true)
    (hbefore : ∀ (i : Nat) (o : Oper), ops[i]? = some o → ∀ e ∈ o.after, Region.binds .any e = true → e.on < i)
    (hQ : m = ops.size → ∀ a' w', SimL w0 ok0 s' a' w' → Q .normal a' w')
    (hlast : ∀ (o : Oper), ops[m]? = some o → (∀ j, j < m → reach (ops.toList.map anyAfter) ops.size m j = true) ∧
      ∀ (a : Act) (w : World), SimL w0 ok0 s' a w → ∀ K : Act → World → Prop, (∀ a' w', R a' w' → K a' w') → if Region.wanted o (yielded ops a.tmps) = true then o.wpIn (FW ro) md P a w K Q else (∀ f, o.about P w a.eval = some f → (FW ro).fn f) ∧ K (a.put o.dst undef) w)
    (hrest : ∀ (i : Nat) (o : Oper), m < i → ops[i]? = some o → reach (ops.toList.map anyAfter) ops.size i m = true)
    (htail : ∀ (fuel : Nat) (listed : Array Bool) (a : Act) (w : World), listed.size = ops.size → listed.toList.count false ≤ fuel →
      (∀ j o, ops[j]? = some o → listedX listed j = true → ∀ e ∈ o.after, Region.binds .any e = true → listedX listed e.on = true) →
      (∀ j, j < m + 1 → listedX listed j = true) → (∀ j, m + 1 ≤ j → listedX listed j = false) → R a w → wpAnyIn (FW ro) md P .any ops Q fuel listed a w) :
    ∀ (fuel : Nat) (listed : Array Bool) (a : Act) (w : World), listed.size = ops.size → listed.toList.count false ≤ fuel →
      (∀ j o, ops[j]? = some o → listedX listed j = true → ∀ e ∈ o.after, Region.binds .any e = true → listedX listed e.on = true) →
      ((∀ i, m ≤ i → listedX listed i = false) ∧ SimF w0 ok0 s.slots.length (foldS s.slots.length (listedX listed) (is.zip fs) 0 (slotsF s.slots)) (foldL (listedX listed) (is.zip fs) 0 (getL s.blk)) a w) →
      wpAnyIn (FW ro) md P .any ops Q fuel listed a w := by
  obtain ⟨r1, r2, r3, r4, r5⟩ := runI_steps is s s' fs hrun
  obtain ⟨m1, m2⟩ := mapO_get hcomp
  have hlenis : is.length = m := by
    have := m1
    rw [List.length_take] at this
    simp only [Array.length_toList] at this
    omega
  have hlen : ∀ j x, (is.zip fs)[j]? = some x → j < m := fun j x hj => by
    have := (List.getElem?_eq_some_iff.1 hj).1
    rw [List.length_zip] at this
    omega
  have hfull : ∀ (listed : Array Bool) (a : Act) (w : World), (∀ i, i < m → listedX listed i = true) →
      SimF w0 ok0 s.slots.length (foldS s.slots.length (listedX listed) (is.zip fs) 0 (slotsF s.slots)) (foldL (listedX listed) (is.zip fs) 0 (getL s.blk)) a w → SimL w0 ok0 s' a w := by
    intro listed a w hallL hS
    unfold SimL
    rw [r2, r4, r5]
    have e1 : foldS s.slots.length (fun _ => true) (is.zip fs) 0 (slotsF s.slots) = foldS s.slots.length (listedX listed) (is.zip fs) 0 (slotsF s.slots) := by
      funext t
      exact foldS_congr _ _ _ _ rfl fun j x hj _ => by rw [Nat.zero_add, hallL j (hlen j x hj)]
    have e2 : foldL (fun _ => true) (is.zip fs) 0 (getL s.blk) = foldL (listedX listed) (is.zip fs) 0 (getL s.blk) := by
      funext t
      exact foldL_congr _ _ _ _ rfl fun j x hj _ => by rw [Nat.zero_add, hallL j (hlen j x hj)]
    rw [e1, e2]
    exact hS
  have hdone : ∀ (listed : Array Bool) (a : Act) (w : World), listed.size = ops.size →
      ((∀ i, m ≤ i → listedX listed i = false) ∧ SimF w0 ok0 s.slots.length (foldS s.slots.length (listedX listed) (is.zip fs) 0 (slotsF s.slots)) (foldL (listedX listed) (is.zip fs) 0 (getL s.blk)) a w) →
      Region.ready .any ops listed = [] → Q .normal a w := by
    intro listed a w hsz hS hready
    have hallL : ∀ i, i < ops.size → listedX listed i = true := by
      intro i
      induction i using Nat.strongRecOn with
      | ind i ih =>
        intro hi
        cases hl : listedX listed i
        · exfalso
          have : i ∈ Region.ready .any ops listed := mem_ready.2 ⟨by
              unfold listedX at hl
              rw [Array.getD_eq_getD_getElem?, Array.getElem?_eq_getElem (by omega)] at hl ⊢
              simpa using hl, ops[i], Array.getElem?_eq_getElem hi, fun e he hb => ih e.on (hbefore i _ (Array.getElem?_eq_getElem hi) e he hb) (Nat.lt_trans (hbefore i _ (Array.getElem?_eq_getElem hi) e he hb) hi)⟩
          rw [hready] at this; cases this
        · rfl
    obtain ⟨hno, hS⟩ := hS
    have hmz : m = ops.size := by
      rcases Nat.lt_or_ge m ops.size with h | h
      · have := hno m (Nat.le_refl _); rw [hallL m h] at this; cases this
      · omega
    exact hQ hmz a w (hfull listed a w (fun i hi => hallL i (by omega)) hS)
  intro fuel
  induction fuel with
  | zero =>
    intro listed a w hsz hcnt hcl hS
    have hnil : Region.ready .any ops listed = [] := by
      rw [List.eq_nil_iff_forall_not_mem]
      intro i hi
      obtain ⟨h1, o, ho, _⟩ := mem_ready.1 hi
      have hlt : i < listed.size := by rw [hsz]; exact (Array.getElem?_eq_some_iff.1 ho).1
      have : false ∈ listed.toList := by
        rw [Array.getD_eq_getD_getElem?, Array.getElem?_eq_getElem hlt, Option.getD_some] at h1
        rw [← h1, Array.mem_toList_iff]; exact Array.getElem_mem hlt
      have := List.count_pos_iff.2 this
      omega
    exact ⟨hnil, hdone listed a w hsz hS hnil⟩
  | succ fuel ih =>
    intro listed a w hsz hcnt hcl hS
    refine ⟨hdone listed a w hsz hS, fun i hi => ?_⟩
    obtain ⟨h1, o, ho, hall⟩ := mem_ready.1 hi
    have hlt : i < listed.size := by rw [hsz]; exact (Array.getElem?_eq_some_iff.1 ho).1
    have hli : listedX listed i = false := by
      unfold listedX
      rw [Array.getD_eq_getD_getElem?, Array.getElem?_eq_getElem hlt, Option.getD_some] at h1 ⊢
      exact h1
    have hall' : ∀ e ∈ o.after, Region.binds .any e = true → listedX listed e.on = true := fun e he hb => hall e he hb
    have hcnt' : (listed.setIfInBounds i true).toList.count false ≤ fuel := by
      have hg : listed.toList[i]'(by simpa using hlt) = false := by
        unfold listedX at hli
        rw [Array.getD_eq_getD_getElem?, Array.getElem?_eq_getElem hlt, Option.getD_some] at hli
        simpa using hli
      have hpos : 0 < listed.toList.count false := List.count_pos_iff.2 (by rw [← hg]; exact List.getElem_mem _)
      rw [Array.toList_setIfInBounds, List.count_set (by simpa using hlt), hg]
      have e1 : (if (false == false) = true then 1 else 0) = 1 := rfl
      have e2 : (if (true == false) = true then 1 else 0) = 0 := rfl
      rw [e1, e2]
      omega
    have hcl' : ∀ j o', ops[j]? = some o' → listedX (listed.setIfInBounds i true) j = true → ∀ e ∈ o'.after, Region.binds .any e = true → listedX (listed.setIfInBounds i true) e.on = true := by
      intro j o' ho' hj e he hb
      rw [setX hlt] at hj ⊢
      simp only [Bool.or_eq_true, decide_eq_true_eq] at hj ⊢
      rcases hj with rfl | hj
      · rw [ho] at ho'; cases ho'; exact .inr (hall' e he hb)
      · exact .inr (hcl j o' ho' hj e he hb)
    obtain ⟨hno, hS⟩ := hS
    rcases Nat.lt_or_ge i m with him | him
    case inr =>
      have him2 : i = m := by
        rcases Nat.lt_or_ge m i with h | h
        · have := (reach_closed hcl _ _ _ (hrest i o h ho)).2 o ho hall'
          rw [hno m (Nat.le_refl _)] at this; cases this
        · omega
      subst him2
      obtain ⟨hreach, hh⟩ := hlast o ho
      have hpre : ∀ j, j < i → listedX listed j = true := fun j hj => (reach_closed hcl _ _ _ (hreach j hj)).2 o ho hall'
      have hmain := hh a w (hfull listed a w (fun j hj => hpre j (by omega)) hS) (wpAnyIn (FW ro) md P .any ops Q fuel (listed.setIfInBounds i true)) fun a' w' hq => by
        refine htail fuel (listed.setIfInBounds i true) a' w' (by simp [hsz]) hcnt' hcl' (fun j hj => ?_) (fun j hj => ?_) hq
        · rw [setX hlt]
          by_cases hji : j = i
          · simp [hji]
          · simp [hpre j (by omega)]
        · rw [setX hlt, hno j (by omega)]
          simp; omega
      unfold wpOpIn
      rw [ho]
      simp only []
      split
      · rename_i hw; rw [if_pos hw] at hmain; exact hmain
      · rename_i hw; rw [if_neg hw] at hmain; exact hmain
    obtain ⟨x, hx, hcx⟩ := m2 i o (by rw [List.getElem?_take, if_pos him, Array.getElem?_toList]; exact ho)
    have hfi : i < fs.length := by rw [r1]; exact (List.getElem?_eq_some_iff.1 hx).1
    have hf : fs[i]? = some fs[i] := List.getElem?_eq_getElem hfi
    generalize hfe : fs[i] = f at hf
    have hzip : (is.zip fs)[i]? = some (x, f) := by rw [List.getElem?_zip_eq_some]; exact ⟨hx, hf⟩
    have key : ∀ j y, (is.zip fs)[j]? = some y → confl y (x, f) = true → listedX listed j = decide (j < i) := fun j y hy hc => draw_key hok hcl ho hli hall' hzip hy hc
    have hS0 : ∀ t, (t ∈ x.temps ∨ x.dst = some t) → foldS s.slots.length (listedX listed) (is.zip fs) 0 (slotsF s.slots) t = foldS s.slots.length (fun j => decide (j < i)) (is.zip fs) 0 (slotsF s.slots) t := fun t ht =>
      foldS_congr _ _ _ _ rfl fun j y hy hd => by
        rw [Nat.zero_add]
        refine key j y hy ?_
        unfold confl
        simp only [hd, Bool.or_eq_true, List.contains_iff_mem, beq_iff_eq]
        exact .inl (ht.imp id id)
    have hL0 : ∀ t, (t ∈ f.rd ∨ t ∈ f.up.map (·.1)) → foldL (listedX listed) (is.zip fs) 0 (getL s.blk) t = foldL (fun j => decide (j < i)) (is.zip fs) 0 (getL s.blk) t := fun t ht =>
      foldL_congr _ _ _ _ rfl fun j y hy hd => by
        rw [Nat.zero_add]
        refine key j y hy ?_
        unfold confl
        obtain ⟨p, hp, rfl⟩ := List.mem_map.1 hd
        simp only [Bool.or_eq_true, List.any_eq_true, List.contains_iff_mem, beq_iff_eq]
        refine .inr ⟨p, hp, ht.imp id fun h => ?_⟩
        obtain ⟨q, hq, hqe⟩ := List.mem_map.1 h
        exact ⟨q, hq, hqe⟩
    have hstep := r3 i x f hx hf
    have hstep' : (wantF (foldS s.slots.length (listedX listed) (is.zip fs) 0 (slotsF s.slots)) x.guard = some true ∧ eff cx (evalF (foldS s.slots.length (listedX listed) (is.zip fs) 0 (slotsF s.slots))) (foldL (listedX listed) (is.zip fs) 0 (getL s.blk)) (x.tag) x.op = some f) ∨
        (wantF (foldS s.slots.length (listedX listed) (is.zip fs) 0 (slotsF s.slots)) x.guard = some false ∧ f = ⟨.tup [], [], []⟩) := by
      have hw : wantF (foldS s.slots.length (listedX listed) (is.zip fs) 0 (slotsF s.slots)) x.guard = wantF (foldS s.slots.length (fun j => decide (j < i)) (is.zip fs) 0 (slotsF s.slots)) x.guard :=
        wantF_congr fun t b hg => hS0 t (.inl (by unfold AInst.temps; rw [hg]; simp))
      rw [hw]
      refine hstep.imp (fun h => ⟨h.1, eff_congr h.2 (fun y hy => evalF_congr fun t ht => hS0 t (.inl ?_)) hL0⟩) id
      unfold AInst.temps
      exact List.mem_append_left _ (operands_temps hy ht)
    have hmain := step_F (ro := ro) (md := md) (Q := Q) hcx hcall hS hstep' (K := wpAnyIn (FW ro) md P .any ops Q fuel (listed.setIfInBounds i true)) fun a' w' hS' => by
      refine ih (listed.setIfInBounds i true) a' w' (by simp [hsz]) hcnt' hcl' ⟨fun j hj => ?_, ?_⟩
      · rw [setX hlt, hno j hj]
        simp; omega
      · have eS : putF s.slots.length (foldS s.slots.length (listedX listed) (is.zip fs) 0 (slotsF s.slots)) x.dst f.v = foldS s.slots.length (listedX (listed.setIfInBounds i true)) (is.zip fs) 0 (slotsF s.slots) := by
          funext t
          by_cases hd : x.dst = some t
          · have hY : foldS s.slots.length (listedX (listed.setIfInBounds i true)) (is.zip fs) 0 (slotsF s.slots) t = foldS s.slots.length (fun j => decide (j ≤ 0 + i)) (is.zip fs) 0 (slotsF s.slots) t :=
              foldS_congr _ _ _ _ rfl fun j y hy hdy => by
                rw [Nat.zero_add, Nat.zero_add, setX hlt]
                have := key j y hy (by
                  unfold confl
                  simp [hdy, hd])
                rw [this]
                by_cases h1 : j = i
                · simp [h1]
                · by_cases h2 : j < i
                  · simp [h2, Nat.le_of_lt h2]
                  · simp [h1, h2]; omega
            rw [hY, foldS_upto _ _ _ _ _ hzip, Nat.zero_add]
            show (if x.dst = some t ∧ t < s.slots.length then f.v else _) = (if x.dst = some t ∧ t < s.slots.length then f.v else _)
            rw [hS0 t (.inr hd)]
          · rw [putF_ne hd]
            exact foldS_congr _ _ _ _ rfl fun j y hy hdy => by
              rw [Nat.zero_add, setX hlt]
              have : j ≠ i := fun h => by subst h; rw [hzip] at hy; cases hy; exact hd hdy
              simp [this]
        have eL : updF (foldL (listedX listed) (is.zip fs) 0 (getL s.blk)) f.up = foldL (listedX (listed.setIfInBounds i true)) (is.zip fs) 0 (getL s.blk) := by
          funext t
          by_cases hd : t ∈ f.up.map (·.1)
          · have hY : foldL (listedX (listed.setIfInBounds i true)) (is.zip fs) 0 (getL s.blk) t = foldL (fun j => decide (j ≤ 0 + i)) (is.zip fs) 0 (getL s.blk) t :=
              foldL_congr _ _ _ _ rfl fun j y hy hdy => by
                rw [Nat.zero_add, Nat.zero_add, setX hlt]
                have := key j y hy (by
                  unfold confl
                  obtain ⟨p, hp, hpt⟩ := List.mem_map.1 hdy
                  obtain ⟨q, hq, hqt⟩ := List.mem_map.1 hd
                  simp only [Bool.or_eq_true, List.any_eq_true, List.contains_iff_mem, beq_iff_eq]
                  exact .inr ⟨p, hp, .inr ⟨q, hq, by rw [hqt, hpt]⟩⟩)
                rw [this]
                by_cases h1 : j = i
                · simp [h1]
                · by_cases h2 : j < i
                  · simp [h2, Nat.le_of_lt h2]
                  · simp [h1, h2]; omega
            rw [hY, foldL_upto _ _ _ _ _ hzip, Nat.zero_add]
            exact updF_eq (.inr hd)
          · rw [updF_ne hd]
            exact foldL_congr _ _ _ _ rfl fun j y hy hdy => by
              rw [Nat.zero_add, setX hlt]
              have : j ≠ i := fun h => by subst h; rw [hzip] at hy; cases hy; exact hd hdy
              simp [this]
        rw [← eS, ← eL]
        exact hS'
    unfold wpOpIn
    rw [ho]
    simp only []
    split
    · rename_i hw; rw [if_pos hw] at hmain; exact hmain
    · rename_i hw; rw [if_neg hw] at hmain; exact hmain

theorem draw_fits {id : Nat} {ops : Array Oper} {is : List AInst} {s s' : St} {fs : List Ef} {Q : Exit → Act → World → Prop} (hcall : CxOK P cx)
    (hcomp : mapO (compI P s.slots.length off ops) ops.toList = some is) (hrun : runI cx is s = some (s', fs)) (hok : okDraw (ops.toList.map anyAfter) is fs = true)
    (hmix : P.follows .mixedOrders = true) (hbefore : ∀ (i : Nat) (o : Oper), ops[i]? = some o → ∀ e ∈ o.after, Region.binds .any e = true → e.on < i) (hS : SimL w0 ok0 s a w)
    (hQ : ∀ a' w', SimL w0 ok0 s' a' w' → Q .normal a' w') : (Code.region id ops true).wpIn (FW ro) md P Q a w := by
  refine wpIn_region_draw fun t => ?_
  simp only [Region.schedule, hmix, Bool.true_or, if_true]
  have hno : ∀ j, listedX (Array.replicate ops.size false) j = false := fun j => by
    unfold listedX
    rw [Array.getD_eq_getD_getElem?, Array.getElem?_replicate]
    split <;> rfl
  have hX : listedX (Array.replicate ops.size false) = fun _ => false := funext hno
  have hnoS : ∀ (its : List (AInst × Ef)) (k' : Nat) (sl : Nat → AV), foldS s.slots.length (fun _ => false) its k' sl = sl := by
    intro its
    induction its with
    | nil => intro _ _; rfl
    | cons z its ih => intro k' sl; simp only [foldS, Bool.false_eq_true, if_false]; exact ih _ _
  have hnoL : ∀ (its : List (AInst × Ef)) (k' : Nat) (lk : Nat → Option Blk), foldL (fun _ => false) its k' lk = lk := by
    intro its
    induction its with
    | nil => intro _ _; rfl
    | cons z its ih => intro k' lk; simp only [foldL, Bool.false_eq_true, if_false]; exact ih _ _
  refine wpAnyIn_sound ops.size t _ a _ (draw_any (m := ops.size) hcall (Nat.le_refl _) (by rw [List.take_of_length_le (by simp)]; exact hcomp) hrun hok hbefore (fun _ => hQ) (R := fun _ _ => False) (fun o ho => absurd (Array.getElem?_eq_some_iff.1 ho).1 (by omega)) (fun i o hi ho => absurd (Array.getElem?_eq_some_iff.1 ho).1 (by omega)) (fun _ _ _ _ _ _ _ _ _ h => h.elim) ops.size _ a _ (by simp) (by simp) (fun j o _ h => by rw [hno] at h; cases h) ⟨fun i _ => hno i, ?_⟩)
  rw [hX, hnoS, hnoL]
  exact SimF.drew hS

theorem draw_last {id : Nat} {ops : Array Oper} {is : List AInst} {s s' : St} {fs : List Ef} {m : Nat} {Q : Exit → Act → World → Prop} {R : Act → World → Prop} (hcall : CxOK P cx)
    (hmix : P.follows .mixedOrders = true) (hm : m ≤ ops.size) (hcomp : mapO (compI P s.slots.length off ops) (ops.toList.take m) = some is) (hrun : runI cx is s = some (s', fs)) (hok : okDraw (ops.toList.map anyAfter) is fs = true)
    (hbefore : ∀ (i : Nat) (o : Oper), ops[i]? = some o → ∀ e ∈ o.after, Region.binds .any e = true → e.on < i)
    (hQ : m = ops.size → ∀ a' w', SimL w0 ok0 s' a' w' → Q .normal a' w')
    (hlast : ∀ (o : Oper), ops[m]? = some o → (∀ j, j < m → reach (ops.toList.map anyAfter) ops.size m j = true) ∧
      ∀ (a : Act) (w : World), SimL w0 ok0 s' a w → ∀ K : Act → World → Prop, (∀ a' w', R a' w' → K a' w') → if Region.wanted o (yielded ops a.tmps) = true then o.wpIn (FW ro) md P a w K Q else (∀ f, o.about P w a.eval = some f → (FW ro).fn f) ∧ K (a.put o.dst undef) w)
    (hrest : ∀ (i : Nat) (o : Oper), m < i → ops[i]? = some o → reach (ops.toList.map anyAfter) ops.size i m = true)
    (htail : ∀ (fuel : Nat) (listed : Array Bool) (a : Act) (w : World), listed.size = ops.size → listed.toList.count false ≤ fuel →
      (∀ j o, ops[j]? = some o → listedX listed j = true → ∀ e ∈ o.after, Region.binds .any e = true → listedX listed e.on = true) →
      (∀ j, j < m + 1 → listedX listed j = true) → (∀ j, m + 1 ≤ j → listedX listed j = false) → R a w → wpAnyIn (FW ro) md P .any ops Q fuel listed a w)
    (hS : SimL w0 ok0 s a w) : (Code.region id ops true).wpIn (FW ro) md P Q a w := by
  refine wpIn_region_draw fun t => ?_
  simp only [Region.schedule, hmix, Bool.true_or, if_true]
  have hno : ∀ j, listedX (Array.replicate ops.size false) j = false := fun j => by
    unfold listedX
    rw [Array.getD_eq_getD_getElem?, Array.getElem?_replicate]
    split <;> rfl
  have hX : listedX (Array.replicate ops.size false) = fun _ => false := funext hno
  have hnoS : ∀ (its : List (AInst × Ef)) (k' : Nat) (sl : Nat → AV), foldS s.slots.length (fun _ => false) its k' sl = sl := by
    intro its
    induction its with
    | nil => intro _ _; rfl
    | cons z its ih => intro k' sl; simp only [foldS, Bool.false_eq_true, if_false]; exact ih _ _
  have hnoL : ∀ (its : List (AInst × Ef)) (k' : Nat) (lk : Nat → Option Blk), foldL (fun _ => false) its k' lk = lk := by
    intro its
    induction its with
    | nil => intro _ _; rfl
    | cons z its ih => intro k' lk; simp only [foldL, Bool.false_eq_true, if_false]; exact ih _ _
  refine wpAnyIn_sound ops.size t _ a _ (draw_any (m := m) hcall hm hcomp hrun hok hbefore hQ hlast hrest htail ops.size _ a _ (by simp) (by simp) (fun j o _ h => by rw [hno] at h; cases h) ⟨fun i _ => hno i, ?_⟩)
  rw [hX, hnoS, hnoL]
  exact SimF.drew hS
end

end Go.Proofs.YtmmlolampgnamaaDoor.Ax
