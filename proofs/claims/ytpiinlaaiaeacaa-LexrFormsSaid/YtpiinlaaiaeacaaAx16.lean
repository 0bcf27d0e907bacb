/- Functions: what a body comes to, the function answers. -/
import Derived.Test.YtpiinlaaiaeacaaAx15
namespace Go.Proofs.Ytpiinlaaiaeacaa.Ax
open Go.RowKit
set_option linter.unusedVariables false

/-! ### what is handed back -/
inductive RVar where
  | tmp (t : Nat)
  | cell (a : Nat) (n : Option Nat)
def compR (P : Program) : ResultVar → Option RVar
  | .tmp t => some (.tmp t)
  | .cell a t => (shapeOf P t).map (.cell a)
def resAV (s : St) : RVar → Option AV
  | .tmp t => some (slotsF s.slots t)
  | .cell a n => (loadE (getL s.blk) n (slotsF s.slots a)).map (·.v)
def newTags (lk : Nat → Option Blk) : Cl → List Nat
  | .own t g _ => match rowsOf lk t g with
    | some (false, _, _) => [t]
    | _ => []
  | _ => []
def newTagsV (lk : Nat → Option Blk) : AV → List Nat
  | .c x => newTags lk x
  | .agg l => l.flatMap (newTags lk)
  | .tup _ => []
def retC (lk : Nat → Option Blk) : Cl → Option Rc
  | .d x => some (.d x)
  | .nil => some .nil
  | .clip rows => some (.d (.sl rows))
  | .own t g _ => match rowsOf lk t g with
    | some (false, E, rows) => some (.new E rows)
    | some (true, _, rows) => some (.d (.sl rows))
    | none => none
  | _ => none
def retV (lk : Nat → Option Blk) : AV → Option (Sum Rc (List Rc))
  | .c x => (retC lk x).map .inl
  | .agg l => (mapO (retC lk) l).map .inr
  | .tup _ => none
def nodupB : List Nat → Bool
  | [] => true
  | x :: xs => !(xs.contains x) && nodupB xs
def retAll (lk : Nat → Option Blk) (vs : List AV) : Option (List (Sum Rc (List Rc))) :=
  if nodupB (vs.flatMap (newTagsV lk)) = true then mapO (retV lk) vs else none
def packR : List (Sum Rc (List Rc)) → RR
  | [.inl x] => .c x
  | [.inr l] => .agg l
  | l => .tup l
def resA (rs : List RVar) (s : St) : Option RR :=
  match mapO (resAV s) rs with
  | some vs => match retAll (getL s.blk) vs with
    | some l => some (packR l)
    | none => (retAll (updF (getL s.blk) (freeze (getL s.blk) (vs.flatMap (newTagsV (getL s.blk))))) vs).map packR
  | none => none

section
variable {P : Program} {w0 w : World} {ok0 : Nat → Prop} {e : En} {lk : Nat → Option Blk}

def Owned (e : En) (lk : Nat → Option Blk) (t b : Nat) : Prop := ∃ g k c E, lk t = some ⟨g, false, k⟩ ∧ live k ∧ e.β t g = some (b, c, E)

theorem retC_fits (hM : Mem w0 ok0 e lk w) {x : Cl} {v : Value} (hr : RC e w x v) {r : Rc} (h : retC lk x = some r) : ∃ bs, RRc e.ok w r v bs ∧ bs.Nodup ∧ ∀ b ∈ bs, ∃ t ∈ newTags lk x, Owned e lk t b := by
  cases x with
  | d x =>
    simp only [retC, Option.some.injEq] at h; subst h
    exact ⟨[], ⟨rfl, hr⟩, by simp, by simp⟩
  | nil =>
    simp only [retC, Option.some.injEq] at h; subst h
    exact ⟨[], ⟨rfl, hr⟩, by simp, by simp⟩
  | clip rows =>
    simp only [retC, Option.some.injEq] at h; subst h
    exact ⟨[], ⟨rfl, dOf_rd hM hr (ts := []) rfl (fun _ h => h) (fun _ _ => rfl) (by simp)⟩, by simp, by simp⟩
  | own t g n =>
    simp only [retC] at h
    split at h
    · rename_i E rows hro
      simp only [Option.some.injEq] at h; subst h
      have hl := rowsOf_some hro
      have hn := own_len hM hl hr
      have ha := hM.arr t g false E rows hl
      obtain ⟨hg, hv⟩ := hr
      cases hb : e.β t g with
      | none =>
        rw [hb] at ha hv
        exact ⟨[], .inl ⟨rfl, ha, hv.2⟩, by simp, by simp⟩
      | some q =>
        obtain ⟨b, c, E'⟩ := q
        rw [hb] at ha hv
        obtain ⟨rfl, h2, cs, ty, h3, h4, h5, h6⟩ := ha
        refine ⟨[b], .inr ⟨b, c, cs, ty, rfl, by rw [hn]; exact hv.2.2, h2, h3, h4, h5, h6⟩, by simp, fun b' hb' => ?_⟩
        simp only [List.mem_singleton] at hb'; subst hb'
        refine ⟨t, ?_, g, _, c, _, hl, by simp [live], hb⟩
        simp [newTags, hro]
    · rename_i E rows hro
      simp only [Option.some.injEq] at h; subst h
      have hl := rowsOf_some hro
      refine ⟨[], ⟨rfl, dOf_rd hM hr (d := .sl rows) (ts := [t]) (by simp only [dOf, hro]) (fun _ h => h) (fun _ _ => rfl) ?_⟩, by simp, by simp⟩
      intro t' ht' g' fz k b c E' h1 h2 h3
      simp only [List.mem_singleton] at ht'; subst ht'
      rw [hl] at h1
      cases h1
      exact ⟨hM.frz t' g _ b c E' hl h2 h3, rfl⟩
    · cases h
  | undef => simp [retC] at h
  | bptr _ _ _ => simp [retC] at h
  | aptr _ _ _ _ => simp [retC] at h

theorem nodupB_append : ∀ {l m : List Nat}, nodupB (l ++ m) = true → nodupB l = true ∧ nodupB m = true ∧ ∀ x ∈ l, x ∉ m
  | [], m, h => ⟨rfl, h, by simp⟩
  | x :: l, m, h => by
    simp only [List.cons_append, nodupB, Bool.and_eq_true, Bool.not_eq_true', List.contains_eq_mem, List.mem_append, decide_eq_false_iff_not, not_or] at h
    obtain ⟨⟨h1, h2⟩, h3⟩ := h
    obtain ⟨g1, g2, g3⟩ := nodupB_append h3
    refine ⟨by simp [nodupB, h1, g1], g2, fun y hy => ?_⟩
    rcases List.mem_cons.1 hy with rfl | hy
    · exact h2
    · exact g3 y hy

theorem nodup_join (hM : Mem w0 ok0 e lk w) {l m : List Nat} {b1 b2 : List Nat} (h1 : b1.Nodup) (h2 : b2.Nodup) (hd : ∀ x ∈ l, x ∉ m) (o1 : ∀ b ∈ b1, ∃ t ∈ l, Owned e lk t b) (o2 : ∀ b ∈ b2, ∃ t ∈ m, Owned e lk t b) : (b1 ++ b2).Nodup := by
  rw [List.nodup_append]
  refine ⟨h1, h2, fun x hx y hy hxy => ?_⟩
  subst hxy
  obtain ⟨t, ht, g, k, c, E, q1, q2, q3⟩ := o1 x hx
  obtain ⟨t', ht', g', k', c', E', q1', q2', q3'⟩ := o2 x hy
  have := hM.inj t g k x c E t' g' k' c' E' q1 q2 q3 q1' q2' q3'
  subst this
  exact hd t ht ht'

theorem retCs_fits (hM : Mem w0 ok0 e lk w) : ∀ {l : List Cl} {vs : List Value} {rs : List Rc}, RCs e w l vs → mapO (retC lk) l = some rs → nodupB (l.flatMap (newTags lk)) = true →
    ∃ bs, RRcs e.ok w rs vs bs ∧ bs.Nodup ∧ ∀ b ∈ bs, ∃ t ∈ l.flatMap (newTags lk), Owned e lk t b
  | [], [], rs, _, h, _ => by
    simp only [mapO, Option.some.injEq] at h; subst h
    exact ⟨[], rfl, by simp, by simp⟩
  | x :: l, v :: vs, rs, hr, h, hn => by
    simp only [mapO] at h
    split at h
    · rename_i y ys h1 h2
      simp only [Option.some.injEq] at h; subst h
      rw [List.flatMap_cons] at hn
      obtain ⟨n1, n2, n3⟩ := nodupB_append hn
      obtain ⟨b1, p1, p2, p3⟩ := retC_fits hM hr.1 h1
      obtain ⟨b2, q1, q2, q3⟩ := retCs_fits hM hr.2 h2 n2
      refine ⟨b1 ++ b2, ⟨b1, b2, rfl, p1, q1⟩, nodup_join hM p2 q2 n3 p3 q3, fun b hb => ?_⟩
      rw [List.flatMap_cons]
      rcases List.mem_append.1 hb with hb | hb
      · obtain ⟨t, ht, ho⟩ := p3 b hb; exact ⟨t, List.mem_append_left _ ht, ho⟩
      · obtain ⟨t, ht, ho⟩ := q3 b hb; exact ⟨t, List.mem_append_right _ ht, ho⟩
    · cases h
  | [], _ :: _, _, hr, _, _ => hr.elim
  | _ :: _, [], _, hr, _, _ => hr.elim

theorem retV_fits (hM : Mem w0 ok0 e lk w) {x : AV} {v : Value} {r : Sum Rc (List Rc)} (hr : RV e w x v) (h : retV lk x = some r) (hn : nodupB (newTagsV lk x) = true) :
    ∃ bs, RR1 e.ok w r v bs ∧ bs.Nodup ∧ ∀ b ∈ bs, ∃ t ∈ newTagsV lk x, Owned e lk t b := by
  cases x with
  | c x =>
    simp only [retV, Option.map_eq_some_iff] at h
    obtain ⟨y, hy, rfl⟩ := h
    exact retC_fits hM hr hy
  | agg l =>
    simp only [retV, Option.map_eq_some_iff] at h
    obtain ⟨y, hy, rfl⟩ := h
    obtain ⟨vs, hv, hr⟩ := hr
    obtain ⟨bs, h1, h2, h3⟩ := retCs_fits hM hr hy hn
    exact ⟨bs, ⟨vs, hv, h1⟩, h2, h3⟩
  | tup l => simp [retV] at h

def RVs (e : En) (w : World) : List AV → List Value → Prop
  | [], [] => True
  | x :: xs, v :: vs => RV e w x v ∧ RVs e w xs vs
  | _, _ => False

theorem retVs_fits (hM : Mem w0 ok0 e lk w) : ∀ {l : List AV} {vs : List Value} {rs : List (Sum Rc (List Rc))}, RVs e w l vs → mapO (retV lk) l = some rs → nodupB (l.flatMap (newTagsV lk)) = true →
    ∃ bs, RR1s e.ok w rs vs bs ∧ bs.Nodup ∧ ∀ b ∈ bs, ∃ t ∈ l.flatMap (newTagsV lk), Owned e lk t b
  | [], [], rs, _, h, _ => by
    simp only [mapO, Option.some.injEq] at h; subst h
    exact ⟨[], rfl, by simp, by simp⟩
  | x :: l, v :: vs, rs, hr, h, hn => by
    simp only [mapO] at h
    split at h
    · rename_i y ys h1 h2
      simp only [Option.some.injEq] at h; subst h
      rw [List.flatMap_cons] at hn
      obtain ⟨n1, n2, n3⟩ := nodupB_append hn
      obtain ⟨b1, p1, p2, p3⟩ := retV_fits hM hr.1 h1 n1
      obtain ⟨b2, q1, q2, q3⟩ := retVs_fits hM hr.2 h2 n2
      refine ⟨b1 ++ b2, ⟨b1, b2, rfl, p1, q1⟩, nodup_join hM p2 q2 n3 p3 q3, fun b hb => ?_⟩
      rw [List.flatMap_cons]
      rcases List.mem_append.1 hb with hb | hb
      · obtain ⟨t, ht, ho⟩ := p3 b hb; exact ⟨t, List.mem_append_left _ ht, ho⟩
      · obtain ⟨t, ht, ho⟩ := q3 b hb; exact ⟨t, List.mem_append_right _ ht, ho⟩
    · cases h
  | [], _ :: _, _, hr, _, _ => hr.elim
  | _ :: _, [], _, hr, _, _ => hr.elim

theorem RVs.ext {e' : En} {w' : World} (hx : Ext e w e' w') : ∀ {l : List AV} {vs : List Value}, RVs e w l vs → RVs e' w' l vs
  | [], [], _ => trivial
  | _ :: _, _ :: _, h => ⟨RV.ext hx h.1, RVs.ext hx h.2⟩
  | [], _ :: _, h => h.elim
  | _ :: _, [], h => h.elim

theorem RR1s.length {ok : Nat → Prop} : ∀ {l : List (Sum Rc (List Rc))} {vs : List Value} {bs : List Nat}, RR1s ok w l vs bs → l.length = vs.length
  | [], [], _, _ => rfl
  | _ :: _, _ :: _, _, ⟨_, _, _, _, h⟩ => by simp [RR1s.length h]
  | [], _ :: _, _, h => h.elim
  | _ :: _, [], _, h => h.elim

theorem packR_fits {ok : Nat → Prop} {l : List (Sum Rc (List Rc))} {vs : List Value} {bs : List Nat} (h : RR1s ok w l vs bs) : RRv ok w (packR l) (if h : vs.toArray.size = 1 then vs.toArray[0] else .tuple vs.toArray) bs := by
  have hl := RR1s.length h
  match l, vs, h with
  | [], [], h => exact ⟨[], rfl, h⟩
  | [.inl x], [v], h =>
    obtain ⟨b1, b2, rfl, h1, h2⟩ := h
    simp only [RR1s] at h2
    subst h2
    rw [List.append_nil]
    exact h1
  | [.inr x], [v], h =>
    obtain ⟨b1, b2, rfl, h1, h2⟩ := h
    simp only [RR1s] at h2
    subst h2
    rw [List.append_nil]
    exact h1
  | x :: y :: l, u :: v :: vs, h =>
    rw [dif_neg (by simp)]
    cases x <;> exact ⟨_, rfl, h⟩

def oneRes (tmps : Array Value) : ResultVar → Sem Value
  | .tmp t => pure (tmps.getD t undef)
  | .cell a t => do loadVar t (← asAddr (tmps.getD a undef))
theorem results_one (fn : Func) (tmps : Array Value) : results fn tmps = (do let vs ← fn.results.mapM (oneRes tmps); pure (if h : vs.size = 1 then vs[0] else .tuple vs)) := rfl

/-- One result, read behind the body. -/
theorem res_run {s : St} {a : Act} (hM : Mem w0 ok0 e (getL s.blk) w) (hsl : ∀ t, RV e w (slotsF s.slots t) (a.tmps.getD t undef)) {r : ResultVar} {q : RVar} (hc : compR P r = some q) {x : AV} (h : resAV s q = some x) :
    ∃ v, RV e w x v ∧ (oneRes a.tmps r).run P w = .ok v w := by
  cases r with
  | tmp t =>
    simp only [compR, Option.some.injEq] at hc; subst hc
    simp only [resAV, Option.some.injEq] at h; subst h
    exact ⟨_, hsl t, by simp [oneRes]⟩
  | cell b t =>
    simp only [compR, Option.map_eq_some_iff] at hc
    obtain ⟨n, hn, rfl⟩ := hc
    simp only [resAV, Option.map_eq_some_iff] at h
    obtain ⟨f, hf, rfl⟩ := h
    obtain ⟨ad, v, h1, h2, h3, h4⟩ := load_run (P := P) hM (hsl b) hn hf
    exact ⟨v, h3, by simp [oneRes, h1, asAddr, h2]⟩

theorem ress_run {s : St} {a : Act} (hM : Mem w0 ok0 e (getL s.blk) w) (hsl : ∀ t, RV e w (slotsF s.slots t) (a.tmps.getD t undef)) : ∀ {rs : List ResultVar} {qs : List RVar}, mapO (compR P) rs = some qs → ∀ {xs : List AV}, mapO (resAV s) qs = some xs →
    ∃ vs, RVs e w xs vs ∧ (rs.mapM (oneRes a.tmps)).run P w = .ok vs w
  | [], qs, hc, xs, h => by
    simp only [mapO, Option.some.injEq] at hc; subst hc
    simp only [mapO, Option.some.injEq] at h; subst h
    exact ⟨[], trivial, by simp⟩
  | r :: rs, qs, hc, xs, h => by
    simp only [mapO] at hc
    split at hc
    · rename_i q qs' h1 h2
      simp only [Option.some.injEq] at hc; subst hc
      simp only [mapO] at h
      split at h
      · rename_i x xs' g1 g2
        simp only [Option.some.injEq] at h; subst h
        obtain ⟨v, hv, hrun⟩ := res_run (P := P) hM hsl h1 g1
        obtain ⟨vs, hvs, hruns⟩ := ress_run hM hsl h2 g2
        refine ⟨v :: vs, ⟨hv, hvs⟩, ?_⟩
        rw [List.mapM_cons]
        simp only [Sem.run_bind, hrun, hruns, Result.andThen_ok, Sem.run_pure]
      · cases h
    · cases hc

/-! ### what is handed in -/
def ofA : A → AV
  | .c x => .c (.d x)
  | .agg l => .agg (l.map .d)
def deadAll (tags : List Nat) : List (Nat × Blk) := tags.map fun t => (t, ⟨0, false, .dead⟩)
def startA (n : Nat) (tags : List Nat) (as : List A) : St := ⟨as.map ofA ++ List.replicate (n - as.length) (.c .undef), deadAll tags⟩

def startE (ok : Nat → Prop) : En := ⟨fun _ _ => none, fun _ => 0, ok⟩

theorem deadAll_get : ∀ (tags : List Nat) (t : Nat), getL (deadAll tags) t = none ∨ getL (deadAll tags) t = some ⟨0, false, .dead⟩
  | [], _ => .inl rfl
  | u :: tags, t => by
    unfold deadAll
    simp only [List.map_cons, getL]
    split
    · exact .inr rfl
    · exact deadAll_get tags t

theorem RDList.rcs {ok : Nat → Prop} : ∀ {l : List D} {vs : List Value}, RDList ok w l vs → RCs (startE ok) w (l.map .d) vs
  | [], [], _ => trivial
  | x :: l, v :: vs, h => by
    simp only [RDList] at h
    exact ⟨h.1, RDList.rcs h.2⟩
  | [], _ :: _, h => by simp only [RDList] at h
  | _ :: _, [], h => by simp only [RDList] at h

theorem RAs.get {ok : Nat → Prop} : ∀ {as : List A} {vs : List Value}, RAs ok w as vs → as.length = vs.length ∧ ∀ (i : Nat) (x : A), as[i]? = some x → ∃ v, vs[i]? = some v ∧ RV (startE ok) w (ofA x) v
  | [], [], _ => ⟨rfl, fun i x h => by simp at h⟩
  | x :: as, v :: vs, h => by
    obtain ⟨h1, h2⟩ := RAs.get h.2
    refine ⟨by simp [h1], fun i y hy => ?_⟩
    cases i with
    | zero =>
      simp only [List.getElem?_cons_zero, Option.some.injEq] at hy; subst hy
      refine ⟨v, rfl, ?_⟩
      cases x with
      | c x => exact h.1
      | agg l => obtain ⟨us, hu, hr⟩ := h.1; exact ⟨us, hu, RDList.rcs hr⟩
    | succ i => simp only [List.getElem?_cons_succ] at hy ⊢; exact h2 i y hy
  | [], _ :: _, h => h.elim
  | _ :: _, [], h => h.elim

/-- The state at the start. -/
theorem start_fits {ok : Nat → Prop} {as : List A} {vals : List Value} {n : Nat} {tags : List Nat} (hok : ∀ b, ok b → b < w.heap.size) (hgl : Gl w) (h : RAs ok w as vals) :
    SimL w ok (startA n tags as) { tmps := vals.toArray ++ Array.replicate (n - vals.length) undef, defers := [] } w := by
  obtain ⟨hl, hg⟩ := RAs.get h
  refine ⟨startE ok, ⟨fun t => ?_, ?_, ?_, ?_, ?_, ?_, hok, fun b hb => .inl hb, Below.refl _ _, fun t g fz s pos h => (by
    rcases deadAll_get tags t with h' | h' <;> rw [show getL (startA n tags as).blk t = _ from h'] at h <;> cases h), hgl⟩, ?_, fun t => ?_, rfl⟩
  · show 0 = genOf (getL (deadAll tags)) t
    unfold genOf
    rcases deadAll_get tags t with h | h <;> rw [h]
  · intro t g fz E rows h
    rcases deadAll_get tags t with h' | h' <;> rw [show getL (startA n tags as).blk t = _ from h'] at h <;> cases h
  · intro t g fz E h
    rcases deadAll_get tags t with h' | h' <;> rw [show getL (startA n tags as).blk t = _ from h'] at h <;> cases h
  · intro t g k b c E h hk hb; cases hb
  · intro t g k b c E h hk hb; cases hb
  · intro t g k b c E t' g' k' c' E' h hk hb; cases hb
  · simp [startA, hl]
  · simp only [startA, slotsF, List.getD_eq_getElem?_getD, Array.getD_eq_getD_getElem?]
    by_cases ht : t < as.length
    · rw [List.getElem?_append_left (by simpa using ht), List.getElem?_map, Array.getElem?_append_left (by simp; omega), List.getElem?_toArray]
      obtain ⟨v, hv, hr⟩ := hg t as[t] (List.getElem?_eq_getElem ht)
      rw [List.getElem?_eq_getElem ht, hv]
      exact hr
    · rw [List.getElem?_append_right (by simp; omega), List.getElem?_replicate]
      split <;> exact trivial
end

section
variable {P : Program} {cx : Cx} {K : Code → List Nat}

/-- What is promised of an ending. -/
def AnsPost (w : World) (ok : Nat → Prop) (r : RR) (e : Ending) (w' : World) : Prop :=
  ∃ v ok' bs, e = .returned v ∧ Below w.heap.size w w' ∧ (∀ b, ok' b → b < w'.heap.size) ∧ (∀ b, ok' b → ok b ∨ w.heap.size ≤ b) ∧
      RRv ok' w' r v bs ∧ bs.Nodup ∧ ∀ b ∈ bs, ¬ ok' b ∧ w.heap.size ≤ b ∧ b < w'.heap.size

theorem post_fits {fn : Func} {qs : List RVar} {ex : Ex} {s : St} {r : RR} {w w' : World} {ok : Nat → Prop} {a' : Act} (hq : mapO (compR P) fn.results.toList = some qs) (hex : ∀ id, ex ≠ .exit id) (hres : resA qs s = some r) (hS : SimL w ok s a' w') :
    bodyPost P fn (AnsPost w ok r) ex.to a' w' := by
  obtain ⟨e, hM, hs, hsl, hd⟩ := hS
  have hmain : a'.defers = [] ∧ ∃ v, (results fn a'.tmps).run P w' = .ok v w' ∧ ∃ u ok' bs, Ending.returned v = .returned u ∧ Below w.heap.size w w' ∧ (∀ b, ok' b → b < w'.heap.size) ∧ (∀ b, ok' b → ok b ∨ w.heap.size ≤ b) ∧
      RRv ok' w' r u bs ∧ bs.Nodup ∧ ∀ b ∈ bs, ¬ ok' b ∧ w.heap.size ≤ b ∧ b < w'.heap.size := by
    refine ⟨hd, ?_⟩
    unfold resA at hres
    split at hres
    · rename_i xs hxs
      obtain ⟨vs, hvs, hvrun⟩ := ress_run (P := P) hM hsl hq hxs
      have hresults : (results fn a'.tmps).run P w' = .ok (if h : vs.toArray.size = 1 then vs.toArray[0] else .tuple vs.toArray) w' := by
        rw [results_one, Sem.run_bind, Array.mapM_eq_mapM_toList, Sem.run_map, hvrun]
        rfl
      have hpack : ∀ (ok : Nat → Prop) (l : List (Sum Rc (List Rc))) (bs : List Nat), RR1s ok w' l vs bs → RRv ok w' (packR l) (if h : vs.toArray.size = 1 then vs.toArray[0] else .tuple vs.toArray) bs := fun ok l bs h => packR_fits h
      generalize (if h : vs.toArray.size = 1 then vs.toArray[0] else .tuple vs.toArray) = val at hresults hpack
      refine ⟨val, hresults, val, ?_⟩
      have fin : ∀ (e : En) (lk : Nat → Option Blk) (l : List (Sum Rc (List Rc))), Mem w ok e lk w' → RVs e w' xs vs → retAll lk xs = some l → r = packR l →
          ∃ ok' bs, Ending.returned val = .returned val ∧ Below w.heap.size w w' ∧ (∀ b, ok' b → b < w'.heap.size) ∧ (∀ b, ok' b → ok b ∨ w.heap.size ≤ b) ∧
            RRv ok' w' r val bs ∧ bs.Nodup ∧ ∀ b ∈ bs, ¬ ok' b ∧ w.heap.size ≤ b ∧ b < w'.heap.size := by
        intro e lk l hM hvs hall hr
        unfold retAll at hall
        split at hall
        · rename_i hn
          obtain ⟨bs, h1, h2, h3⟩ := retVs_fits hM hvs hall hn
          refine ⟨e.ok, bs, rfl, hM.bel, hM.okl, hM.okr, by rw [hr]; exact hpack _ _ _ h1, h2, fun b hb => ?_⟩
          obtain ⟨t, _, g, k, c', E, q1, q2, q3⟩ := h3 b hb
          exact hM.own t g k b c' E q1 q2 q3
        · cases hall
      split at hres
      · rename_i l hl
        simp only [Option.some.injEq] at hres
        exact fin e _ l hM hvs hl hres.symm
      · simp only [Option.map_eq_some_iff] at hres
        obtain ⟨l, hl, hr⟩ := hres
        obtain ⟨e2, hx, hM2, _⟩ := Mem.freezeL (getL s.blk) (xs.flatMap (newTagsV (getL s.blk))) e (getL s.blk) hM (fun t g fz k h => ⟨fz, h⟩) (fun t ht => by
          obtain ⟨x, hx, htx⟩ := List.mem_flatMap.1 ht
          have one : ∀ y : Cl, t ∈ newTags (getL s.blk) y → ∃ g fz k, getL s.blk t = some ⟨g, fz, k⟩ ∧ live k := by
            intro y hy
            cases y with
            | own t' g n' =>
              simp only [newTags] at hy
              split at hy
              · rename_i E rows hro
                simp only [List.mem_singleton] at hy; subst hy
                exact ⟨g, false, _, rowsOf_some hro, by simp [live]⟩
              · simp at hy
            | _ => simp [newTags] at hy
          cases x with
          | c y => exact one y htx
          | agg l => obtain ⟨y, _, hy⟩ := List.mem_flatMap.1 htx; exact one y hy
          | tup l => simp [newTagsV] at htx)
        exact fin e2 _ l hM2 (RVs.ext hx hvs) hl hr.symm
    · cases hres
  cases ex with
  | normal => exact hmain
  | exit id => exact absurd rfl (hex id)
  | ret => exact hmain

theorem calls_fits (hcall : ∀ g as r, cx.call g as = some r → ACalls P g as r ∧ Enters P g) {f : FuncId} {fn : Func} {c : Code} {as : List A} {ac : ACode} {tags : List Nat} {qs : List RVar} {n : Nat} {ex : Ex} {s : St} {r : RR}
    (hf : P.funcs[f]? = some fn) (hb : fn.body = some c) (hc : compC P (startA fn.ntmps tags as).slots.length K c = some ac) (hq : mapO (compR P) fn.results.toList = some qs)
    (hrun : acode cx n ac (startA fn.ntmps tags as) = some (ex, s)) (hex : ∀ id, ex ≠ .exit id) (hres : resA qs s = some r) : ACalls P f as r := by
  intro w vals ok hok hgl has
  have hlen := (RAs.get has).1
  refine calls_of_wp hf hb ?_
  have hstart := start_fits (n := fn.ntmps) (tags := tags) hok hgl has
  refine code_fits hcall n c ac hc (startA fn.ntmps tags as) ex s _ w _ rfl hrun (by simpa using hstart) fun hN a' w' hS => post_fits hq hex hres hS
end

end Go.Proofs.Ytpiinlaaiaeacaa.Ax
