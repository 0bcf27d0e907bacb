/- Functions: what a body comes to, the function answers. -/
import Derived.Test.YtmmlolampgnamaaDoorAxF
namespace Go.Proofs.YtmmlolampgnamaaDoor.Ax
open Go.RowKit
set_option linter.unusedVariables false

/-! ### what is handed back -/
def compR (P : Program) : ResultVar → Option RVar
  | .tmp t => some (.tmp t)
  | .cell a t => (shapeOf P t).map (.cell a)
def newTags (lk : Nat → Option Blk) : Cl → List Nat
  | .own t g _ => match rowsOf lk t g with
    | some (false, _, _) => [t]
    | _ => []
  | _ => []
def newTagsV (lk : Nat → Option Blk) : AV → List Nat
  | .c x => newTags lk x
  | .agg l => l.flatMap (newTags lk)
  | .tup _ => []
def retC (lk : Nat → Option Blk) : Cl → Option Rc
  | .d x => some (.d x)
  | .nil => some .nil
  | .clip rows => some (.d (.sl rows))
  | .own t g _ => match rowsOf lk t g with
    | some (false, E, rows) => some (.new E rows)
    | some (true, _, rows) => some (.d (.sl rows))
    | none => none
  | _ => none
def retV (lk : Nat → Option Blk) : AV → Option (Sum Rc (List Rc))
  | .c x => (retC lk x).map .inl
  | .agg l => (mapO (retC lk) l).map .inr
  | .tup _ => none
def nodupB : List Nat → Bool
  | [] => true
  | x :: xs => !(xs.contains x) && nodupB xs
def retAll (lk : Nat → Option Blk) (vs : List AV) : Option (List (Sum Rc (List Rc))) :=
  if nodupB (vs.flatMap (newTagsV lk)) = true then mapO (retV lk) vs else none
def packR : List (Sum Rc (List Rc)) → RR
  | [.inl x] => .c x
  | [.inr l] => .agg l
  | l => .tup l
def resA (rs : List RVar) (s : St) : Option RR :=
  match mapO (resAV s) rs with
  | some vs => match retAll (getL s.blk) vs with
    | some l => some (packR l)
    | none => (retAll (updF (getL s.blk) (freeze (getL s.blk) (vs.flatMap (newTagsV (getL s.blk))))) vs).map packR
  | none => none

section
variable {P : Program} {w0 w : World} {ok0 : Ctx0} {e : En} {lk : Nat → Option Blk}

def Owned (e : En) (lk : Nat → Option Blk) (t b : Nat) : Prop := ∃ g k c E, lk t = some ⟨g, false, k⟩ ∧ live k ∧ e.β t g = some (b, c, E)

theorem retC_fits (hM : Mem w0 ok0 e lk w) {x : Cl} {v : Value} (hr : RC e w x v) {r : Rc} (h : retC lk x = some r) : ∃ bs, RRc e.ok w r v bs ∧ bs.Nodup ∧ ∀ b ∈ bs, ∃ t ∈ newTags lk x, Owned e lk t b := by
  cases x with
  | d x =>
    simp only [retC, Option.some.injEq] at h; subst h
    exact ⟨[], ⟨rfl, hr⟩, by simp, by simp⟩
  | nil =>
    simp only [retC, Option.some.injEq] at h; subst h
    exact ⟨[], ⟨rfl, hr⟩, by simp, by simp⟩
  | clip rows =>
    simp only [retC, Option.some.injEq] at h; subst h
    exact ⟨[], ⟨rfl, dOf_rd hM hr (ts := []) rfl (fun _ h => h) (fun _ _ => rfl) (by simp)⟩, by simp, by simp⟩
  | own t g n =>
    simp only [retC] at h
    split at h
    · rename_i E rows hro
      simp only [Option.some.injEq] at h; subst h
      have hl := rowsOf_some hro
      have hn := own_len hM hl hr
      have ha := hM.arr t g false E rows hl
      obtain ⟨hg, hv⟩ := hr
      cases hb : e.β t g with
      | none =>
        rw [hb] at ha hv
        exact ⟨[], .inl ⟨rfl, ha, hv.2⟩, by simp, by simp⟩
      | some q =>
        obtain ⟨b, c, E'⟩ := q
        rw [hb] at ha hv
        obtain ⟨rfl, h2, cs, ty, h3, h4, h5, h6⟩ := ha
        refine ⟨[b], .inr ⟨b, c, cs, ty, rfl, by rw [hn]; exact hv.2.2, h2, h3, h4, h5, h6⟩, by simp, fun b' hb' => ?_⟩
        simp only [List.mem_singleton] at hb'; subst hb'
        refine ⟨t, ?_, g, _, c, _, hl, by simp [live], hb⟩
        simp [newTags, hro]
    · rename_i E rows hro
      simp only [Option.some.injEq] at h; subst h
      have hl := rowsOf_some hro
      refine ⟨[], ⟨rfl, dOf_rd hM hr (d := .sl rows) (ts := [t]) (by simp only [dOf, hro]) (fun _ h => h) (fun _ _ => rfl) ?_⟩, by simp, by simp⟩
      intro t' ht' g' fz k b c E' h1 h2 h3
      simp only [List.mem_singleton] at ht'; subst ht'
      rw [hl] at h1
      cases h1
      exact ⟨hM.frz t' g _ b c E' hl h2 h3, rfl⟩
    · cases h
  | undef => simp [retC] at h
  | bptr _ _ _ => simp [retC] at h
  | aptr _ _ _ _ => simp [retC] at h

theorem nodupB_append : ∀ {l m : List Nat}, nodupB (l ++ m) = true → nodupB l = true ∧ nodupB m = true ∧ ∀ x ∈ l, x ∉ m
  | [], m, h => ⟨rfl, h, by simp⟩
  | x :: l, m, h => by
    simp only [List.cons_append, nodupB, Bool.and_eq_true, Bool.not_eq_true', List.contains_eq_mem, List.mem_append, decide_eq_false_iff_not, not_or] at h
    obtain ⟨⟨h1, h2⟩, h3⟩ := h
    obtain ⟨g1, g2, g3⟩ := nodupB_append h3
    refine ⟨by simp [nodupB, h1, g1], g2, fun y hy => ?_⟩
    rcases List.mem_cons.1 hy with rfl | hy
    · exact h2
    · exact g3 y hy

theorem nodup_join (hM : Mem w0 ok0 e lk w) {l m : List Nat} {b1 b2 : List Nat} (h1 : b1.Nodup) (h2 : b2.Nodup) (hd : ∀ x ∈ l, x ∉ m) (o1 : ∀ b ∈ b1, ∃ t ∈ l, Owned e lk t b) (o2 : ∀ b ∈ b2, ∃ t ∈ m, Owned e lk t b) : (b1 ++ b2).Nodup := by
  rw [List.nodup_append]
  refine ⟨h1, h2, fun x hx y hy hxy => ?_⟩
  subst hxy
  obtain ⟨t, ht, g, k, c, E, q1, q2, q3⟩ := o1 x hx
  obtain ⟨t', ht', g', k', c', E', q1', q2', q3'⟩ := o2 x hy
  have := hM.inj t g k x c E t' g' k' c' E' q1 q2 q3 q1' q2' q3'
  subst this
  exact hd t ht ht'

theorem retCs_fits (hM : Mem w0 ok0 e lk w) : ∀ {l : List Cl} {vs : List Value} {rs : List Rc}, RCs e w l vs → mapO (retC lk) l = some rs → nodupB (l.flatMap (newTags lk)) = true →
    ∃ bs, RRcs e.ok w rs vs bs ∧ bs.Nodup ∧ ∀ b ∈ bs, ∃ t ∈ l.flatMap (newTags lk), Owned e lk t b
  | [], [], rs, _, h, _ => by
    simp only [mapO, Option.some.injEq] at h; subst h
    exact ⟨[], rfl, by simp, by simp⟩
  | x :: l, v :: vs, rs, hr, h, hn => by
    simp only [mapO] at h
    split at h
    · rename_i y ys h1 h2
      simp only [Option.some.injEq] at h; subst h
      rw [List.flatMap_cons] at hn
      obtain ⟨n1, n2, n3⟩ := nodupB_append hn
      obtain ⟨b1, p1, p2, p3⟩ := retC_fits hM hr.1 h1
      obtain ⟨b2, q1, q2, q3⟩ := retCs_fits hM hr.2 h2 n2
      refine ⟨b1 ++ b2, ⟨b1, b2, rfl, p1, q1⟩, nodup_join hM p2 q2 n3 p3 q3, fun b hb => ?_⟩
      rw [List.flatMap_cons]
      rcases List.mem_append.1 hb with hb | hb
      · obtain ⟨t, ht, ho⟩ := p3 b hb; exact ⟨t, List.mem_append_left _ ht, ho⟩
      · obtain ⟨t, ht, ho⟩ := q3 b hb; exact ⟨t, List.mem_append_right _ ht, ho⟩
    · cases h
  | [], _ :: _, _, hr, _, _ => hr.elim
  | _ :: _, [], _, hr, _, _ => hr.elim

theorem retV_fits (hM : Mem w0 ok0 e lk w) {x : AV} {v : Value} {r : Sum Rc (List Rc)} (hr : RV e w x v) (h : retV lk x = some r) (hn : nodupB (newTagsV lk x) = true) :
    ∃ bs, RR1 e.ok w r v bs ∧ bs.Nodup ∧ ∀ b ∈ bs, ∃ t ∈ newTagsV lk x, Owned e lk t b := by
  cases x with
  | c x =>
    simp only [retV, Option.map_eq_some_iff] at h
    obtain ⟨y, hy, rfl⟩ := h
    exact retC_fits hM hr hy
  | agg l =>
    simp only [retV, Option.map_eq_some_iff] at h
    obtain ⟨y, hy, rfl⟩ := h
    obtain ⟨vs, hv, hr⟩ := hr
    obtain ⟨bs, h1, h2, h3⟩ := retCs_fits hM hr hy hn
    exact ⟨bs, ⟨vs, hv, h1⟩, h2, h3⟩
  | tup l => simp [retV] at h

def RVs (e : En) (w : World) : List AV → List Value → Prop
  | [], [] => True
  | x :: xs, v :: vs => RV e w x v ∧ RVs e w xs vs
  | _, _ => False

theorem retVs_fits (hM : Mem w0 ok0 e lk w) : ∀ {l : List AV} {vs : List Value} {rs : List (Sum Rc (List Rc))}, RVs e w l vs → mapO (retV lk) l = some rs → nodupB (l.flatMap (newTagsV lk)) = true →
    ∃ bs, RR1s e.ok w rs vs bs ∧ bs.Nodup ∧ ∀ b ∈ bs, ∃ t ∈ l.flatMap (newTagsV lk), Owned e lk t b
  | [], [], rs, _, h, _ => by
    simp only [mapO, Option.some.injEq] at h; subst h
    exact ⟨[], rfl, by simp, by simp⟩
  | x :: l, v :: vs, rs, hr, h, hn => by
    simp only [mapO] at h
    split at h
    · rename_i y ys h1 h2
      simp only [Option.some.injEq] at h; subst h
      rw [List.flatMap_cons] at hn
      obtain ⟨n1, n2, n3⟩ := nodupB_append hn
      obtain ⟨b1, p1, p2, p3⟩ := retV_fits hM hr.1 h1 n1
      obtain ⟨b2, q1, q2, q3⟩ := retVs_fits hM hr.2 h2 n2
      refine ⟨b1 ++ b2, ⟨b1, b2, rfl, p1, q1⟩, nodup_join hM p2 q2 n3 p3 q3, fun b hb => ?_⟩
      rw [List.flatMap_cons]
      rcases List.mem_append.1 hb with hb | hb
      · obtain ⟨t, ht, ho⟩ := p3 b hb; exact ⟨t, List.mem_append_left _ ht, ho⟩
      · obtain ⟨t, ht, ho⟩ := q3 b hb; exact ⟨t, List.mem_append_right _ ht, ho⟩
    · cases h
  | [], _ :: _, _, hr, _, _ => hr.elim
  | _ :: _, [], _, hr, _, _ => hr.elim

theorem RVs.ext {e' : En} {w' : World} (hx : Ext e w e' w') : ∀ {l : List AV} {vs : List Value}, RVs e w l vs → RVs e' w' l vs
  | [], [], _ => trivial
  | _ :: _, _ :: _, h => ⟨RV.ext hx h.1, RVs.ext hx h.2⟩
  | [], _ :: _, h => h.elim
  | _ :: _, [], h => h.elim

theorem RR1s.length {ok : Nat → Prop} : ∀ {l : List (Sum Rc (List Rc))} {vs : List Value} {bs : List Nat}, RR1s ok w l vs bs → l.length = vs.length
  | [], [], _, _ => rfl
  | _ :: _, _ :: _, _, ⟨_, _, _, _, h⟩ => by simp [RR1s.length h]
  | [], _ :: _, _, h => h.elim
  | _ :: _, [], _, h => h.elim

theorem packR_fits {ok : Nat → Prop} {l : List (Sum Rc (List Rc))} {vs : List Value} {bs : List Nat} (h : RR1s ok w l vs bs) : RRv ok w (packR l) (if h : vs.toArray.size = 1 then vs.toArray[0] else .tuple vs.toArray) bs := by
  have hl := RR1s.length h
  match l, vs, h with
  | [], [], h => exact ⟨[], rfl, h⟩
  | [.inl x], [v], h =>
    obtain ⟨b1, b2, rfl, h1, h2⟩ := h
    simp only [RR1s] at h2
    subst h2
    rw [List.append_nil]
    exact h1
  | [.inr x], [v], h =>
    obtain ⟨b1, b2, rfl, h1, h2⟩ := h
    simp only [RR1s] at h2
    subst h2
    rw [List.append_nil]
    exact h1
  | x :: y :: l, u :: v :: vs, h =>
    rw [dif_neg (by simp)]
    cases x <;> exact ⟨_, rfl, h⟩

def oneRes (tmps : Array Value) : ResultVar → Sem Value
  | .tmp t => pure (tmps.getD t undef)
  | .cell a t => do loadVar t (← asAddr (tmps.getD a undef))
theorem results_one (fn : Func) (tmps : Array Value) : results fn tmps = (do let vs ← fn.results.mapM (oneRes tmps); pure (if h : vs.size = 1 then vs[0] else .tuple vs)) := rfl

/-- One result, read behind the body. -/
theorem res_run {s : St} {a : Act} (hM : Mem w0 ok0 e (getL s.blk) w) (hsl : ∀ t, RV e w (slotsF s.slots t) (a.tmps.getD t undef)) {r : ResultVar} {q : RVar} (hc : compR P r = some q) {x : AV} (h : resAV s q = some x) :
    ∃ v, RV e w x v ∧ (oneRes a.tmps r).run P w = .ok v w := by
  cases r with
  | tmp t =>
    simp only [compR, Option.some.injEq] at hc; subst hc
    simp only [resAV, Option.some.injEq] at h; subst h
    exact ⟨_, hsl t, by simp [oneRes]⟩
  | cell b t =>
    simp only [compR, Option.map_eq_some_iff] at hc
    obtain ⟨n, hn, rfl⟩ := hc
    simp only [resAV, Option.map_eq_some_iff] at h
    obtain ⟨f, hf, rfl⟩ := h
    obtain ⟨ad, v, h1, h2, h3, h4⟩ := load_run (P := P) hM (hsl b) hn hf
    exact ⟨v, h3, by simp [oneRes, h1, asAddr, h2]⟩

theorem ress_run {s : St} {a : Act} (hM : Mem w0 ok0 e (getL s.blk) w) (hsl : ∀ t, RV e w (slotsF s.slots t) (a.tmps.getD t undef)) : ∀ {rs : List ResultVar} {qs : List RVar}, mapO (compR P) rs = some qs → ∀ {xs : List AV}, mapO (resAV s) qs = some xs →
    ∃ vs, RVs e w xs vs ∧ (rs.mapM (oneRes a.tmps)).run P w = .ok vs w
  | [], qs, hc, xs, h => by
    simp only [mapO, Option.some.injEq] at hc; subst hc
    simp only [mapO, Option.some.injEq] at h; subst h
    exact ⟨[], trivial, by simp⟩
  | r :: rs, qs, hc, xs, h => by
    simp only [mapO] at hc
    split at hc
    · rename_i q qs' h1 h2
      simp only [Option.some.injEq] at hc; subst hc
      simp only [mapO] at h
      split at h
      · rename_i x xs' g1 g2
        simp only [Option.some.injEq] at h; subst h
        obtain ⟨v, hv, hrun⟩ := res_run (P := P) hM hsl h1 g1
        obtain ⟨vs, hvs, hruns⟩ := ress_run hM hsl h2 g2
        refine ⟨v :: vs, ⟨hv, hvs⟩, ?_⟩
        rw [List.mapM_cons]
        simp only [Sem.run_bind, hrun, hruns, Result.andThen_ok, Sem.run_pure]
      · cases h
    · cases hc

/-! ### what is handed in -/
def ofA : A → AV
  | .c x => .c (.d x)
  | .agg l => .agg (l.map .d)
def deadAll (tags : List Nat) : List (Nat × Blk) := tags.map fun t => (t, ⟨0, false, .dead⟩)
def startA (n : Nat) (tags : List Nat) (as : List A) : St := ⟨as.map ofA ++ List.replicate (n - as.length) (.c .undef), deadAll tags⟩

def startE (ok : Nat → Prop) : En := ⟨fun _ _ => none, fun _ => 0, ok, fun _ => False⟩

theorem deadAll_get : ∀ (tags : List Nat) (t : Nat), getL (deadAll tags) t = none ∨ getL (deadAll tags) t = some ⟨0, false, .dead⟩
  | [], _ => .inl rfl
  | u :: tags, t => by
    unfold deadAll
    simp only [List.map_cons, getL]
    split
    · exact .inr rfl
    · exact deadAll_get tags t

theorem RDList.rcs {ok : Nat → Prop} : ∀ {l : List D} {vs : List Value}, RDList ok w l vs → RCs (startE ok) w (l.map .d) vs
  | [], [], _ => trivial
  | x :: l, v :: vs, h => by
    simp only [RDList] at h
    exact ⟨h.1, RDList.rcs h.2⟩
  | [], _ :: _, h => by simp only [RDList] at h
  | _ :: _, [], h => by simp only [RDList] at h

theorem RAs.get {ok : Nat → Prop} : ∀ {as : List A} {vs : List Value}, RAs ok w as vs → as.length = vs.length ∧ ∀ (i : Nat) (x : A), as[i]? = some x → ∃ v, vs[i]? = some v ∧ RV (startE ok) w (ofA x) v
  | [], [], _ => ⟨rfl, fun i x h => by simp at h⟩
  | x :: as, v :: vs, h => by
    obtain ⟨h1, h2⟩ := RAs.get h.2
    refine ⟨by simp [h1], fun i y hy => ?_⟩
    cases i with
    | zero =>
      simp only [List.getElem?_cons_zero, Option.some.injEq] at hy; subst hy
      refine ⟨v, rfl, ?_⟩
      cases x with
      | c x => exact h.1
      | agg l => obtain ⟨us, hu, hr⟩ := h.1; exact ⟨us, hu, RDList.rcs hr⟩
    | succ i => simp only [List.getElem?_cons_succ] at hy ⊢; exact h2 i y hy
  | [], _ :: _, h => h.elim
  | _ :: _, [], h => h.elim

/-- The state at the start. -/
theorem start_fits {ok : Nat → Prop} {as : List A} {vals : List Value} {n : Nat} {tags : List Nat} (hok : ∀ b, ok b → b < w.heap.size) (hgl : Gl w) (h : RAs ok w as vals) :
    SimL w (Ctx0.of ok) (startA n tags as) { tmps := vals.toArray ++ Array.replicate (n - vals.length) undef, defers := [] } w := by
  obtain ⟨hl, hg⟩ := RAs.get h
  refine ⟨startE ok, ⟨fun t => ?_, ?_, ?_, ?_, ?_, ?_, hok, fun b hb => .inl hb, Below.refl _ _, fun t g fz s pos h => (by
    rcases deadAll_get tags t with h' | h' <;> rw [show getL (startA n tags as).blk t = _ from h'] at h <;> cases h), hgl, trivial, fun b hb => hb.elim, fun t g k b c E h hk hb => (by cases hb)⟩, ?_, fun t => ?_, DefOK.nil _ _ _⟩
  · show 0 = genOf (getL (deadAll tags)) t
    unfold genOf
    rcases deadAll_get tags t with h | h <;> rw [h]
  · intro t g fz E rows h
    rcases deadAll_get tags t with h' | h' <;> rw [show getL (startA n tags as).blk t = _ from h'] at h <;> cases h
  · intro t g fz E h
    rcases deadAll_get tags t with h' | h' <;> rw [show getL (startA n tags as).blk t = _ from h'] at h <;> cases h
  · intro t g k b c E h hk hb; cases hb
  · intro t g k b c E h hk hb; cases hb
  · intro t g k b c E t' g' k' c' E' h hk hb; cases hb
  · simp [startA, hl]
  · simp only [startA, slotsF, List.getD_eq_getElem?_getD, Array.getD_eq_getD_getElem?]
    by_cases ht : t < as.length
    · rw [List.getElem?_append_left (by simpa using ht), List.getElem?_map, Array.getElem?_append_left (by simp; omega), List.getElem?_toArray]
      obtain ⟨v, hv, hr⟩ := hg t as[t] (List.getElem?_eq_getElem ht)
      rw [List.getElem?_eq_getElem ht, hv]
      exact hr
    · rw [List.getElem?_append_right (by simp; omega), List.getElem?_replicate]
      split <;> exact trivial
end

section
variable {P : Program} {w0 w : World} {ok0 : Ctx0} {cx : Cx} {N : Nat} {K : Code → List Nat} {ro : Option Nat} {md : Nat}

/-- The functions that are run in their callers' places are compiled from the program's. -/
def ZOK (P : Program) : Nat → Zo → Prop
  | 0, Z => ∀ f, Z.I f = none
  | d + 1, Z => ∀ f i, Z.I f = some i → ∃ fn c Z', P.funcs[f]? = some fn ∧ fn.body = some c ∧ compC P Z' fn.ntmps (fun _ => []) c = some i.body ∧ mapO (compR P) fn.results.toList = some i.rs ∧ i.m = fn.ntmps ∧ Enters P f ∧ ZOK P d Z'

theorem splitI_some {Z : Zo} : ∀ {l a b : List Oper} {x : Oper} {q : FuncId × Inl × List Operand}, splitI Z l = some (a, x, q, b) → l = a ++ x :: b ∧ inlOf Z x = some q
  | [], _, _, _, _, h => by cases h
  | o :: l, a, b, x, q, h => by
    simp only [splitI] at h
    split at h
    · rename_i q' hq
      simp only [Option.some.injEq, Prod.mk.injEq] at h
      obtain ⟨rfl, rfl, rfl, rfl⟩ := h
      exact ⟨rfl, hq⟩
    · simp only [Option.map_eq_some_iff] at h
      obtain ⟨p, h1, h2⟩ := h
      obtain ⟨a', x', q', b'⟩ := p
      cases h2
      obtain ⟨h3, h4⟩ := splitI_some h1
      exact ⟨by rw [h3]; rfl, h4⟩

theorem RVs.one {e : En} {w : World} : ∀ {xs : List AV} {vs : List Value}, RVs e w xs vs → xs.length = vs.length ∧ ∀ (i : Nat) (x : AV), xs[i]? = some x → ∃ v, vs[i]? = some v ∧ RV e w x v
  | [], [], _ => ⟨rfl, fun i x h => by simp at h⟩
  | x :: xs, v :: vs, h => by
    obtain ⟨h1, h2⟩ := RVs.one h.2
    refine ⟨by simp [h1], fun i y hy => ?_⟩
    cases i with
    | zero => simp only [List.getElem?_cons_zero, Option.some.injEq] at hy; subst hy; exact ⟨v, rfl, h.1⟩
    | succ i => simp only [List.getElem?_cons_succ] at hy ⊢; exact h2 i y hy
  | [], _ :: _, h => h.elim
  | _ :: _, [], h => h.elim

theorem mapO_sums {e : En} {w : World} : ∀ {xs : List AV} {vs : List Value} {l : List (Sum Cl (List Cl))}, mapO (fun v => match v with
    | AV.c x => some (Sum.inl x)
    | .agg l => some (Sum.inr l)
    | .tup _ => none) xs = some l → RVs e w xs vs → R1s e w l vs
  | [], vs, l, h, hr => by
    simp only [mapO, Option.some.injEq] at h; subst h
    cases vs with
    | nil => trivial
    | cons _ _ => exact hr.elim
  | x :: xs, vs, l, h, hr => by
    simp only [mapO] at h
    split at h
    · rename_i y ys h1 h2
      simp only [Option.some.injEq] at h; subst h
      cases vs with
      | nil => exact hr.elim
      | cons v vs =>
        refine ⟨?_, mapO_sums h2 hr.2⟩
        cases x with
        | c x => simp only [Option.some.injEq] at h1; subst h1; exact hr.1
        | agg l => simp only [Option.some.injEq] at h1; subst h1; exact hr.1
        | tup l => simp at h1
    · cases h
theorem packI_rv {e : En} {w : World} {xs : List AV} {vs : List Value} {x : AV} (h : packI xs = some x) (hr : RVs e w xs vs) : RV e w x (if h : vs.toArray.size = 1 then vs.toArray[0] else .tuple vs.toArray) := by
  have hl := (RVs.one hr).1
  unfold packI at h
  split at h
  · rename_i v
    simp only [Option.some.injEq] at h; subst h
    cases vs with
    | nil => exact hr.elim
    | cons u us =>
      cases us with
      | cons _ _ => exact hr.2.elim
      | nil => exact hr.1
  · rename_i hne
    simp only [Option.map_eq_some_iff] at h
    obtain ⟨l, h1, rfl⟩ := h
    have hn : ¬ vs.toArray.size = 1 := by
      intro h2
      simp only [List.size_toArray] at h2
      rw [← hl] at h2
      cases xs with
      | nil => simp at h2
      | cons x xs =>
        cases xs with
        | nil => exact hne x rfl
        | cons _ _ => simp at h2
    rw [dif_neg hn]
    exact ⟨vs, rfl, mapO_sums h1 hr⟩

theorem inlStart_sim {s : St} {m : Nat} {xs : List Operand} {a : Act} {e : En} (hm : xs.length ≤ m) (hM : Mem w0 ok0 e (getL s.blk) w) (hsl : ∀ t, RV e w (slotsF s.slots t) (a.tmps.getD t undef)) :
    SimL w0 ok0 (inlStart m xs s) { tmps := (xs.map a.eval).toArray ++ Array.replicate (m - (xs.map a.eval).toArray.size) undef, defers := [] } w := by
  have hlen : (inlStart m xs s).slots.length = m := by simp [inlStart]; omega
  refine ⟨e, hM, ?_, fun t => ?_, DefOK.nil _ _ _⟩
  · rw [hlen]; simp; omega
  · unfold slotsF inlStart
    simp only [List.getD_eq_getElem?_getD]
    rcases Nat.lt_or_ge t xs.length with ht | ht
    · rw [List.getElem?_append_left (by simpa using ht), List.getElem?_map, List.getElem?_eq_getElem ht]
      have : ((xs.map a.eval).toArray ++ Array.replicate (m - (xs.map a.eval).toArray.size) undef).getD t undef = a.eval xs[t] := by
        rw [Array.getD_eq_getD_getElem?, Array.getElem?_append_left (by simpa using ht)]
        simp [List.getElem?_eq_getElem ht]
      rw [this]
      exact evalF_rv (lk := getL s.blk) hsl xs[t]
    · rw [List.getElem?_append_right (by simpa using ht)]
      simp only [List.getElem?_replicate]
      split
      · exact trivial
      · exact trivial

/-- What code that is compiled comes to, the code runs to. -/
def CodeOK (P : Program) (cx : Cx) (w0 : World) (n d : Nat) : Prop :=
  ∀ (ro : Option Nat) (md : Nat) (ok0 : Ctx0) (Z : Zo) (N : Nat) (K : Code → List Nat), ZOK P d Z → ∀ (c : Code) (ac : ACode), compC P Z N K c = some ac → ((ro = none ∧ ((∀ x, K x = []) ∨ ∀ e w, ok0.J e w)) ∨ plainR ac = true) →
    ∀ (s : St) (e : Ex) (s' : St) (a : Act) (w : World) (Q : Exit → Act → World → Prop), s.slots.length = N → acode cx n ac s = some (e, s') → SimL w0 ok0 s a w →
      (s'.slots.length = N → ∀ a' w', SimL w0 ok0 s' a' w' → Q e.to a' w') → c.wpIn (FW ro) md P Q a w

/-- A call that is run in its caller's place; what is put where. -/
theorem inlOp_fitsP {d : Nat} {Z : Zo} {n : Nat} {ok0 : Ctx0} {o : Oper} {f : FuncId} {i : Inl} {xs : List Operand} (hcall : CxOK P cx)
    (ihd : CodeOK P cx w0 n d)
    (hZ : ZOK P (d + 1) Z) (hin : inlOf Z o = some (f, i, xs)) (hlen : xs.length ≤ i.m) {s1 sb s3 : St} {eb : Ex} (hrb : acode cx n i.body (inlStart i.m xs s1) = some (eb, sb)) (hnx : ∀ k, eb ≠ .exit k) (hs3 : inlS o.dst i.rs s1.slots sb = some s3)
    {a1 : Act} {w1 : World} (hS1 : SimL w0 ok0 s1 a1 w1) (Q : Exit → Act → World → Prop) (K : Act → World → Prop) (hK : ∀ v w', SimL w0 ok0 s3 (a1.put o.dst v) w' → K (a1.put o.dst v) w') : o.guard = none ∧ o.wpIn (FW ro) md P a1 w1 K Q := by
  obtain ⟨call, hop, hg, hcal, hI, hxs⟩ : ∃ c : Go.Call, o.op = .call c ∧ o.guard = none ∧ c.callee = .value (.func f) ∧ Z.I f = some i ∧ xs = c.args.toList := by
    unfold inlOf at hin
    split at hin
    · rename_i c ho hg
      split at hin
      · rename_i g hcal
        simp only [Option.map_eq_some_iff] at hin
        obtain ⟨j, h1, h2⟩ := hin
        simp only [Prod.mk.injEq] at h2
        obtain ⟨rfl, rfl, rfl⟩ := h2
        exact ⟨c, ho, hg, hcal, h1, rfl⟩
      · cases hin
    · cases hin
  obtain ⟨fn, cb, Z', hf, hb, hcb, hrs, him, hent, hZ'⟩ := hZ f i hI
  refine ⟨hg, ?_⟩
  have hrun : (execOp a1.eval o).run P w1 = .ok (.enter f (xs.map a1.eval).toArray) w1 := by
    subst hxs
    obtain ⟨cal, args, tys⟩ := call
    simp only at hcal
    subst hcal
    simp only [execOp, hop, resolve, Act.eval, Deferred.ofValue, Sem.run_bind, Sem.run_pure, Result.andThen_ok, invoke, run_callFunc hent]
    congr 2
    apply Array.ext'
    simp
  refine wpIn_of_wp (by intro c hc; rw [hop] at hc; cases hc) ?_
  unfold Oper.wp
  rw [hrun]
  simp only [Oper.upon]
  obtain ⟨e1, hM1, hs1, hsl1, hd1⟩ := hS1
  obtain ⟨C', hC'⟩ : ∃ C' : Ctx0, C' = ⟨ok0.ok, fun b => e1.ob b, fun e w => ok0.J e w ∧ (∀ t, RV e w (slotsF s1.slots t) (a1.tmps.getD t undef)) ∧ DefOK ok0.p e w a1.defers ∧ (∀ b, e1.ob b → e.ob b),
    fun hx h => ⟨ok0.mono (hx.less fun b hb => ok0.hp hM1.j b hb) h.1, fun t => RV.extO hx (h.2.1 t), DefOK.keep hd1 h.2.2.1 hx (fun b hb => hb), fun b hb => (hx.ob b hb (h.2.2.2 b hb)).1⟩, fun h b hb => h.2.2.2 b hb⟩ := ⟨_, rfl⟩
  have hM1' : Mem w0 C' e1 (getL s1.blk) w1 := by
    subst hC'
    exact hM1.ctx rfl ⟨hM1.j, hsl1, hd1, fun b hb => hb⟩
  have hsim := inlStart_sim (a := a1) hlen hM1' hsl1
  have hcalls : Calls P f (xs.map a1.eval).toArray w1 fun en w' => ∃ v, en = .returned v ∧ K (a1.put o.dst v) w' := by
    refine callsIn_wide.1 (callsIn_of_wp_marks (F := FW none) (n := 0) hf hb trivial ?_)
    rw [← him]
    refine ihd none 0 C' Z' fn.ntmps (fun _ => []) hZ' cb i.body hcb (.inl ⟨rfl, .inl fun _ => rfl⟩) (inlStart i.m xs s1) eb sb _ w1 _ (by simp only [inlStart, List.length_append, List.length_map, List.length_replicate]; omega) hrb hsim fun hNb a' w'' hSb => ?_
    obtain ⟨e2, hM2a, hs2, hsl2a, hd2⟩ := hSb
    have hleave : LeavesInM (FW none) 0 P fn a'.tmps (fun en w' => ∃ v, en = .returned v ∧ K (a1.put o.dst v) w') a'.defers .returning w'' := by
     refine leaves_fits a'.defers e2 w'' hM2a hd2 fun w' hM2 hrv => ?_
     have hsl2 : ∀ t, RV e2 w' (slotsF sb.slots t) (a'.tmps.getD t undef) := fun t => hrv _ _ (hsl2a t)
     have hj := hM2.j
     rw [hC'] at hj
     have hM2' : Mem w0 ok0 e2 (getL sb.blk) w' := hM2.ctx (by rw [hC']) hj.1
     have hkeep : ∀ t, RV e2 w' (slotsF s1.slots t) (a1.tmps.getD t undef) := hj.2.1
     have hdk : DefOK ok0.p e2 w' a1.defers := hj.2.2.1
     unfold inlS at hs3
     split at hs3
     · rename_i vsA hvsA
       simp only [Option.map_eq_some_iff] at hs3
       obtain ⟨x, hx, rfl⟩ := hs3
       obtain ⟨vs, hvs, hvrun⟩ := ress_run (P := P) hM2 hsl2 hrs hvsA
       have hresults : (results fn a'.tmps).run P w' = .ok (if h : vs.toArray.size = 1 then vs.toArray[0] else .tuple vs.toArray) w' := by
         rw [results_one, Sem.run_bind, Array.mapM_eq_mapM_toList, Sem.run_map, hvrun]
         rfl
       have hval := packI_rv hx hvs
       generalize (if h : vs.toArray.size = 1 then vs.toArray[0] else .tuple vs.toArray) = val at hresults hval
       refine ⟨val, hresults, val, rfl, ?_⟩
       refine hK _ _ ?_
       unfold SimL
       show SimF w0 ok0 (putS s1.slots o.dst x).length (slotsF (putS s1.slots o.dst x)) (getL sb.blk) (a1.put o.dst val) w'
       rw [putS_length, slotsF_put]
       exact SimF.put hs1 hdk hkeep (Ext.refl e2 w') hM2' hval
     · cases hs3
    cases eb with
    | exit k => exact absurd rfl (hnx k)
    | normal => exact hleave
    | ret => exact hleave
  refine hcalls.mono ?_
  rintro en w' ⟨v, rfl, h⟩
  exact h
/-- A call that is run in its caller's place. -/
theorem inlOp_fits {d : Nat} {Z : Zo} {n : Nat} {ok0 : Ctx0} {o : Oper} {f : FuncId} {i : Inl} {xs : List Operand} (hcall : CxOK P cx)
    (ihd : CodeOK P cx w0 n d)
    (hZ : ZOK P (d + 1) Z) (hin : inlOf Z o = some (f, i, xs)) (hlen : xs.length ≤ i.m) {s1 sb s3 : St} {eb : Ex} (hrb : acode cx n i.body (inlStart i.m xs s1) = some (eb, sb)) (hnx : ∀ k, eb ≠ .exit k) (hs3 : inlS o.dst i.rs s1.slots sb = some s3)
    {a1 : Act} {w1 : World} (hS1 : SimL w0 ok0 s1 a1 w1) (Q : Exit → Act → World → Prop) (K : Act → World → Prop) (hK : ∀ a' w', SimL w0 ok0 s3 a' w' → K a' w') : o.guard = none ∧ o.wpIn (FW ro) md P a1 w1 K Q :=
  inlOp_fitsP hcall ihd hZ hin hlen hrb hnx hs3 hS1 Q K fun v w' h => hK _ w' h

/-- A region in which one function is run in its caller's place. -/
theorem inl_fits {d : Nat} {Z : Zo} {N n : Nat} {ok0 : Ctx0} {ops : Array Oper} {l1 l2 : List Oper} {o : Oper} {f : FuncId} {i : Inl} {xs : List Operand} {id : Nat} (hcall : CxOK P cx)
    (ihd : CodeOK P cx w0 n d)
    (hZ : ZOK P (d + 1) Z) (hops : ops.toList = l1 ++ o :: l2) (hin : inlOf Z o = some (f, i, xs)) {ac : ACode}
    (hc : (match mapO (compI P N Z.off ops) l1, mapO (compI P N Z.off ops) l2 with
      | some is1, some is2 => if dstOK N o.dst = true ∧ xs.length ≤ i.m then some (.seq (.region is1) (.seq (.inl o.dst i.m i.body i.rs xs) (.region is2))) else none
      | _, _ => none) = some ac) {s : St} {e : Ex} {s' : St} {a : Act} {w : World} {Q : Exit → Act → World → Prop} (hN : s.slots.length = N) (hr : acode cx n ac s = some (e, s')) (hS : SimL w0 ok0 s a w)
    (hQ : s'.slots.length = N → ∀ a' w', SimL w0 ok0 s' a' w' → Q e.to a' w') : (Code.region id ops false).wpIn (FW ro) md P Q a w := by
  split at hc
  · rename_i is1 is2 h1 h2
    split at hc
    · rename_i hcond
      simp only [Option.some.injEq] at hc; subst hc
      simp only [acode] at hr
      -- the first part
      cases hr1 : runI cx is1 s with
      | none => rw [hr1] at hr; cases hr
      | some p1 =>
        obtain ⟨s1, fs1⟩ := p1
        rw [hr1] at hr
        simp only [] at hr
        have hl1 := (runI_steps is1 s s1 fs1 hr1).2.1
        refine wpIn_region_list ?_
        rw [hops]
        refine runI_fits (ro := ro) (md := md) (ops := ops) (Q := Q) (o :: l2) hcall l1 is1 s s1 fs1 a w (by rw [hN]; exact h1) hr1 hS fun a1 w1 hS1 => ?_
        cases hrb : acode cx n i.body (inlStart i.m xs s1) with
        | none => rw [hrb] at hr; cases hr
        | some pb =>
          obtain ⟨eb, sb⟩ := pb
          rw [hrb] at hr
          have hnx : (∀ k, eb ≠ .exit k) ∧ ∃ s3, inlS o.dst i.rs s1.slots sb = some s3 ∧ (match (match (runI cx is2 s3) with
              | some (s', _) => some (Ex.normal, s')
              | none => none) with
              | some r => r = (e, s')
              | none => False) := by
            cases eb with
            | exit k => simp at hr
            | normal =>
              cases hi : inlS o.dst i.rs s1.slots sb with
              | none => simp [hi] at hr
              | some s3 =>
                simp only [hi, Option.map_some] at hr
                refine ⟨fun k h => (by cases h), s3, rfl, ?_⟩
                cases hr2 : runI cx is2 s3 with
                | none => simp [hr2] at hr
                | some p2 => simp only [hr2] at hr ⊢; exact Option.some.inj hr
            | ret =>
              cases hi : inlS o.dst i.rs s1.slots sb with
              | none => simp [hi] at hr
              | some s3 =>
                simp only [hi, Option.map_some] at hr
                refine ⟨fun k h => (by cases h), s3, rfl, ?_⟩
                cases hr2 : runI cx is2 s3 with
                | none => simp [hr2] at hr
                | some p2 => simp only [hr2] at hr ⊢; exact Option.some.inj hr
          obtain ⟨hnx, s3, hs3, hfin⟩ := hnx
          have hop := fun K hK => inlOp_fits (ro := ro) (md := md) hcall ihd hZ hin hcond.2 hrb hnx hs3 hS1 Q K hK
          refine wpListIn_plain (hop (fun _ _ => True) (fun _ _ _ => trivial)).1 fun K hK => (hop K fun a' w' hS3 => hK _ _ ?_).2
          cases hr2 : runI cx is2 s3 with
          | none => rw [hr2] at hfin; exact hfin.elim
          | some p2 =>
            obtain ⟨s4, fs4⟩ := p2
            rw [hr2] at hfin
            simp only [Prod.mk.injEq] at hfin
            obtain ⟨rfl, rfl⟩ := hfin
            have hl3 : s3.slots.length = N := by
              unfold inlS at hs3
              split at hs3
              · simp only [Option.map_eq_some_iff] at hs3
                obtain ⟨x, hx, rfl⟩ := hs3
                rw [putS_length, hl1, hN]
              · cases hs3
            have hl4 := (runI_steps is2 _ s4 fs4 hr2).2.1
            have := runI_fits (ro := ro) (md := md) (ops := ops) (Q := Q) [] hcall l2 is2 s3 s4 fs4 a' w' (by rw [hl3]; exact h2) hr2 hS3 (fun a' w' h => hQ (hl4.trans hl3) a' w' h)
            rw [List.append_nil] at this; exact this
    · cases hc
  · cases hc

/-- A drawn region with a function that is run in its caller's place, ahead of which all stand that are ahead, and behind which all that are behind. -/
theorem inl_draw_fits {d : Nat} {Z : Zo} {N n : Nat} {ok0 : Ctx0} {ops : Array Oper} {l1 l2 : List Oper} {o : Oper} {f : FuncId} {i : Inl} {xs : List Operand} {id : Nat} (hcall : CxOK P cx)
    (ihd : CodeOK P cx w0 n d)
    (hZ : ZOK P (d + 1) Z) (hops : ops.toList = l1 ++ o :: l2) (hin : inlOf Z o = some (f, i, xs)) (hmix : P.follows .mixedOrders = true) (hbefore : ∀ (i : Nat) (o : Oper), ops[i]? = some o → ∀ e ∈ o.after, Region.binds .any e = true → e.on < i) {ac : ACode}
    (hc : (match mapO (compI P N Z.off ops) l1, mapO (compI P N Z.off ops) l2 with
        | some is1, some is2 => if dstOK N o.dst = true ∧ xs.length ≤ i.m ∧ ((List.range l1.length).all fun j => reach (ops.toList.map anyAfter) ops.size l1.length j) = true ∧ floatOK P N is1 xs o.dst l2 ((List.range l2.length).filter fun j => !(reach (ops.toList.map anyAfter) ops.size (l1.length + 1 + j) l1.length)) = true then
            some (.seq (.draw is1 (ops.toList.map anyAfter)) (.seq (.inl o.dst i.m i.body i.rs xs) (.draw is2 (tailAfter (l1.length + 1) (ops.toList.map anyAfter))))) else none
        | _, _ => none) = some ac) {s : St} {e : Ex} {s' : St} {a : Act} {w : World} {Q : Exit → Act → World → Prop} (hN : s.slots.length = N) (hr : acode cx n ac s = some (e, s')) (hS : SimL w0 ok0 s a w)
    (hQ : s'.slots.length = N → ∀ a' w', SimL w0 ok0 s' a' w' → Q e.to a' w') : (Code.region id ops true).wpIn (FW ro) md P Q a w := by
  split at hc
  · rename_i is1 is2 h1 h2
    split at hc
    · rename_i hcond
      simp only [Option.some.injEq] at hc; subst hc
      simp only [acode] at hr
      cases hr1 : runI cx is1 s with
      | none => rw [hr1] at hr; cases hr
      | some p1 =>
        obtain ⟨s1, fs1⟩ := p1
        rw [hr1] at hr
        simp only [] at hr
        have hl1 := (runI_steps is1 s s1 fs1 hr1).2.1
        by_cases hok : okDraw (ops.toList.map anyAfter) is1 fs1 = true
        · rw [if_pos hok] at hr
          simp only [] at hr
          cases hrb : acode cx n i.body (inlStart i.m xs s1) with
          | none => rw [hrb] at hr; cases hr
          | some pb =>
            obtain ⟨eb, sb⟩ := pb
            rw [hrb] at hr
            have hnx : (∀ k, eb ≠ .exit k) ∧ ∃ s3, inlS o.dst i.rs s1.slots sb = some s3 ∧ ∃ fs2, runI cx is2 s3 = some (s', fs2) ∧ okDraw (tailAfter (l1.length + 1) (ops.toList.map anyAfter)) is2 fs2 = true ∧ e = .normal := by
              cases eb with
              | exit k => simp at hr
              | normal =>
                cases hi : inlS o.dst i.rs s1.slots sb with
                | none => simp [hi] at hr
                | some s3 =>
                  simp only [hi, Option.map_some] at hr
                  refine ⟨fun k h => (by cases h), s3, rfl, ?_⟩
                  cases hr2 : runI cx is2 s3 with
                  | none => simp [hr2] at hr
                  | some p2 =>
                    obtain ⟨s4, fs4⟩ := p2
                    simp only [hr2] at hr
                    by_cases hok2 : okDraw (tailAfter (l1.length + 1) (ops.toList.map anyAfter)) is2 fs4 = true
                    · rw [if_pos hok2] at hr
                      simp only [Option.some.injEq, Prod.mk.injEq] at hr
                      obtain ⟨rfl, rfl⟩ := hr
                      exact ⟨fs4, rfl, hok2, rfl⟩
                    · rw [if_neg hok2] at hr; cases hr
              | ret =>
                cases hi : inlS o.dst i.rs s1.slots sb with
                | none => simp [hi] at hr
                | some s3 =>
                  simp only [hi, Option.map_some] at hr
                  refine ⟨fun k h => (by cases h), s3, rfl, ?_⟩
                  cases hr2 : runI cx is2 s3 with
                  | none => simp [hr2] at hr
                  | some p2 =>
                    obtain ⟨s4, fs4⟩ := p2
                    simp only [hr2] at hr
                    by_cases hok2 : okDraw (tailAfter (l1.length + 1) (ops.toList.map anyAfter)) is2 fs4 = true
                    · rw [if_pos hok2] at hr
                      simp only [Option.some.injEq, Prod.mk.injEq] at hr
                      obtain ⟨rfl, rfl⟩ := hr
                      exact ⟨fs4, rfl, hok2, rfl⟩
                    · rw [if_neg hok2] at hr; cases hr
            obtain ⟨hnx, s3, hs3, fs2, hr2, hok2, rfl⟩ := hnx
            have hl3 : s3.slots.length = N := by
              unfold inlS at hs3
              split at hs3
              · simp only [Option.map_eq_some_iff] at hs3
                obtain ⟨x, hx, rfl⟩ := hs3
                rw [putS_length, hl1, hN]
              · cases hs3
            have hl4 : s'.slots.length = N := ((runI_steps is2 _ s' fs2 hr2).2.1).trans hl3
            have hsz : ops.size = l1.length + 1 + l2.length := by rw [← Array.length_toList, hops]; simp; omega
            have htake : ops.toList.take l1.length = l1 := by rw [hops]; simp
            have hdrop : ops.toList.drop (l1.length + 1) = l2 := by
              rw [hops, List.drop_append, List.drop_of_length_le (by omega), show l1.length + 1 - l1.length = 1 by omega]
              rfl
            have hnoS : ∀ (its : List (AInst × Ef)) (k' : Nat) (sl : Nat → AV), foldS s3.slots.length (fun _ => false) its k' sl = sl := by
              intro its
              induction its with
              | nil => intro _ _; rfl
              | cons z its ih => intro k' sl; simp only [foldS, Bool.false_eq_true, if_false]; exact ih _ _
            have hnoL : ∀ (its : List (AInst × Ef)) (k' : Nat) (lk : Nat → Option Blk), foldL (fun _ => false) its k' lk = lk := by
              intro its
              induction its with
              | nil => intro _ _; rfl
              | cons z its ih => intro k' lk; simp only [foldL, Bool.false_eq_true, if_false]; exact ih _ _
            have hfo := hcond.2.2.2
            have hreach : ∀ j, l1.length < j → j < ops.size → ¬ (j - (l1.length + 1)) ∈ ((List.range l2.length).filter fun j => !(reach (ops.toList.map anyAfter) ops.size (l1.length + 1 + j) l1.length)) → reach (ops.toList.map anyAfter) ops.size j l1.length = true := fun j hj hjl hno => by
              rw [List.mem_filter, List.mem_range] at hno
              cases hr : reach (ops.toList.map anyAfter) ops.size j l1.length with
              | true => rfl
              | false => exact absurd ⟨by omega, by rw [show l1.length + 1 + (j - (l1.length + 1)) = j by omega, hr]; rfl⟩ hno
            generalize hfl : ((List.range l2.length).filter fun j => !(reach (ops.toList.map anyAfter) ops.size (l1.length + 1 + j) l1.length)) = fl at hfo hreach
            have hreach1 : ∀ k, k < l1.length → reach (ops.toList.map anyAfter) ops.size l1.length k = true := fun k hk => by
              have := hcond.2.2.1
              rw [List.all_eq_true] at this
              exact this k (List.mem_range.2 hk)
            have htail0 : ∀ (fuel : Nat) (listed : Array Bool) (a2 : Act) (w2 : World), listed.size = ops.size → listed.toList.count false ≤ fuel →
                (∀ j o, ops[j]? = some o → listedX listed j = true → ∀ e ∈ o.after, Region.binds .any e = true → listedX listed e.on = true) →
                (∀ j, j < l1.length + 1 → listedX listed j = true) → (∀ j, l1.length + 1 ≤ j → listedX listed j = false) → SimL w0 ok0 s3 a2 w2 → wpAnyIn (FW ro) md P .any ops Q fuel listed a2 w2 := fun fuel listed a2 w2 hz hcnt hcl hp hno hR => by
              refine draw_tail (b := l1.length + 1) (s := s3) (s' := s') (fs := fs2) (off := Z.off) hcall (by omega) (by rw [hdrop, hl3]; exact h2) hr2 hok2 hbefore (fun a' w' h => hQ hl4 a' w' h) fuel listed a2 w2 hz hcnt hcl hp ?_
              have hX : (fun j => listedX listed (l1.length + 1 + j)) = fun _ => false := funext fun j => hno _ (by omega)
              rw [hX, hnoS, hnoL]
              exact hR
            have hoo : ∀ oj, ops[l1.length]? = some oj → oj = o := fun oj hoj => by
              rw [← Array.getElem?_toList, hops, List.getElem?_append_right (Nat.le_refl _), Nat.sub_self] at hoj
              simpa using hoj.symm
            match fl, hfo, hfl, hreach with
            | [], _, hfl, hreach =>
              refine draw_last (m := l1.length) (R := fun a w => SimL w0 ok0 s3 a w) hcall hmix (by omega) (by rw [htake, hN]; exact h1) hr1 hok hbefore (fun h => by omega) (fun oj hoj => ?_) (fun j oj hj hoj => hreach j hj (Array.getElem?_eq_some_iff.1 hoj).1 (by simp)) htail0 hS
              obtain rfl := hoo oj hoj
              refine ⟨hreach1, fun a1 w1 hS1 K hK => ?_⟩
              obtain ⟨hg, hwp⟩ := inlOp_fits hcall ihd hZ hin hcond.2.1 hrb hnx hs3 hS1 Q K hK
              rw [if_pos (by simp [Region.wanted, hg])]
              exact hwp
            | [q], hfo, hfl, hreach =>
              obtain ⟨oq, tq, dq, z, f1, f2, f3, f4, f5, f6, f7, f8, f9⟩ := floatOK_one hfo
              have hq : ops[l1.length + 1 + q]? = some oq := by
                rw [← Array.getElem?_toList, hops, List.getElem?_append_right (by omega), show l1.length + 1 + q - l1.length = q + 1 by omega, List.getElem?_cons_succ]
                exact f1
              refine draw_last_float (s := s) (m := l1.length) (q := l1.length + 1 + q) (d := dq) (R := fun a w => SimL w0 ok0 s3 a w) (RE := fun a w => Early w0 ok0 s3.slots.length dq z (slotsF s3.slots) (getL s3.blk) a w) hcall hmix (by omega) hq f2 f3 f4 (by rw [hN]; exact f5) f6 f7 (by rw [htake, hN]; exact h1) hr1 hok hbefore (fun oj hoj => ?_) (fun j oj hj hjq hoj => hreach j hj (Array.getElem?_eq_some_iff.1 hoj).1 (fun h => by rw [List.mem_singleton] at h; omega)) (fun fuel listed a2 w2 hz hcnt hcl hp hno => ?_) hS
              · obtain rfl := hoo oj hoj
                refine ⟨hreach1, fun a1 w1 hS1 K hK => ?_, fun a1 w1 hE K hK => ?_⟩
                · obtain ⟨hg, hwp⟩ := inlOp_fits hcall ihd hZ hin hcond.2.1 hrb hnx hs3 hS1 Q K hK
                  rw [if_pos (by simp [Region.wanted, hg])]
                  exact hwp
                · obtain ⟨b, cs, ty, g1, g2, g3, g4, g5⟩ := hE
                  -- the same, with the variable's place told nothing of
                  have em : slotsF (s1.slots.set dq (.c .undef)) = maskF dq (slotsF s1.slots) := by
                    funext t
                    unfold slotsF maskF
                    simp only [List.getD_eq_getElem?_getD, List.getElem?_set]
                    by_cases h : dq = t
                    · subst h
                      rw [if_pos rfl, if_pos rfl]
                      split <;> rfl
                    · rw [if_neg h, if_neg (Ne.symm h)]
                  have hSm : SimL w0 (EarlyC ok0 b (.cells cs ty (0, 0))) ⟨s1.slots.set dq (.c .undef), s1.blk⟩ a1 w1 := by
                    unfold SimL
                    show SimF w0 _ (s1.slots.set dq (.c .undef)).length (slotsF (s1.slots.set dq (.c .undef))) (getL s1.blk) a1 w1
                    rw [List.length_set, em, hl1]
                    exact g5
                  have est : inlStart i.m xs ⟨s1.slots.set dq (.c .undef), s1.blk⟩ = inlStart i.m xs s1 := by
                    unfold inlStart
                    congr 2
                    refine List.map_congr_left fun y hy => ?_
                    show evalF (slotsF (s1.slots.set dq (.c .undef))) y = _
                    rw [em]
                    refine evalF_congr fun t ht => ?_
                    unfold maskF
                    rw [if_neg (fun h : t = dq => f8 y hy (h ▸ ht))]
                  obtain ⟨x, hx1, hx2⟩ : ∃ x, s3 = ⟨putS s1.slots oj.dst x, sb.blk⟩ ∧ inlS oj.dst i.rs (s1.slots.set dq (.c .undef)) sb = some ⟨putS (s1.slots.set dq (.c .undef)) oj.dst x, sb.blk⟩ := by
                    unfold inlS at hs3 ⊢
                    split at hs3
                    · rename_i vs hvs
                      simp only [Option.map_eq_some_iff] at hs3
                      obtain ⟨x, hx, rfl⟩ := hs3
                      exact ⟨x, rfl, by rw [hx]; rfl⟩
                    · cases hs3
                  have hRE : ∀ v w', SimL w0 (EarlyC ok0 b (.cells cs ty (0, 0))) ⟨putS (s1.slots.set dq (.c .undef)) oj.dst x, sb.blk⟩ (a1.put oj.dst v) w' → K (a1.put oj.dst v) w' := fun v w' hS' => hK _ _ (by
                    have e3 : s3.slots.length = s.slots.length := hl3.trans hN.symm
                    refine ⟨b, cs, ty, g1, by omega, (put_getD f9).trans g3, g4, ?_⟩
                    have hS2 : SimF w0 (EarlyC ok0 b (.cells cs ty (0, 0))) (putS (s1.slots.set dq (.c .undef)) oj.dst x).length (slotsF (putS (s1.slots.set dq (.c .undef)) oj.dst x)) (getL sb.blk) (a1.put oj.dst v) w' := hS'
                    rw [slotsF_put, putS_length, List.length_set] at hS2
                    rw [hx1]
                    show SimF w0 _ (putS s1.slots oj.dst x).length (maskF dq (slotsF (putS s1.slots oj.dst x))) (getL sb.blk) _ _
                    rw [slotsF_put, ← putF_mask f9, ← em, putS_length]
                    exact hS2)
                  obtain ⟨hg, hwp⟩ := inlOp_fitsP hcall ihd hZ hin hcond.2.1 (by rw [est]; exact hrb) hnx hx2 hSm Q K hRE
                  rw [if_pos (by simp [Region.wanted, hg])]
                  exact hwp
              · rcases hno with ⟨hno, hR⟩ | ⟨hno, hR⟩
                · exact htail0 fuel listed a2 w2 hz hcnt hcl hp hno hR
                · exact draw_tailE (b := l1.length + 1) (q := q) (s := s3) (s' := s') (fs := fs2) (off := Z.off) hcall (by omega) hq f2 f3 f4 f6 (by rw [hdrop, hl3]; exact h2) hr2 hok2 hbefore (fun a' w' h => hQ hl4 a' w' h) fuel listed hz hcnt hcl hp hno hR
            | _ :: _ :: _, hfo, _, _ => cases hfo
        · rw [if_neg hok] at hr; cases hr
    · cases hc
  · cases hc

theorem pxl {A : Prop} {x y : ACode} (h : A ∨ (plainR x && plainR y) = true) : A ∨ plainR x = true := h.imp id fun h => (Bool.and_eq_true_iff.1 h).1
theorem pxr {A : Prop} {x y : ACode} (h : A ∨ (plainR x && plainR y) = true) : A ∨ plainR y = true := h.imp id fun h => (Bool.and_eq_true_iff.1 h).2
theorem pxo {A : Prop} {l : List Nat} {x : ACode} (h : A ∨ plainR (wrapF l x) = true) : A ∨ plainR x = true := h.imp id fun h => by
  cases l with
  | nil => exact h
  | cons _ _ => cases h
theorem region0_fits (hcall : CxOK P cx) {n : Nat} {id : Nat} {ops : Array Oper} {draw : Bool} {ac : ACode} {Z : Zo} {K : Code → List Nat} (hZ : ZOK P 0 Z) (hc : compC P Z N K (.region id ops draw) = some ac)
    {s : St} {e : Ex} {s' : St} {a : Act} {Q : Exit → Act → World → Prop} (hN : s.slots.length = N) (hr : acode cx n ac s = some (e, s')) (hS : SimL w0 ok0 s a w)
    (hQ : s'.slots.length = N → ∀ a' w', SimL w0 ok0 s' a' w' → Q e.to a' w') : (Code.region id ops draw).wpIn (FW ro) md P Q a w := by
  cases draw with
  | false =>
    simp only [compC] at hc
    split at hc
    ·
      simp only [Option.map_eq_some_iff] at hc
      obtain ⟨is, his, rfl⟩ := hc
      simp only [acode] at hr
      split at hr
      · rename_i s2 fs hrun
        simp only [Option.some.injEq, Prod.mk.injEq] at hr
        obtain ⟨rfl, rfl⟩ := hr
        have hl := (runI_steps is s s2 fs hrun).2.1
        have := runI_fits (ro := ro) (md := md) (ops := ops) (Q := Q) [] hcall ops.toList is s s2 fs a w (by rw [hN]; exact his) hrun hS (fun a' w' h => hQ (hl.trans hN) a' w' h)
        rw [List.append_nil] at this
        exact wpIn_region_list this
      · cases hr
    · rename_i l1 o f i xs l2 hsp
      obtain ⟨hops, hin⟩ := splitI_some hsp
      have hIn : ∀ f, Z.I f = none := hZ
      unfold inlOf at hin
      split at hin
      · split at hin
        · rw [hIn] at hin; cases hin
        · cases hin
      · cases hin
  | true =>
    simp only [compC] at hc
    split at hc
    · rename_i hcond
      have hbef : ∀ (i : Nat) (o : Oper), ops[i]? = some o → ∀ e ∈ o.after, Region.binds .any e = true → e.on < i := by
        intro i o ho x hx hb
        have := hcond.2
        simp only [List.all_eq_true] at this
        have h2 := this (o, i) (List.mem_zipIdx_iff_getElem?.2 (by simpa using ho))
        simp only [Array.all_eq_true_iff_forall_mem] at h2
        have h3 := h2 x hx
        rw [hb] at h3
        simpa using h3
      split at hc
      · simp only [Option.map_eq_some_iff] at hc
        obtain ⟨is, his, rfl⟩ := hc
        simp only [acode] at hr
        split at hr
        · rename_i s2 fs hrun
          split at hr
          · rename_i hok
            simp only [Option.some.injEq, Prod.mk.injEq] at hr
            obtain ⟨rfl, rfl⟩ := hr
            have hl := (runI_steps is s s2 fs hrun).2.1
            refine draw_fits hcall (by rw [hN]; exact his) hrun hok hcond.1 ?_ hS (hQ (hl.trans hN))
            intro i o ho x hx hb
            have := hcond.2
            simp only [List.all_eq_true] at this
            have h2 := this (o, i) (List.mem_zipIdx_iff_getElem?.2 (by simpa using ho))
            simp only [Array.all_eq_true_iff_forall_mem] at h2
            have h3 := h2 x hx
            rw [hb] at h3
            simpa using h3
          · cases hr
        · cases hr
      · rename_i l1 o f i xs l2 hsp
        obtain ⟨hops, hin⟩ := splitI_some hsp
        have hIn : ∀ f, Z.I f = none := hZ
        unfold inlOf at hin
        split at hin
        · split at hin
          · rw [hIn] at hin; cases hin
          · cases hin
        · cases hin
    · cases hc

theorem regionS_fits (hcall : CxOK P cx) {n : Nat} {id : Nat} {ops : Array Oper} {draw : Bool} {ac : ACode} {Z : Zo} {K : Code → List Nat} {d : Nat} (ihd : CodeOK P cx w0 n d) (hZ : ZOK P (d + 1) Z) (hc : compC P Z N K (.region id ops draw) = some ac)
    {s : St} {e : Ex} {s' : St} {a : Act} {Q : Exit → Act → World → Prop} (hN : s.slots.length = N) (hr : acode cx n ac s = some (e, s')) (hS : SimL w0 ok0 s a w)
    (hQ : s'.slots.length = N → ∀ a' w', SimL w0 ok0 s' a' w' → Q e.to a' w') : (Code.region id ops draw).wpIn (FW ro) md P Q a w := by
  cases draw with
  | false =>
    simp only [compC] at hc
    split at hc
    ·
      simp only [Option.map_eq_some_iff] at hc
      obtain ⟨is, his, rfl⟩ := hc
      simp only [acode] at hr
      split at hr
      · rename_i s2 fs hrun
        simp only [Option.some.injEq, Prod.mk.injEq] at hr
        obtain ⟨rfl, rfl⟩ := hr
        have hl := (runI_steps is s s2 fs hrun).2.1
        have := runI_fits (ro := ro) (md := md) (ops := ops) (Q := Q) [] hcall ops.toList is s s2 fs a w (by rw [hN]; exact his) hrun hS (fun a' w' h => hQ (hl.trans hN) a' w' h)
        rw [List.append_nil] at this
        exact wpIn_region_list this
      · cases hr
    · rename_i l1 o f i xs l2 hsp
      obtain ⟨hops, hin⟩ := splitI_some hsp
      exact inl_fits hcall ihd hZ hops hin hc hN hr hS hQ
  | true =>
    simp only [compC] at hc
    split at hc
    · rename_i hcond
      have hbef : ∀ (i : Nat) (o : Oper), ops[i]? = some o → ∀ e ∈ o.after, Region.binds .any e = true → e.on < i := by
        intro i o ho x hx hb
        have := hcond.2
        simp only [List.all_eq_true] at this
        have h2 := this (o, i) (List.mem_zipIdx_iff_getElem?.2 (by simpa using ho))
        simp only [Array.all_eq_true_iff_forall_mem] at h2
        have h3 := h2 x hx
        rw [hb] at h3
        simpa using h3
      split at hc
      · simp only [Option.map_eq_some_iff] at hc
        obtain ⟨is, his, rfl⟩ := hc
        simp only [acode] at hr
        split at hr
        · rename_i s2 fs hrun
          split at hr
          · rename_i hok
            simp only [Option.some.injEq, Prod.mk.injEq] at hr
            obtain ⟨rfl, rfl⟩ := hr
            have hl := (runI_steps is s s2 fs hrun).2.1
            refine draw_fits hcall (by rw [hN]; exact his) hrun hok hcond.1 ?_ hS (hQ (hl.trans hN))
            intro i o ho x hx hb
            have := hcond.2
            simp only [List.all_eq_true] at this
            have h2 := this (o, i) (List.mem_zipIdx_iff_getElem?.2 (by simpa using ho))
            simp only [Array.all_eq_true_iff_forall_mem] at h2
            have h3 := h2 x hx
            rw [hb] at h3
            simpa using h3
          · cases hr
        · cases hr
      · rename_i l1 o f i xs l2 hsp
        obtain ⟨hops, hin⟩ := splitI_some hsp
        exact inl_draw_fits hcall ihd hZ hops hin hcond.1 hbef hc hN hr hS hQ
    · cases hc

theorem code_core (hcall : CxOK P cx) (n d : Nat) (hreg : ∀ (ro : Option Nat) (md : Nat) (ok0 : Ctx0) (Z : Zo) (N : Nat) (K : Code → List Nat), ZOK P d Z → ∀ (id : Nat) (ops : Array Oper) (draw : Bool) (ac : ACode), compC P Z N K (.region id ops draw) = some ac →
    ∀ (s : St) (e : Ex) (s' : St) (a : Act) (w : World) (Q : Exit → Act → World → Prop), s.slots.length = N → acode cx n ac s = some (e, s') → SimL w0 ok0 s a w →
      (s'.slots.length = N → ∀ a' w', SimL w0 ok0 s' a' w' → Q e.to a' w') → (Code.region id ops draw).wpIn (FW ro) md P Q a w) : CodeOK P cx w0 n d := by
  intro ro md ok0 Z N K hZ c
  induction c generalizing ro md ok0 with
  | skip =>
    intro ac hc hp s e s' a w Q hN hr hS hQ
    simp only [compC, Option.some.injEq] at hc; subst hc
    simp only [acode, Option.some.injEq, Prod.mk.injEq] at hr
    obtain ⟨rfl, rfl⟩ := hr
    exact wpIn_skip (hQ hN a w hS)
  | region id ops draw =>
    intro ac hc hp s e s' a w Q hN hr hS hQ
    exact hreg ro md ok0 Z N K hZ id ops draw ac hc s e s' a w Q hN hr hS hQ
  | seq x y ihx ihy =>
    intro ac hc hp s e s' a w Q hN hr hS hQ
    simp only [compC] at hc
    split at hc
    · rename_i ax ay hx hy
      simp only [Option.some.injEq] at hc; subst hc
      simp only [acode] at hr
      split at hr
      · rename_i s1 h1
        refine wpIn_seq (ihx ro md ok0 ax hx (pxl hp) s .normal s1 a w _ hN h1 hS fun hN1 a' w' hS' => ?_)
        obtain ⟨s2, hS2, hN2, hrun⟩ : ∃ s2, SimL w0 ok0 s2 a' w' ∧ s2.slots.length = N ∧ acode cx n (wrapF (K (.block cutMark y)) ay) s1 = acode cx n ay s2 := by
          cases hK : K (.block cutMark y) with
          | nil => exact ⟨s1, hS', hN1, rfl⟩
          | cons z zs =>
            obtain ⟨hS3, hl⟩ := forget_fits (((pxr hp).resolve_right (fun h => by rw [hK] at h; cases h)).2.resolve_left (fun h => by rw [h] at hK; cases hK)) (keep := z :: zs) hS'
            exact ⟨_, hS3, hl.trans hN1, by simp only [wrapF, acode]⟩
        rw [hrun] at hr
        exact ihy ro md ok0 ay hy (pxo (pxr hp)) s2 e s' a' w' Q hN2 hr hS2 hQ
      · rename_i e1 s1 hne h1
        simp only [Option.some.injEq, Prod.mk.injEq] at hr
        obtain ⟨rfl, rfl⟩ := hr
        refine wpIn_seq (ihx ro md ok0 ax hx (pxl hp) s e1 s1 a w _ hN h1 hS fun hN1 a' w' hS' => ?_)
        cases e1 with
        | normal => exact absurd rfl hne
        | exit id => exact hQ hN1 a' w' hS'
        | ret => exact hQ hN1 a' w' hS'
      · cases hr
    · cases hc
  | cond q x y ihx ihy =>
    intro ac hc hp s e s' a w Q hN hr hS hQ
    simp only [compC] at hc
    split at hc
    · rename_i ax ay hx hy
      simp only [Option.some.injEq] at hc; subst hc
      simp only [acode] at hr
      split at hr
      · rename_i b hb
        have hv : a.eval q = .bool b := by
          obtain ⟨en, hM, _, hsl, _⟩ := hS
          have := evalF_rv (lk := getL s.blk) hsl q
          rw [hb] at this
          simpa only [RV, RC, RD] using this
        refine wpIn_cond hv ?_
        cases b with
        | true => exact ihx ro md ok0 ax hx (pxl hp) s e s' a w Q hN (by simpa using hr) hS hQ
        | false => exact ihy ro md ok0 ay hy (pxr hp) s e s' a w Q hN (by simpa using hr) hS hQ
      · cases hr
    · cases hc
  | block id x ihx =>
    intro ac hc hp s e s' a w Q hN hr hS hQ
    simp only [compC, Option.map_eq_some_iff] at hc
    obtain ⟨ax, hx, rfl⟩ := hc
    simp only [acode] at hr
    split at hr
    · rename_i k s1 h1
      simp only [Option.some.injEq, Prod.mk.injEq] at hr
      obtain ⟨rfl, rfl⟩ := hr
      refine wpIn_block (ihx ro md ok0 ax hx hp s (.exit k) s1 a w _ hN h1 hS fun hN1 a' w' hS' => ?_)
      have := hQ hN1 a' w' hS'
      show if k = id then Q .normal a' w' else Q (.exit k) a' w'
      split
      · rename_i hk; rw [if_pos hk] at this; exact this
      · rename_i hk; rw [if_neg hk] at this; exact this
    · rename_i e1 s1 hne h1
      simp only [Option.some.injEq, Prod.mk.injEq] at hr
      obtain ⟨rfl, rfl⟩ := hr
      refine wpIn_block (ihx ro md ok0 ax hx hp s e1 s1 a w _ hN h1 hS fun hN1 a' w' hS' => ?_)
      cases e1 with
      | normal => exact hQ hN1 a' w' hS'
      | exit k => exact absurd rfl (hne k)
      | ret => exact hQ hN1 a' w' hS'
    · cases hr
  | loop x ihx =>
    intro ac hc hp s e s' a w Q hN hr hS hQ
    simp only [compC, Option.map_eq_some_iff] at hc
    obtain ⟨ax, hx, rfl⟩ := hc
    simp only [acode] at hr
    have key : ∀ (k : Nat) (s : St) (a : Act) (w : World), s.slots.length = N → aloop (acode cx n (wrapF (K x) ax)) k s = some (e, s') → SimL w0 ok0 s a w → Code.roundsIn (FW ro) md P x Q k a w := by
      intro k
      induction k with
      | zero => intro s a w _ h; simp [aloop] at h
      | succ k ih =>
        intro s a w hN h hS
        simp only [aloop] at h
        rw [roundsIn_succ]
        obtain ⟨s2, hS, hN, hrun⟩ : ∃ s2, SimL w0 ok0 s2 a w ∧ s2.slots.length = N ∧ acode cx n (wrapF (K x) ax) s = acode cx n ax s2 := by
          cases hK : K x with
          | nil => exact ⟨s, hS, hN, rfl⟩
          | cons y ys =>
            obtain ⟨hS, hl⟩ := forget_fits ((hp.resolve_right (fun h => by rw [hK] at h; cases h)).2.resolve_left (fun h => by rw [h x] at hK; cases hK)) (keep := y :: ys) hS
            exact ⟨_, hS, hl.trans hN, by simp only [wrapF, acode]⟩
        rw [hrun] at h
        split at h
        · rename_i s1 h1
          exact ihx ro md ok0 ax hx (pxo hp) _ .normal s1 a w _ hN h1 hS fun hN1 a' w' hS' => ih s1 a' w' hN1 h hS'
        · rename_i e1 s1 hne h1
          simp only [Option.some.injEq, Prod.mk.injEq] at h
          obtain ⟨rfl, rfl⟩ := h
          refine ihx ro md ok0 ax hx (pxo hp) _ e1 s1 a w _ hN h1 hS fun hN1 a' w' hS' => ?_
          cases e1 with
          | normal => exact absurd rfl hne
          | exit k => exact hQ hN1 a' w' hS'
          | ret => exact hQ hN1 a' w' hS'
        · cases h
    exact wpIn_loop_rounds n (key n s a w hN hr hS)
  | rangeFunc g ps x y ihx ihy =>
    intro ac hc hp s e s' a w Q hN hr hS hQ
    simp only [compC] at hc
    split at hc
    · rename_i p q ax ay hps hx hy
      split at hc
      · rename_i hcond
        simp only [Option.some.injEq] at hc; subst hc
        obtain ⟨rfl, _⟩ := hp.resolve_right (fun h => by cases h)
        exact back_fits hcall hps hcond.1 hcond.2.1 (fun C l md s e s' a w Q => ihx (some l) md C ax hx (.inr hcond.2.2.2.1) s e s' a w Q) (fun C l md s e s' a w Q => ihy (some l) md C ay hy (.inr hcond.2.2.2.2) s e s' a w Q) hN hr hS hQ
      · cases hc
    · cases hc
  | exit id =>
    intro ac hc hp s e s' a w Q hN hr hS hQ
    simp only [compC, Option.some.injEq] at hc; subst hc
    simp only [acode, Option.some.injEq, Prod.mk.injEq] at hr
    obtain ⟨rfl, rfl⟩ := hr
    exact wpIn_exit (hQ hN a w hS)
  | ret =>
    intro ac hc hp s e s' a w Q hN hr hS hQ
    simp only [compC, Option.some.injEq] at hc; subst hc
    simp only [acode, Option.some.injEq, Prod.mk.injEq] at hr
    obtain ⟨rfl, rfl⟩ := hr
    exact wpIn_ret (hQ hN a w hS)
  | _ => intro ac hc hp; simp [compC] at hc

theorem code_ok (hcall : CxOK P cx) (n : Nat) : ∀ d, CodeOK P cx w0 n d
  | 0 => code_core hcall n 0 fun ro md ok0 Z N K hZ id ops draw ac hc s e s' a w Q hN hr hS hQ => region0_fits hcall hZ hc hN hr hS hQ
  | d + 1 => code_core hcall n (d + 1) fun ro md ok0 Z N K hZ id ops draw ac hc s e s' a w Q hN hr hS hQ => regionS_fits hcall (code_ok hcall n d) hZ hc hN hr hS hQ
theorem code_fits (hcall : CxOK P cx) (n : Nat) (d : Nat) (ok0 : Ctx0) (Z : Zo) (N : Nat) (K : Code → List Nat) (hZ : ZOK P d Z) (hKJ : (∀ x, K x = []) ∨ ∀ e w, ok0.J e w) (c : Code) (ac : ACode) (hc : compC P Z N K c = some ac)
    (s : St) (e : Ex) (s' : St) (a : Act) (w : World) (Q : Exit → Act → World → Prop) (hN : s.slots.length = N) (hr : acode cx n ac s = some (e, s')) (hS : SimL w0 ok0 s a w)
    (hQ : s'.slots.length = N → ∀ a' w', SimL w0 ok0 s' a' w' → Q e.to a' w') : c.wpIn (FW none) md P Q a w :=
  code_ok hcall n d none md ok0 Z N K hZ c ac hc (.inl ⟨rfl, hKJ⟩) s e s' a w Q hN hr hS hQ
theorem splitI_Z0 : ∀ l : List Oper, splitI Z0 l = none
  | [] => rfl
  | o :: l => by
    have h : inlOf Z0 o = none := by
      unfold inlOf
      split
      · split <;> rfl
      · rfl
    simp only [splitI, h, splitI_Z0 l, Option.map_none]
theorem Z0_ok (P : Program) : ZOK P 0 Z0 := fun _ => rfl
end

section
variable {P : Program} {cx : Cx} {K : Code → List Nat}

/-- What is promised of an ending. -/
def AnsPost (w : World) (ok : Nat → Prop) (r : RR) (e : Ending) (w' : World) : Prop :=
  ∃ v ok' bs, e = .returned v ∧ Below w.heap.size w w' ∧ (∀ b, ok' b → b < w'.heap.size) ∧ (∀ b, ok' b → ok b ∨ w.heap.size ≤ b) ∧
      RRv ok' w' r v bs ∧ bs.Nodup ∧ ∀ b ∈ bs, ¬ ok' b ∧ w.heap.size ≤ b ∧ b < w'.heap.size

theorem post_fitsR {R : Ending → World → Prop} {fn : Func} {qs : List RVar} {ex : Ex} {s : St} {r : RR} {w w' : World} {ok : Nat → Prop} {a' : Act} (hq : mapO (compR P) fn.results.toList = some qs) (hex : ∀ id, ex ≠ .exit id) (hres : resA qs s = some r) (hS : SimL w (Ctx0.of ok) s a' w') (hR : ∀ e w', AnsPost w ok r e w' → R e w') :
    bodyPostM (FW none) 0 P fn R ex.to a' w' := by
  obtain ⟨e, hMa, hs, hsla, hd⟩ := hS
  have hmain : ∀ w', Mem w (Ctx0.of ok) e (getL s.blk) w' → (∀ t, RV e w' (slotsF s.slots t) (a'.tmps.getD t undef)) → ∃ v, (results fn a'.tmps).run P w' = .ok v w' ∧ ∃ u ok' bs, Ending.returned v = .returned u ∧ Below w.heap.size w w' ∧ (∀ b, ok' b → b < w'.heap.size) ∧ (∀ b, ok' b → ok b ∨ w.heap.size ≤ b) ∧
      RRv ok' w' r u bs ∧ bs.Nodup ∧ ∀ b ∈ bs, ¬ ok' b ∧ w.heap.size ≤ b ∧ b < w'.heap.size := by
    intro w' hM hsl
    unfold resA at hres
    split at hres
    · rename_i xs hxs
      obtain ⟨vs, hvs, hvrun⟩ := ress_run (P := P) hM hsl hq hxs
      have hresults : (results fn a'.tmps).run P w' = .ok (if h : vs.toArray.size = 1 then vs.toArray[0] else .tuple vs.toArray) w' := by
        rw [results_one, Sem.run_bind, Array.mapM_eq_mapM_toList, Sem.run_map, hvrun]
        rfl
      have hpack : ∀ (ok : Nat → Prop) (l : List (Sum Rc (List Rc))) (bs : List Nat), RR1s ok w' l vs bs → RRv ok w' (packR l) (if h : vs.toArray.size = 1 then vs.toArray[0] else .tuple vs.toArray) bs := fun ok l bs h => packR_fits h
      generalize (if h : vs.toArray.size = 1 then vs.toArray[0] else .tuple vs.toArray) = val at hresults hpack
      refine ⟨val, hresults, val, ?_⟩
      have fin : ∀ (e : En) (lk : Nat → Option Blk) (l : List (Sum Rc (List Rc))), Mem w (Ctx0.of ok) e lk w' → RVs e w' xs vs → retAll lk xs = some l → r = packR l →
          ∃ ok' bs, Ending.returned val = .returned val ∧ Below w.heap.size w w' ∧ (∀ b, ok' b → b < w'.heap.size) ∧ (∀ b, ok' b → ok b ∨ w.heap.size ≤ b) ∧
            RRv ok' w' r val bs ∧ bs.Nodup ∧ ∀ b ∈ bs, ¬ ok' b ∧ w.heap.size ≤ b ∧ b < w'.heap.size := by
        intro e lk l hM hvs hall hr
        unfold retAll at hall
        split at hall
        · rename_i hn
          obtain ⟨bs, h1, h2, h3⟩ := retVs_fits hM hvs hall hn
          refine ⟨e.ok, bs, rfl, hM.bel, hM.okl, hM.okr, by rw [hr]; exact hpack _ _ _ h1, h2, fun b hb => ?_⟩
          obtain ⟨t, _, g, k, c', E, q1, q2, q3⟩ := h3 b hb
          exact hM.own t g k b c' E q1 q2 q3
        · cases hall
      split at hres
      · rename_i l hl
        simp only [Option.some.injEq] at hres
        exact fin e _ l hM hvs hl hres.symm
      · simp only [Option.map_eq_some_iff] at hres
        obtain ⟨l, hl, hr⟩ := hres
        obtain ⟨e2, hx, hM2, _⟩ := Mem.freezeL (getL s.blk) (xs.flatMap (newTagsV (getL s.blk))) e (getL s.blk) hM (fun t g fz k h => ⟨fz, h⟩) (fun t ht => by
          obtain ⟨x, hx, htx⟩ := List.mem_flatMap.1 ht
          have one : ∀ y : Cl, t ∈ newTags (getL s.blk) y → ∃ g fz k, getL s.blk t = some ⟨g, fz, k⟩ ∧ live k := by
            intro y hy
            cases y with
            | own t' g n' =>
              simp only [newTags] at hy
              split at hy
              · rename_i E rows hro
                simp only [List.mem_singleton] at hy; subst hy
                exact ⟨g, false, _, rowsOf_some hro, by simp [live]⟩
              · simp at hy
            | _ => simp [newTags] at hy
          cases x with
          | c y => exact one y htx
          | agg l => obtain ⟨y, _, hy⟩ := List.mem_flatMap.1 htx; exact one y hy
          | tup l => simp [newTagsV] at htx)
        exact fin e2 _ l hM2 (RVs.ext hx hvs) hl hr.symm
    · cases hres
  have hleave : LeavesInM (FW none) 0 P fn a'.tmps R a'.defers .returning w' :=
    leaves_fits a'.defers e w' hMa hd fun w2 hM2 hrv => let ⟨v, h1, u, ok', bs, h2⟩ := hmain w2 hM2 fun t => hrv _ _ (hsla t); ⟨v, h1, hR _ _ ⟨u, ok', bs, h2⟩⟩
  cases ex with
  | normal => exact hleave
  | exit id => exact absurd rfl (hex id)
  | ret => exact hleave

theorem post_fits {fn : Func} {qs : List RVar} {ex : Ex} {s : St} {r : RR} {w w' : World} {ok : Nat → Prop} {a' : Act} (hq : mapO (compR P) fn.results.toList = some qs) (hex : ∀ id, ex ≠ .exit id) (hres : resA qs s = some r) (hS : SimL w (Ctx0.of ok) s a' w') :
    bodyPostM (FW none) 0 P fn (AnsPost w ok r) ex.to a' w' := post_fitsR hq hex hres hS fun _ _ h => h

theorem calls_fits {d : Nat} {Z : Zo} (hZ : ZOK P d Z) (hcall : CxOK P cx) {f : FuncId} {fn : Func} {c : Code} {as : List A} {ac : ACode} {tags : List Nat} {qs : List RVar} {n : Nat} {ex : Ex} {s : St} {r : RR}
    (hf : P.funcs[f]? = some fn) (hb : fn.body = some c) (hc : compC P Z (startA fn.ntmps tags as).slots.length K c = some ac) (hq : mapO (compR P) fn.results.toList = some qs)
    (hrun : acode cx n ac (startA fn.ntmps tags as) = some (ex, s)) (hex : ∀ id, ex ≠ .exit id) (hres : resA qs s = some r) : ACalls P f as r := by
  intro w vals ok hok hgl has
  have hlen := (RAs.get has).1
  refine callsIn_wide.1 (callsIn_of_wp_marks (F := FW none) (n := 0) hf hb trivial ?_)
  have hstart := start_fits (n := fn.ntmps) (tags := tags) hok hgl has
  refine code_fits hcall n d (Ctx0.of ok) Z _ K hZ (.inr fun _ _ => trivial) c ac hc (startA fn.ntmps tags as) ex s _ w _ rfl hrun (by simpa using hstart) fun hN a' w' hS => post_fits hq hex hres hS
end

end Go.Proofs.YtmmlolampgnamaaDoor.Ax
