/- Regions: in the order of the text, and in any order that the edges allow. -/
import Derived.Test.YtmmlolampgnamaaDoorAx12
import Derived.OrdersIn
import Derived.TacticsIn
import Derived.LoopIn
import Derived.LoopNIn
import Derived.RangeFuncLeaves
import Derived.RangeFuncRecord
import Derived.RangeFuncSeq
namespace Go.Proofs.YtmmlolampgnamaaDoor.Ax
open Go.RowKit
set_option linter.unusedVariables false
set_option linter.unusedSimpArgs false

/-- A frame and its memory, told by two functions. -/
def DefOK (p : Nat → Prop) (e : En) (w : World) (l : List Deferred) : Prop := l.Nodup ∧ ∀ d ∈ l, ∃ D, d = { target := .collected D, args := #[] } ∧ e.ob D ∧ ¬ p D ∧ w.heap[D]? = some (.deferred (some []))
theorem DefOK.ext {p : Nat → Prop} {e e' : En} {w w' : World} {l : List Deferred} (hx : Ext e w e' w') (h : DefOK p e w l) : DefOK p e' w' l := ⟨h.1, fun d hd =>
  let ⟨D, h1, h2, h3, h4⟩ := h.2 d hd; ⟨D, h1, (hx.ob D h2).1, h3, (hx.ob D h2).2.trans h4⟩⟩
theorem DefOK.nil (p : Nat → Prop) (e : En) (w : World) : DefOK p e w [] := ⟨List.nodup_nil, fun d hd => by cases hd⟩
def SimF (w0 : World) (ok0 : Ctx0) (N : Nat) (sl : Nat → AV) (lk : Nat → Option Blk) (a : Act) (w : World) : Prop :=
  ∃ e, Mem w0 ok0 e lk w ∧ a.tmps.size = N ∧ (∀ t, RV e w (sl t) (a.tmps.getD t undef)) ∧ DefOK ok0.p e w a.defers
/-- A fence that lets everything in; the frame may be a round's. -/
def FW (ro : Option Nat) : Fence := { fn := fun _ => True, depth := none, alive := false, round := ro }
theorem FW_none : FW none = Fence.wide := rfl
theorem FW_some (l : Nat) : FW (some l) = Fence.wide.inRound l := rfl
theorem FW_calls {ro : Option Nat} {n : Nat} {P : Program} {f : FuncId} {args : Array Value} {w : World} {R : Ending → World → Prop} (h : Calls P f args w R) : CallsIn (FW ro) n P f args w R := (callsIn_wide (n := n)).2 h
theorem FW_rows {ro : Option Nat} {n : Nat} {P : Program} {row : String} {args : Array Value} {w : World} {R : Value → World → Prop} (h : Rows P row args w R) : RowsIn (FW ro) n P row args w R :=
  fun c cs _ => let ⟨v, w', r, s⟩ := h c cs; ⟨v, w', r, stepsIn_wide.2 s⟩
theorem wpIn_of_wp {ro : Option Nat} {m : Nat} {P : Program} {o : Oper} {a : Act} {w : World} {K : Act → World → Prop} {Q : Exit → Act → World → Prop} (hd : ∀ c, o.op ≠ .defer c) (h : o.wp P a w K Q) : o.wpIn (FW ro) m P a w K Q := by
  refine ⟨fun _ _ => trivial, ?_⟩
  rw [Oper.semAt_eq _ _ _ hd]
  unfold Oper.wp at h
  generalize (execOp a.eval o).run P w = r at h
  cases r with
  | ok x w' =>
    cases x with
    | value v => exact h
    | skip => exact h
    | defer d => exact h
    | enter f args => exact ⟨fun h => (by cases h), FW_calls h⟩
    | row r args => exact ⟨fun h => (by cases h), FW_rows h⟩
    | _ => exact h.elim
  | halt x w' => cases x <;> exact h
/-- The closure of slices.Backward: handed a yield, it calls it with each row's number and what it holds, the last one first, as long as it goes on. -/
def BackOK (P : Program) (gf : FuncId) (sh : Option Nat) : Prop :=
  ∀ (lb : List Value) (rows : List (List D)) (l : Nat) (J : Nat → World → Prop) (Jx : World → Prop) (W : World) (n : Nat), okBack sh rows = true →
    (∀ k W, J k W → ∃ ok, (∀ b, ok b → b < W.heap.size) ∧ RDList ok W [.rptr [.sl rows]] lb) →
    (∀ (i : Nat) (row : List D) (y : AV) (v : Value) (W : World), J (i + 1) W → rows[i]? = some row → pickN sh (row.map .d) = some y → (∀ ok, (∀ b, ok b → b < W.heap.size) → RDList ok W [.rptr [.sl rows]] lb → RV ⟨fun _ _ => none, fun _ => 0, ok, fun _ => False⟩ W y v) →
      YieldAt Fence.wide n P l #[.int .i64 i, v] W fun e W' => (e = .returned (.bool true) ∧ J i W') ∨ (e = .returned (.bool false) ∧ Jx W')) →
    J rows.length W → CallsIn Fence.wide n P gf (#[.func (.yield l) #[] #[]] ++ lb.toArray) W fun e W' => (∃ v, e = .returned v) ∧ (J 0 W' ∨ Jx W')
def BksOK (P : Program) (bk : FuncId → Option (Option Nat × List Kd)) : Prop := ∀ g sh, bk g = some sh → BackOK P g sh.1 ∧ Enters P g
def CxOK (P : Program) (cx : Cx) : Prop := (∀ g as r, cx.call g as = some r → ACalls P g as r ∧ Enters P g) ∧ ∀ g sh, cx.back g = some sh → BackOK P g sh.1 ∧ Enters P g
def SimL (w0 : World) (ok0 : Ctx0) (s : St) (a : Act) (w : World) : Prop := SimF w0 ok0 s.slots.length (slotsF s.slots) (getL s.blk) a w

def putF (N : Nat) (sl : Nat → AV) (d : Option Nat) (v : AV) (t : Nat) : AV := if d = some t ∧ t < N then v else sl t

theorem slotsF_put (s : List AV) (d : Option Nat) (v : AV) : slotsF (putS s d v) = putF s.length (slotsF s) d v := by
  funext t
  unfold putF slotsF
  cases d with
  | none => simp [putS]
  | some d =>
    simp only [putS, List.getD_eq_getElem?_getD, List.getElem?_set, Option.some.injEq]
    by_cases h : d = t
    · subst h
      by_cases hl : d < s.length
      · simp [hl]
      · simp [hl]
    · simp [h]
theorem putS_length (s : List AV) (d : Option Nat) (v : AV) : (putS s d v).length = s.length := by cases d <;> simp [putS]
theorem getL_setL (l : List (Nat × Blk)) (t : Nat) (b : Blk) : getL (setL l t b) = fun u => if u = t then some b else getL l u := by
  funext u
  induction l with
  | nil => simp only [setL, getL]; by_cases h : t = u <;> simp [h, eq_comm]
  | cons p l ih =>
    obtain ⟨v, c⟩ := p
    simp only [setL]
    by_cases h : v = t
    · subst h
      simp only [if_true, getL]
      by_cases h2 : v = u
      · subst h2; simp
      · simp [h2, Ne.symm h2]
    · simp only [h, if_false, getL]
      by_cases h2 : v = u
      · subst h2; simp [h]
      · simp only [h2, if_false]; exact ih
theorem getL_upd : ∀ (l up : List (Nat × Blk)), getL (upd l up) = updF (getL l) up
  | l, [] => rfl
  | l, (t, b) :: r => by simp only [upd, updF]; rw [getL_upd, getL_setL]

section
variable {P : Program} {w0 w : World} {ok0 : Ctx0} {a : Act} {cx : Cx} {N off : Nat}

theorem evalF_rv {e : En} {lk : Nat → Option Blk} {sl : Nat → AV} (h : ∀ t, RV e w (sl t) (a.tmps.getD t undef)) (x : Operand) : RV e w (evalF sl x) (a.eval x) := by
  cases x with
  | tmp t => exact h t
  | const v =>
    simp only [evalF, Act.eval]
    cases hv : ofVal v with
    | none => exact trivial
    | some y => exact (ofVal_rc hv).1
  | global g => exact trivial
  | func f => simp only [evalF, Act.eval, RV, RC, RD]; exact ⟨[], rfl, by simp [RDList]⟩

theorem SimF.put {sl : Nat → AV} {lk' : Nat → Option Blk} {e e' : En} {w' : World} {d : Option Nat} {x : AV} {v : Value} (hs : a.tmps.size = N) (hd : DefOK ok0.p e w a.defers) (hsl : ∀ t, RV e w (sl t) (a.tmps.getD t undef)) (hx : Ext e w e' w') (hM : Mem w0 ok0 e' lk' w') (hv : RV e' w' x v) :
    SimF w0 ok0 N (putF N sl d x) lk' (a.put d v) w' := by
  refine ⟨e', hM, ?_, fun t => ?_, ?_⟩
  · cases d <;> simp [Act.put, hs]
  · unfold putF
    cases d with
    | none => simp only [Act.put]; exact RV.ext hx (hsl t)
    | some d =>
      simp only [Act.put, Array.getD_eq_getD_getElem?, Array.getElem?_setIfInBounds, Option.some.injEq, hs]
      by_cases h : d = t
      · subst h
        by_cases hl : d < N
        · simp only [hl, and_self, if_true, Option.getD_some]; exact hv
        · have := hsl d
          simp only [hl, and_false, if_false]
          simp only [Array.getD_eq_getD_getElem?, Array.getElem?_eq_none (by omega : a.tmps.size ≤ d)] at this
          exact RV.ext hx this
      · have := hsl t
        simp only [Array.getD_eq_getD_getElem?] at this
        simp only [h, false_and, if_false]
        exact RV.ext hx this
  · have : (a.put d v).defers = a.defers := by cases d <;> rfl
    rw [this]; exact hd.ext hx

theorem want_fits {ops : Array Oper} {sl : Nat → AV} {e : En} (hsl : ∀ t, RV e w (sl t) (a.tmps.getD t undef)) (o : Oper) {b : Bool} (h : wantF sl (o.guard.map fun g => ((ops[g.1]?).bind (·.dst), g.2)) = some b) : Region.wanted o (yielded ops a.tmps) = b := by
  unfold Region.wanted
  cases hg : o.guard with
  | none => rw [hg] at h; simp only [Option.map_none, wantF, Option.some.injEq] at h; exact h
  | some g =>
    obtain ⟨j, want⟩ := g
    rw [hg] at h
    simp only [Option.map_some] at h
    simp only []
    cases ht : (ops[j]?).bind (·.dst) with
    | none => rw [ht] at h; simp [wantF] at h
    | some t =>
      rw [ht] at h
      simp only [wantF] at h
      split at h
      · rename_i c hc
        simp only [Option.some.injEq] at h
        have := hsl t
        rw [hc] at this
        simp only [RV, RC, RD] at this
        have hget : a.tmps[t]? = some (.bool c) := by
          rw [Array.getD_eq_getD_getElem?] at this
          cases hh : a.tmps[t]? with
          | none => rw [hh] at this; simp [undef] at this
          | some v => rw [hh] at this; simp only [Option.getD_some] at this; rw [this]
        unfold yielded
        rw [ht]
        simp only [Option.bind_some, hget]
        rw [← h]
        cases c <;> cases want <;> rfl
      · rename_i hc
        simp only [Option.some.injEq] at h; subst h
        have := hsl t
        rw [hc] at this
        obtain ⟨vs, h1, h2⟩ := this
        cases vs with
        | cons _ _ => exact h2.elim
        | nil =>
          unfold yielded
          rw [ht]
          simp only [Option.bind_some]
          rw [Array.getD_eq_getD_getElem?] at h1
          cases hh : a.tmps[t]? with
          | none => rfl
          | some v => rw [hh] at h1; simp only [Option.getD_some] at h1; subst h1; rfl
      · cases h

theorem comp_op {o : Oper} {ao : AOp} (h : comp P o = some ao) : ∀ c, o.op ≠ .defer c := by
  intro c hc
  unfold comp at h
  rw [hc] at h
  cases h
variable {ro : Option Nat} {md : Nat}
/-- One operation, by its functions; what is put where. -/
theorem step_Fp {ops : Array Oper} {o : Oper} {i : AInst} (hc : compI P N off ops o = some i) (hcall : CxOK P cx) {sl : Nat → AV} {lk : Nat → Option Blk} {f : Ef} {K : Act → World → Prop} {Q : Exit → Act → World → Prop} (hS : SimF w0 ok0 N sl lk a w)
    (hr : (wantF sl i.guard = some true ∧ eff cx (evalF sl) lk (i.tag) i.op = some f) ∨ (wantF sl i.guard = some false ∧ f = ⟨.tup [], [], []⟩))
    (hK : ∀ v w', SimF w0 ok0 N (putF N sl i.dst f.v) (updF lk f.up) (a.put i.dst v) w' → K (a.put i.dst v) w') :
    if Region.wanted o (yielded ops a.tmps) = true then o.wpIn (FW ro) md P a w K Q else (∀ f, o.about P w a.eval = some f → (FW ro).fn f) ∧ K (a.put o.dst undef) w := by
  unfold compI at hc
  split at hc
  · rename_i ao hao
    split at hc
    · obtain rfl := Option.some.inj hc
      obtain ⟨e, hM, hs, hsl, hd⟩ := hS
      rcases hr with ⟨hw, he⟩ | ⟨hw, rfl⟩
      · rw [if_pos (want_fits hsl o hw)]
        exact wpIn_of_wp (comp_op hao) <| fits_all hM (evalF_rv (lk := lk) hsl) hcall.1 hao he K Q fun e' w' v hx hM' hv => hK _ _ (SimF.put hs hd hsl hx hM' hv)
      · rw [if_neg (by rw [want_fits hsl o hw]; simp)]
        exact ⟨fun _ _ => trivial, hK _ _ (SimF.put hs hd hsl (Ext.refl e w) hM ⟨[], rfl, trivial⟩)⟩
    · cases hc
  · cases hc
/-- One operation, by its functions. -/
theorem step_F {ops : Array Oper} {o : Oper} {i : AInst} (hc : compI P N off ops o = some i) (hcall : CxOK P cx) {sl : Nat → AV} {lk : Nat → Option Blk} {f : Ef} {K : Act → World → Prop} {Q : Exit → Act → World → Prop} (hS : SimF w0 ok0 N sl lk a w)
    (hr : (wantF sl i.guard = some true ∧ eff cx (evalF sl) lk (i.tag) i.op = some f) ∨ (wantF sl i.guard = some false ∧ f = ⟨.tup [], [], []⟩))
    (hK : ∀ a' w', SimF w0 ok0 N (putF N sl i.dst f.v) (updF lk f.up) a' w' → K a' w') :
    if Region.wanted o (yielded ops a.tmps) = true then o.wpIn (FW ro) md P a w K Q else (∀ f, o.about P w a.eval = some f → (FW ro).fn f) ∧ K (a.put o.dst undef) w :=
  step_Fp hc hcall hS hr fun v w' h => hK _ w' h

theorem instA_steps {i : AInst} {s s' : St} {f : Ef} (h : instA cx i s = some (s', f)) :
    ((wantF (slotsF s.slots) i.guard = some true ∧ eff cx (evalF (slotsF s.slots)) (getL s.blk) (i.tag) i.op = some f) ∨ (wantF (slotsF s.slots) i.guard = some false ∧ f = ⟨.tup [], [], []⟩)) ∧
    s'.slots.length = s.slots.length ∧ slotsF s'.slots = putF s.slots.length (slotsF s.slots) i.dst f.v ∧ getL s'.blk = updF (getL s.blk) f.up := by
  unfold instA at h
  split at h
  · rename_i hw
    split at h
    · rename_i e he
      simp only [Option.some.injEq, Prod.mk.injEq] at h
      obtain ⟨rfl, rfl⟩ := h
      exact ⟨.inl ⟨hw, he⟩, putS_length _ _ _, slotsF_put _ _ _, getL_upd _ _⟩
    · cases h
  · rename_i hw
    simp only [Option.some.injEq, Prod.mk.injEq] at h
    obtain ⟨rfl, rfl⟩ := h
    exact ⟨.inr ⟨hw, rfl⟩, putS_length _ _ _, slotsF_put _ _ _, rfl⟩
  · cases h

/-- A region in the order of the text. -/
theorem runI_fits {ops : Array Oper} {Q : Exit → Act → World → Prop} (l2 : List Oper) (hcall : CxOK P cx) : ∀ (l : List Oper) (is : List AInst) (s s' : St) (fs : List Ef) (a : Act) (w : World), mapO (compI P s.slots.length off ops) l = some is → runI cx is s = some (s', fs) → SimL w0 ok0 s a w →
    (∀ a' w', SimL w0 ok0 s' a' w' → wpListIn (FW ro) md P ops Q l2 a' w') → wpListIn (FW ro) md P ops Q (l ++ l2) a w
  | [], is, s, s', fs, a, w, hc, hr, hS, hQ => by
    simp only [mapO, Option.some.injEq] at hc; subst hc
    simp only [runI, Option.some.injEq, Prod.mk.injEq] at hr
    obtain ⟨rfl, _⟩ := hr
    exact hQ _ _ hS
  | o :: l, is, s, s', fs, a, w, hc, hr, hS, hQ => by
    simp only [mapO] at hc
    split at hc
    · rename_i i is' hi his
      simp only [Option.some.injEq] at hc; subst hc
      simp only [runI] at hr
      split at hr
      · rename_i s1 f hins
        split at hr
        · rename_i s2 fs' hrest
          simp only [Option.some.injEq, Prod.mk.injEq] at hr
          obtain ⟨rfl, _⟩ := hr
          obtain ⟨h1, h2, h3, h4⟩ := instA_steps hins
          refine wpListIn_step fun K hK => ?_
          refine step_F hi hcall hS h1 fun a' w' hS' => hK a' w' ?_
          refine runI_fits l2 hcall l is' s1 s2 fs' a' w' (by rw [h2]; exact his) hrest ?_ hQ
          unfold SimL
          rw [h2, h3, h4]
          exact hS'
        · cases hr
      · cases hr
    · cases hc
theorem runI_fits0 {ops : Array Oper} {Q : Exit → Act → World → Prop} (hcall : CxOK P cx) (l : List Oper) (is : List AInst) (s s' : St) (fs : List Ef) (a : Act) (w : World) (h1 : mapO (compI P s.slots.length off ops) l = some is) (h2 : runI cx is s = some (s', fs)) (h3 : SimL w0 ok0 s a w)
    (h4 : ∀ a' w', SimL w0 ok0 s' a' w' → Q .normal a' w') : wpListIn (FW ro) md P ops Q l a w := by
  have := runI_fits (ro := ro) (md := md) (ops := ops) (Q := Q) [] hcall l is s s' fs a w h1 h2 h3 h4
  rwa [List.append_nil] at this


/-! ### any order -/
def foldS (N : Nat) (X : Nat → Bool) : List (AInst × Ef) → Nat → (Nat → AV) → Nat → AV
  | [], _, sl => sl
  | x :: r, k, sl => foldS N X r (k + 1) (if X k = true then putF N sl x.1.dst x.2.v else sl)
def foldL (X : Nat → Bool) : List (AInst × Ef) → Nat → (Nat → Option Blk) → Nat → Option Blk
  | [], _, lk => lk
  | x :: r, k, lk => foldL X r (k + 1) (if X k = true then updF lk x.2.up else lk)

theorem putF_ne {sl : Nat → AV} {d : Option Nat} {v : AV} {t : Nat} (h : d ≠ some t) : putF N sl d v t = sl t := by unfold putF; simp [h]
theorem updF_ne : ∀ {up : List (Nat × Blk)} {lk : Nat → Option Blk} {t : Nat}, t ∉ up.map (·.1) → updF lk up t = lk t
  | [], _, _, _ => rfl
  | (s, b) :: up, lk, t, h => by
    simp only [List.map_cons, List.mem_cons, not_or] at h
    simp only [updF]
    rw [updF_ne h.2]; simp [h.1]
theorem updF_eq : ∀ {up : List (Nat × Blk)} {lk lk' : Nat → Option Blk} {t : Nat}, (lk t = lk' t ∨ t ∈ up.map (·.1)) → updF lk up t = updF lk' up t
  | [], _, _, _, h => by simpa [updF] using h
  | (s, b) :: up, lk, lk', t, h => by
    simp only [updF]
    apply updF_eq
    by_cases hs : t = s
    · left; simp [hs]
    · rcases h with h | h
      · left; simp [hs, h]
      · right; simpa [hs] using h

theorem foldS_congr {X Y : Nat → Bool} {t : Nat} : ∀ (its : List (AInst × Ef)) (k : Nat) (sl sl' : Nat → AV), sl t = sl' t → (∀ j x, its[j]? = some x → x.1.dst = some t → X (k + j) = Y (k + j)) → foldS N X its k sl t = foldS N Y its k sl' t
  | [], _, _, _, h, _ => h
  | x :: its, k, sl, sl', h, hw => by
    simp only [foldS]
    refine foldS_congr its (k + 1) _ _ ?_ (fun j y hj hd => by have := hw (j + 1) y (by simpa using hj) hd; rwa [show k + 1 + j = k + (j + 1) by omega])
    by_cases hd : x.1.dst = some t
    · have := hw 0 x rfl hd
      simp only [Nat.add_zero] at this
      rw [this]
      cases Y k
      · exact h
      · show (if x.1.dst = some t ∧ t < N then x.2.v else sl t) = (if x.1.dst = some t ∧ t < N then x.2.v else sl' t)
        split
        · rfl
        · exact h
    · cases X k <;> cases Y k <;> simp [putF_ne hd, h]

theorem foldL_congr {X Y : Nat → Bool} {t : Nat} : ∀ (its : List (AInst × Ef)) (k : Nat) (lk lk' : Nat → Option Blk), lk t = lk' t → (∀ j x, its[j]? = some x → t ∈ x.2.up.map (·.1) → X (k + j) = Y (k + j)) → foldL X its k lk t = foldL Y its k lk' t
  | [], _, _, _, h, _ => h
  | x :: its, k, lk, lk', h, hw => by
    simp only [foldL]
    refine foldL_congr its (k + 1) _ _ ?_ (fun j y hj hd => by have := hw (j + 1) y (by simpa using hj) hd; rwa [show k + 1 + j = k + (j + 1) by omega])
    by_cases hd : t ∈ x.2.up.map (·.1)
    · have := hw 0 x rfl hd
      simp only [Nat.add_zero] at this
      rw [this]
      cases Y k
      · exact h
      · exact updF_eq (.inl h)
    · cases X k <;> cases Y k <;> simp [updF_ne hd, h]

/-- Up to a place, and one more. -/
theorem foldS_upto : ∀ (its : List (AInst × Ef)) (k i : Nat) (sl : Nat → AV) (x : AInst × Ef), its[i]? = some x → foldS N (fun j => decide (j ≤ k + i)) its k sl = putF N (foldS N (fun j => decide (j < k + i)) its k sl) x.1.dst x.2.v
  | [], _, _, _, _, h => by simp at h
  | y :: its, k, 0, sl, x, h => by
    simp only [List.getElem?_cons_zero, Option.some.injEq] at h
    subst h
    simp only [foldS, Nat.add_zero, Nat.le_refl, decide_true, if_true, Nat.lt_irrefl, decide_false, Bool.false_eq_true, if_false]
    have hno : ∀ (its : List (AInst × Ef)) (k' : Nat) (sl : Nat → AV) (X : Nat → Bool), (∀ j, k' ≤ j → X j = false) → foldS N X its k' sl = sl := by
      intro its
      induction its with
      | nil => intro _ _ _ _; rfl
      | cons z its ih => intro k' sl X hX; simp only [foldS, hX k' (Nat.le_refl _), Bool.false_eq_true, if_false]; exact ih _ _ _ fun j hj => hX j (by omega)
    rw [hno its (k + 1) _ _ (fun j hj => by simp; omega), hno its (k + 1) _ _ (fun j hj => by simp; omega)]
  | y :: its, k, i + 1, sl, x, h => by
    simp only [List.getElem?_cons_succ] at h
    simp only [foldS]
    rw [if_pos (by simp), if_pos (by simp)]
    have := foldS_upto its (k + 1) i (putF N sl y.1.dst y.2.v) x h
    rw [show k + 1 + i = k + (i + 1) by omega] at this
    exact this
theorem foldL_upto : ∀ (its : List (AInst × Ef)) (k i : Nat) (lk : Nat → Option Blk) (x : AInst × Ef), its[i]? = some x → foldL (fun j => decide (j ≤ k + i)) its k lk = updF (foldL (fun j => decide (j < k + i)) its k lk) x.2.up
  | [], _, _, _, _, h => by simp at h
  | y :: its, k, 0, lk, x, h => by
    simp only [List.getElem?_cons_zero, Option.some.injEq] at h
    subst h
    simp only [foldL, Nat.add_zero, Nat.le_refl, decide_true, if_true, Nat.lt_irrefl, decide_false, Bool.false_eq_true, if_false]
    have hno : ∀ (its : List (AInst × Ef)) (k' : Nat) (lk : Nat → Option Blk) (X : Nat → Bool), (∀ j, k' ≤ j → X j = false) → foldL X its k' lk = lk := by
      intro its
      induction its with
      | nil => intro _ _ _ _; rfl
      | cons z its ih => intro k' lk X hX; simp only [foldL, hX k' (Nat.le_refl _), Bool.false_eq_true, if_false]; exact ih _ _ _ fun j hj => hX j (by omega)
    rw [hno its (k + 1) _ _ (fun j hj => by simp; omega), hno its (k + 1) _ _ (fun j hj => by simp; omega)]
  | y :: its, k, i + 1, lk, x, h => by
    simp only [List.getElem?_cons_succ] at h
    simp only [foldL]
    rw [if_pos (by simp), if_pos (by simp)]
    have := foldL_upto its (k + 1) i (updF lk y.2.up) x h
    rw [show k + 1 + i = k + (i + 1) by omega] at this
    exact this

/-- What the run in the order of the text says of each operation. -/
theorem runI_steps : ∀ (is : List AInst) (s s' : St) (fs : List Ef), runI cx is s = some (s', fs) → fs.length = is.length ∧ s'.slots.length = s.slots.length ∧
    (∀ k i f, is[k]? = some i → fs[k]? = some f →
      (wantF (foldS s.slots.length (fun j => decide (j < k)) (is.zip fs) 0 (slotsF s.slots)) i.guard = some true ∧ eff cx (evalF (foldS s.slots.length (fun j => decide (j < k)) (is.zip fs) 0 (slotsF s.slots))) (foldL (fun j => decide (j < k)) (is.zip fs) 0 (getL s.blk)) (i.tag) i.op = some f) ∨
      (wantF (foldS s.slots.length (fun j => decide (j < k)) (is.zip fs) 0 (slotsF s.slots)) i.guard = some false ∧ f = ⟨.tup [], [], []⟩)) ∧
    slotsF s'.slots = foldS s.slots.length (fun _ => true) (is.zip fs) 0 (slotsF s.slots) ∧ getL s'.blk = foldL (fun _ => true) (is.zip fs) 0 (getL s.blk)
  | [], s, s', fs, h => by
    simp only [runI, Option.some.injEq, Prod.mk.injEq] at h
    obtain ⟨rfl, rfl⟩ := h
    exact ⟨rfl, rfl, fun k i f hi => by simp at hi, rfl, rfl⟩
  | i :: is, s, s', fs, h => by
    simp only [runI] at h
    split at h
    · rename_i s1 f hins
      split at h
      · rename_i s2 fs' hrest
        simp only [Option.some.injEq, Prod.mk.injEq] at h
        obtain ⟨rfl, rfl⟩ := h
        obtain ⟨h1, h2, h3, h4⟩ := instA_steps hins
        obtain ⟨g1, g2, g3, g4, g5⟩ := runI_steps is s1 s2 fs' hrest
        have shS : ∀ (X : Nat → Bool) (its : List (AInst × Ef)) (k : Nat) (sl : Nat → AV), foldS s.slots.length X its (k + 1) sl = foldS s.slots.length (fun j => X (j + 1)) its k sl := by
          intro X its
          induction its with
          | nil => intro _ _; rfl
          | cons z its ih => intro k sl; simp only [foldS]; rw [ih]
        have shL : ∀ (X : Nat → Bool) (its : List (AInst × Ef)) (k : Nat) (lk : Nat → Option Blk), foldL X its (k + 1) lk = foldL (fun j => X (j + 1)) its k lk := by
          intro X its
          induction its with
          | nil => intro _ _; rfl
          | cons z its ih => intro k lk; simp only [foldL]; rw [ih]
        refine ⟨by simp [g1], g2.trans h2, fun k i' f' hi hf => ?_, ?_, ?_⟩
        · cases k with
          | zero =>
            simp only [List.getElem?_cons_zero, Option.some.injEq] at hi hf
            subst hi; subst hf
            have e1 : foldS s.slots.length (fun j => decide (j < 0)) ((i :: is).zip (f :: fs')) 0 (slotsF s.slots) = slotsF s.slots := by
              funext t
              have := foldS_congr (N := s.slots.length) (X := fun j => decide (j < 0)) (Y := fun _ => false) (t := t) ((i :: is).zip (f :: fs')) 0 (slotsF s.slots) (slotsF s.slots) rfl (fun _ _ _ _ => by simp)
              rw [this]
              have hno : ∀ (its : List (AInst × Ef)) (k' : Nat) (sl : Nat → AV), foldS s.slots.length (fun _ => false) its k' sl = sl := by
                intro its
                induction its with
                | nil => intro _ _; rfl
                | cons z its ih => intro k' sl; simp only [foldS, Bool.false_eq_true, if_false]; exact ih _ _
              rw [hno]
            have e2 : foldL (fun j => decide (j < 0)) ((i :: is).zip (f :: fs')) 0 (getL s.blk) = getL s.blk := by
              funext t
              have := foldL_congr (X := fun j => decide (j < 0)) (Y := fun _ => false) (t := t) ((i :: is).zip (f :: fs')) 0 (getL s.blk) (getL s.blk) rfl (fun _ _ _ _ => by simp)
              rw [this]
              have hno : ∀ (its : List (AInst × Ef)) (k' : Nat) (lk : Nat → Option Blk), foldL (fun _ => false) its k' lk = lk := by
                intro its
                induction its with
                | nil => intro _ _; rfl
                | cons z its ih => intro k' lk; simp only [foldL, Bool.false_eq_true, if_false]; exact ih _ _
              rw [hno]
            rw [e1, e2]
            exact h1
          | succ k =>
            simp only [List.getElem?_cons_succ] at hi hf
            have := g3 k i' f' hi hf
            simp only [List.zip_cons_cons, foldS, foldL, Nat.zero_lt_succ, decide_true, if_true]
            rw [shS, shL]
            simp only [Nat.add_lt_add_iff_right]
            rw [h2, h3, h4] at this
            exact this
        · simp only [List.zip_cons_cons, foldS, if_true]
          rw [shS, g4, h2, h3]
        · simp only [List.zip_cons_cons, foldL, if_true]
          rw [shL, g5, h4]
      · cases h
    · cases h
end

end Go.Proofs.YtmmlolampgnamaaDoor.Ax
