/- Each operation of the model comes to what the abstract interpreter says: more that leave memory as it is. -/
import Derived.Test.YtmmlolampgnamaaDoorAx3
import Derived.Laws.Build
namespace Go.Proofs.YtmmlolampgnamaaDoor.Ax
open Go.RowKit
set_option linter.unusedVariables false
set_option linter.unusedSimpArgs false

section
variable {P : Program} {w0 w : World} {ok0 : Ctx0} {e : En} {lk : Nat → Option Blk} {o : Oper} {a : Act} {cx : Cx} {ev : Operand → AV} {T : Nat} {f : Ef}

theorem fits_idxS (hM : Mem w0 ok0 e lk w) (hev : ∀ x, RV e w (ev x) (a.eval x)) {x i : Operand} {t : TypeId} (ho : o.op = .index t x i)
    (hu : P.underlying t = some .string) (he : eff cx ev lk T (.idxS x i) = some f) : Fits P w0 ok0 e lk w o a f := by
  simp only [eff] at he
  split at he
  · rename_i s k m hx hi
    have h1 := rv_str (hev x) hx
    have h2 := rv_int (hev i) hi
    split at he
    · rename_i h0
      split at he
      · rename_i b hb
        simp only [Option.some.injEq] at he; subst he
        exact fits_pure hM (v := .int .u8 b.toNat) (by simp [execOp, ho, Instr.index, run_underlying hu, h1, h2, asIntOf, h0, hb]) (by simp only [RV, RC, RD])
      · cases he
    · cases he
  · cases he

theorem fits_minmax (hM : Mem w0 ok0 e lk w) (hev : ∀ x, RV e w (ev x) (a.eval x)) {mx : Bool} {x : Operand} {xs : List Operand} {ts : Array TypeId} (ho : o.op = .call { callee := .builtin (if mx then .max else .min), args := (x :: xs).toArray, argTypes := ts })
    (he : eff cx ev lk T (.minmax mx x xs) = some f) : Fits P w0 ok0 e lk w o a f := by
  simp only [eff] at he
  split at he
  · rename_i k n hx
    have h1 := rv_int (hev x) hx
    split at he
    · rename_i l hl
      simp only [Option.some.injEq] at he; subst he
      have key : ∀ (xs : List Operand) (l : List Int) (n : Int), mapO asInt? (xs.map ev) = some l →
          (((xs.map a.eval).foldlM (if mx then Builtin.max2 else Builtin.min2) (Value.int k n)).run P w = .ok (.int k (l.foldl (fun a b => if mx then (if b > a then b else a) else (if b < a then b else a)) n)) w) := by
        intro xs
        induction xs with
        | nil => intro l n h; simp [mapO] at h; subst h; simp
        | cons y ys ih =>
          intro l n h
          simp only [List.map_cons, mapO] at h
          split at h
          · rename_i m ms hm hms
            simp only [Option.some.injEq] at h; subst h
            have hy : ∃ k', a.eval y = .int k' m := by
              unfold asInt? at hm
              split at hm
              · rename_i k' m' hy
                simp only [Option.some.injEq] at hm; subst hm
                exact ⟨k', rv_int (hev y) hy⟩
              · cases hm
            obtain ⟨k', hy⟩ := hy
            cases mx
            · simp only [List.map_cons, List.foldlM_cons, Sem.run_bind, hy, Builtin.min2, Sem.run_pure, Result.andThen_ok, Bool.false_eq_true, if_false, List.foldl_cons]
              exact ih ms _ hms
            · simp only [List.map_cons, List.foldlM_cons, Sem.run_bind, hy, Builtin.max2, Sem.run_pure, Result.andThen_ok, if_true, List.foldl_cons]
              exact ih ms _ hms
          · cases h
      have := key xs l n hl
      refine fits_pure hM (v := .int k (l.foldl (fun a b => if mx then (if b > a then b else a) else (if b < a then b else a)) n)) ?_ (by simp only [RV, RC, RD])
      cases mx
      · simp only [Bool.false_eq_true, if_false] at this ho
        simp [execOp, ho, resolve, invoke, builtin, Builtin.min_, h1, this]
      · simp only [if_true] at this ho
        simp [execOp, ho, resolve, invoke, builtin, Builtin.max_, h1, this]
    · cases he
  · cases he

theorem fits_nilchk (hM : Mem w0 ok0 e lk w) (hev : ∀ x, RV e w (ev x) (a.eval x)) {x : Operand} (ho : o.op = .nilCheck x) (he : eff cx ev lk T (.nilchk x) = some f) : Fits P w0 ok0 e lk w o a f := by
  have h := hev x
  simp only [eff] at he
  split at he
  · rename_i t g j hx
    simp only [Option.some.injEq] at he; subst he
    rw [hx] at h
    have h' := h
    obtain ⟨hg, b, c, E, hb, hv⟩ := h
    exact fits_pure hM (v := a.eval x) (by simp [execOp, ho, hv]) h'
  · rename_i t g i j hx
    simp only [Option.some.injEq] at he; subst he
    rw [hx] at h
    have h' := h
    obtain ⟨hg, b, c, E, hb, hv⟩ := h
    exact fits_pure hM (v := a.eval x) (by simp [execOp, ho, hv]) h'
  · rename_i l hx
    simp only [Option.some.injEq] at he; subst he
    rw [hx] at h
    have h' := h
    simp only [RV, RC, RD] at h
    obtain ⟨ad, hv, _⟩ := h
    exact fits_pure hM (v := a.eval x) (by simp [execOp, ho, hv]) h'
  · rename_i g l hx
    simp only [Option.some.injEq] at he; subst he
    rw [hx] at h
    have h' := h
    simp only [RV, RC, RD] at h
    obtain ⟨vs, hv, _⟩ := h
    exact fits_pure hM (v := a.eval x) (by simp [execOp, ho, hv]) h'
  · cases he

theorem rc_one {y : Cl} {v : Value} (h : RC e w y v) (ht : y.told = true) : v.oneCell' = true ∧ v.cells = #[v] := by
  have key : v.oneCell' = true := by
    cases y with
    | d x => cases x <;> simp only [RC, RD] at h
             case int => subst h; rfl
             case bool => subst h; rfl
             case str => subst h; rfl
             case sl => obtain ⟨A, c, h, _⟩ := h; subst h; rfl
             case rptr => obtain ⟨A, h, _⟩ := h; subst h; rfl
             case nilp => subst h; rfl
             case nilf => subst h; rfl
             case fn => obtain ⟨A, h, _⟩ := h; subst h; rfl
    | undef => simp [Cl.told] at ht
    | nil => simp only [RC] at h; subst h; rfl
    | clip rows => obtain ⟨A, h, _⟩ := h; subst h; rfl
    | own t g n =>
      obtain ⟨_, h⟩ := h
      split at h
      · rw [h.2]; rfl
      · rw [h.2.2]; rfl
    | bptr t g j => obtain ⟨_, b, c, E, _, h⟩ := h; subst h; rfl
    | aptr t g i j => obtain ⟨_, b, c, E, _, h⟩ := h; subst h; rfl
  refine ⟨key, ?_⟩
  cases v <;> simp_all [Value.oneCell', Value.cells]

/-- What a value's cells are, where all of them are told. -/
theorem rv_told {x : AV} {v : Value} {l : List Cl} (h : RV e w x v) (hl : cellsOf x = some l) (ht : l.all Cl.told = true) : RCs e w l v.cells.toList ∧ ∀ u ∈ v.cells.toList, u.oneCell' = true := by
  have one : ∀ (l : List Cl) (vs : List Value), RCs e w l vs → l.all Cl.told = true → ∀ u ∈ vs, u.oneCell' = true := by
    intro l
    induction l with
    | nil => intro vs h _ u hu; cases vs with
      | nil => simp at hu
      | cons _ _ => exact h.elim
    | cons y l ih => intro vs h ht u hu; cases vs with
      | nil => exact h.elim
      | cons v vs =>
        simp only [List.all_cons, Bool.and_eq_true] at ht
        rcases List.mem_cons.1 hu with rfl | hu
        · exact (rc_one h.1 ht.1).1
        · exact ih vs h.2 ht.2 u hu
  cases x with
  | c y =>
    simp only [cellsOf, Option.some.injEq] at hl
    subst hl
    simp only [List.all_cons, List.all_nil, Bool.and_true] at ht
    obtain ⟨h1, h2⟩ := rc_one h ht
    rw [h2]
    exact ⟨⟨h, trivial⟩, fun u hu => by simp at hu; subst hu; exact h1⟩
  | agg cs =>
    simp only [cellsOf, Option.some.injEq] at hl
    subst hl
    obtain ⟨vs, hv, hr⟩ := h
    subst hv
    have hr' : RCs e w cs (Value.agg vs.toArray).cells.toList := by simpa [Value.cells] using hr
    exact ⟨hr', one _ _ hr' ht⟩
  | tup _ => simp [cellsOf] at hl

/-! ### slices -/
theorem run_bound {x : Operand} {l : Int} {n : Nat} {code : BoundsCode} (hx : asInt? (ev x) = some l) (hev : ∀ x, RV e w (ev x) (a.eval x)) (h0 : 0 ≤ l) (h1 : l ≤ n) : (Instr.sliceBound (a.eval x) n code).run P w = .ok l.toNat w := by
  unfold asInt? at hx
  split at hx
  · rename_i k m hx'
    simp only [Option.some.injEq] at hx; subst hx
    have := rv_int (hev x) hx'
    simp [Instr.sliceBound, this, asIntOf, h0, h1]
  · cases hx

/-- The bounds of a slice expression. -/
theorem run_bounds {lo hi : Option Operand} {l h : Int} {len cap : Nat} (sl : Bool) (hev : ∀ x, RV e w (ev x) (a.eval x)) (hl : boundOr ev 0 lo = some l) (hh : boundOr ev len hi = some h) (h0 : 0 ≤ l) (h1 : l ≤ h) (h2 : h ≤ len) (h3 : len ≤ cap) :
    (Instr.sliceBounds sl len cap (lo.map a.eval) (hi.map a.eval) none).run P w = .ok (l.toNat, h.toNat, cap) w := by
  have hb : ∀ (y : Operand) (q : Int) (n : Nat) (code : BoundsCode), asInt? (ev y) = some q → 0 ≤ q → q ≤ n → (Instr.sliceBound (a.eval y) n code).run P w = .ok q.toNat w := fun y q n code hq g0 g1 => run_bound hq hev g0 g1
  cases lo with
  | none =>
    simp only [boundOr, Option.some.injEq] at hl
    subst hl
    cases hi with
    | none =>
      simp only [boundOr, Option.some.injEq] at hh
      subst hh
      simp [Instr.sliceBounds]
    | some y =>
      simp only [boundOr] at hh
      have := fun code => hb y h cap code hh (by omega) (by omega)
      simp [Instr.sliceBounds, this]
  | some z =>
    simp only [boundOr] at hl
    cases hi with
    | none =>
      simp only [boundOr, Option.some.injEq] at hh
      subst hh
      have h1' := fun code => hb z l len code hl h0 h1
      simp [Instr.sliceBounds, h1']
    | some y =>
      simp only [boundOr] at hh
      have h1' := fun code => hb y h cap code hh (by omega) (by omega)
      have h2' := fun code => hb z l h.toNat code hl h0 (by omega)
      simp [Instr.sliceBounds, h1', h2']

theorem sliceD_some {rows r : List (List D)} {l h : Int} (hs : sliceD rows l h = some r) : 0 ≤ l ∧ l ≤ h ∧ h ≤ rows.length ∧ r = (rows.take h.toNat).drop l.toNat := by
  unfold sliceD at hs
  split at hs
  · rename_i hc
    exact ⟨hc.1, hc.2.1, hc.2.2, (Option.some.inj hs).symm⟩
  · cases hs

/-- A piece of rows, behind a slice's new beginning. -/
theorem rows_piece {ok : Nat → Prop} {ad : Addr} {E : Nat} {rows : List (List D)} (hr : RDRows ok w ad E rows 0) (hk : ok ad.block) (l h : Nat) (m cap : Nat) (hm : m = cap - l) (hlh : l ≤ h) (hc : h ≤ rows.length) (hcap : rows.length ≤ cap) :
    RD ok w (.sl ((rows.take h).drop l)) (.slice (if cap = l then some ad else some (ad.add (l * E))) (h - l) m) := by
  simp only [RD]
  have hlen : ((rows.take h).drop l).length = h - l := by simp; omega
  refine ⟨_, _, by rw [hlen], by rw [hlen]; omega, fun hne => ?_⟩
  have hlt : l < h := by
    rcases Nat.lt_or_ge l h with h' | h'
    · exact h'
    · exact absurd (List.eq_nil_of_length_eq_zero (by rw [hlen]; omega)) hne
  rw [if_neg (by omega)]
  refine ⟨_, E, rfl, by rw [add_block]; exact hk, RDRows.of fun i r hi => ?_⟩
  rw [List.getElem?_drop, List.getElem?_take] at hi
  split at hi
  · obtain ⟨h1, h2⟩ := hr.get hi
    refine ⟨h1, RDRow.of fun j x hj => ?_⟩
    obtain ⟨u, h3, h4⟩ := h2.get hj
    refine ⟨u, ?_, h4⟩
    rw [← h3]
    congr 1
    have e : (0 + (l + i)) * E + j = l * E + ((0 + i) * E + j) := by rw [Nat.zero_add, Nat.zero_add, Nat.add_mul]; omega
    rw [e]
    generalize l * E = p
    generalize (0 + i) * E + j = q
    unfold Addr.add
    by_cases hp : p = 0
    · simp [hp]
    · by_cases hq : q = 0
      · simp [hp, hq]
      · simp [hp, hq]; omega
  · cases hi

theorem fits_sliceS (hM : Mem w0 ok0 e lk w) (hev : ∀ x, RV e w (ev x) (a.eval x)) {x : Operand} {lo hi : Option Operand} {t : TypeId} (ho : o.op = .slice t x lo hi none)
    (hu : P.underlying t = some .string) (he : eff cx ev lk T (.sliceS x lo hi) = some f) : Fits P w0 ok0 e lk w o a f := by
  simp only [eff] at he
  unfold sliceSE at he
  split at he
  · rename_i s hx
    have h1 := rv_str (hev x) hx
    split at he
    · rename_i l h hl hh
      split at he
      · rename_i hc
        simp only [Option.some.injEq] at he; subst he
        refine fits_pure hM (v := .string (s.extract l.toNat h.toNat)) ?_ (by simp only [RV, RC, RD])
        have := run_bounds (P := P) (w := w) false hev hl hh hc.1 hc.2.1 hc.2.2 (Nat.le_refl _)
        simp [execOp, ho, Instr.sliceAt, Instr.slice, run_underlying hu, h1, this]
      · cases he
    · cases he
  · cases he
end

end Go.Proofs.YtmmlolampgnamaaDoor.Ax
