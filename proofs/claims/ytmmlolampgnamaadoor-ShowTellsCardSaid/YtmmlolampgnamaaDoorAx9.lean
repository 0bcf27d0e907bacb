/- Each operation of the model comes to what the abstract interpreter says: structs and arrays compared; arrays sliced; functions made. -/
import Derived.Test.YtmmlolampgnamaaDoorAx8
import Derived.Laws.StructEq
import Derived.ChangeKeysEq
namespace Go.Proofs.YtmmlolampgnamaaDoor.Ax
open Go.RowKit
set_option linter.unusedVariables false
set_option linter.unusedSimpArgs false

section
variable {P : Program} {w0 w : World} {ok0 : Ctx0} {e : En} {lk lk' : Nat → Option Blk} {o : Oper} {a : Act} {cx : Cx} {ev : Operand → AV} {T : Nat} {f : Ef}

theorem eqAll_app {cs1 cs2 : List Cl} : ∀ {l1 l2 : List (Nat × Nat)} {r : Bool}, eqAll (l1 ++ l2) cs1 cs2 = some r → ∃ r1 r2, eqAll l1 cs1 cs2 = some r1 ∧ eqAll l2 cs1 cs2 = some r2 ∧ r = (r1 && r2)
  | [], l2, r, h => ⟨true, r, rfl, h, by simp⟩
  | i :: l1, l2, r, h => by
    simp only [List.cons_append, eqAll] at h
    split at h
    · rename_i x y h1 h2
      split at h
      · rename_i q1 q2 g1 g2
        simp only [Option.some.injEq] at h
        obtain ⟨r1, r2, e1, e2, e3⟩ := eqAll_app g2
        refine ⟨q1 && r1, r2, ?_, e2, ?_⟩
        · simp only [eqAll, h1, h2, g1, e1]
        · rw [← h, e3, Bool.and_assoc]
      · cases h
    · cases h

theorem sub_part {t : TypeId} {vs : Array Value} {o n p k : Nat} (hk : sizeIn P t = some k) (hpk : p + k ≤ n) (h0 : 0 < k) (hvs : o + n ≤ vs.size) :
    (part t (vs.extract o (o + n)) p).run P w = (part t vs (o + p)).run P w := by
  have hs := run_sizeOf (P := P) (w := w) hk
  unfold part
  simp only [Sem.run_bind]
  generalize (isAgg t).run P w = r
  cases r with
  | halt x w' => rfl
  | ok b w' =>
    simp only [Result.andThen_ok]
    cases b
    · simp only [Bool.false_eq_true, if_false]
      have : (vs.extract o (o + n))[p]? = vs[o + p]? := by
        rw [Array.getElem?_extract]
        rw [if_pos (by omega)]
      rw [this]
    · simp only [if_true, Sem.run_bind]
      have hs' : (sizeOf t).run P w' = .ok k w' := run_sizeOf hk
      rw [hs']
      simp only [Result.andThen_ok, Sem.run_pure]
      congr 2
      rw [Array.extract_extract]
      congr 1
      omega

theorem eqCl_inv {q : Nat} {x y : Cl} {b : Bool} (h : eqCl q x y = some b) : (q = 1 ∧ ∃ k n m, x = .d (.int k n) ∧ y = .d (.int k m) ∧ b = (n == m)) ∨ (q = 0 ∧ ∃ p p', x = .d (.bool p) ∧ y = .d (.bool p') ∧ b = (p == p')) ∨
    (q = 2 ∧ ∃ s s', x = .d (.str s) ∧ y = .d (.str s') ∧ b = (s.toList == s'.toList)) := by
  unfold eqCl at h
  split at h
  · split at h
    · rename_i hk
      subst hk
      exact .inl ⟨rfl, _, _, _, rfl, rfl, (Option.some.inj h).symm⟩
    · cases h
  · exact .inr (.inl ⟨rfl, _, _, rfl, rfl, (Option.some.inj h).symm⟩)
  · exact .inr (.inr ⟨rfl, _, _, rfl, rfl, (Option.some.inj h).symm⟩)
  · cases h

theorem scal_eq {t : TypeId} {q : Nat} (hs : (P.underlying t = some .bool ∧ q = 0) ∨ ((∃ k, P.underlying t = some (.int k)) ∧ q = 1) ∨ (P.underlying t = some .string ∧ q = 2)) (hi : ∃ n, sizeIn P t = some n) {off : Nat} {cs1 cs2 : List Cl} {vs1 vs2 : List Value} {r : Bool} (h1 : RCs e w cs1 vs1) (h2 : RCs e w cs2 vs2)
    (hr : eqAll [(off, q)] cs1 cs2 = some r) (m : Nat) : ∃ x y, (part t vs1.toArray off).run P w = .ok x w ∧ (part t vs2.toArray off).run P w = .ok y w ∧ (Op.equalIn (m + 1) t x y).run P w = .ok r w := by
  have hsh : shapeOf P t = some none := by
    obtain ⟨n, hn⟩ := hi
    unfold sizeIn at hn
    cases hh : P.info? t with
    | none => simp [hh] at hn
    | some i => rcases hs with ⟨h, _⟩ | ⟨⟨k, h⟩, _⟩ | ⟨h, _⟩ <;> simp [shapeOf, h, hh]
  simp only [eqAll] at hr
  split at hr
  · rename_i x y hx hy
    split at hr
    · rename_i q1 q2 g1 g2
      simp only [Option.some.injEq] at g2; subst g2
      simp only [Option.some.injEq, Bool.and_true] at hr; subst hr
      obtain ⟨u, hu, hru⟩ := h1.get hx
      obtain ⟨v, hv, hrv⟩ := h2.get hy
      refine ⟨u, v, by simp [part, shape_none hsh, hu], by simp [part, shape_none hsh, hv], ?_⟩
      rcases eqCl_inv g1 with ⟨rfl, k, n, n', rfl, rfl, rfl⟩ | ⟨rfl, p, p', rfl, rfl, rfl⟩ | ⟨rfl, s, s', rfl, rfl, rfl⟩ <;> simp only [RC, RD] at hru hrv <;> subst hru <;> subst hrv
      · rcases hs with ⟨_, h0⟩ | ⟨⟨k2, h⟩, _⟩ | ⟨_, h0⟩
        · cases h0
        · exact run_equalIn_int w m t _ k2 _ _ h
        · cases h0
      · rcases hs with ⟨h, _⟩ | ⟨_, h0⟩ | ⟨_, h0⟩
        · exact run_equalIn_bool' w m t _ _ h
        · cases h0
        · cases h0
      · rcases hs with ⟨_, h0⟩ | ⟨_, h0⟩ | ⟨h, _⟩
        · cases h0
        · cases h0
        · exact run_equalIn_string w m t _ _ h
    · cases hr
  · cases hr

theorem under_fields {t : TypeId} {fs : Array Field} (h : P.underlying t = some (.struct fs)) : P.fieldsOf t = fs := by simp [Program.fieldsOf, h]
theorem cellsOf_size {t : TypeId} {n : Nat} (h : sizeIn P t = some n) : P.cellsOf t = n := by unfold sizeIn at h; simp [Program.cellsOf, h]

theorem run_isAgg_struct {t : TypeId} {fs : Array Field} (h : P.underlying t = some (.struct fs)) : (isAgg t).run P w = .ok true w := by simp [isAgg, run_underlying h]
theorem run_isAgg_array {t : TypeId} {n : Nat} {u : TypeId} (h : P.underlying t = some (.array n u)) : (isAgg t).run P w = .ok true w := by simp [isAgg, run_underlying h]

/-- What is compared cell by cell is what Go compares. -/
theorem eq_cells : ∀ (d : Nat) (t : TypeId) (off : Nat) (l : List (Nat × Nat)), eqCells P d t off = some l → ∀ (m : Nat), d ≤ m → ∀ (cs1 cs2 : List Cl) (vs1 vs2 : List Value) (r : Bool), RCs e w cs1 vs1 → RCs e w cs2 vs2 → eqAll l cs1 cs2 = some r →
    ∀ n, sizeIn P t = some n → off + n ≤ vs1.length → off + n ≤ vs2.length →
    ∃ x y, (part t vs1.toArray off).run P w = .ok x w ∧ (part t vs2.toArray off).run P w = .ok y w ∧ (Op.equalIn m t x y).run P w = .ok r w
  | 0, _, _, _, h => by simp [eqCells] at h
  | d + 1, t, off, l, h => by
    intro m hm cs1 cs2 vs1 vs2 r h1 h2 hr n hn hl1 hl2
    obtain ⟨m, rfl⟩ : ∃ q, m = q + 1 := ⟨m - 1, by omega⟩
    simp only [eqCells] at h
    split at h
    · rename_i hu
      simp only [Option.some.injEq] at h; subst h
      exact scal_eq (.inl ⟨hu, rfl⟩) ⟨n, hn⟩ h1 h2 hr m
    · rename_i k hu
      simp only [Option.some.injEq] at h; subst h
      exact scal_eq (.inr (.inl ⟨⟨k, hu⟩, rfl⟩)) ⟨n, hn⟩ h1 h2 hr m
    · rename_i hu
      simp only [Option.some.injEq] at h; subst h
      exact scal_eq (.inr (.inr ⟨hu, rfl⟩)) ⟨n, hn⟩ h1 h2 hr m
    · rename_i fs hu
      rw [hn] at h
      simp only at h
      split at h
      · rename_i hst
        refine ⟨.agg (vs1.toArray.extract off (off + n)), .agg (vs2.toArray.extract off (off + n)), by simp [part, run_isAgg_struct hu, run_sizeOf hn], by simp [part, run_isAgg_struct hu, run_sizeOf hn], ?_⟩
        rw [run_equalIn_struct w m t _ _ (by rw [under_fields hu]; exact hu) hst, under_fields hu]
        have key : ∀ (fl : List Field) (l : List (Nat × Nat)) (r : Bool), (mapO (fun (f : Field) => match sizeIn P f.type with
          | some k => if f.name ≠ "_" ∧ f.offset + k ≤ n ∧ 0 < k then eqCells P d f.type (off + f.offset) else none
          | none => none) fl).map List.flatten = some l → eqAll l cs1 cs2 = some r →
          (Op.eqFields m (vs1.toArray.extract off (off + n)) (vs2.toArray.extract off (off + n)) fl).run P w = .ok r w := by
          intro fl
          induction fl with
          | nil =>
            intro l r hl hr
            simp only [mapO, Option.map_some, List.flatten_nil, Option.some.injEq] at hl
            subst hl
            simp only [eqAll, Option.some.injEq] at hr
            subst hr
            simp [Op.eqFields]
          | cons fd fl ih =>
            intro l r hl hr
            simp only [mapO] at hl
            split at hl
            · rename_i y ys hy hys
              simp only [Option.map_some, List.flatten_cons, Option.some.injEq] at hl
              subst hl
              obtain ⟨r1, r2, e1, e2, e3⟩ := eqAll_app hr
              split at hy
              · rename_i k hk
                split at hy
                · rename_i hc
                  obtain ⟨hname, hoff, hk0⟩ := hc
                  obtain ⟨x, y', g1, g2, g3⟩ := eq_cells d fd.type (off + fd.offset) y hy m (by omega) cs1 cs2 vs1 vs2 r1 h1 h2 e1 k hk (by omega) (by omega)
                  simp only [Op.eqFields]
                  rw [if_pos hname]
                  simp only [Sem.run_bind]
                  rw [sub_part hk hoff hk0 (by simpa using hl1), g1]
                  simp only [Result.andThen_ok]
                  rw [sub_part hk hoff hk0 (by simpa using hl2), g2]
                  simp only [Result.andThen_ok, g3]
                  cases r1
                  · simp [e3]
                  · simp only [Bool.not_true, Bool.false_eq_true, if_false]
                    rw [ih ys.flatten r2 (by rw [hys]; rfl) e2, e3, Bool.true_and]
                · cases hy
              · cases hy
            · cases hl
        exact key fs.toList l r h hr
      · cases h
    · rename_i len u hu
      rw [hn] at h
      split at h
      · rename_i n' k hn' hk
        simp only [Option.some.injEq] at hn'
        subst hn'
        split at h
        · rename_i hc
          obtain ⟨hlk, hk0⟩ := hc
          refine ⟨.agg (vs1.toArray.extract off (off + n)), .agg (vs2.toArray.extract off (off + n)), by simp [part, run_isAgg_array hu, run_sizeOf hn], by simp [part, run_isAgg_array hu, run_sizeOf hn], ?_⟩
          obtain ⟨i, hi⟩ : ∃ i, P.info? u = some i := by
            unfold sizeIn at hk
            cases hh : P.info? u with
            | none => simp [hh] at hk
            | some i => exact ⟨i, rfl⟩
          rw [run_equalIn_array w m _ _ hu hi, cellsOf_size hk]
          have key : ∀ (is : List Nat) (l : List (Nat × Nat)) (r : Bool), (∀ q ∈ is, q < len) → (mapO (fun i => eqCells P d u (off + i * k)) is).map List.flatten = some l → eqAll l cs1 cs2 = some r →
            (Op.eqItems m u k (vs1.toArray.extract off (off + n)) (vs2.toArray.extract off (off + n)) is).run P w = .ok r w := by
            intro is
            induction is with
            | nil =>
              intro l r _ hl hr
              simp only [mapO, Option.map_some, List.flatten_nil, Option.some.injEq] at hl
              subst hl
              simp only [eqAll, Option.some.injEq] at hr
              subst hr
              simp [Op.eqItems]
            | cons q is ih =>
              intro l r hq hl hr
              simp only [mapO] at hl
              split at hl
              · rename_i y ys hy hys
                simp only [Option.map_some, List.flatten_cons, Option.some.injEq] at hl
                subst hl
                obtain ⟨r1, r2, e1, e2, e3⟩ := eqAll_app hr
                have hql := hq q (by simp)
                have hoff : q * k + k ≤ n := by
                  have : (q + 1) * k ≤ len * k := Nat.mul_le_mul_right _ hql
                  rw [Nat.add_mul] at this; omega
                obtain ⟨x, y', g1, g2, g3⟩ := eq_cells d u (off + q * k) y hy m (by omega) cs1 cs2 vs1 vs2 r1 h1 h2 e1 k hk (by omega) (by omega)
                simp only [Op.eqItems, Sem.run_bind]
                rw [sub_part hk hoff hk0 (by simpa using hl1), g1]
                simp only [Result.andThen_ok]
                rw [sub_part hk hoff hk0 (by simpa using hl2), g2]
                simp only [Result.andThen_ok, g3]
                cases r1
                · simp [e3]
                · simp only [Bool.not_true, Bool.false_eq_true, if_false]
                  rw [ih ys.flatten r2 (fun q' hq' => hq q' (by simp [hq'])) (by rw [hys]; rfl) e2, e3, Bool.true_and]
              · cases hl
          exact key (List.range len) l r (fun q hq => by simpa using hq) h hr
        · cases h
      · cases h
    · cases h

theorem fits_eqs (hM : Mem w0 ok0 e lk w) (hev : ∀ x, RV e w (ev x) (a.eval x)) {x y : Operand} {t t' : TypeId} {n : Nat} {l : List (Nat × Nat)} {neg : Bool} (ho : o.op = .binOp (if neg then .neq else .eql) t x y t') (hg : P.eqGuardType P.depth t = false)
    (hl : eqCells P 20 t 0 = some l) (hn : sizeIn P t = some n) (hagg : (isAgg t).run P w = .ok true w) (he : eff cx ev lk T (.eqs neg n l x y) = some f) : Fits P w0 ok0 e lk w o a f := by
  simp only [eff] at he
  split at he
  · rename_i p q hp hq
    have h1 := hev x
    have h2 := hev y
    rw [hp] at h1; rw [hq] at h2
    obtain ⟨vs1, hv1, hr1⟩ := h1
    obtain ⟨vs2, hv2, hr2⟩ := h2
    split at he
    · rename_i hlen
      cases hr : eqAll l p q with
      | none => simp [hr] at he
      | some r =>
        simp only [hr, Option.map_some, Option.some.injEq] at he; subst he
        have hl1 : vs1.length = n := by rw [← hr1.length]; exact hlen.1
        have hl2 : vs2.length = n := by rw [← hr2.length]; exact hlen.2
        obtain ⟨x', y', g1, g2, g3⟩ := eq_cells (P := P) 20 t 0 l hl 10000 (by omega) p q vs1 vs2 r hr1 hr2 hr n hn (by omega) (by omega)
        have hx' : x' = .agg vs1.toArray := by
          simp only [part, Sem.run_bind, hagg, Result.andThen_ok, if_true, run_sizeOf hn, Sem.run_pure, Nat.zero_add, Result.ok.injEq, and_true] at g1
          rw [← g1]; congr 1; rw [← hl1]; simp
        have hy' : y' = .agg vs2.toArray := by
          simp only [part, Sem.run_bind, hagg, Result.andThen_ok, if_true, run_sizeOf hn, Sem.run_pure, Nat.zero_add, Result.ok.injEq, and_true] at g2
          rw [← g2]; congr 1; rw [← hl2]; simp
        subst hx'; subst hy'
        cases neg
        · refine fits_pure hM (v := .bool r) ?_ (by simp only [RV, RC, RD]; rfl)
          simp only [Bool.false_eq_true, if_false] at ho
          simp only [execOp, ho, Sem.run_bind, hv1, hv2, run_eqGuard_agg w _ t _ _ _ _ hg, Result.andThen_ok, run_eql_struct, g3, Sem.run_pure]
        · refine fits_pure hM (v := .bool (!r)) ?_ (by simp only [RV, RC, RD]; rfl)
          simp only [if_true] at ho
          simp only [execOp, ho, Sem.run_bind, hv1, hv2, run_eqGuard_agg w _ t _ _ _ _ hg, Result.andThen_ok, run_neq_struct, g3, Sem.run_pure]
    · cases he
  · cases he

theorem fits_sliceA (hM : Mem w0 ok0 e lk w) (hev : ∀ x, RV e w (ev x) (a.eval x)) {x hi mx : Operand} {t u : TypeId} {n : Nat} (ho : o.op = .slice t x none (some hi) (some mx))
    (hu : P.underlying t = some (.array n u)) (hs : sizeIn P u = some 1) (he : eff cx ev lk T (.sliceA n 1 x hi mx) = some f) : Fits P w0 ok0 e lk w o a f := by
  have hv := hev x
  simp only [eff] at he
  split at he
  · rename_i t' g j hx
    rw [hx] at hv
    obtain ⟨hg, b, c, E, hb, hv⟩ := hv
    split at he
    · rename_i g' fz cells h m hl hh hm
      split at he
      · rename_i ds hds
        split at he
        · rename_i hc
          obtain ⟨rfl, rfl, h0, h1, hj, _⟩ := hc
          simp only [Option.some.injEq] at he; subst he
          obtain ⟨e2, hx2, hM2, hok⟩ : ∃ e2, Ext e w e2 w ∧ Mem w0 ok0 e2 (updF lk (cond fz [] (freeze lk [t']))) w ∧ (∀ t ∈ [t'], ∀ g fz k b c E, lk t = some ⟨g, fz, k⟩ → e.β t g = some (b, c, E) → e2.ok b) := by
            cases hfz : fz with
            | true =>
              rw [hfz] at hl
              refine ⟨e, Ext.refl _ _, hM, fun t ht g2 fz2 k2 b2 c2 E2 h1 h2 => ?_⟩
              simp only [List.mem_singleton] at ht
              subst ht
              rw [hl] at h1
              simp only [Option.some.injEq, Blk.mk.injEq] at h1
              obtain ⟨rfl, rfl, rfl⟩ := h1
              exact hM.frz t _ _ b2 c2 E2 hl (by simp [live]) h2
            | false =>
              obtain ⟨e2, hx2, hM2, hβ, hG, hok, _⟩ := Mem.freezeL lk [t'] e lk hM (fun t g fz k h => ⟨fz, h⟩) (fun u hu => by simp at hu; subst hu; exact ⟨g', fz, _, hl, by simp [live]⟩)
              exact ⟨e2, hx2, hM2, hok⟩
          obtain ⟨b', c', E', cs, ty, hb', hhp, hr⟩ := hM.box t' g' fz cells hl
          rw [hb] at hb'
          obtain ⟨rfl, rfl, rfl⟩ : b = b' ∧ c = c' ∧ E = E' := by simpa using hb'
          obtain ⟨k1, hk1⟩ : ∃ k, a.eval hi = .int k h := by
            unfold asInt? at hh
            split at hh
            · rename_i k' m' hy
              simp only [Option.some.injEq] at hh; subst hh
              exact ⟨k', rv_int (hev hi) hy⟩
            · cases hh
          obtain ⟨k2, hk2⟩ : ∃ k, a.eval mx = .int k h := by
            unfold asInt? at hm
            split at hm
            · rename_i k' m' hy
              simp only [Option.some.injEq] at hm; subst hm
              exact ⟨k', rv_int (hev mx) hy⟩
            · cases hm
          have hsz : (sizeOf u).run P w = .ok 1 w := run_sizeOf hs
          have hht : (h.toNat : Int) = h := Int.toNat_of_nonneg h0
          intro K Q hK
          refine wp_value (v := .slice (some ⟨b, j, none⟩) h.toNat h.toNat) ?_ (hK e2 w _ hx2 hM2 ?_)
          · have hb2 : ∀ code, (Instr.sliceBound (a.eval mx) n code).run P w = .ok h.toNat w := fun code => by simp [Instr.sliceBound, hk2, asIntOf, h0, h1]
            have hb1 : ∀ code, (Instr.sliceBound (a.eval hi) h.toNat code).run P w = .ok h.toNat w := fun code => by simp [Instr.sliceBound, hk1, asIntOf, h0, hht]
            have hbs : (Instr.sliceBounds false n n none (some (a.eval hi)) (some (a.eval mx))).run P w = .ok (0, h.toNat, h.toNat) w := by
              simp [Instr.sliceBounds, hb1, hb2]
            simp only [execOp, ho, Instr.sliceAt, Sem.run_bind, run_underlying hu, Result.andThen_ok, hv, Instr.sureAddr, Sem.run_pure, Option.map_none, Option.map_some, hbs, hsz, Nat.zero_mul, Nat.sub_zero]
            congr 4
            split
            · rfl
            · simp [Addr.add]
          · obtain ⟨g1, g2⟩ := dsOf_rd hM ((hr.drop j).take n) hds hx2.ok hx2.heap (fun t ht => by simp at ht)
            have hdl : ds.length = n := by
              rw [g1]
              have := hr.length
              simp only [List.length_take, List.length_drop]
              rw [← this]; omega
            have hrl : ((ds.take h.toNat).map fun d => [d]).length = h.toNat := by simp [hdl]; omega
            refine ⟨_, by rw [hrl], fun _ => ⟨_, 1, rfl, hok t' (by simp) g' fz _ b c E hl hb, RDRows.of fun q r hq => ?_⟩⟩
            rw [List.getElem?_map] at hq
            cases hd : (ds.take h.toNat)[q]? with
            | none => simp [hd] at hq
            | some d =>
              simp only [hd, Option.map_some, Option.some.injEq] at hq; subst hq
              refine ⟨rfl, RDRow.of fun j' d' hj' => ?_⟩
              cases j' with
              | succ j' => simp at hj'
              | zero =>
                simp only [List.getElem?_cons_zero, Option.some.injEq] at hj'; subst hj'
                rw [List.getElem?_take] at hd
                split at hd
                · obtain ⟨v, hv', hrd⟩ := g2 q d hd
                  refine ⟨v, ?_, hrd⟩
                  rw [List.getElem?_take, List.getElem?_drop] at hv'
                  split at hv'
                  · rw [add_lit]
                    simp only [World.cell?, hhp, Nat.zero_add, Nat.mul_one, Nat.add_zero]
                    simpa using hv'
                  · cases hv'
                · cases hd
        · cases he
      · cases he
    · cases he
  · cases he

theorem fits_mkfn (hM : Mem w0 ok0 e lk w) (hev : ∀ x, RV e w (ev x) (a.eval x)) {g : FuncId} {first caps : Array Operand} (ho : o.op = .makeFunc (.func g) first caps) (hfi : first.size = 0)
    (he : eff cx ev lk T (.mkfn g caps.toList) = some f) : Fits P w0 ok0 e lk w o a f := by
  simp only [eff] at he
  split at he
  · rename_i l hl
    simp only [Option.some.injEq] at he; subst he
    obtain ⟨hll, hget⟩ := mapO_get hl
    have hlive : ∀ t ∈ l.flatMap (·.2), ∃ g fz k, lk t = some ⟨g, fz, k⟩ ∧ live k := by
      intro t ht
      obtain ⟨p, hp, ht⟩ := List.mem_flatMap.1 ht
      obtain ⟨q, hq, rfl⟩ := List.mem_iff_getElem.1 hp
      have hqc : q < (caps.toList.map ev).length := by rw [← hll]; exact hq
      obtain ⟨y, hy, hcap⟩ := hget q _ (List.getElem?_eq_getElem hqc)
      rw [List.getElem?_eq_getElem hq] at hy
      obtain rfl := Option.some.inj hy
      unfold capOf at hcap
      split at hcap
      · rename_i t' g' hx
        split at hcap
        · rename_i g2 fz cells hlk
          split at hcap
          · rename_i hgg
            split at hcap
            · rename_i ds ts hds
              have := (Option.some.inj hcap)
              rw [← this] at ht
              rcases List.mem_cons.1 ht with rfl | ht
              · exact ⟨_, _, _, hlk, by simp [live]⟩
              · exact dsOf_live hds t ht
            · cases hcap
          · cases hcap
        · cases hcap
      · cases hcap
    obtain ⟨e2, hx2, hM2, hβ, hG, hok, _⟩ := Mem.freezeL lk (l.flatMap (·.2)) e lk hM (fun t g fz k h => ⟨fz, h⟩) hlive
    intro K Q hK
    refine wp_value (v := .func (.func g) #[] (caps.map a.eval)) ?_ (hK e2 w _ hx2 hM2 ?_)
    · have h0 : first.map a.eval = #[] := by apply Array.eq_empty_of_size_eq_zero; simpa using hfi
      simp [execOp, ho, Instr.makeFunc, h0]
    · simp only [RV, RC, RD]
      refine ⟨caps.toList.map a.eval, by congr 1; apply Array.ext'; simp, ?_⟩
      have key : ∀ (cl : List Operand) (l : List (D × List Nat)), mapO (capOf lk) (cl.map ev) = some l → (∀ t ∈ l.flatMap (·.2), ∀ g fz k b c E, lk t = some ⟨g, fz, k⟩ → e.β t g = some (b, c, E) → e2.ok b) → RDList e2.ok w (l.map (·.1)) (cl.map a.eval) := by
        intro cl
        induction cl with
        | nil => intro l h _; simp only [List.map_nil, mapO, Option.some.injEq] at h; subst h; simp [RDList]
        | cons x cl ih =>
          intro l h hok'
          simp only [List.map_cons, mapO] at h
          split at h
          · rename_i y ys hy hys
            simp only [Option.some.injEq] at h; subst h
            simp only [List.map_cons, RDList]
            refine ⟨?_, ih ys hys (fun t ht => hok' t (by simp only [List.flatMap_cons, List.mem_append]; exact .inr ht))⟩
            unfold capOf at hy
            split at hy
            · rename_i t' g' hx
              split at hy
              · rename_i g2 fz cells hlk
                split at hy
                · rename_i hgg
                  subst hgg
                  split at hy
                  · rename_i ds ts hds
                    have hy' := Option.some.inj hy
                    subst hy'
                    have hv := hev x
                    rw [hx] at hv
                    obtain ⟨hgt, b, c, E, hb, hv⟩ := hv
                    obtain ⟨b', c', E', cs, ty, hb', hhp, hr⟩ := hM.box t' g2 fz cells hlk
                    rw [hb] at hb'
                    obtain ⟨rfl, rfl, rfl⟩ : b = b' ∧ c = c' ∧ E = E' := by simpa using hb'
                    simp only [RD]
                    refine ⟨_, hv, hok' t' (by simp) g2 fz _ b c E hlk hb, RDRow.of fun q d hq => ?_⟩
                    obtain ⟨_, g2'⟩ := dsOf_rd hM hr hds hx2.ok hx2.heap (fun t ht g fz k b c E h1 h2 h3 => ⟨hok' t (by simp [ht]) g fz k b c E h1 h3, rfl⟩)
                    obtain ⟨u, hu, hd⟩ := g2' q d hq
                    refine ⟨u, ?_, hd⟩
                    rw [add_lit]
                    simp only [World.cell?, hhp, Nat.zero_add]
                    simpa using hu
                  · cases hy
                · cases hy
              · cases hy
            · cases hy
          · cases h
      exact key caps.toList l hl hok
  · cases he

theorem fits_idxA (hM : Mem w0 ok0 e lk w) (hev : ∀ x, RV e w (ev x) (a.eval x)) {x i : Operand} {t u : TypeId} {len E : Nat} {n : Option Nat} (ho : o.op = .index t x i)
    (hu : P.underlying t = some (.array len u)) (hs : shapeOf P u = some n) (hE : sizeIn P u = some E) (he : eff cx ev lk T (.idxA len E n x i) = some f) : Fits P w0 ok0 e lk w o a f := by
  simp only [eff] at he
  split at he
  · rename_i kd k hi
    have h2 := rv_int (hev i) hi
    split at he
    · rename_i l hx
      have h := hev x
      rw [hx] at h
      obtain ⟨vs, hv, hr⟩ := h
      split at he
      · rename_i h0
        cases hp : pickN n (l.drop (k.toNat * E)) with
        | none => simp [hp] at he
        | some y =>
          simp only [hp, Option.map_some, Option.some.injEq] at he
          subst he
          have hle : k.toNat * E ≤ l.length := by
            rw [h0.2.2]
            exact Nat.mul_le_mul_right _ (by omega)
          obtain ⟨v, hv', hd⟩ := run_part (P := P) hs hr hp hle
          exact fits_pure hM (v := v) (by simp [execOp, ho, Instr.index, run_underlying hu, hv, h2, asIntOf, h0.1, h0.2.1, run_sizeOf hE, hv']) hd
      · cases he
    · cases he
  · cases he

theorem fits_iter (hM : Mem w0 ok0 e lk w) (hev : ∀ x, RV e w (ev x) (a.eval x)) {x : Operand} {t : TypeId} (ho : o.op = .range t x) (hu : P.underlying t = some .string) (he : eff cx ev lk T (.iter x) = some f) : Fits P w0 ok0 e lk w o a f := by
  simp only [eff] at he
  split at he
  · rename_i s hx
    have h1 := rv_str (hev x) hx
    simp only [Option.some.injEq] at he; subst he
    obtain ⟨hx', hM'⟩ := hM.newIter (lk' := updF lk [(T, ⟨genOf lk T + 1, false, .iter s 0⟩)]) T s (fun u => rfl)
    intro K Q hK
    refine wp_value ?_ (hK _ _ _ hx' hM' (rv_bptr hM T _ 1 (1, 0)))
    simp [execOp, ho, h1, Instr.range, run_underlying hu]
  · cases he

theorem fits_next (hM : Mem w0 ok0 e lk w) (hev : ∀ x, RV e w (ev x) (a.eval x)) {x : Operand} (ho : o.op = .next x true) (he : eff cx ev lk T (.next x) = some f) : Fits P w0 ok0 e lk w o a f := by
  simp only [eff] at he
  split at he
  · rename_i t g hx
    have h := hev x
    rw [hx] at h
    obtain ⟨hg, b, c, E, hb, hv⟩ := h
    split at he
    · rename_i g' s pos hl
      split at he
      · rename_i hgg
        subst hgg
        obtain ⟨b', c', E', hb', hh⟩ := hM.iter t g' false s pos hl
        rw [hb] at hb'
        obtain ⟨rfl, rfl, rfl⟩ : b = b' ∧ c = c' ∧ E = E' := by simpa using hb'
        split at he
        · rename_i hlt
          simp only [Option.some.injEq] at he; subst he
          obtain ⟨hx', hM'⟩ := hM.setIter (lk' := updF lk [(t, ⟨g', false, .iter s (pos + (Utf8.decode s pos).2)⟩)]) t g' s pos _ b c E hl hb (fun u => rfl)
          intro K Q hK
          refine wp_value (v := .tuple #[.bool true, .int .i64 pos, .int .i32 (Utf8.decode s pos).1]) ?_ (hK _ _ _ hx' hM' ⟨[.bool true, .int .i64 pos, .int .i32 (Utf8.decode s pos).1], rfl, ?_⟩)
          · simp [execOp, ho, hv, Instr.next, getObj, setObj, Sem.run, hh, Result.andThen, hlt, goInt, iterAt]
          · exact ⟨by simp only [R1, RC, RD], by simp only [R1, RC, RD], by simp only [R1, RC, RD], trivial⟩
        · rename_i hlt
          simp only [Option.some.injEq] at he; subst he
          exact fits_pure hM (v := .tuple #[.bool false]) (by simp [execOp, ho, hv, Instr.next, getObj, Sem.run, hh, Result.andThen, hlt]) ⟨[.bool false], rfl, by simp only [R1, RC, RD], trivial⟩
      · cases he
    · cases he
  · cases he

theorem fits_ofRune (hM : Mem w0 ok0 e lk w) (hev : ∀ x, RV e w (ev x) (a.eval x)) {x : Operand} {src dst : TypeId} {k : IntKind} (ho : o.op = .convert src dst x) (hs : P.underlying src = some (.int k)) (hd : P.underlying dst = some .string)
    (he : eff cx ev lk T (.ofRune x) = some f) : Fits P w0 ok0 e lk w o a f := by
  simp only [eff] at he
  split at he
  · rename_i kd n hx
    have h1 := rv_int (hev x) hx
    simp only [Option.some.injEq] at he; subst he
    exact fits_pure hM (v := .string (Utf8.encode n)) (by simp [execOp, ho, h1, convert, run_underlying hs, run_underlying hd, Conv.intToString]) (by simp only [RV, RC, RD])
  · cases he

theorem intRow_some {k : IntKind} {r : List D} {n : Int} (h : intRow k r = some n) : r = [.int k n] := by
  unfold intRow at h
  split at h
  · split at h
    · rename_i hk; cases h; rw [hk]
    · cases h
  · cases h
theorem mapO_rows {k : IntKind} : ∀ {rows : List (List D)} {ns : List Int}, mapO (intRow k) rows = some ns → rows = ns.map fun n => [D.int k n]
  | [], ns, h => by simp only [mapO, Option.some.injEq] at h; subst h; rfl
  | r :: rs, ns, h => by
    simp only [mapO] at h
    split at h
    · rename_i x xs h1 h2
      simp only [Option.some.injEq] at h; subst h
      rw [intRow_some h1, mapO_rows h2]; rfl
    · cases h
/-- A slice of numbers, as a conversion finds it. -/
theorem src_ints (hM : Mem w0 ok0 e lk w) {y : AV} {v : Value} {k : IntKind} {rows : List (List D)} {ts : List Nat} {ns : List Int} (hv : RV e w y v) (hs : srcOf lk y = some (rows, ts)) (hn : mapO (intRow k) rows = some ns) :
    ∃ (A : Option Addr) (c : Nat), v = .slice A ns.length c ∧ (A = none → ns = []) ∧ ∀ ad, A = some ad → (loadCells ad ns.length).run P w = .ok (ns.map (Value.int k)).toArray w := by
  have hrows := mapO_rows hn
  have hall : rows.all (fun r => r.length == 1) = true := by rw [hrows]; simp
  have hlen : rows.length = ns.length := by rw [hrows]; simp
  obtain ⟨A, c, vals, h1, h2, h3, h4⟩ := src_cells (P := P) hM hv hs hall
  have hvals : vals = ns.map (Value.int k) := by
    apply List.ext_getElem?
    intro i
    rcases Nat.lt_or_ge i ns.length with hi | hi
    · have hr : rows[i]? = some [D.int k ns[i]] := by rw [hrows, List.getElem?_map, List.getElem?_eq_getElem hi]; rfl
      obtain ⟨_, h⟩ := h3 i _ hr
      obtain ⟨u, hu, hd⟩ := h 0 _ rfl
      rw [Nat.mul_one, Nat.add_zero] at hu
      simp only [RD] at hd
      rw [hu, hd, List.getElem?_map, List.getElem?_eq_getElem hi]; rfl
    · rw [List.getElem?_eq_none (by omega), List.getElem?_eq_none (by simpa using hi)]
  have h4 := h4 w rfl
  rw [hlen] at h1 h4
  subst h1 hvals
  refine ⟨A, c, rfl, fun hA => ?_, fun ad hA => ?_⟩
  · subst hA
    cases ns with
    | nil => rfl
    | cons n ns => simp [Builtin.firstCells] at h4
  · subst hA
    simpa [Builtin.firstCells] using h4

theorem fits_ofRunes (hM : Mem w0 ok0 e lk w) (hev : ∀ x, RV e w (ev x) (a.eval x)) {x : Operand} {src dst u : TypeId} (ho : o.op = .convert src dst x) (hs : P.underlying src = some (.slice u)) (hu : P.underlying u = some (.int .i32)) (hd : P.underlying dst = some .string)
    (he : eff cx ev lk T (.ofRunes x) = some f) : Fits P w0 ok0 e lk w o a f := by
  simp only [eff] at he
  split at he
  · rename_i rows ts hsr
    cases hm : mapO (intRow .i32) rows with
    | none => simp [hm] at he
    | some ns =>
      simp only [hm, Option.map_some, Option.some.injEq] at he; subst he
      obtain ⟨A, c, h1, h2, h3⟩ := src_ints (P := P) hM (hev x) hsr hm
      refine fits_pure hM (v := .string (runesBytes ns)) ?_ (by simp only [RV, RC, RD])
      have key : (convert src dst (.slice A ns.length c)).run P w = .ok (.string (runesBytes ns)) w := by
        cases A with
        | none => rw [h2 rfl]; exact run_convert_runes_nil w src dst u _ _ hs hu hd
        | some ad => rw [run_convert_runes_string w src dst u _ _ _ hs hu hd]; exact run_runesToString w ad _ c ns (h3 ad rfl)
      simp [execOp, ho, h1, key]
  · cases he

theorem fits_ofBytes (hM : Mem w0 ok0 e lk w) (hev : ∀ x, RV e w (ev x) (a.eval x)) {x : Operand} {src dst u : TypeId} (ho : o.op = .convert src dst x) (hs : P.underlying src = some (.slice u)) (hu : P.underlying u = some (.int .u8)) (hd : P.underlying dst = some .string)
    (he : eff cx ev lk T (.ofBytes x) = some f) : Fits P w0 ok0 e lk w o a f := by
  simp only [eff] at he
  split at he
  · rename_i rows ts hsr
    cases hm : mapO (intRow .u8) rows with
    | none => simp [hm] at he
    | some ns =>
      simp only [hm, Option.map_some, Option.some.injEq] at he; subst he
      obtain ⟨A, c, h1, h2, h3⟩ := src_ints (P := P) hM (hev x) hsr hm
      refine fits_pure hM (v := .string (strOfNums ns)) ?_ (by simp only [RV, RC, RD])
      have key : (convert src dst (.slice A ns.length c)).run P w = .ok (.string (strOfNums ns)) w := by
        cases A with
        | none => rw [h2 rfl]; exact run_convert_bytes_nil w src u hs hu _ _ dst hd
        | some ad =>
          rw [run_convert_bytes_string w src dst u _ _ _ hs hu hd, run_bytesToString w ad _ c ns (h3 ad rfl), foldl_push_bytes]
          simp [strOfNums, ByteArray.empty, ByteArray.emptyWithCapacity]
          rfl
      simp [execOp, ho, h1, key]
  · cases he

theorem bytesR_rep (s : ByteArray) (w : World) (ok : Nat → Prop) (pad : List Value) : ∀ (i : Nat) (r : List D), (bytesR s)[i]? = some r → r.length = 1 ∧ ∀ (j : Nat) (x : D), r[j]? = some x → ∃ u, (s.data.map (fun b => Value.int .u8 b.toNat) ++ pad.toArray)[i * 1 + j]? = some u ∧ RD ok w x u := by
  intro i r hi
  unfold bytesR at hi
  rw [List.getElem?_map] at hi
  cases hb : s.data.toList[i]? with
  | none => rw [hb] at hi; cases hi
  | some b =>
    rw [hb] at hi
    simp only [Option.map_some, Option.some.injEq] at hi
    subst hi
    refine ⟨rfl, fun j x hj => ?_⟩
    cases j with
    | succ j => simp at hj
    | zero =>
      simp only [List.getElem?_cons_zero, Option.some.injEq] at hj
      subst hj
      have hlt : i < s.data.size := by
        have := (List.getElem?_eq_some_iff.1 hb).1
        simpa using this
      refine ⟨.int .u8 b.toNat, ?_, by simp only [RD]⟩
      have hb2 : s.data[i] = b := by
        have := (List.getElem?_eq_some_iff.1 hb).2
        simpa using this
      rw [Nat.mul_one, Nat.add_zero, Array.getElem?_append_left (by simpa using hlt), Array.getElem?_map, Array.getElem?_eq_getElem hlt, hb2]
      rfl

theorem freeze_alloc (w : World) (cs : Array Value) (ty : TypeId) (n : Nat) : (w.alloc (.cells cs ty)).freeze ⟨w.heap.size, n, none⟩ 1 = w.alloc (.cells cs ty (n, n + 1)) := by
  unfold World.freeze World.alloc
  rw [if_neg (by decide)]
  congr 1
  apply Array.ext_getElem?
  intro j
  simp only [Array.getElem?_modify, Array.getElem?_push]
  by_cases h : w.heap.size = j
  · subst h; simp
  · have h' : ¬ j = w.heap.size := fun e => h e.symm
    simp [h, h']

theorem fits_toBytes (hM : Mem w0 ok0 e lk w) (hev : ∀ x, RV e w (ev x) (a.eval x)) {x : Operand} {src dst u : TypeId} (ho : o.op = .convert src dst x) (hs : P.underlying src = some .string) (hd : P.underlying dst = some (.slice u)) (hu : P.underlying u = some (.int .u8))
    (he : eff cx ev lk T (.toBytes x) = some f) : Fits P w0 ok0 e lk w o a f := by
  simp only [eff] at he
  split at he
  · rename_i s hx
    have hv := hev x
    rw [hx] at hv
    simp only [RV, RC, RD] at hv
    split at he
    · rename_i hsz
      simp only [Option.some.injEq] at he; subst he
      obtain ⟨c, hc, hch⟩ := run_choose_cap (P := P) w s.size 0 u (by omega)
      have hl : (bytesR s).length = s.size := by simp [bytesR]
      generalize hcs : s.data.map (fun b => Value.int .u8 b.toNat) ++ Array.replicate (c - s.size) (Value.int .u8 0) = cs
      have hcsz : cs.size = c * 1 := by
        rw [← hcs]
        have : s.data.size = s.size := rfl
        simp; omega
      have hMd := hM.drew
      have hrep : ∀ (i : Nat) (r : List D), (bytesR s)[i]? = some r → r.length = 1 ∧ ∀ (j : Nat) (x : D), r[j]? = some x → ∃ u, cs[i * 1 + j]? = some u ∧ RD e.ok w.drew x u := by
        intro i r hi
        have := bytesR_rep s w.drew e.ok (List.replicate (c - s.size) (Value.int .u8 0)) i r hi
        rw [← hcs]
        simpa using this
      obtain ⟨hx', hM'⟩ := hMd.newArrF (lk' := updF lk [(T, ⟨genOf lk T + 1, false, .arr 1 (bytesR s)⟩)]) (c, c + 1) T 1 c (bytesR s) cs u (.inl (by rw [hcsz]; simp)) (by decide) hcsz (by rw [hl]; exact hc) hrep (fun q => rfl)
      intro K Q hK
      refine wp_value ?_ (hK _ _ (.slice (some ⟨w.drew.heap.size, 0, none⟩) s.size c) ((Ext.drew e w).trans hx') hM' ?_)
      · have hsh : ∀ W : World, (Go.shape w.drew.heap.size).run P W = .ok (W.shape? w.drew.heap.size) W := fun W => rfl
        have hsp : (w.drew.alloc (.cells cs u)).shape? w.drew.heap.size = some (u, c) := by
          simp only [World.shape?, alloc_new]
          rw [hcsz, Nat.mul_one]
        have key : (convert src dst (.string s)).run P w = .ok (.slice (some ⟨w.drew.heap.size, 0, none⟩) s.size c) (w.drew.alloc (.cells cs u (c, c + 1))) := by
          have e1 : (convert src dst (.string s)).run P w = (Conv.stringToBytes u s).run P w := by
            simp [convert, run_underlying hs, run_underlying hd, run_underlying hu]
          rw [e1]
          unfold Conv.stringToBytes
          simp only [Sem.run_bind, hch, Result.andThen_ok, hcs]
          have e2 : (newRow u cs).run P w.drew = .ok ⟨w.drew.heap.size, 0, none⟩ (w.drew.alloc (.cells cs u)) := by simp [newRow]; rfl
          rw [e2]
          simp only [Result.andThen_ok, markStringish, Sem.run_bind, hsh, hsp]
          have e3 : ∀ W : World, (Go.freeze { block := w.drew.heap.size, off := c } 1).run P W = .ok () (W.freeze ⟨w.drew.heap.size, c, none⟩ 1) := fun W => rfl
          rw [e3, freeze_alloc]
          rfl
        simp [execOp, ho, hv, key]
      · rw [hl]; exact rv_own T w.drew.heap.size c 1 s.size hc
    · cases he
  · cases he

end

end Go.Proofs.YtmmlolampgnamaaDoor.Ax
