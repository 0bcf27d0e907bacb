/- Each operation of the model comes to what the abstract interpreter says: those that make memory. -/
import Derived.Test.YtmmlolampgnamaaDoorAx5
import Derived.Laws.Tables
namespace Go.Proofs.YtmmlolampgnamaaDoor.Ax
open Go.RowKit
set_option linter.unusedVariables false
set_option linter.unusedSimpArgs false

section
variable {P : Program} {w0 w : World} {ok0 : Ctx0} {e : En} {lk : Nat → Option Blk} {o : Oper} {a : Act} {cx : Cx} {ev : Operand → AV} {T : Nat} {f : Ef}

theorem ofVal_rc {v : Value} {x : Cl} (h : ofVal v = some x) : RC e w x v ∧ x.told = true := by
  unfold ofVal at h
  split at h <;> first
    | (obtain rfl := Option.some.inj h; exact ⟨by simp only [RC, RD], rfl⟩)
    | cases h

theorem mapO_val {vs : List Value} : ∀ {xs : List Cl}, mapO ofVal vs = some xs → RCs e w xs vs ∧ xs.all Cl.told = true := by
  induction vs with
  | nil => intro xs h; simp only [mapO, Option.some.injEq] at h; subst h; exact ⟨trivial, rfl⟩
  | cons v vs ih =>
    intro xs h
    simp only [mapO] at h
    split at h
    · rename_i y ys h1 h2
      simp only [Option.some.injEq] at h; subst h
      obtain ⟨g1, g2⟩ := ofVal_rc (e := e) (w := w) h1
      obtain ⟨g3, g4⟩ := ih h2
      exact ⟨⟨g1, g3⟩, by simp [g2, g4]⟩
    · cases h

theorem zeroC_some {t : TypeId} {z : List Cl} (h : zeroC P t = some z) : ∃ i v, P.info? t = some i ∧ i.zero = some v ∧ mapO ofVal v.cells.toList = some z := by
  unfold zeroC at h
  split at h
  · rename_i i hi
    split at h
    · rename_i v hv
      exact ⟨i, v, hi, hv, h⟩
    · cases h
  · cases h

theorem run_zeroValue {t : TypeId} {i : TypeInfo} {v : Value} (hi : P.info? t = some i) (hv : i.zero = some v) : (zeroValue t).run P w = .ok v w := by
  simp [zeroValue, typeInfo, hi, hv]

theorem rv_bptr (hM : Mem w0 ok0 e lk w) (T b c : Nat) (E : Nat × Nat) {w' : World} : RV (e.with_ lk T b c E) w' (.c (.bptr T (genOf lk T + 1) 0)) (.pointer (some ⟨b, 0, none⟩)) :=
  ⟨by simp [En.with_], b, c, E, En.with_at T b c E, rfl⟩

theorem fits_alloc (hM : Mem w0 ok0 e lk w) {t : TypeId} {z : List Cl} (ho : o.op = .alloc t) (hz : zeroC P t = some z) (he : eff cx ev lk T (.alloc z) = some f) : Fits P w0 ok0 e lk w o a f := by
  simp only [eff, Option.some.injEq] at he; subst he
  obtain ⟨i, v, hi, hv, hm⟩ := zeroC_some hz
  obtain ⟨hr, _⟩ := mapO_val (e := e) (w := w) hm
  obtain ⟨hx, hM'⟩ := hM.newBox (lk' := updF lk [(T, ⟨genOf lk T + 1, false, .box z⟩)]) T z v.cells.toList t hr (fun u => rfl)
  intro K Q hK
  refine wp_value ?_ (hK _ _ _ hx hM' (rv_bptr hM T _ 1 (1, 0)))
  simp [execOp, ho, Instr.alloc, run_zeroValue hi hv, newVar, newRow]

theorem fits_box (hM : Mem w0 ok0 e lk w) (hev : ∀ x, RV e w (ev x) (a.eval x)) {t : TypeId} {x : Operand} (ho : o.op = .box t x) (he : eff cx ev lk T (.box x) = some f) : Fits P w0 ok0 e lk w o a f := by
  simp only [eff] at he
  split at he
  · rename_i l hl
    split at he
    · rename_i ht
      simp only [Option.some.injEq] at he; subst he
      obtain ⟨hr, _⟩ := rv_told (hev x) hl ht
      obtain ⟨hx, hM'⟩ := hM.newBox (lk' := updF lk [(T, ⟨genOf lk T + 1, false, .box l⟩)]) T l (a.eval x).cells.toList t hr (fun u => rfl)
      intro K Q hK
      cases hfz : cx.fz.contains T with
      | false =>
        refine wp_value ?_ (hK _ _ _ hx (by rw [hfz]; exact hM') (rv_bptr hM T _ 1 (1, 0)))
        simp [execOp, ho, Instr.box, newVar, newRow]
      | true =>
        have ht1 : updF lk [(T, ⟨genOf lk T + 1, false, .box l⟩)] T = some ⟨genOf lk T + 1, false, .box l⟩ := by simp [updF_one]
        obtain ⟨e2, hx2, hM2, hβ, hG, hok, _⟩ := Mem.freezeL (updF lk [(T, ⟨genOf lk T + 1, false, .box l⟩)]) [T] _ _ hM' (fun t g fz k h => ⟨fz, h⟩) (fun u hu => by simp at hu; subst hu; exact ⟨_, _, _, ht1, by simp [live]⟩)
        have hlk : updF (updF lk [(T, ⟨genOf lk T + 1, false, .box l⟩)]) (freeze (updF lk [(T, ⟨genOf lk T + 1, false, .box l⟩)]) [T]) = updF lk [(T, ⟨genOf lk T + 1, true, .box l⟩)] := by
          simp only [freeze, ht1, updF_one]
          funext u
          by_cases hu : u = T <;> simp [hu]
        rw [hlk] at hM2
        refine wp_value ?_ (hK _ _ _ (hx.trans hx2) (by rw [hfz]; exact hM2) (RV.ext hx2 (rv_bptr hM T _ 1 (1, 0))))
        simp [execOp, ho, Instr.box, newVar, newRow]
    · cases he
  · cases he

theorem zip_fold (off : Nat) : ∀ (l : List Value) (k : Nat) (cells : Array Value), off + k + l.length ≤ cells.size →
    ((l.zipIdx k).foldl (fun cs (p : Value × Nat) => cs.setIfInBounds (off + p.2) p.1) cells).toList = cells.toList.take (off + k) ++ l ++ cells.toList.drop (off + k + l.length)
  | [], k, cells, _ => by simp
  | v :: l, k, cells, h => by
    simp only [List.zipIdx_cons, List.foldl_cons]
    rw [zip_fold off l (k + 1) _ (by simp at h ⊢; omega)]
    simp only [Array.toList_setIfInBounds]
    have := list_seg_step cells.toList (off + k) v l (by simp at h ⊢; omega)
    simp only [List.length_cons]
    rw [show off + (k + 1) = off + k + 1 by omega, show off + k + (l.length + 1) = off + k + (l.length + 1) from rfl]
    rw [show off + k + 1 + l.length = off + k + 1 + l.length from rfl] at this
    exact this

theorem fill_fits {place : Nat → Option (Nat × Nat)} : ∀ (parts : List (Nat × Operand)) (ps : List (Nat × Nat × Operand)) (cs cs' : List Cl) (cells : Array Value),
    (∀ (k : Nat) (p : Nat × Operand), parts[k]? = some p → ∃ q, ps[k]? = some (q.1, q.2, p.2) ∧ place p.1 = some q) → ps.length = parts.length →
    RCs e w cs cells.toList → fillC cs (ps.map fun p => (p.1, p.2.1, ev p.2.2)) = some cs' → (∀ x, RV e w (ev x) (a.eval x)) →
    ∃ cells', Instr.fill place cells (parts.map fun (i, x) => (i, a.eval x)) = some cells' ∧ RCs e w cs' cells'.toList
  | [], [], cs, cs', cells, _, _, hr, hf, _ => by
    simp only [List.map_nil, fillC, Option.some.injEq] at hf
    subst hf
    exact ⟨cells, rfl, hr⟩
  | p :: parts, [], _, _, _, _, hl, _, _, _ => by simp at hl
  | [], q :: ps, _, _, _, _, hl, _, _, _ => by simp at hl
  | p :: parts, q :: ps, cs, cs', cells, hp, hl, hr, hf, hev => by
    obtain ⟨q', hq, hpl⟩ := hp 0 p rfl
    simp only [List.getElem?_cons_zero, Option.some.injEq] at hq
    subst hq
    simp only [List.map_cons, fillC] at hf
    split at hf
    · rename_i l hcl
      split at hf
      · rename_i hc
        obtain ⟨h1, h2, h3⟩ := hc
        obtain ⟨hrl, _⟩ := rv_told (hev p.2) hcl h3
        have hlen := hrl.length
        have hsz : (a.eval p.2).cells.size = q'.2 := by rw [← Array.length_toList, ← hlen]; exact h1
        have hcsz : cells.size = cs.length := by rw [← Array.length_toList, ← hr.length]
        have hfold : ((a.eval p.2).cells.zipIdx.foldl (fun cs (p : Value × Nat) => cs.setIfInBounds (q'.1 + p.2) p.1) cells).toList = cells.toList.take q'.1 ++ (a.eval p.2).cells.toList ++ cells.toList.drop (q'.1 + (a.eval p.2).cells.toList.length) := by
          rw [← Array.foldl_toList, Array.toList_zipIdx]
          have := zip_fold q'.1 (a.eval p.2).cells.toList 0 cells (by simp; omega)
          simpa using this
        have hr2 : RCs e w (splice cs q'.1 l) ((a.eval p.2).cells.zipIdx.foldl (fun cs (p : Value × Nat) => cs.setIfInBounds (q'.1 + p.2) p.1) cells).toList := by
          rw [hfold]; exact hr.splice hrl q'.1
        obtain ⟨cells', hfi, hrr⟩ := fill_fits parts ps _ _ _ (fun k p' hk => by
          obtain ⟨q2, g1, g2⟩ := hp (k + 1) p' (by simpa using hk)
          exact ⟨q2, by simpa using g1, g2⟩) (by simpa using hl) hr2 hf hev
        refine ⟨cells', ?_, hrr⟩
        simp only [List.map_cons, Instr.fill, hpl]
        rw [if_neg (by simp [hsz]; omega)]
        exact hfi
      · cases hf
    · cases hf

theorem mapO_get {α β : Type} {g : α → Option β} : ∀ {l : List α} {r : List β}, mapO g l = some r → r.length = l.length ∧ ∀ (k : Nat) (x : α), l[k]? = some x → ∃ y, r[k]? = some y ∧ g x = some y
  | [], r, h => by simp only [mapO, Option.some.injEq] at h; subst h; exact ⟨rfl, fun k x hk => by simp at hk⟩
  | x :: l, r, h => by
    simp only [mapO] at h
    split at h
    · rename_i y ys h1 h2
      simp only [Option.some.injEq] at h; subst h
      obtain ⟨g1, g2⟩ := mapO_get h2
      refine ⟨by simp [g1], fun k z hk => ?_⟩
      cases k with
      | zero => simp only [List.getElem?_cons_zero, Option.some.injEq] at hk; subst hk; exact ⟨y, rfl, h1⟩
      | succ k => simp only [List.getElem?_cons_succ] at hk ⊢; exact g2 k z hk
    · cases h

theorem fits_build (hM : Mem w0 ok0 e lk w) (hev : ∀ x, RV e w (ev x) (a.eval x)) {t : TypeId} {parts : Array (Nat × Operand)} {ao : AOp} (ho : o.op = .build t parts) (hc : comp P o = some ao) (he : eff cx ev lk T ao = some f) : Fits P w0 ok0 e lk w o a f := by
  have fin : ∀ (z : List Cl) (ps : List (Nat × Nat × Operand)) (place : Nat → Option (Nat × Nat)) (i : TypeInfo) (v : Value), P.info? t = some i → i.zero = some v → mapO ofVal v.cells.toList = some z →
      (∀ (k : Nat) (p : Nat × Operand), parts.toList[k]? = some p → ∃ q, ps[k]? = some (q.1, q.2, p.2) ∧ place p.1 = some q) → ps.length = parts.toList.length →
      (∀ vals, Instr.fill place v.cells vals = P.built t vals) → eff cx ev lk T (.build z ps) = some f → Fits P w0 ok0 e lk w o a f := by
    intro z ps place i v hi hz hm hp hl hbu he
    simp only [eff] at he
    split at he
    · rename_i cs hf
      simp only [Option.some.injEq] at he; subst he
      obtain ⟨hr, _⟩ := mapO_val (e := e) (w := w) hm
      obtain ⟨cells', h1, h2⟩ := fill_fits parts.toList ps z cs v.cells hp hl hr hf hev
      rw [hbu] at h1
      have hrun := run_build (P := P) w t (parts.map fun (i, x) => (i, a.eval x)) cells' (by simpa using h1)
      exact fits_pure hM (v := .agg cells') (by simp only [execOp, ho, Sem.run_bind, hrun, Result.andThen_ok, Sem.run_pure]) ⟨cells'.toList, by simp, h2⟩
    · cases he
  simp only [comp, ho] at hc
  split at hc
  · rename_i z fs hz hu
    obtain ⟨i, v, hi, hv, hm⟩ := zeroC_some hz
    split at hc
    · rename_i places hpl
      cases hmo : mapO (fun (p : Nat × Operand) => (places[p.1]?).map fun q => (q.1, q.2, p.2)) parts.toList with
      | none => simp [hmo] at hc
      | some ps =>
        simp only [hmo, Option.map_some, Option.some.injEq] at hc; subst hc
        obtain ⟨g1, g2⟩ := mapO_get hmo
        refine fin z ps (places.toArray[·]?) i v hi hv hm (fun k p hk => ?_) g1 (fun vals => ?_) he
        · obtain ⟨y, h1, h2⟩ := g2 k p hk
          cases hq : places[p.1]? with
          | none => simp [hq] at h2
          | some q =>
            simp only [hq, Option.map_some, Option.some.injEq] at h2; subst h2
            exact ⟨q, h1, by simpa using hq⟩
        · simp [Program.built, hi, hu, hv, hpl]
    · cases hc
  · rename_i z n u hz hu
    obtain ⟨i, v, hi, hv, hm⟩ := zeroC_some hz
    split at hc
    · rename_i ie hie
      simp only [Option.some.injEq] at hc; subst hc
      refine fin z _ (fun i => some (i * ie.size, ie.size)) i v hi hv hm (fun k p hk => ?_) (by simp) (fun vals => ?_) he
      · exact ⟨(p.1 * ie.size, ie.size), by simp at hk; simp [hk], rfl⟩
      · simp [Program.built, hi, hu, hv, hie]
    · cases hc
  · cases hc
end

end Go.Proofs.YtmmlolampgnamaaDoor.Ax
