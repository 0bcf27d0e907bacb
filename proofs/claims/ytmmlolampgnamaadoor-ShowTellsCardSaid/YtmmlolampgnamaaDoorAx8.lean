/- Each operation of the model comes to what the abstract interpreter says: literals of slices, make, and what is compared. -/
import Derived.Test.YtmmlolampgnamaaDoorAx7
namespace Go.Proofs.YtmmlolampgnamaaDoor.Ax
open Go.RowKit
set_option linter.unusedVariables false
set_option linter.unusedSimpArgs false

section
variable {P : Program} {w0 w : World} {ok0 : Ctx0} {e : En} {lk lk' : Nat → Option Blk} {o : Oper} {a : Act} {cx : Cx} {ev : Operand → AV} {T : Nat} {f : Ef}

theorem map_range0 {α : Type} (g : Nat → α) : (Array.range 0).map g = #[] := by apply Array.ext'; simp

/-- n zero elements, as cells. -/
def zCells (z : Array Value) (n : Nat) : Array Value := (Array.range n).map (z[· % z.size]!)
theorem zCells_rep {ok : Nat → Prop} {z : Array Value} {zd : List D} {n : Nat} (hl : zd.length = z.size) (h : ∀ (j : Nat) (d : D), zd[j]? = some d → ∃ u, z[j]? = some u ∧ RD ok w d u) : RowsRep ok w z.size (List.replicate n zd) (zCells z (n * z.size)).toList := by
  intro i r hi
  have hlt : i < n := by have := (List.getElem?_eq_some_iff.1 hi).1; simpa using this
  rw [List.getElem?_replicate, if_pos hlt] at hi
  obtain rfl := Option.some.inj hi
  refine ⟨hl, fun j d hj => ?_⟩
  obtain ⟨u, hu, hd⟩ := h j d hj
  have hjz : j < z.size := by rw [← hl]; exact (List.getElem?_eq_some_iff.1 hj).1
  have hb : i * z.size + j < n * z.size := by
    have : (i + 1) * z.size ≤ n * z.size := Nat.mul_le_mul_right _ hlt
    rw [Nat.add_mul] at this; omega
  refine ⟨u, ?_, hd⟩
  rw [Array.getElem?_toList]
  unfold zCells
  rw [Array.getElem?_map, Array.getElem?_range, if_pos hb]
  simp only [Option.map_some, Option.some.injEq]
  have hm : (i * z.size + j) % z.size = j := by rw [Nat.add_comm, Nat.add_mul_mod_self_right, Nat.mod_eq_of_lt hjz]
  rw [hm]
  rw [Array.getElem?_eq_getElem hjz] at hu
  rw [getElem!_pos z j hjz]
  exact Option.some.inj hu
theorem zCells_size (z : Array Value) (n : Nat) : (zCells z n).size = n := by simp [zCells]

theorem zd_rep (hM : Mem w0 ok0 e lk w) {t : TypeId} {z : List Cl} {zd : List D} (hz : zeroC P t = some z) (hd : dsOf lk z = some (zd, [])) : ∃ i v, P.info? t = some i ∧ i.zero = some v ∧ zd.length = v.cells.size ∧ z.length = v.cells.size ∧
    ∀ (j : Nat) (d : D), zd[j]? = some d → ∃ u, v.cells[j]? = some u ∧ RD e.ok w d u := by
  obtain ⟨i, v, hi, hv, hm⟩ := zeroC_some hz
  obtain ⟨hr, _⟩ := mapO_val (e := e) (w := w) hm
  obtain ⟨h1, h2⟩ := dsOf_rd hM hr hd (ok' := e.ok) (w' := w) (fun _ h => h) (fun _ _ => rfl) (fun t ht => by simp at ht)
  exact ⟨i, v, hi, hv, by simpa using h1, by simpa using hr.length, fun j d hj => by
    obtain ⟨u, hu, hd'⟩ := h2 j d hj
    exact ⟨u, by simpa using hu, hd'⟩⟩

theorem fillR_len {E : Nat} : ∀ {parts : List (Nat × AV)} {rs rs' : List (List D)} {ts : List Nat}, fillR lk E rs parts = some (rs', ts) → rs'.length = rs.length
  | [], rs, rs', ts, h => by simp only [fillR, Option.some.injEq, Prod.mk.injEq] at h; rw [← h.1]
  | (i, v) :: parts, rs, rs', ts, h => by
    simp only [fillR] at h
    split at h
    · split at h
      · split at h
        · split at h
          · rename_i h1
            simp only [Option.some.injEq, Prod.mk.injEq] at h
            have := fillR_len h1
            rw [← h.1, this]; simp
          · cases h
        · cases h
      · cases h
    · cases h

theorem fillR_live {E : Nat} : ∀ {parts : List (Nat × AV)} {rs rs' : List (List D)} {ts : List Nat}, fillR lk E rs parts = some (rs', ts) → ∀ t ∈ ts, ∃ g fz k, lk t = some ⟨g, fz, k⟩ ∧ live k
  | [], rs, rs', ts, h => by simp only [fillR, Option.some.injEq, Prod.mk.injEq] at h; rw [← h.2]; intro t ht; simp at ht
  | (i, v) :: parts, rs, rs', ts, h => by
    simp only [fillR] at h
    split at h
    · split at h
      · rename_i ds ts1 hds
        split at h
        · split at h
          · rename_i rs2 ts2 h1
            simp only [Option.some.injEq, Prod.mk.injEq] at h
            rw [← h.2]
            intro t ht
            rcases List.mem_append.1 ht with ht | ht
            · exact dsOf_live hds t ht
            · exact fillR_live h1 t ht
          · cases h
        · cases h
      · cases h
    · cases h

theorem dsOf_told {l : List Cl} : ∀ {ds : List D} {ts : List Nat}, dsOf lk l = some (ds, ts) → l.all Cl.told = true := by
  induction l with
  | nil => intro _ _ _; rfl
  | cons z l ih =>
    intro ds ts h
    simp only [dsOf] at h
    split at h
    · rename_i y1 l1 ys ls h1 h2
      simp only [List.all_cons, Bool.and_eq_true]
      refine ⟨?_, ih h2⟩
      cases z <;> simp_all [dOf, Cl.told]
    · cases h

theorem fillR_fits (hM : Mem w0 ok0 e lk w) {E : Nat} {ok' : Nat → Prop} (hok : ∀ b, e.ok b → ok' b) : ∀ {parts : List (Nat × Operand)} {rs rs' : List (List D)} {ts : List Nat} {cells : Array Value},
    fillR lk E rs (parts.map fun p => (p.1, ev p.2)) = some (rs', ts) → (∀ x, RV e w (ev x) (a.eval x)) → (∀ t ∈ ts, ∀ g fz k b c E, lk t = some ⟨g, fz, k⟩ → live k → e.β t g = some (b, c, E) → ok' b) →
    RowsRep ok' w E rs cells.toList → cells.size = rs.length * E →
    ∃ cells', Instr.fill (fun i => some (i * E, E)) cells (parts.map fun (i, x) => (i, a.eval x)) = some cells' ∧ RowsRep ok' w E rs' cells'.toList ∧ cells'.size = rs.length * E
  | [], rs, rs', ts, cells, h, _, _, hrep, hs => by
    simp only [List.map_nil, fillR, Option.some.injEq, Prod.mk.injEq] at h
    obtain ⟨rfl, _⟩ := h
    exact ⟨cells, rfl, hrep, hs⟩
  | p :: parts, rs, rs', ts, cells, h, hev, hfr, hrep, hs => by
    simp only [List.map_cons, fillR] at h
    split at h
    · rename_i l hcl
      split at h
      · rename_i ds ts1 hds
        split at h
        · rename_i hc
          obtain ⟨hdl, hi⟩ := hc
          split at h
          · rename_i rs2 ts2 h1
            simp only [Option.some.injEq, Prod.mk.injEq] at h
            obtain ⟨rfl, rfl⟩ := h
            obtain ⟨hr, _⟩ := rv_told (hev p.2) hcl (dsOf_told hds)
            obtain ⟨g1, g2⟩ := dsOf_rd hM hr hds hok (fun _ _ => rfl) (fun t ht g fz k b c E q1 q2 q3 => ⟨hfr t (by simp [ht]) g fz k b c E q1 q2 q3, rfl⟩)
            have hvl : (a.eval p.2).cells.toList.length = E := by rw [← g1]; exact hdl
            have hvs : (a.eval p.2).cells.size = E := by rw [← Array.length_toList]; exact hvl
            have hfit : p.1 * E + E ≤ cells.size := by
              have : (p.1 + 1) * E ≤ rs.length * E := Nat.mul_le_mul_right _ hi
              rw [Nat.add_mul] at this; omega
            have hfold : ((a.eval p.2).cells.zipIdx.foldl (fun cs (q : Value × Nat) => cs.setIfInBounds (p.1 * E + q.2) q.1) cells).toList = cells.toList.take (p.1 * E) ++ (a.eval p.2).cells.toList ++ cells.toList.drop (p.1 * E + (a.eval p.2).cells.toList.length) := by
              rw [← Array.foldl_toList, Array.toList_zipIdx]
              have := zip_fold (p.1 * E) (a.eval p.2).cells.toList 0 cells (by simp; omega)
              simpa using this
            have hrep2 := hrep.set (i := p.1) (ds := ds) (vs := (a.eval p.2).cells.toList) hi (by simp [hs]) hdl hvl g2
            rw [← hfold] at hrep2
            obtain ⟨cells', q1, q2, q3⟩ := fillR_fits hM hok h1 hev (fun t ht => hfr t (by simp [ht])) hrep2 (by
              rw [← Array.length_toList, hfold]
              simp only [List.length_append, List.length_take, List.length_drop, Array.length_toList, hvs, List.length_set]
              omega)
            refine ⟨cells', ?_, q2, by rw [q3]; simp⟩
            simp only [List.map_cons, Instr.fill]
            rw [if_neg (by simp [hvs]; omega)]
            exact q1
          · cases h
        · cases h
      · cases h
    · cases h

theorem updF_kfreeze (lk : Nat → Option Blk) : ∀ (ts : List Nat) (t : Nat) (h : Nat → Option Blk), t ∉ ts → updF h (freeze lk ts) t = h t
  | [], _, _, _ => rfl
  | s :: ts, t, h, hn => by
    simp only [List.mem_cons, not_or] at hn
    simp only [freeze]
    split
    · simp only [updF]; rw [updF_kfreeze lk ts t _ hn.2]; simp [hn.1]
    · exact updF_kfreeze lk ts t h hn.2

theorem fits_bslice (hM : Mem w0 ok0 e lk w) (hev : ∀ x, RV e w (ev x) (a.eval x)) {t el : TypeId} {len n : Nat} {parts : Array (Nat × Operand)} {z : List Cl} (ho : o.op = .buildSlice t len parts)
    (hu : P.underlying t = some (.slice el)) (hz : zeroC P el = some z) (hn : sizeIn P el = some n) (hzn : z.length = n) (h0 : 0 < n) (hlim : len * n ≤ 16777216) (he : eff cx ev lk T (.bslice z len parts.toList) = some f) : Fits P w0 ok0 e lk w o a f := by
  simp only [eff] at he
  split at he
  · rename_i zd hzd
    split at he
    · rename_i rows ts hfr
      split at he
      · rename_i hnt
        simp only [Option.some.injEq] at he; subst he
        have hnt' : T ∉ ts := by simpa using hnt
        obtain ⟨i, v, hi, hv, hzl, hzs, hzr⟩ := zd_rep hM hz hzd
        obtain ⟨e2, hx2, hM2, hβ, hG, hok, _⟩ := Mem.freezeL lk ts e lk hM (fun t g fz k h => ⟨fz, h⟩) (fillR_live hfr)
        have hrep0 : RowsRep e2.ok w z.length (List.replicate len zd) (zCells v.cells (len * n)).toList := by
          have := (zCells_rep (w := w) (n := len) hzl hzr).mono (ok' := e2.ok) (w' := w) hx2.ok (fun _ _ => rfl)
          rw [← hzs, hzn] at this
          rw [hzn]; exact this
        obtain ⟨cells', q1, q2, q3⟩ := fillR_fits hM hx2.ok hfr hev (fun t ht g fz k b c E g1 g2 g3 => hok t ht g fz k b c E g1 g3) hrep0 (by rw [zCells_size, List.length_replicate, hzn])
        have hgen : genOf (updF lk (freeze lk ts)) T = genOf lk T := by unfold genOf; rw [updF_kfreeze lk ts T lk hnt']
        have hrl : rows.length = len := by rw [fillR_len hfr, List.length_replicate]
        obtain ⟨hx, hM'⟩ := hM2.newRep (lk' := updF lk ((T, ⟨genOf lk T + 1, false, .arr z.length rows⟩) :: freeze lk ts)) T z.length len rows cells' el (by omega) (by rw [q3, List.length_replicate]) (by omega) q2 (fun q => by
          rw [hgen]; exact updF_freeze_set lk T _ ts lk hnt' q)
        intro K Q hK
        refine wp_value ?_ (hK _ _ (.slice (some ⟨w.heap.size, 0, none⟩) len len) (hx2.trans hx) hM' ?_)
        · have hsz : (sizeOf el).run P w = .ok n w := run_sizeOf hn
          have hlen0 : ¬ len * n > 2 ^ 24 := by omega
          have hcells : Instr.fill (fun i => some (i * n, n)) ((Array.range (len * n)).map (v.cells[· % v.cells.size]!)) (parts.toList.map fun (i, x) => (i, a.eval x)) = some cells' := by
            rw [hzn] at q1; exact q1
          simp only [execOp, ho, Instr.buildSlice, Sem.run_bind, run_underlying hu, Result.andThen_ok, hsz]
          rw [if_neg hlen0]
          simp only [Sem.run_bind, Sem.run_pure, Result.andThen_ok]
          have hpl : (parts.map fun (i, x) => (i, a.eval x)).toList = parts.toList.map fun (i, x) => (i, a.eval x) := by simp
          by_cases hl0 : len * n = 0
          · have : len = 0 := by rcases Nat.mul_eq_zero.1 hl0 with h | h <;> omega
            rw [if_pos hl0]
            rw [hl0, map_range0] at hcells
            simp only [Sem.run_bind, Sem.run_pure, Result.andThen_ok, hpl, hl0, map_range0, hcells]
            simp [newRow]
          · rw [if_neg hl0]
            simp only [Sem.run_bind, run_zeroValue hi hv, Result.andThen_ok, Sem.run_pure, hpl, hcells]
            simp [newRow]
        · have := rv_own (e := e2) (lk := updF lk (freeze lk ts)) T w.heap.size len z.length len (Nat.le_refl _) (w' := w.alloc (.cells cells' el))
          rw [hgen] at this
          rw [hrl]; exact this
      · cases he
    · cases he
  · cases he

theorem fits_mkslice (hM : Mem w0 ok0 e lk w) (hev : ∀ x, RV e w (ev x) (a.eval x)) {t el : TypeId} {l c : Operand} {z : List Cl} {i : TypeInfo} (ho : o.op = .makeSlice t l c)
    (hu : P.underlying t = some (.slice el)) (hz : zeroC P el = some z) (hi : P.info? el = some i) (hzn : z.length = i.size) (h0 : 0 < i.size) (he : eff cx ev lk T (.mkslice z i.bytes l c) = some f) : Fits P w0 ok0 e lk w o a f := by
  simp only [eff] at he
  split at he
  · rename_i zd n m hzd hl hc
    split at he
    · rename_i hcnd
      obtain ⟨rfl, hn0, hbnd⟩ := hcnd
      simp only [Option.some.injEq] at he; subst he
      obtain ⟨i', v, hi', hv, hzl, hzs, hzr⟩ := zd_rep hM hz hzd
      rw [hi] at hi'
      obtain rfl := Option.some.inj hi'
      have hvl := rv_int (hev l) hl
      have hvc := rv_int (hev c) hc
      have hrep : RowsRep e.ok w z.length (List.replicate n.toNat zd) (zCells v.cells (n.toNat * i.size)).toList := by
        have := zCells_rep (w := w) (n := n.toNat) hzl hzr
        rw [← hzs, hzn] at this
        rw [hzn]; exact this
      obtain ⟨hx, hM'⟩ := hM.newRep (lk' := updF lk [(T, ⟨genOf lk T + 1, false, .arr z.length (List.replicate n.toNat zd)⟩)]) T z.length n.toNat (List.replicate n.toNat zd) (zCells v.cells (n.toNat * i.size)) el (by omega)
        (by rw [zCells_size, hzn]) (by simp) hrep (fun q => rfl)
      have hb1 : (i.bytes : Int) * n ≤ 140737488355328 := by
        have h1 : (i.bytes : Int) * n ≤ ((i.bytes : Int) + 1) * n := by rw [Int.add_mul]; omega
        omega
      have hb2 : n ≤ 140737488355328 := by
        have h1 : 1 * n ≤ ((i.bytes : Int) + 1) * n := Int.mul_le_mul_of_nonneg_right (by omega) hn0
        omega
      have hwr : IntKind.i64.wrap n = n := by
        simp [IntKind.wrap, IntKind.bits, IntKind.signed]
        split <;> omega
      intro K Q hK
      refine wp_value ?_ (hK _ _ (.slice (some ⟨w.heap.size, 0, none⟩) n.toNat n.toNat) hx hM' ?_)
      · have hti : (typeInfo el).run P w = .ok i w := by simp [typeInfo, hi]
        have hsz : (sizeOf el).run P w = .ok i.size w := by simp [sizeOf, typeInfo, hi]
        have c1 : ¬ ((decide (n < 0) || decide ((i.bytes : Int) * n > 2 ^ 48)) || decide (n < 0) || decide (n > n)) = true := by
          simp; omega
        simp only [execOp, ho, Instr.makeSlice, Sem.run_bind, run_underlying hu, Result.andThen_ok, hvl, hvc, asInt, asIntOf, Sem.run_pure, hti, hwr]
        rw [if_neg c1]
        simp only [Sem.run_bind, run_askRoom, Result.andThen_ok, hsz, Sem.run_pure]
        by_cases hl0 : n.toNat * i.size = 0
        · rw [if_pos hl0]
          simp only [Sem.run_pure, Result.andThen_ok, hl0]
          simp only [zCells, map_range0]
          simp [newRow, map_range0]
        · rw [if_neg hl0]
          simp only [Sem.run_bind, run_zeroValue hi hv, Result.andThen_ok, Sem.run_pure]
          simp [newRow, zCells]
      · rw [List.length_replicate]; exact rv_own T w.heap.size n.toNat z.length n.toNat (Nat.le_refl _)
    · cases he
  · cases he
end

end Go.Proofs.YtmmlolampgnamaaDoor.Ax
