/- The closure of slices.Backward hands a slice's rows on, the last one first. -/
import Derived.Test.YtmhfhobaicklmaaAxZ
import Derived.Test.YtmhfhobaicklmaaAx21
namespace Go.Proofs.Ytmhfhobaicklmaa.Ax
open Go.RowKit
set_option linter.unusedVariables false
set_option linter.unusedSimpArgs false
structure Is (o : Oper) (d : Nat) (op : Op) : Prop where
  dst : o.dst = some d
  op : o.op = op
  guard : o.guard = none
theorem yieldAt_wide {n m : Nat} {P : Program} {l : Nat} {args : Array Value} {W : World} {R : Ending → World → Prop} (h : YieldAt Fence.wide n P l args W R) : YieldAt Fence.wide m P l args W R := by
  obtain ⟨fn, tmps, assign, body, h1, h2, h3⟩ := h
  exact ⟨fn, tmps, assign, body, h1, h2, fun c cs _ => h3 c cs fun d hd => (by cases hd)⟩
theorem size_put (a : Act) (d : Nat) (v : Value) : (a.put (some d) v).tmps.size = a.tmps.size := by simp [Act.put]
theorem defers_put (a : Act) (d : Nat) (v : Value) : (a.put (some d) v).defers = a.defers := rfl
theorem eval_put {a : Act} {d t : Nat} {v : Value} (h : d < a.tmps.size) : (a.put (some d) v).eval (.tmp t) = if t = d then v else a.eval (.tmp t) := by
  simp only [Act.eval, Act.put, Array.getD_eq_getD_getElem?, Array.getElem?_setIfInBounds]
  by_cases e : d = t
  · subst e; simp [h]
  · simp [e, Ne.symm e]
section
variable {P : Program}
theorem is_step {n : Nat} {ops : Array Oper} {Q : Exit → Act → World → Prop} {o : Oper} {rest : List Oper} {d : Nat} {op : Op} {a : Act} {w : World} {v : Value} (h : Is o d op) (hd : ∀ c, op ≠ .defer c)
    (hrun : (execOp a.eval o).run P w = .ok (.value v) w) (hk : wpListIn (FW none) n P ops Q rest (a.put (some d) v) w) : wpListIn (FW none) n P ops Q (o :: rest) a w :=
  wpListIn_plain h.guard fun K hK => wpIn_of_wp (by intro c; rw [h.op]; exact hd c) (wp_value hrun (by rw [h.dst]; exact hK _ _ hk))
theorem run_mv {o : Oper} {d : Nat} {x : Operand} {a : Act} {w : World} (h : Is o d (.move x) ∨ Is o d (.assign x)) : (execOp a.eval o).run P w = .ok (.value (a.eval x)) w := by
  rcases h with h | h <;> simp [execOp, h.op]
theorem run_ld {o : Oper} {d : Nat} {x : Operand} {t : TypeId} {ad : Addr} {a : Act} {w : World} {v : Value} (h : Is o d (.load t x)) (hx : a.eval x = .pointer (some ad)) (hl : (loadVar t ad).run P w = .ok v w) : (execOp a.eval o).run P w = .ok (.value v) w := by
  simp [execOp, h.op, Instr.loadAt, hx, Instr.sureAddr, hl]
theorem run_ln {o : Oper} {d : Nat} {x : Operand} {t u : TypeId} {a : Act} {w : World} {b : Option Addr} {n c : Nat} (h : Is o d (.call { callee := .builtin .len, args := #[x], argTypes := #[t] })) (hu : P.underlying t = some (.slice u)) (hx : a.eval x = .slice b n c) :
    (execOp a.eval o).run P w = .ok (.value (.int .i64 n)) w := by
  simp [execOp, h.op, resolve, invoke, builtin, Builtin.len_, hx, run_underlying hu, goInt]
theorem run_ix {o : Oper} {d : Nat} {x i : Operand} {t u : TypeId} {E : Nat} {a : Act} {w : World} {ad : Addr} {m : Int} {n c : Nat} {k : IntKind} (h : Is o d (.indexAddr t x i)) (hu : P.underlying t = some (.slice u)) (hs : sizeIn P u = some E)
    (hx : a.eval x = .slice (some ad) n c) (hi : a.eval i = .int k m) (h0 : 0 ≤ m) (h1 : m < n) : (execOp a.eval o).run P w = .ok (.value (.pointer (some (ad.add (m.toNat * E))))) w := by
  simp [execOp, h.op, Instr.indexAt, run_underlying hu, hx, hi, asIntOf, run_sizeOf hs, h0, h1]
theorem run_bn {o : Oper} {d : Nat} {op : BinOp} {x y : Operand} {t t' : TypeId} {a : Act} {w : World} {m n : Int} {v : Value} (h : Is o d (.binOp op t x y t')) (hx : a.eval x = .int .i64 m) (hy : a.eval y = .int .i64 n)
    (hv : (binOp op t (.int .i64 m) (.int .i64 n)).run P w = .ok v w) : (execOp a.eval o).run P w = .ok (.value v) w := by
  have hg : eqGuard op t x y (.int .i64 m) (.int .i64 n) = pure () := eqGuard_told (.inl ⟨_, _, rfl⟩)
  simp [execOp, h.op, hx, hy, hg, hv]
theorem run_nt {o : Oper} {d : Nat} {x : Operand} {t : TypeId} {a : Act} {w : World} {b : Bool} (h : Is o d (.unOp .not t x)) (hx : a.eval x = .bool b) : (execOp a.eval o).run P w = .ok (.value (.bool !b)) w := by
  simp [execOp, h.op, hx, Op.unary]
theorem bn_sub {t : TypeId} {w : World} (m n : Int) : (binOp .sub t (.int .i64 m) (.int .i64 n)).run P w = .ok (.int .i64 (IntKind.wrap .i64 (m - n))) w := by
  obtain ⟨v, h1, h2⟩ := run_ibin (P := P) (e := ⟨fun _ _ => none, fun _ => 0, fun _ => False, fun _ => False⟩) (w := w) (op := .sub) (k := .i64) (x := m) (y := n) (t := t) (r := .int .i64 (IntKind.wrap .i64 (m - n))) rfl
  simp only [RD] at h2
  rw [h1, h2]
theorem bn_geq {t : TypeId} {w : World} (m n : Int) : (binOp .geq t (.int .i64 m) (.int .i64 n)).run P w = .ok (.bool (decide (n ≤ m))) w := by
  obtain ⟨v, h1, h2⟩ := run_ibin (P := P) (e := ⟨fun _ _ => none, fun _ => 0, fun _ => False, fun _ => False⟩) (w := w) (op := .geq) (k := .i64) (x := m) (y := n) (t := t) (r := .bool (decide (n ≤ m))) rfl
  simp only [RD] at h2
  rw [h1, h2]
/-- A row of cells is loaded. -/
theorem load_row {u : TypeId} {sh : Option Nat} (hs : shapeOf P u = some sh) {W : World} {ad : Addr} {row : List D} {y : AV} (hy : pickN sh (row.map .d) = some y) {ok0 : Nat → Prop} (hex : RDRow ok0 W ad row 0) :
    ∃ v, (loadVar u ad).run P W = .ok v W ∧ ∀ ok, RDRow ok W ad row 0 → RV ⟨fun _ _ => none, fun _ => 0, ok, fun _ => False⟩ W y v := by
  cases sh with
  | none =>
    simp only [pickN] at hy
    cases row with
    | nil => simp at hy
    | cons d row =>
      simp only [List.map_cons, List.getElem?_cons_zero, Option.map_some, Option.some.injEq] at hy
      subst hy
      obtain ⟨v, hv, _⟩ := hex.get (i := 0) (x := d) rfl
      rw [show ad.add (0 + 0) = ad from by simp [Addr.add]] at hv
      refine ⟨v, by simp [loadVar, shape_none hs, hv], fun ok h => ?_⟩
      obtain ⟨v', hv', hr⟩ := h.get (i := 0) (x := d) rfl
      rw [show ad.add (0 + 0) = ad from by simp [Addr.add], hv] at hv'
      obtain rfl := Option.some.inj hv'
      exact hr
  | some n =>
    simp only [pickN] at hy
    split at hy
    · rename_i hn
      simp only [Option.some.injEq] at hy; subst hy
      rw [List.length_map] at hn
      obtain ⟨h1, h2⟩ := shape_some (P := P) (w := W) hs
      have hc : ∀ j, j < n → ∃ v, W.cell? (ad.add j) = some v := fun j hj => by
        obtain ⟨v, hv, _⟩ := hex.get (i := j) (x := row[j]'(by omega)) (List.getElem?_eq_getElem (by omega))
        exact ⟨v, by simpa using hv⟩
      let vs := (List.range n).map fun j => (W.cell? (ad.add j)).getD undef
      have hvs : ∀ (j : Nat) (v : Value), vs[j]? = some v → j < n ∧ W.cell? (ad.add j) = some v := fun j v h => by
        have hj : j < n := by
          have := (List.getElem?_eq_some_iff.1 h).1
          simpa [vs] using this
        obtain ⟨v', hv'⟩ := hc j hj
        simp only [vs, List.getElem?_map, List.getElem?_range hj, Option.map_some, Option.some.injEq, hv', Option.getD_some] at h
        exact ⟨hj, by rw [hv', h]⟩
      have hload := run_loadCells_list (P := P) W ad vs (fun j v h => (hvs j v h).2)
      rw [show vs.length = n from by simp [vs]] at hload
      refine ⟨.agg vs.toArray, by simp [loadVar, h1, h2, hload], fun ok h => ⟨vs, rfl, RCs.of (by simp [vs]; omega) fun i z v hz hv' => ?_⟩⟩
      obtain ⟨hi, hv⟩ := hvs i v hv'
      rw [List.getElem?_take, if_pos hi, List.getElem?_map, Option.map_eq_some_iff] at hz
      obtain ⟨d, hd, rfl⟩ := hz
      obtain ⟨v', hv2, hr⟩ := h.get hd
      rw [Nat.zero_add, hv] at hv2
      obtain rfl := Option.some.inj hv2
      exact hr
    · cases hy
/-- What lies at the closure's variable. -/
theorem bk_slice {t : TypeId} (ht : shapeOf P t = some none) {ok : Nat → Prop} {W : World} {rows : List (List D)} {p : Value} (h : RD ok W (.rptr [.sl rows]) p) :
    ∃ ad A c, p = .pointer (some ad) ∧ (loadVar t ad).run P W = .ok (.slice A rows.length c) W ∧ (rows ≠ [] → ∃ b E, A = some b ∧ RDRows ok W b E rows 0) ∧
      ∀ ok', RD ok' W (.rptr [.sl rows]) p → rows ≠ [] → ∃ b E, A = some b ∧ RDRows ok' W b E rows 0 := by
  simp only [RD] at h
  obtain ⟨ad, rfl, _, hr⟩ := h
  obtain ⟨v, hv, hd⟩ := hr.get (i := 0) (x := .sl rows) rfl
  rw [show ad.add (0 + 0) = ad from by simp [Addr.add]] at hv
  simp only [RD] at hd
  obtain ⟨A, c, rfl, _, hd⟩ := hd
  refine ⟨ad, A, c, rfl, by simp [loadVar, shape_none ht, hv], fun hne => ?_, fun ok' h' hne => ?_⟩
  · obtain ⟨b, E, h1, _, h2⟩ := hd hne
    exact ⟨b, E, h1, h2⟩
  · simp only [RD] at h'
    obtain ⟨ad', he, _, hr'⟩ := h'
    obtain rfl : ad = ad' := by simpa using he
    obtain ⟨v', hv', hd'⟩ := hr'.get (i := 0) (x := .sl rows) rfl
    rw [show ad.add (0 + 0) = ad from by simp [Addr.add], hv] at hv'
    obtain rfl := Option.some.inj hv'
    simp only [RD] at hd'
    obtain ⟨A', c', he', _, hd'⟩ := hd'
    obtain ⟨b, E, h1, _, h2⟩ := hd' hne
    simp only [Value.slice.injEq] at he'
    exact ⟨b, E, he'.1.trans h1, h2⟩
theorem rdlist_one {ok : Nat → Prop} {W : World} {d : D} {lb : List Value} (h : RDList ok W [d] lb) : ∃ p, lb = [p] ∧ RD ok W d p := by
  cases lb with
  | nil => simp [RDList] at h
  | cons p l => cases l with
    | nil => simp only [RDList, and_true] at h; exact ⟨p, rfl, h⟩
    | cons _ _ => simp [RDList] at h
/-- Where the closure's loop stands: k rows are still to come. -/
structure BkAt (l : Nat) (ad : Addr) (k : Nat) (a : Act) : Prop where
  size : a.tmps.size = 19
  yld : a.eval (.tmp 0) = .func (.yield l) #[] #[]
  var : a.eval (.tmp 1) = .pointer (some ad)
  idx : a.eval (.tmp 3) = .int .i64 ((k : Int) - 1)
  defers : a.defers = []
def BkI (rows : List (List D)) (l : Nat) (ad : Addr) (J : Nat → World → Prop) (a : Act) (w : World) : Prop := ∃ k : Nat, k ≤ rows.length ∧ BkAt l ad k a ∧ J k w
def BkM (a : Act) (w : World) : Nat := match a.eval (.tmp 3) with
  | .int _ i => (i + 1).toNat
  | _ => 0
theorem BkAt.m {l : Nat} {ad : Addr} {k : Nat} {a : Act} (h : BkAt l ad k a) (w : World) : BkM a w = k := by
  unfold BkM
  rw [h.idx]
  show ((k : Int) - 1 + 1).toNat = k
  omega
theorem bk_start {n : Nat} {t u t1 t2 : TypeId} {a0 a1 a2 a3 : Oper} {l : Nat} {ad : Addr} {A : Option Addr} {m c : Nat} {W : World} (hu : P.underlying t = some (.slice u)) (hm : m ≤ 4611686018427387904)
    (A0 : Is a0 4 (.load t (.tmp 1))) (A1 : Is a1 5 (.call { callee := .builtin .len, args := #[.tmp 4], argTypes := #[t] })) (A2 : Is a2 6 (.binOp .sub t1 (.tmp 5) (.const (.int .i64 1)) t2)) (A3 : Is a3 3 (.assign (.tmp 6)))
    (hld : (loadVar t ad).run P W = .ok (.slice A m c) W) {a : Act} (s0 : a.tmps.size = 19) (s1 : a.eval (.tmp 0) = .func (.yield l) #[] #[]) (s2 : a.eval (.tmp 1) = .pointer (some ad)) (sd : a.defers = [])
    {ops : Array Oper} {Q : Exit → Act → World → Prop} (hQ : ∀ a', BkAt l ad m a' → Q .normal a' W) : wpListIn (FW none) n P ops Q [a0, a1, a2, a3] a W := by
  have g1 : (a.put (some 4) (.slice A m c)).tmps.size = 19 := (size_put _ _ _).trans s0
  have g2 : ((a.put (some 4) (.slice A m c)).put (some 5) (.int .i64 m)).tmps.size = 19 := (size_put _ _ _).trans g1
  have g3 : (((a.put (some 4) (.slice A m c)).put (some 5) (.int .i64 m)).put (some 6) (.int .i64 (IntKind.wrap .i64 ((m : Int) - 1)))).tmps.size = 19 := (size_put _ _ _).trans g2
  refine is_step A0 (by intro c h; cases h) (run_ld A0 s2 hld) ?_
  refine is_step A1 (by intro c h; cases h) (run_ln A1 hu (by rw [eval_put (by rw [s0]; decide)]; rfl)) ?_
  refine is_step A2 (by intro c h; cases h) (run_bn A2 (m := m) (n := 1) (by rw [eval_put (by rw [g1]; decide)]; rfl) rfl (bn_sub _ _)) ?_
  refine is_step A3 (by intro c h; cases h) (run_mv (.inr A3)) ?_
  refine wpListIn_nil (hQ _ ⟨(size_put _ _ _).trans g3, ?_, ?_, ?_, sd⟩)
  · rw [eval_put (by rw [g3]; decide), if_neg (by decide), eval_put (by rw [g2]; decide), if_neg (by decide), eval_put (by rw [g1]; decide), if_neg (by decide), eval_put (by rw [s0]; decide), if_neg (by decide), s1]
  · rw [eval_put (by rw [g3]; decide), if_neg (by decide), eval_put (by rw [g2]; decide), if_neg (by decide), eval_put (by rw [g1]; decide), if_neg (by decide), eval_put (by rw [s0]; decide), if_neg (by decide), s2]
  · rw [eval_put (by rw [g3]; decide), if_pos rfl, eval_put (by rw [g2]; decide), if_pos rfl, wrap_small _ (by omega) (by omega)]
theorem bk_test {n : Nat} {t3 t4 : TypeId} {c0 c1 : Oper} {l : Nat} {ad : Addr} {k : Nat} {W : World} (C0 : Is c0 7 (.move (.tmp 3))) (C1 : Is c1 8 (.binOp .geq t3 (.tmp 7) (.const (.int .i64 0)) t4)) {a : Act} (h : BkAt l ad k a)
    {ops : Array Oper} {Q : Exit → Act → World → Prop} (hQ : ∀ a', BkAt l ad k a' → a'.eval (.tmp 8) = .bool (decide (0 ≤ (k : Int) - 1)) → Q .normal a' W) : wpListIn (FW none) n P ops Q [c0, c1] a W := by
  obtain ⟨s0, s1, s2, s3, sd⟩ := h
  have g1 : (a.put (some 7) (a.eval (.tmp 3))).tmps.size = 19 := (size_put _ _ _).trans s0
  refine is_step C0 (by intro c h; cases h) (run_mv (.inl C0)) ?_
  refine is_step C1 (by intro c h; cases h) (run_bn C1 (m := (k : Int) - 1) (n := 0) (by rw [eval_put (by rw [s0]; decide), if_pos rfl, s3]) rfl (bn_geq _ _)) ?_
  refine wpListIn_nil (hQ _ ⟨(size_put _ _ _).trans g1, ?_, ?_, ?_, sd⟩ ?_)
  · rw [eval_put (by rw [g1]; decide), if_neg (by decide), eval_put (by rw [s0]; decide), if_neg (by decide), s1]
  · rw [eval_put (by rw [g1]; decide), if_neg (by decide), eval_put (by rw [s0]; decide), if_neg (by decide), s2]
  · rw [eval_put (by rw [g1]; decide), if_neg (by decide), eval_put (by rw [s0]; decide), if_neg (by decide), s3]
  · rw [eval_put (by rw [g1]; decide), if_pos rfl]
theorem bk_step {n : Nat} {t6 t7 : TypeId} {e0 e1 e2 : Oper} {l : Nat} {ad : Addr} {k : Nat} {W : World} (hk : k + 1 ≤ 4611686018427387904) (E0 : Is e0 9 (.move (.tmp 3))) (E1 : Is e1 10 (.binOp .sub t6 (.tmp 9) (.const (.int .i64 1)) t7)) (E2 : Is e2 3 (.assign (.tmp 10))) {a : Act} (h : BkAt l ad (k + 1) a)
    {ops : Array Oper} {Q : Exit → Act → World → Prop} (hQ : ∀ a', BkAt l ad k a' → Q .normal a' W) : wpListIn (FW none) n P ops Q [e0, e1, e2] a W := by
  obtain ⟨s0, s1, s2, s3, sd⟩ := h
  have g1 : (a.put (some 9) (a.eval (.tmp 3))).tmps.size = 19 := (size_put _ _ _).trans s0
  have g2 : ((a.put (some 9) (a.eval (.tmp 3))).put (some 10) (.int .i64 (IntKind.wrap .i64 (((k + 1 : Nat) : Int) - 1 - 1)))).tmps.size = 19 := (size_put _ _ _).trans g1
  refine is_step E0 (by intro c h; cases h) (run_mv (.inl E0)) ?_
  refine is_step E1 (by intro c h; cases h) (run_bn E1 (m := ((k + 1 : Nat) : Int) - 1) (n := 1) (by rw [eval_put (by rw [s0]; decide), if_pos rfl, s3]) rfl (bn_sub _ _)) ?_
  refine is_step E2 (by intro c h; cases h) (run_mv (.inr E2)) ?_
  refine wpListIn_nil (hQ _ ⟨(size_put _ _ _).trans g2, ?_, ?_, ?_, sd⟩)
  · rw [eval_put (by rw [g2]; decide), if_neg (by decide), eval_put (by rw [g1]; decide), if_neg (by decide), eval_put (by rw [s0]; decide), if_neg (by decide), s1]
  · rw [eval_put (by rw [g2]; decide), if_neg (by decide), eval_put (by rw [g1]; decide), if_neg (by decide), eval_put (by rw [s0]; decide), if_neg (by decide), s2]
  · rw [eval_put (by rw [g2]; decide), if_pos rfl, eval_put (by rw [g1]; decide), if_pos rfl, wrap_small _ (by omega) (by omega), show ((k + 1 : Nat) : Int) - 1 - 1 = (k : Int) - 1 by omega]
theorem rdrow_shift {ok : Nat → Prop} {W : World} {b : Addr} {row : List D} {q : Nat} (h : RDRow ok W b row q) : RDRow ok W (b.add q) row 0 := by
  refine RDRow.of fun i x hi => ?_
  obtain ⟨u, h1, h2⟩ := h.get hi
  refine ⟨u, ?_, h2⟩
  rw [← h1]
  congr 1
  simp only [Nat.zero_add]
  unfold Addr.add
  by_cases h0 : q = 0
  · simp [h0]
  · by_cases h1 : i = 0
    · simp [h0, h1]
    · simp [h0, h1]; omega
theorem run_yl {n : Nat} {o : Oper} {d l : Nat} {x y z : Operand} {ts : Array TypeId} {a : Act} {w : World} {u v : Value} {K : Act → World → Prop} {Q : Exit → Act → World → Prop} {R : Ending → World → Prop} (h : Is o d (.call { callee := .value x, args := #[y, z], argTypes := ts }))
    (hx : a.eval x = .func (.yield l) #[] #[]) (hy : a.eval y = u) (hz : a.eval z = v) (hY : YieldAt Fence.wide (n - 1) P l #[u, v] w R) (hR : ∀ e w', R e w' → ∃ r, e = .returned r ∧ K (a.put (some d) r) w') : o.wpIn (FW none) n P a w K Q := by
  obtain ⟨fn, tmps, assign, body, h1, h2⟩ := hY
  refine ⟨fun _ _ => trivial, ?_⟩
  rw [Oper.semAt_eq _ _ _ (by intro c; rw [h.op]; intro hc; cases hc)]
  have e : (execOp a.eval o).run P w = .ok (.round l fn tmps assign body) w := by
    simp [execOp, h.op, resolve, Deferred.ofValue, invoke, hx, hy, hz, h1]
  rw [e, Oper.uponIn_round]
  refine ⟨fun hd => by simp [FW] at hd, RoundIn.mono h2 fun e' w' hr => ?_⟩
  obtain ⟨r, rfl, hk⟩ := hR e' w' hr
  rw [h.dst]
  exact hk
theorem bk_yield {n : Nat} {t u : TypeId} {sh : Option Nat} {t5 : TypeId} {ts : Array TypeId} {d0 d1 d2 d3 d4 d5 d6 d7 : Oper} {l : Nat} {ad : Addr} {k : Nat} {W : World} {rows : List (List D)} (hu : P.underlying t = some (.slice u)) (hE : sizeIn P u = some (sh.getD 1)) (hs : shapeOf P u = some sh) (ht : shapeOf P t = some none)
    (D0 : Is d0 11 (.move (.tmp 0))) (D1 : Is d1 12 (.move (.tmp 3))) (D2 : Is d2 13 (.load t (.tmp 1))) (D3 : Is d3 14 (.move (.tmp 3))) (D4 : Is d4 15 (.indexAddr t (.tmp 13) (.tmp 14))) (D5 : Is d5 16 (.load u (.tmp 15)))
    (D6 : Is d6 17 (.call { callee := .value (.tmp 11), args := #[.tmp 12, .tmp 16], argTypes := ts })) (D7 : Is d7 18 (.unOp .not t5 (.tmp 17)))
    (hwid : ∀ r ∈ rows, r.length = sh.getD 1) {row : List D} {y : AV} (hrow : rows[k]? = some row) (hy : pickN sh (row.map .d) = some y) {a : Act} (h : BkAt l ad (k + 1) a) {ok0 : Nat → Prop} (hp : RD ok0 W (.rptr [.sl rows]) (.pointer (some ad)))
    {Yt Yf : World → Prop} (hY : ∀ v, (∀ ok, RD ok W (.rptr [.sl rows]) (.pointer (some ad)) → RV ⟨fun _ _ => none, fun _ => 0, ok, fun _ => False⟩ W y v) → YieldAt Fence.wide n P l #[.int .i64 k, v] W fun e W' => (e = .returned (.bool true) ∧ Yt W') ∨ (e = .returned (.bool false) ∧ Yf W'))
    {ops : Array Oper} {Q : Exit → Act → World → Prop} (hQt : ∀ a' W', BkAt l ad (k + 1) a' → a'.eval (.tmp 18) = .bool false → Yt W' → Q .normal a' W') (hQf : ∀ a' W', a'.defers = [] → a'.eval (.tmp 18) = .bool true → Yf W' → Q .normal a' W') : wpListIn (FW none) n P ops Q [d0, d1, d2, d3, d4, d5, d6, d7] a W := by
  obtain ⟨s0, s1, s2, s3, sd⟩ := h
  have hlt : k < rows.length := (List.getElem?_eq_some_iff.1 hrow).1
  have hne : rows ≠ [] := by intro h0; rw [h0] at hlt; simp at hlt
  obtain ⟨ad', A, c, he, hld, h0, hall⟩ := bk_slice (P := P) ht hp
  obtain rfl : ad = ad' := by simpa using he
  obtain ⟨b, E', rfl, hrr⟩ := h0 hne
  obtain ⟨hl, hre⟩ := hrr.get hrow
  rw [hwid row (List.mem_of_getElem? hrow)] at hl
  subst hl
  obtain ⟨v, hlv, hrv⟩ := load_row (P := P) hs hy (rdrow_shift hre)
  rw [Nat.zero_add] at hlv
  have hv : ∀ ok, RD ok W (.rptr [.sl rows]) (.pointer (some ad)) → RV ⟨fun _ _ => none, fun _ => 0, ok, fun _ => False⟩ W y v := fun ok hok => by
    obtain ⟨b', E'', e1, hrr'⟩ := hall ok hok hne
    obtain rfl : b = b' := by simpa using e1
    obtain ⟨hl', hre'⟩ := hrr'.get hrow
    rw [hwid row (List.mem_of_getElem? hrow)] at hl'
    subst hl'
    exact hrv ok (rdrow_shift hre')
  replace hY := hY v hv
  have p0 : a.eval (.tmp 3) = .int .i64 (k : Int) := by rw [s3]; congr 1; omega
  obtain ⟨a1, e1⟩ : ∃ a1, a1 = a.put (some 11) (a.eval (.tmp 0)) := ⟨_, rfl⟩
  obtain ⟨a2, e2⟩ : ∃ a2, a2 = a1.put (some 12) (a1.eval (.tmp 3)) := ⟨_, rfl⟩
  obtain ⟨a3, e3⟩ : ∃ a3, a3 = a2.put (some 13) (.slice (some b) rows.length c) := ⟨_, rfl⟩
  obtain ⟨a4, e4⟩ : ∃ a4, a4 = a3.put (some 14) (a3.eval (.tmp 3)) := ⟨_, rfl⟩
  obtain ⟨a5, e5⟩ : ∃ a5, a5 = a4.put (some 15) (.pointer (some (b.add ((k : Int).toNat * sh.getD 1)))) := ⟨_, rfl⟩
  obtain ⟨a6, e6⟩ : ∃ a6, a6 = a5.put (some 16) v := ⟨_, rfl⟩
  have g1 : a1.tmps.size = 19 := by rw [e1, size_put, s0]
  have g2 : a2.tmps.size = 19 := by rw [e2, size_put, g1]
  have g3 : a3.tmps.size = 19 := by rw [e3, size_put, g2]
  have g4 : a4.tmps.size = 19 := by rw [e4, size_put, g3]
  have g5 : a5.tmps.size = 19 := by rw [e5, size_put, g4]
  have g6 : a6.tmps.size = 19 := by rw [e6, size_put, g5]
  have q1 : ∀ t : Nat, t ≠ 11 → a1.eval (.tmp t) = a.eval (.tmp t) := fun t ht => by rw [e1, eval_put (by rw [s0]; decide), if_neg ht]
  have q2 : ∀ t : Nat, t ≠ 12 → a2.eval (.tmp t) = a1.eval (.tmp t) := fun t ht => by rw [e2, eval_put (by rw [g1]; decide), if_neg ht]
  have q3 : ∀ t : Nat, t ≠ 13 → a3.eval (.tmp t) = a2.eval (.tmp t) := fun t ht => by rw [e3, eval_put (by rw [g2]; decide), if_neg ht]
  have q4 : ∀ t : Nat, t ≠ 14 → a4.eval (.tmp t) = a3.eval (.tmp t) := fun t ht => by rw [e4, eval_put (by rw [g3]; decide), if_neg ht]
  have q5 : ∀ t : Nat, t ≠ 15 → a5.eval (.tmp t) = a4.eval (.tmp t) := fun t ht => by rw [e5, eval_put (by rw [g4]; decide), if_neg ht]
  have q6 : ∀ t : Nat, t ≠ 16 → a6.eval (.tmp t) = a5.eval (.tmp t) := fun t ht => by rw [e6, eval_put (by rw [g5]; decide), if_neg ht]
  have r1 : a1.eval (.tmp 11) = .func (.yield l) #[] #[] := by rw [e1, eval_put (by rw [s0]; decide), if_pos rfl, s1]
  have r2 : a2.eval (.tmp 12) = .int .i64 (k : Int) := by rw [e2, eval_put (by rw [g1]; decide), if_pos rfl, q1 3 (by decide), p0]
  have r3 : a3.eval (.tmp 13) = .slice (some b) rows.length c := by rw [e3, eval_put (by rw [g2]; decide), if_pos rfl]
  have r4 : a4.eval (.tmp 14) = .int .i64 (k : Int) := by rw [e4, eval_put (by rw [g3]; decide), if_pos rfl, q3 3 (by decide), q2 3 (by decide), q1 3 (by decide), p0]
  have r5 : a5.eval (.tmp 15) = .pointer (some (b.add ((k : Int).toNat * sh.getD 1))) := by rw [e5, eval_put (by rw [g4]; decide), if_pos rfl]
  have r6 : a6.eval (.tmp 16) = v := by rw [e6, eval_put (by rw [g5]; decide), if_pos rfl]
  have far : ∀ t : Nat, t < 11 → a6.eval (.tmp t) = a.eval (.tmp t) := fun t ht => by
    rw [q6 t (by omega), q5 t (by omega), q4 t (by omega), q3 t (by omega), q2 t (by omega), q1 t (by omega)]
  have def6 : a6.defers = [] := by rw [e6, defers_put, e5, defers_put, e4, defers_put, e3, defers_put, e2, defers_put, e1, defers_put, sd]
  refine is_step D0 (by intro c h; cases h) (run_mv (.inl D0)) ?_
  rw [← e1]
  refine is_step D1 (by intro c h; cases h) (run_mv (.inl D1)) ?_
  rw [← e2]
  refine is_step D2 (by intro c h; cases h) (run_ld D2 (by rw [q2 1 (by decide), q1 1 (by decide), s2]) hld) ?_
  rw [← e3]
  refine is_step D3 (by intro c h; cases h) (run_mv (.inl D3)) ?_
  rw [← e4]
  refine is_step D4 (by intro c h; cases h) (run_ix D4 hu hE (by rw [q4 13 (by decide), r3]) r4 (by omega) (by omega)) ?_
  rw [← e5]
  refine is_step D5 (by intro c h; cases h) (run_ld D5 r5 (by rw [show (k : Int).toNat = k by omega]; exact hlv)) ?_
  rw [← e6]
  refine wpListIn_plain D6.guard fun K hK => ?_
  refine run_yl D6 (by rw [q6 11 (by decide), q5 11 (by decide), q4 11 (by decide), q3 11 (by decide), q2 11 (by decide), r1]) (by rw [q6 12 (by decide), q5 12 (by decide), q4 12 (by decide), q3 12 (by decide), r2]) r6 (yieldAt_wide hY) ?_
  have fin : ∀ (b : Bool) (w' : World), (∀ a', BkAt l ad (k + 1) a' → a'.eval (.tmp 18) = .bool !b → Q .normal a' w') → K (a6.put (some 17) (.bool b)) w' := fun b w' hq => hK _ _ (by
    have g7 : (a6.put (some 17) (.bool b)).tmps.size = 19 := by rw [size_put, g6]
    refine is_step D7 (by intro c h; cases h) (run_nt D7 (b := b) (by rw [eval_put (by rw [g6]; decide), if_pos rfl])) ?_
    have far7 : ∀ t : Nat, t < 11 → ((a6.put (some 17) (.bool b)).put (some 18) (.bool !b)).eval (.tmp t) = a.eval (.tmp t) := fun t ht => by
      rw [eval_put (by rw [g7]; decide), if_neg (by omega), eval_put (by rw [g6]; decide), if_neg (by omega), far t ht]
    exact wpListIn_nil (hq _ ⟨(size_put _ _ _).trans g7, by rw [far7 0 (by decide), s1], by rw [far7 1 (by decide), s2], by rw [far7 3 (by decide), s3], def6⟩ (by rw [eval_put (by rw [g7]; decide), if_pos rfl])))
  rintro e w' (⟨rfl, hj⟩ | ⟨rfl, hj⟩)
  · exact ⟨_, rfl, fin true w' fun a' h1 h2 => hQt a' w' h1 h2 hj⟩
  · exact ⟨_, rfl, fin false w' fun a' h1 h2 => hQf a' w' h1.defers h2 hj⟩
theorem bk_leave {n : Nat} {fn : Func} {R : Ending → World → Prop} {a : Act} {w : World} (hq : fn.results = #[]) (hd : a.defers = []) (hR : R (.returned (.tuple #[])) w) : LeavesInM (FW none) n P fn a.tmps R a.defers .returning w := by
  rw [hd]
  exact ⟨_, results_none hq _ _ _, hR⟩
theorem pick_row {sh : Option Nat} {row : List D} (h : row.length = sh.getD 1) : ∃ y, pickN sh (row.map .d) = some y := by
  cases sh with
  | none =>
    cases row with
    | nil => simp at h
    | cons d row => exact ⟨_, rfl⟩
  | some n => exact ⟨_, by simp only [pickN, List.length_map]; rw [if_pos (by simp at h; omega)]⟩
theorem start_act {x y : Value} {m : Nat} {a : Act} (h : a = { tmps := #[x] ++ [y].toArray ++ Array.replicate m undef, defers := [] }) (hm : m = 17) : a.tmps.size = 19 ∧ a.eval (.tmp 0) = x ∧ a.eval (.tmp 1) = y ∧ a.defers = [] := by
  subst h
  refine ⟨?_, ?_, ?_, rfl⟩
  · simp [hm]
  · show (#[x] ++ [y].toArray ++ Array.replicate m undef).getD 0 undef = x
    generalize Array.replicate m undef = R
    rw [Array.getD_eq_getD_getElem?, Array.getElem?_append_left (by simp)]
    rfl
  · show (#[x] ++ [y].toArray ++ Array.replicate m undef).getD 1 undef = y
    generalize Array.replicate m undef = R
    rw [Array.getD_eq_getD_getElem?, Array.getElem?_append_left (by simp)]
    rfl
theorem okBack_ok {sh : Option Nat} {rows : List (List D)} (hok : okBack sh rows = true) : (∀ r ∈ rows, r.length = sh.getD 1) ∧ rows.length ≤ 4611686018427387904 := by
  unfold okBack at hok
  rw [Bool.and_eq_true] at hok
  refine ⟨fun r hr => ?_, of_decide_eq_true hok.2⟩
  have := List.all_eq_true.1 hok.1 r hr
  exact eq_of_beq this
theorem backward_ok {gf : FuncId} {fn : Func} {t u : TypeId} {sh : Option Nat} {i0 i1 i2 i3 b0 b1 : Nat} {a0 a1 a2 a3 c0 c1 d0 d1 d2 d3 d4 d5 d6 d7 e0 e1 e2 : Oper} {ts : Array TypeId} {t1 t2 t3 t4 t5 t6 t7 : TypeId}
    (hf : P.funcs[gf]? = some fn)
    (hb : fn.body = some (.seq (.region i0 #[a0, a1, a2, a3] false) (.block b0 (.loop (.seq (.seq (.region i1 #[c0, c1] false) (.cond (.tmp 8) .skip (.exit b0))) (.seq (.block b1 (.seq (.region i3 #[d0, d1, d2, d3, d4, d5, d6, d7] false) (.cond (.tmp 18) .ret .skip))) (.region i2 #[e0, e1, e2] false)))))))
    (hn : fn.ntmps = 19) (hq : fn.results = #[]) (hu : P.underlying t = some (.slice u)) (hE : sizeIn P u = some (sh.getD 1)) (hs : shapeOf P u = some sh) (ht : shapeOf P t = some none)
    (A0 : Is a0 4 (.load t (.tmp 1))) (A1 : Is a1 5 (.call { callee := .builtin .len, args := #[.tmp 4], argTypes := #[t] })) (A2 : Is a2 6 (.binOp .sub t1 (.tmp 5) (.const (.int .i64 1)) t2)) (A3 : Is a3 3 (.assign (.tmp 6)))
    (C0 : Is c0 7 (.move (.tmp 3))) (C1 : Is c1 8 (.binOp .geq t3 (.tmp 7) (.const (.int .i64 0)) t4))
    (D0 : Is d0 11 (.move (.tmp 0))) (D1 : Is d1 12 (.move (.tmp 3))) (D2 : Is d2 13 (.load t (.tmp 1))) (D3 : Is d3 14 (.move (.tmp 3))) (D4 : Is d4 15 (.indexAddr t (.tmp 13) (.tmp 14))) (D5 : Is d5 16 (.load u (.tmp 15)))
    (D6 : Is d6 17 (.call { callee := .value (.tmp 11), args := #[.tmp 12, .tmp 16], argTypes := ts })) (D7 : Is d7 18 (.unOp .not t5 (.tmp 17)))
    (E0 : Is e0 9 (.move (.tmp 3))) (E1 : Is e1 10 (.binOp .sub t6 (.tmp 9) (.const (.int .i64 1)) t7)) (E2 : Is e2 3 (.assign (.tmp 10))) : BackOK P gf sh := by
  intro lb rows l J Jx W n hok hJ hY h0
  obtain ⟨hwid, hlen⟩ := okBack_ok hok
  obtain ⟨ok, hk, hr⟩ := hJ _ W h0
  obtain ⟨p, rfl, hp⟩ := rdlist_one hr
  obtain ⟨ad, A, c, rfl, hld, _, _⟩ := bk_slice (P := P) ht hp
  refine callsIn_of_wp_marks (F := FW none) hf hb trivial (wpIn_seq (wpIn_region_list ?_))
  rw [hn]
  generalize haa : ({ tmps := #[Value.func (.yield l) #[] #[]] ++ [Value.pointer (some ad)].toArray ++ Array.replicate (19 - (#[Value.func (.yield l) #[] #[]] ++ [Value.pointer (some ad)].toArray).size) undef, defers := [] } : Act) = aa
  obtain ⟨s0, s1, s2, s3⟩ := start_act haa.symm (by simp)
  clear haa
  refine bk_start hu hlen A0 A1 A2 A3 hld s0 s1 s2 s3 fun a1 h1 => ?_
  show Code.wpIn (FW none) n P (.block b0 _) _ a1 W
  refine wpIn_block (wpIn_loop (BkI rows l ad J) BkM ⟨_, Nat.le_refl _, h1, h0⟩ ?_)
  rintro a w ⟨k, hkl, hat, hJk⟩
  refine wpIn_seq (wpIn_seq (wpIn_region_list (bk_test C0 C1 hat fun a' hat' h8 => ?_)))
  show Code.wpIn (FW none) n P (.cond (.tmp 8) .skip (.exit b0)) _ a' w
  refine wpIn_cond h8 ?_
  cases k with
  | zero =>
    rw [show decide (0 ≤ ((0 : Nat) : Int) - 1) = false from by decide]
    refine wpIn_exit ?_
    show (if b0 = b0 then _ else _)
    rw [if_pos rfl]
    exact bk_leave hq hat'.defers ⟨⟨_, rfl⟩, .inl hJk⟩
  | succ k =>
    rw [show decide (0 ≤ ((k + 1 : Nat) : Int) - 1) = true from decide_eq_true (by omega)]
    refine wpIn_skip ?_
    show Code.wpIn (FW none) n P (.seq (.block b1 _) _) _ a' w
    refine wpIn_seq (wpIn_block (wpIn_seq (wpIn_region_list ?_)))
    obtain ⟨ok1, hk1, hr1⟩ := hJ _ w hJk
    have hlt : k < rows.length := by omega
    obtain ⟨y, hy⟩ := pick_row (sh := sh) (hwid _ (List.getElem_mem hlt))
    have hp1 : RD ok1 w (.rptr [.sl rows]) (.pointer (some ad)) := by simpa only [RDList, and_true] using hr1
    refine bk_yield hu hE hs ht D0 D1 D2 D3 D4 D5 D6 D7 hwid (List.getElem?_eq_getElem hlt) hy hat' hp1 (Yt := J k) (Yf := Jx) (fun v hv => hY k _ y v w hJk (List.getElem?_eq_getElem hlt) hy fun ok2 _ h2 => hv ok2 (by simpa only [RDList, and_true] using h2)) (fun a2 w2 hat2 h18 hJ2 => ?_) (fun a2 w2 hd2 h18 hJ2 => ?_)
    · show Code.wpIn (FW none) n P (.cond (.tmp 18) .ret .skip) _ a2 w2
      refine wpIn_cond h18 (wpIn_skip ?_)
      show Code.wpIn (FW none) n P (.region i2 _ false) _ a2 w2
      refine wpIn_region_list (bk_step (by omega) E0 E1 E2 hat2 fun a3 hat3 => ?_)
      refine ⟨⟨k, by omega, hat3, hJ2⟩, ?_⟩
      rw [hat3.m, hat.m]
      omega
    · show Code.wpIn (FW none) n P (.cond (.tmp 18) .ret .skip) _ a2 w2
      refine wpIn_cond h18 (wpIn_ret ?_)
      exact bk_leave hq hd2 ⟨⟨_, rfl⟩, .inr hJ2⟩
end
end Go.Proofs.Ytmhfhobaicklmaa.Ax
