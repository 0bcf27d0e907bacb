/- Each operation of the model comes to what the abstract interpreter says: those that leave memory as it is. -/
import Derived.Test.YtmmlolampgnamaaDoorAx2
import Derived.Laws.Entries
namespace Go.Proofs.YtmmlolampgnamaaDoor.Ax
open Go.RowKit
set_option linter.unusedVariables false
set_option linter.unusedSimpArgs false

def updF (lk : Nat → Option Blk) : List (Nat × Blk) → Nat → Option Blk
  | [] => lk
  | (t, b) :: r => updF (fun u => if u = t then some b else lk u) r

theorem wp_value {P : Program} {o : Oper} {a : Act} {w w' : World} {K : Act → World → Prop} {Q : Exit → Act → World → Prop} {v : Value}
    (h : (execOp a.eval o).run P w = .ok (.value v) w') (hk : K (a.put o.dst v) w') : o.wp P a w K Q := by
  unfold Oper.wp; rw [h]; exact hk
theorem wp_skip1 {P : Program} {o : Oper} {a : Act} {w w' : World} {K : Act → World → Prop} {Q : Exit → Act → World → Prop}
    (h : (execOp a.eval o).run P w = .ok .skip w') (hk : K (a.put o.dst undef) w') : o.wp P a w K Q := by
  unfold Oper.wp; rw [h]; exact hk

/-- What an operation's soundness says. -/
def Fits (P : Program) (w0 : World) (ok0 : Ctx0) (e : En) (lk : Nat → Option Blk) (w : World) (o : Oper) (a : Act) (f : Ef) : Prop :=
  ∀ (K : Act → World → Prop) (Q : Exit → Act → World → Prop),
    (∀ e' w' v, Ext e w e' w' → Mem w0 ok0 e' (updF lk f.up) w' → RV e' w' f.v v → K (a.put o.dst v) w') → o.wp P a w K Q

section
variable {P : Program} {w0 w : World} {ok0 : Ctx0} {e : En} {lk : Nat → Option Blk} {o : Oper} {a : Act} {cx : Cx} {ev : Operand → AV} {T : Nat} {f : Ef}

theorem fits_pure {x : AV} {rd : List Nat} {v : Value} (hM : Mem w0 ok0 e lk w) (h : (execOp a.eval o).run P w = .ok (.value v) w) (hv : RV e w x v) : Fits P w0 ok0 e lk w o a ⟨x, [], rd⟩ :=
  fun _ _ hK => wp_value h (hK e w v (Ext.refl e w) hM hv)

theorem rv_bool {x : AV} {v : Value} {b : Bool} (h : RV e w x v) (hx : x = .c (.d (.bool b))) : v = .bool b := by subst hx; simpa only [RV, RC, RD] using h
theorem rv_int {x : AV} {v : Value} {k : IntKind} {n : Int} (h : RV e w x v) (hx : x = .c (.d (.int k n))) : v = .int k n := by subst hx; simpa only [RV, RC, RD] using h
theorem rv_str {x : AV} {v : Value} {s : ByteArray} (h : RV e w x v) (hx : x = .c (.d (.str s))) : v = .string s := by subst hx; simpa only [RV, RC, RD] using h

theorem fits_mov (hM : Mem w0 ok0 e lk w) (hev : ∀ x, RV e w (ev x) (a.eval x)) {x : Operand} (ho : o.op = .move x ∨ o.op = .assign x) (he : eff cx ev lk T (.mov x) = some f) : Fits P w0 ok0 e lk w o a f := by
  simp only [eff, Option.some.injEq] at he
  subst he
  refine fits_pure hM (v := a.eval x) ?_ (hev x)
  rcases ho with ho | ho <;> simp [execOp, ho]

theorem fits_pick (hM : Mem w0 ok0 e lk w) (hev : ∀ x, RV e w (ev x) (a.eval x)) {c x y : Operand} (ho : o.op = .pick c x y) (he : eff cx ev lk T (.pick c x y) = some f) : Fits P w0 ok0 e lk w o a f := by
  simp only [eff] at he
  split at he
  · rename_i t hc
    have hb := rv_bool (hev c) hc
    simp only [Option.some.injEq] at he
    subst he
    refine fits_pure hM (v := if t then a.eval x else a.eval y) ?_ ?_
    · cases t <;> simp [execOp, ho, hb, asBool]
    · cases t
      · exact hev y
      · exact hev x
  · cases he

theorem fits_extract (hM : Mem w0 ok0 e lk w) (hev : ∀ x, RV e w (ev x) (a.eval x)) {x : Operand} {i : Nat} (ho : o.op = .extract x i) (he : eff cx ev lk T (.extract x i) = some f) : Fits P w0 ok0 e lk w o a f := by
  simp only [eff] at he
  split at he
  · rename_i vs hx
    have h := hev x
    rw [hx] at h
    obtain ⟨us, hu, hs⟩ := h
    have key : ∀ (l : List (Sum Cl (List Cl))) (us : List Value), R1s e w l us → ∀ (i : Nat) (y : Sum Cl (List Cl)), l[i]? = some y → ∃ u, us[i]? = some u ∧ R1 e w y u := by
      intro l
      induction l with
      | nil => intro us _ i y hy; simp at hy
      | cons z l ih =>
        intro us h i y hy
        cases us with
        | nil => exact h.elim
        | cons u us =>
          cases i with
          | zero => simp only [List.getElem?_cons_zero, Option.some.injEq] at hy; subst hy; exact ⟨u, rfl, h.1⟩
          | succ i => simp only [List.getElem?_cons_succ] at hy ⊢; exact ih us h.2 i y hy
    split at he
    · rename_i c hc
      obtain ⟨u, h1, h2⟩ := key _ _ hs _ _ hc
      simp only [Option.some.injEq] at he; subst he
      refine fits_pure hM (v := u) ?_ h2
      simp [execOp, ho, hu, Instr.extract, h1]
    · rename_i cs hc
      obtain ⟨u, h1, h2⟩ := key _ _ hs _ _ hc
      simp only [Option.some.injEq] at he; subst he
      refine fits_pure hM (v := u) ?_ h2
      simp [execOp, ho, hu, Instr.extract, h1]
    · cases he
  · cases he

theorem fits_un (hM : Mem w0 ok0 e lk w) (hev : ∀ x, RV e w (ev x) (a.eval x)) {x : Operand} {op : UnOp} {t : TypeId} (ho : o.op = .unOp op t x) (he : eff cx ev lk T (.un op x) = some f) : Fits P w0 ok0 e lk w o a f := by
  simp only [eff] at he
  split at he
  · rename_i b hx
    have h := rv_bool (hev x) hx
    simp only [Option.some.injEq] at he; subst he
    exact fits_pure hM (v := .bool !b) (by simp [execOp, ho, h, Op.unary]) (by simp only [RV, RC, RD])
  · rename_i k n hx
    have h := rv_int (hev x) hx
    simp only [Option.some.injEq] at he; subst he
    exact fits_pure hM (v := .int k (k.wrap (0 - n))) (by simp [execOp, ho, h, Op.unary, Op.intArith]) (by simp only [RV, RC, RD])
  · rename_i k n hx
    have h := rv_int (hev x) hx
    simp only [Option.some.injEq] at he; subst he
    exact fits_pure hM (v := .int k (bits .xor k (if k.signed then -1 else k.max) n)) (by simp [execOp, ho, h, Op.unary, intBits_xor]) (by simp only [RV, RC, RD])
  · cases he

theorem run_underlying' {t : TypeId} {d : TypeDesc} (h : P.underlying t = some d) : (underlying t).run P w = .ok d w := run_underlying h w
theorem run_sizeOf {t : TypeId} {n : Nat} (h : sizeIn P t = some n) : (sizeOf t).run P w = .ok n w := by
  unfold sizeIn at h
  cases hi : P.info? t with
  | none => simp [hi] at h
  | some i => simp [hi] at h; simp [sizeOf, typeInfo, hi, h]

theorem fits_cint (hM : Mem w0 ok0 e lk w) (hev : ∀ x, RV e w (ev x) (a.eval x)) {x : Operand} {src dst : TypeId} {k k' : IntKind} (ho : o.op = .convert src dst x)
    (hs : P.underlying src = some (.int k')) (hd : P.underlying dst = some (.int k)) (he : eff cx ev lk T (.cint k x) = some f) : Fits P w0 ok0 e lk w o a f := by
  simp only [eff] at he
  split at he
  · rename_i k1 n hx
    have h := rv_int (hev x) hx
    simp only [Option.some.injEq] at he; subst he
    refine fits_pure hM (v := .int k (k.wrap n)) (by simp [execOp, ho, h, convert, run_underlying hs, run_underlying hd, Conv.intToInt]) (by simp only [RV, RC, RD])
  · cases he

theorem fits_len (hM : Mem w0 ok0 e lk w) (hev : ∀ x, RV e w (ev x) (a.eval x)) {x : Operand} {ts : Array TypeId} {t u : TypeId} (ho : o.op = .call { callee := .builtin .len, args := #[x], argTypes := ts }) (hts : ts[0]? = some t)
    (hu : P.underlying t = some (.slice u)) (he : eff cx ev lk T (.len x) = some f) : Fits P w0 ok0 e lk w o a f := by
  have hsl : ∀ (b : Option Addr) (n c : Nat), a.eval x = .slice b n c → (execOp a.eval o).run P w = .ok (.value (.int .i64 n)) w := by
    intro b n c h
    simp [execOp, ho, resolve, invoke, builtin, Builtin.len_, hts, h, run_underlying hu, goInt]
  have h := hev x
  simp only [eff] at he
  split at he
  · rename_i rows hx
    rw [hx] at h
    simp only [RV, RC, RD] at h
    obtain ⟨A, c, h1, _⟩ := h
    simp only [Option.some.injEq] at he; subst he
    exact fits_pure hM (hsl _ _ _ h1) (by simp only [RV, RC, RD])
  · rename_i t g n hx
    rw [hx] at h
    obtain ⟨_, h⟩ := h
    simp only [Option.some.injEq] at he; subst he
    split at h
    · obtain ⟨h1, h2⟩ := h
      subst h1
      exact fits_pure hM (hsl _ _ _ h2) (by simp only [RV, RC, RD])
    · exact fits_pure hM (hsl _ _ _ h.2.2) (by simp only [RV, RC, RD])
  · rename_i hx
    rw [hx] at h
    simp only [Option.some.injEq] at he; subst he
    exact fits_pure hM (hsl _ _ _ h) (by simp only [RV, RC, RD]; rfl)
  · rename_i rows hx
    rw [hx] at h
    obtain ⟨A, h1, _⟩ := h
    simp only [Option.some.injEq] at he; subst he
    exact fits_pure hM (hsl _ _ _ h1) (by simp only [RV, RC, RD])
  · cases he

theorem fits_lenS (hM : Mem w0 ok0 e lk w) (hev : ∀ x, RV e w (ev x) (a.eval x)) {x : Operand} {ts : Array TypeId} {t : TypeId} (ho : o.op = .call { callee := .builtin .len, args := #[x], argTypes := ts }) (hts : ts[0]? = some t)
    (hu : P.underlying t = some .string) (he : eff cx ev lk T (.lenS x) = some f) : Fits P w0 ok0 e lk w o a f := by
  simp only [eff] at he
  split at he
  · rename_i s hx
    have h := rv_str (hev x) hx
    simp only [Option.some.injEq] at he; subst he
    refine fits_pure hM (v := .int .i64 s.size) ?_ (by simp only [RV, RC, RD])
    simp [execOp, ho, resolve, invoke, builtin, Builtin.len_, hts, h, run_underlying hu, goInt]
  · cases he

theorem fits_lenA (hM : Mem w0 ok0 e lk w) {x : Operand} {ts : Array TypeId} {t u : TypeId} {n : Nat} (ho : o.op = .call { callee := .builtin .len, args := #[x], argTypes := ts }) (hts : ts[0]? = some t)
    (hu : P.underlying t = some (.array n u)) (he : eff cx ev lk T (.lenA n) = some f) : Fits P w0 ok0 e lk w o a f := by
  simp only [eff, Option.some.injEq] at he; subst he
  refine fits_pure hM (v := .int .i64 n) ?_ (by simp only [RV, RC, RD])
  simp [execOp, ho, resolve, invoke, builtin, Builtin.len_, hts, run_underlying hu, goInt]

theorem run_ibin {op : BinOp} {k : IntKind} {x y : Int} {r : D} {t : TypeId} (hr : ibin op k x y = some r) : ∃ v, (binOp op t (.int k x) (.int k y)).run P w = .ok v w ∧ RD e.ok w r v := by
  cases op <;> simp only [ibin] at hr <;> first
    | (split at hr
       · cases hr
       · rename_i hy
         obtain rfl := Option.some.inj hr
         exact ⟨_, by simp [binOp, Op.intDiv, hy]; rfl, by simp only [RD]⟩)
    | (obtain rfl := Option.some.inj hr; exact ⟨_, by simp [binOp, Op.intArith, Op.intCmp, intBits_and, intBits_or, intBits_xor, intBits_andNot]; rfl, by simp only [RD]⟩)
    | cases hr

theorem run_sbin {op : BinOp} {x y : ByteArray} {r : D} {t : TypeId} (hr : sbin op x y = some r) : ∃ v, (binOp op t (.string x) (.string y)).run P w = .ok v w ∧ RD e.ok w r v := by
  cases op <;> simp only [sbin] at hr <;> first
    | (split at hr
       · rename_i hy
         obtain rfl := Option.some.inj hr
         refine ⟨.string (x ++ y), ?_, by simp only [RD]⟩
         have : ¬ ((x.size : Int) + y.size > 9223372036854775807) := by omega
         simp [binOp, Op.stringOp, IntKind.max_i64]
         omega
       · cases hr)
    | (obtain rfl := Option.some.inj hr; exact ⟨_, by simp [binOp, Op.stringOp]; rfl, by simp only [RD]⟩)
    | cases hr

theorem run_dbin {op : BinOp} {x y r : D} {u v : Value} {t : TypeId} (hx : RD e.ok w x u) (hy : RD e.ok w y v) (hr : dbin op x y = some r) : ∃ z, (binOp op t u v).run P w = .ok z w ∧ RD e.ok w r z := by
  cases x with
  | int k n =>
    cases y with
    | int k' m =>
      simp only [RD] at hx hy
      subst hx; subst hy
      have other : (op ≠ .shl) → (op ≠ .shr) → (if k = k' then ibin op k n m else none) = some r → ∃ z, (binOp op t (.int k n) (.int k' m)).run P w = .ok z w ∧ RD e.ok w r z := by
        intro _ _ h
        split at h
        · rename_i hk; subst hk; exact run_ibin h
        · cases h
      cases op <;> simp only [dbin] at hr <;> first
        | exact other (by simp) (by simp) hr
        | (split at hr
           · cases hr
           · rename_i hm
             obtain rfl := Option.some.inj hr
             exact ⟨_, by simp [binOp, Op.shift, hm]; rfl, by simp only [RD]⟩)
    | _ => simp [dbin] at hr
  | str s =>
    cases y with
    | str s' =>
      simp only [RD] at hx hy
      subst hx; subst hy
      simp only [dbin] at hr
      exact run_sbin hr
    | _ => simp [dbin] at hr
  | _ => simp [dbin] at hr

theorem eqGuard_told {op : BinOp} {t : TypeId} {x y : Operand} {u v : Value} (h : (∃ k n, u = .int k n) ∨ (∃ s, u = .string s) ∨ ∃ b, u = .bool b) : eqGuard op t x y u v = pure () := by
  rcases h with ⟨k, n, rfl⟩ | ⟨s, rfl⟩ | ⟨b, rfl⟩
  · exact eqGuard_at_int _ _ _ _ _ _ _
  · exact eqGuard_at_string _ _ _ _ _ _
  · exact eqGuard_at_bool _ _ _ _ _ _

theorem fits_bin (hM : Mem w0 ok0 e lk w) (hev : ∀ x, RV e w (ev x) (a.eval x)) {op : BinOp} {x y : Operand} {t t' : TypeId} (ho : o.op = .binOp op t x y t') (he : eff cx ev lk T (.bin op x y) = some f) : Fits P w0 ok0 e lk w o a f := by
  simp only [eff] at he
  split at he
  · rename_i p q hp hq
    have h1 := hev x
    have h2 := hev y
    rw [hp] at h1; rw [hq] at h2
    simp only [RV, RC] at h1 h2
    cases hr : dbin op p q with
    | none => rw [hr] at he; cases he
    | some r =>
      rw [hr] at he
      simp only [Option.map_some, Option.some.injEq] at he; subst he
      obtain ⟨z, hz, hd⟩ := run_dbin (P := P) (e := e) (t := t) h1 h2 hr
      have hg : (∃ k n, a.eval x = .int k n) ∨ (∃ s, a.eval x = .string s) ∨ ∃ b, a.eval x = .bool b := by
        cases p with
        | int k n => simp only [RD] at h1; exact .inl ⟨k, n, h1⟩
        | str s => simp only [RD] at h1; exact .inr (.inl ⟨s, h1⟩)
        | _ => simp [dbin] at hr
      exact fits_pure hM (v := z) (by simp [execOp, ho, eqGuard_told hg, hz]) hd
  · cases he

theorem fits_binB (hM : Mem w0 ok0 e lk w) (hev : ∀ x, RV e w (ev x) (a.eval x)) {neg : Bool} {x y : Operand} {t t' : TypeId} (ht : P.underlying t = some .bool) (ho : o.op = .binOp (if neg then .neq else .eql) t x y t') (he : eff cx ev lk T (.binB neg x y) = some f) : Fits P w0 ok0 e lk w o a f := by
  simp only [eff] at he
  split at he
  · rename_i p q hp hq
    have h1 := rv_bool (hev x) hp
    have h2 := rv_bool (hev y) hq
    simp only [Option.some.injEq] at he; subst he
    have heq : (Op.equal t (.bool p) (.bool q)).run P w = .ok (p == q) w := by
      show (Op.equalIn (9999 + 1) t (.bool p) (.bool q)).run P w = _
      unfold Op.equalIn
      simp only [Sem.run_bind, run_underlying ht, Result.andThen_ok]
      rfl
    cases neg
    · exact fits_pure hM (v := .bool (p == q)) (by simp [execOp, ho, h1, h2, eqGuard_at_bool, binOp, heq]) (by simp only [RV, RC, RD]; rfl)
    · exact fits_pure hM (v := .bool (!(p == q))) (by simp [execOp, ho, h1, h2, eqGuard_at_bool, binOp, heq]) (by simp only [RV, RC, RD]; rfl)
  · cases he

theorem shape_none {t : TypeId} (h : shapeOf P t = some none) : (isAgg t).run P w = .ok false w := by
  unfold shapeOf at h
  cases hu : P.underlying t with
  | none => simp [hu] at h
  | some d =>
    cases hi : P.info? t with
    | none => cases d <;> simp [hu, hi] at h
    | some i => cases d <;> simp [hu, hi] at h <;> simp [isAgg, run_underlying hu]
theorem shape_some {t : TypeId} {n : Nat} (h : shapeOf P t = some (some n)) : (isAgg t).run P w = .ok true w ∧ (sizeOf t).run P w = .ok n w := by
  unfold shapeOf at h
  cases hu : P.underlying t with
  | none => simp [hu] at h
  | some d =>
    cases hi : P.info? t with
    | none => cases d <;> simp [hu, hi] at h
    | some i => cases d <;> simp [hu, hi] at h <;> simp [isAgg, run_underlying hu, sizeOf, typeInfo, hi, h]

/-- A value out of a row of cells. -/
theorem run_part {t : TypeId} {n : Option Nat} (hs : shapeOf P t = some n) {cs : List Cl} {vs : List Value} {off : Nat} (hr : RCs e w cs vs) {x : AV} (hx : pickN n (cs.drop off) = some x) (ho : off ≤ cs.length) :
    ∃ v, (part t vs.toArray off).run P w = .ok v w ∧ RV e w x v := by
  have hl := hr.length
  cases n with
  | none =>
    simp only [pickN, List.getElem?_drop, Nat.add_zero] at hx
    cases hc : cs[off]? with
    | none => simp [hc] at hx
    | some y =>
      simp only [hc, Option.map_some, Option.some.injEq] at hx
      subst hx
      obtain ⟨v, hv, hd⟩ := hr.get hc
      exact ⟨v, by simp [part, shape_none hs, hv], hd⟩
  | some n =>
    simp only [pickN] at hx
    split at hx
    · rename_i hn
      simp only [Option.some.injEq] at hx
      subst hx
      obtain ⟨h1, h2⟩ := shape_some (P := P) (w := w) hs
      refine ⟨.agg ((vs.drop off).take n).toArray, ?_, _, rfl, (hr.drop off).take n⟩
      simp only [part, Sem.run_bind, h1, Result.andThen_ok, if_true, h2, Sem.run_pure]
      congr 2
      apply Array.ext'
      simp [List.take_drop]
    · cases hx

theorem fits_field (hM : Mem w0 ok0 e lk w) (hev : ∀ x, RV e w (ev x) (a.eval x)) {x : Operand} {t : TypeId} {i : Nat} {fs : Array Field} {fd : Field} {n : Option Nat} (ho : o.op = .field t x i)
    (hu : P.underlying t = some (.struct fs)) (hf : fs[i]? = some fd) (hs : shapeOf P fd.type = some n) (he : eff cx ev lk T (.field fd.offset n x) = some f) : Fits P w0 ok0 e lk w o a f := by
  simp only [eff] at he
  split at he
  · rename_i cs hx
    have h := hev x
    rw [hx] at h
    obtain ⟨vs, hv, hr⟩ := h
    split at he
    · rename_i hoff
      cases hp : pickN n (cs.drop fd.offset) with
      | none => simp [hp] at he
      | some y =>
        simp only [hp, Option.map_some, Option.some.injEq] at he
        subst he
        obtain ⟨v, hv', hd⟩ := run_part (P := P) hs hr hp hoff
        exact fits_pure hM (v := v) (by simp [execOp, ho, Instr.field, run_underlying hu, hf, asAgg, hv, hv']) hd
    · cases he
  · cases he

theorem fits_faddr (hM : Mem w0 ok0 e lk w) (hev : ∀ x, RV e w (ev x) (a.eval x)) {x : Operand} {t : TypeId} {i n : Nat} {fs : Array Field} {fd : Field} (ho : o.op = .fieldAddr t x i)
    (hu : P.underlying t = some (.struct fs)) (hf : fs[i]? = some fd) (hs : sizeIn P fd.type = some n) (hn : n ≠ 0) (he : eff cx ev lk T (.faddr fd.offset x) = some f) : Fits P w0 ok0 e lk w o a f := by
  have hrun : ∀ ad, a.eval x = .pointer (some ad) → (execOp a.eval o).run P w = .ok (.value (.pointer (some (ad.add fd.offset)))) w := by
    intro ad h
    simp [execOp, ho, Instr.fieldAt, run_underlying hu, hf, h, Instr.sureAddr, fieldPlace, run_sizeOf hs, hn]
  have h := hev x
  simp only [eff] at he
  split at he
  · rename_i t' g j hx
    rw [hx] at h
    obtain ⟨hg, b, c, E, hb, hv⟩ := h
    simp only [Option.some.injEq] at he; subst he
    refine fits_pure hM (hrun _ hv) ⟨hg, b, c, E, hb, ?_⟩
    rw [add_lit]
  · rename_i t' g k j hx
    rw [hx] at h
    obtain ⟨hg, b, c, E, hb, hv⟩ := h
    simp only [Option.some.injEq] at he; subst he
    refine fits_pure hM (hrun _ hv) ⟨hg, b, c, E, hb, ?_⟩
    rw [add_lit, Nat.add_assoc]
  · rename_i l hx
    rw [hx] at h
    simp only [RV, RC, RD] at h
    obtain ⟨ad, hv, hk, hr⟩ := h
    simp only [Option.some.injEq] at he; subst he
    refine fits_pure hM (hrun _ hv) ?_
    simp only [RV, RC, RD]
    refine ⟨_, rfl, by rw [add_block]; exact hk, RDRow.of fun i x hi => ?_⟩
    rw [List.getElem?_drop] at hi
    obtain ⟨u, h1, h2⟩ := hr.get hi
    refine ⟨u, ?_, h2⟩
    rw [← h1]
    congr 1
    simp only [Nat.zero_add]
    unfold Addr.add
    by_cases h0 : fd.offset = 0
    · simp [h0]
    · by_cases h1 : i = 0
      · simp [h0, h1]
      · simp [h0, h1]; omega
  · cases he

theorem fits_iaddrA (hM : Mem w0 ok0 e lk w) (hev : ∀ x, RV e w (ev x) (a.eval x)) {x i : Operand} {t u : TypeId} {n E : Nat} (ho : o.op = .indexAddr t x i)
    (hu : P.underlying t = some (.array n u)) (hs : sizeIn P u = some E) (he : eff cx ev lk T (.iaddrA n E x i) = some f) : Fits P w0 ok0 e lk w o a f := by
  have hrun : ∀ ad k m, a.eval x = .pointer (some ad) → a.eval i = .int k m → 0 ≤ m → m < n → (execOp a.eval o).run P w = .ok (.value (.pointer (some (ad.add (m.toNat * E))))) w := by
    intro ad k m h hi h0 h1
    simp [execOp, ho, Instr.indexAt, run_underlying hu, h, hi, asIntOf, Instr.sureAddr, run_sizeOf hs, h0, h1]
  have h := hev x
  simp only [eff] at he
  split at he
  · rename_i t' g j k m hx hi
    rw [hx] at h
    have hi' := rv_int (hev i) hi
    obtain ⟨hg, b, c, E', hb, hv⟩ := h
    split at he
    · rename_i hm
      simp only [Option.some.injEq] at he; subst he
      refine fits_pure hM (hrun _ _ _ hv hi' hm.1 hm.2) ⟨hg, b, c, E', hb, ?_⟩
      rw [add_lit]
    · cases he
  · rename_i t' g k j k' m hx hi
    rw [hx] at h
    have hi' := rv_int (hev i) hi
    obtain ⟨hg, b, c, E', hb, hv⟩ := h
    split at he
    · rename_i hm
      simp only [Option.some.injEq] at he; subst he
      refine fits_pure hM (hrun _ _ _ hv hi' hm.1 hm.2) ⟨hg, b, c, E', hb, ?_⟩
      rw [add_lit, Nat.add_assoc]
    · cases he
  · rename_i l k' m hx hi
    rw [hx] at h
    have hi' := rv_int (hev i) hi
    simp only [RV, RC, RD] at h
    obtain ⟨ad, hv, hk, hr⟩ := h
    split at he
    · rename_i hm
      simp only [Option.some.injEq] at he; subst he
      refine fits_pure hM (hrun _ _ _ hv hi' hm.1 hm.2) ?_
      simp only [RV, RC, RD]
      refine ⟨_, rfl, by rw [add_block]; exact hk, RDRow.of fun i x hi => ?_⟩
      rw [List.getElem?_drop] at hi
      obtain ⟨u, h1, h2⟩ := hr.get hi
      refine ⟨u, ?_, h2⟩
      rw [← h1]
      congr 1
      simp only [Nat.zero_add]
      generalize m.toNat * E = q
      unfold Addr.add
      by_cases h0 : q = 0
      · simp [h0]
      · by_cases h1 : i = 0
        · simp [h0, h1]
        · simp [h0, h1]; omega
    · cases he
  · cases he

theorem rowsOf_some {t g : Nat} {fz : Bool} {E : Nat} {rows : List (List D)} (h : rowsOf lk t g = some (fz, E, rows)) : lk t = some ⟨g, fz, .arr E rows⟩ := by
  unfold rowsOf at h
  split at h
  · rename_i g' fz' E' rows' hl
    split at h
    · rename_i hc
      subst hc
      simp only [Option.some.injEq, Prod.mk.injEq] at h
      obtain ⟨rfl, rfl, rfl⟩ := h
      exact hl
    · cases h
  · cases h

theorem own_len (hM : Mem w0 ok0 e lk w) {t g n : Nat} {fz : Bool} {E : Nat} {rows : List (List D)} (hl : lk t = some ⟨g, fz, .arr E rows⟩) {v : Value} (h : RC e w (.own t g n) v) : rows.length = n := by
  have ha := hM.arr t g fz E rows hl
  obtain ⟨_, h⟩ := h
  cases hb : e.β t g with
  | none =>
    rw [hb] at h ha
    have : rows = [] := ha
    rw [this, h.1]; rfl
  | some q =>
    obtain ⟨b, c, E'⟩ := q
    rw [hb] at h ha
    obtain ⟨rfl, _⟩ := ha
    exact h.1

theorem subN_some {E : Nat} {rows : List (List D)} {i j : Nat} {r : List D} (h : subN E rows i j = some r) : ∃ q, rows[i]? = some q ∧ q.length = E ∧ r = q.drop j := by
  unfold subN at h
  split at h
  · rename_i q hq
    split at h
    · rename_i hl
      exact ⟨q, hq, hl, (Option.some.inj h).symm⟩
    · cases h
  · cases h

theorem fits_iaddrS (hM : Mem w0 ok0 e lk w) (hev : ∀ x, RV e w (ev x) (a.eval x)) {x i : Operand} {t u : TypeId} {E : Nat} (ho : o.op = .indexAddr t x i)
    (hu : P.underlying t = some (.slice u)) (hs : sizeIn P u = some E) (he : eff cx ev lk T (.iaddrS E x i) = some f) : Fits P w0 ok0 e lk w o a f := by
  have hrun : ∀ ad k m n c, a.eval x = .slice (some ad) n c → a.eval i = .int k m → 0 ≤ m → m < n → (execOp a.eval o).run P w = .ok (.value (.pointer (some (ad.add (m.toNat * E))))) w := by
    intro ad k m n c h hi h0 h1
    simp [execOp, ho, Instr.indexAt, run_underlying hu, h, hi, asIntOf, run_sizeOf hs, h0, h1]
  have h := hev x
  simp only [eff] at he
  split at he
  · rename_i rows k m hx hi
    rw [hx] at h
    have hi' := rv_int (hev i) hi
    simp only [RV, RC, RD] at h
    obtain ⟨A, c, hv, hc, hr⟩ := h
    split at he
    · rename_i hm
      cases hsb : subN E rows m.toNat 0 with
      | none => simp [hsb] at he
      | some r =>
        simp only [hsb, Option.map_some, Option.some.injEq] at he; subst he
        obtain ⟨q, hq, hl, rfl⟩ := subN_some hsb
        have hlt : m.toNat < rows.length := (List.getElem?_eq_some_iff.1 hq).1
        obtain ⟨ad, E', rfl, hk, hrows⟩ := hr (by intro h0; rw [h0] at hlt; simp at hlt)
        obtain ⟨e1, e2⟩ := hrows.get hq
        obtain rfl : E' = E := by rw [← e1, hl]
        refine fits_pure hM (hrun _ _ _ _ _ hv hi' hm (by omega)) ?_
        simp only [RV, RC, RD, List.drop_zero]
        refine ⟨_, rfl, by rw [add_block]; exact hk, RDRow.of fun i x hi => ?_⟩
        obtain ⟨u, h1, h2⟩ := e2.get hi
        refine ⟨u, ?_, h2⟩
        rw [← h1]
        congr 1
        simp only [Nat.zero_add]
        generalize m.toNat * E' = q
        unfold Addr.add
        by_cases h0 : q = 0
        · simp [h0]
        · by_cases h1 : i = 0
          · simp [h0, h1]
          · simp [h0, h1]; omega
    · cases he
  · rename_i t' g n k m hx hi
    rw [hx] at h
    have hi' := rv_int (hev i) hi
    obtain ⟨hg, h⟩ := h
    split at he
    · rename_i fz E' rows hro
      have hl := rowsOf_some hro
      split at he
      · rename_i hc
        obtain ⟨rfl, h0, h1⟩ := hc
        simp only [Option.some.injEq] at he; subst he
        have ha := hM.arr t' g fz E' rows hl
        cases hb : e.β t' g with
        | none => rw [hb] at h; obtain ⟨hn0, _⟩ := h; omega
        | some q =>
          obtain ⟨b, c, E2⟩ := q
          rw [hb] at h ha
          obtain ⟨_, _, hv⟩ := h
          obtain ⟨rfl, _⟩ := ha
          refine fits_pure hM (hrun _ _ _ _ _ hv hi' h0 h1) ⟨hg, b, c, _, hb, ?_⟩
          rw [add_lit, Nat.zero_add, Nat.add_zero]
      · cases he
    · cases he
  · cases he
end

end Go.Proofs.YtmmlolampgnamaaDoor.Ax
