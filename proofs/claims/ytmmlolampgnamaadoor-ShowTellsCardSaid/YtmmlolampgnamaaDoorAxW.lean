/- Words for walks by trees: what an answer says less, a rule for loops, rows that are read, typed contracts. -/
import Derived.Test.YtmmlolampgnamaaDoorAxTab
namespace Go.Proofs.YtmmlolampgnamaaDoor.Ax
open Go.RowKit
set_option linter.unusedVariables false
set_option linter.unusedSectionVars false

/-! ### Answers that say less: nil is a slice without rows -/
def Rc.le : Rc → Rc → Prop
  | .nil, .new _ rows => rows = []
  | .nil, .d (.sl rows) => rows = []
  | x, y => x = y
def Rc.les : List Rc → List Rc → Prop
  | [], [] => True
  | x :: xs, y :: ys => x.le y ∧ Rc.les xs ys
  | _, _ => False
def Rc.le1 : Sum Rc (List Rc) → Sum Rc (List Rc) → Prop
  | .inl x, .inl y => x.le y
  | .inr x, .inr y => Rc.les x y
  | _, _ => False
def Rc.le1s : List (Sum Rc (List Rc)) → List (Sum Rc (List Rc)) → Prop
  | [], [] => True
  | x :: xs, y :: ys => Rc.le1 x y ∧ Rc.le1s xs ys
  | _, _ => False
def RR.le : RR → RR → Prop
  | .c x, .c y => x.le y
  | .agg x, .agg y => Rc.les x y
  | .tup x, .tup y => Rc.le1s x y
  | _, _ => False
@[simp] theorem Rc.le_refl (x : Rc) : x.le x := by cases x <;> simp [Rc.le]
@[simp] theorem Rc.le_nil (E : Nat) (rows : List (List D)) : Rc.le .nil (.new E rows) ↔ rows = [] := Iff.rfl
@[simp] theorem Rc.les_refl : ∀ (x : List Rc), Rc.les x x
  | [] => trivial
  | x :: xs => ⟨Rc.le_refl x, Rc.les_refl xs⟩
@[simp] theorem Rc.le1_refl : ∀ (x : Sum Rc (List Rc)), Rc.le1 x x
  | .inl x => Rc.le_refl x
  | .inr x => Rc.les_refl x
@[simp] theorem Rc.le1s_refl : ∀ (x : List (Sum Rc (List Rc))), Rc.le1s x x
  | [] => trivial
  | x :: xs => ⟨Rc.le1_refl x, Rc.le1s_refl xs⟩
@[simp] theorem RR.le_refl (x : RR) : x.le x := by cases x <;> simp [RR.le]
theorem RR.le_of_eq {x y : RR} (h : x = y) : x.le y := h ▸ RR.le_refl x

section
variable {ok : Nat → Prop} {w : World}
theorem RRc.le {x y : Rc} {v : Value} {bs : List Nat} (h : RRc ok w x v bs) (hl : x.le y) : RRc ok w y v bs := by
  cases x with
  | nil =>
    obtain ⟨h1, h2⟩ := h
    cases y with
    | nil => exact ⟨h1, h2⟩
    | new E rows => exact .inl ⟨h1, hl, h2⟩
    | d x =>
      cases x with
      | sl rows =>
        obtain rfl : rows = [] := hl
        refine ⟨h1, ?_⟩
        simp only [RD]
        exact ⟨none, 0, h2, Nat.le_refl _, fun h => absurd rfl h⟩
      | _ => cases hl
  | d x => obtain rfl : Rc.d x = y := hl; exact h
  | new E rows => obtain rfl : Rc.new E rows = y := hl; exact h
theorem RRcs.le : ∀ {x y : List Rc} {vs : List Value} {bs : List Nat}, RRcs ok w x vs bs → Rc.les x y → RRcs ok w y vs bs
  | [], [], _, _, h, _ => h
  | x :: xs, y :: ys, [], _, h, _ => by simp [RRcs] at h
  | x :: xs, y :: ys, v :: vs, bs, ⟨b1, b2, h1, h2, h3⟩, hl => ⟨b1, b2, h1, RRc.le h2 hl.1, RRcs.le h3 hl.2⟩
  | [], _ :: _, _, _, _, hl => hl.elim
  | _ :: _, [], _, _, _, hl => hl.elim
theorem RR1.le {x y : Sum Rc (List Rc)} {v : Value} {bs : List Nat} (h : RR1 ok w x v bs) (hl : Rc.le1 x y) : RR1 ok w y v bs := by
  cases x with
  | inl x => cases y with
    | inl y => exact RRc.le h hl
    | inr y => exact hl.elim
  | inr x => cases y with
    | inl y => exact hl.elim
    | inr y => obtain ⟨vs, h1, h2⟩ := h; exact ⟨vs, h1, RRcs.le h2 hl⟩
theorem RR1s.le : ∀ {x y : List (Sum Rc (List Rc))} {vs : List Value} {bs : List Nat}, RR1s ok w x vs bs → Rc.le1s x y → RR1s ok w y vs bs
  | [], [], _, _, h, _ => h
  | x :: xs, y :: ys, [], _, h, _ => by simp [RR1s] at h
  | x :: xs, y :: ys, v :: vs, bs, ⟨b1, b2, h1, h2, h3⟩, hl => ⟨b1, b2, h1, RR1.le h2 hl.1, RR1s.le h3 hl.2⟩
  | [], _ :: _, _, _, _, hl => hl.elim
  | _ :: _, [], _, _, _, hl => hl.elim
theorem RRv.le {x y : RR} {v : Value} {bs : List Nat} (h : RRv ok w x v bs) (hl : x.le y) : RRv ok w y v bs := by
  cases x with
  | c x => cases y with
    | c y => exact RRc.le h hl
    | _ => exact hl.elim
  | agg x => cases y with
    | agg y => obtain ⟨vs, h1, h2⟩ := h; exact ⟨vs, h1, RRcs.le h2 hl⟩
    | _ => exact hl.elim
  | tup x => cases y with
    | tup y => obtain ⟨vs, h1, h2⟩ := h; exact ⟨vs, h1, RR1s.le h2 hl⟩
    | _ => exact hl.elim
end
theorem ACalls.le {P : Program} {f : FuncId} {as : List A} {r r' : RR} (h : ACalls P f as r) (hl : r.le r') : ACalls P f as r' :=
  fun w vals ok h1 h2 h3 => (h w vals ok h1 h2 h3).mono fun e w' ⟨v, ok', bs, q1, q2, q3, q4, q5, q6, q7⟩ => ⟨v, ok', bs, q1, q2, q3, q4, RRv.le q5 hl, q6, q7⟩

section
variable {P : Program} {sp : Sp}
/-- What a tree shows of a call: it answers something of which it holds. -/
theorem acalls_some (hsp : sp.sound P) {f : FuncId} {fn : Func} {tbl : List (Nat × List Nat)} {a : FnA} {nargs : Nat} (hf : P.funcs[f]? = some fn) (ha : fnA P fn nargs tbl = some a) {as : List A} (hl : as.length = nargs) {m : Nat} {R : RR → Prop}
    (h : (a.start sp m as).holds sp.cx a.rs R) : ∃ r, R r ∧ ACalls P f as r := by
  have h1 : Aw sp.cx a.code (startA a.n a.tags as) (unw sp.cx [] fun e s => (∀ id, e ≠ .exit id) ∧ ∃ r, resA a.rs s = some r ∧ R r) := goW_sound hsp _ _ _ _ h
  obtain ⟨n, e, s, h2, h3⟩ := h1
  obtain ⟨h3, r, h4, h5⟩ : (∀ id, e ≠ .exit id) ∧ ∃ r, resA a.rs s = some r ∧ R r := h3
  refine ⟨r, h5, ?_⟩
  unfold fnA at ha
  split at ha
  · rename_i c hb
    split at ha
    · rename_i ac rs hc hr
      simp only [Option.some.injEq] at ha; subst ha
      refine calls_fits (Z0_ok P) (K := keepBy tbl) (cx := sp.cx) (Sp.calls hsp) hf hb ?_ hr h2 h3 h4
      simp only [startA, List.length_append, List.length_map, List.length_replicate, hl]
      exact hc
    · cases ha
  · cases ha
theorem acalls_le (hsp : sp.sound P) {f : FuncId} {fn : Func} {tbl : List (Nat × List Nat)} {a : FnA} {nargs : Nat} (hf : P.funcs[f]? = some fn) (ha : fnA P fn nargs tbl = some a) {as : List A} (hl : as.length = nargs) {m : Nat} {r : RR}
    (h : (a.start sp m as).holds sp.cx a.rs fun x => x.le r) : ACalls P f as r := by
  obtain ⟨r', h1, h2⟩ := acalls_some hsp hf ha hl h
  exact h2.le h1

/-- A loop of which each round comes nearer to its end. -/
theorem loop_rule (hsp : sp.sound P) {a : FnA} {j m : Nat} {R : RR → Prop} {ι : Type} (F : ι → St) (I : ι → Prop) (μ : ι → Nat)
    (h : ∀ i, I i → (∀ i', I i' → μ i' < μ i → (a.at_ j (F i')).holds sp.cx a.rs R) → (a.round sp m j (F i)).holds sp.cx a.rs R) : ∀ i, I i → (a.at_ j (F i)).holds sp.cx a.rs R := by
  have key : ∀ n i, μ i < n → I i → (a.at_ j (F i)).holds sp.cx a.rs R := by
    intro n
    induction n with
    | zero => intro i hi; omega
    | succ n ih => intro i hi hI; exact at_of_round hsp (h i hI fun i' hI' hlt => ih i' (by omega) hI')
  exact fun i hI => key _ i (Nat.lt_succ_self _) hI
end
theorem need_holds {cx : Cx} {rs : List RVar} {R : RR → Prop} {p : Prop} {k : VC} (hp : p) (hk : p → k.holds cx rs R) : (VC.need p k).holds cx rs R := ⟨hp, hk hp⟩

/-! ### Short words for states -/
def vi (n : Int) : AV := .c (.d (.int .i64 n))
def vb (b : Bool) : AV := .c (.d (.bool b))
def vt (s : ByteArray) : AV := .c (.d (.str s))
def vr (rows : List (List D)) : AV := .c (.d (.sl rows))
def vo (t n : Nat) : AV := .c (.own t 1 n)
def vp (t : Nat) : AV := .c (.bptr t 1 0)
def bx (cells : List D) : Blk := ⟨1, false, .box (cells.map .d)⟩
def bc (cells : List Cl) : Blk := ⟨1, false, .box cells⟩
def ba (E : Nat) (rows : List (List D)) : Blk := ⟨1, false, .arr E rows⟩

/-! ### Rows that are read -/
section
variable {α : Type} [Row α]
/-- A row's i-th; behind the last one what an empty row says. -/
def rd (l : List α) (i : Int) : α := l.getD i.toNat (Row.of [])
theorem of_rowAt (l : List α) (i : Int) : Row.of (rowAt (rowsOn l) (Int.toNat i)) = rd l i := by
  unfold rd rowAt rowsOn
  rw [List.getD_eq_getElem?_getD, List.getD_eq_getElem?_getD, List.getElem?_map]
  cases l[i.toNat]? with
  | none => rfl
  | some x => exact Row.of_row x
theorem rowAt_on (l : List α) (i : Int) (h0 : 0 ≤ i) (h : i < l.length) : rowAt (rowsOn l) (Int.toNat i) = row (rd l i) := by
  have hi : i.toNat < l.length := by omega
  rw [rowAt_rowsOn l _ hi]
  unfold rd
  rw [List.getD_eq_getElem?_getD, List.getElem?_eq_getElem hi]; rfl
theorem idx_ok (l : List α) (i : Int) (n : Nat) (hn : n = Row.n α) (h0 : 0 ≤ i) (h : i < l.length) : 0 ≤ i ∧ i < (l.length : Int) ∧ (rowAt (rowsOn l) (Int.toNat i)).length = n :=
  ⟨h0, h, by rw [rowAt_on l i h0 h, Row.len, hn]⟩
theorem okSh_ok (sh : List Kd) (l : List α) (i : Int) (hs : ∀ x : α, okSh sh (row x)) (h0 : 0 ≤ i) (h : i < l.length) : okSh sh (rowAt (rowsOn l) (Int.toNat i)) := by
  rw [rowAt_on l i h0 h]; exact hs _
theorem okSh_okD (sh : List Kd) (j : Nat) (l : List α) (i : Int) (hs : ∀ x : α, okSh sh ((row x).drop j)) (h0 : 0 ≤ i) (h : i < l.length) : okSh sh (List.drop j (rowAt (rowsOn l) (Int.toNat i))) := by
  rw [rowAt_on l i h0 h]; exact hs _
theorem rowsOn_set (l : List α) (i : Nat) (x : α) : (rowsOn l).set i (row x) = rowsOn (l.set i x) := by
  unfold rowsOn; exact (List.map_set ..).symm
theorem rowsOn_replicate (n : Nat) (x : α) : List.replicate n (row x) = rowsOn (List.replicate n x) := by
  unfold rowsOn; rw [List.map_replicate]
theorem rowsOn_nil : rowsOn ([] : List α) = [] := rfl
theorem rowsOn_cons (x : α) (l : List α) : rowsOn (x :: l) = row x :: rowsOn l := rfl
theorem rowsOn_snoc (l : List α) (x : α) : rowsOn l ++ [row x] = rowsOn (l ++ [x]) := by rw [rowsOn_append]; rfl
/-- Rows that stand for a list, and how many they are. -/
def OnL (R : List (List D)) (n : Nat) (l : List α) : Prop := R = rowsOn l ∧ n = l.length
theorem OnL.nil : OnL ([] : List (List D)) 0 ([] : List α) := ⟨rfl, rfl⟩
theorem OnL.snoc {R : List (List D)} {n : Nat} {l : List α} (h : OnL R n l) (x : α) : OnL (R ++ [row x]) (R.length + [row x].length) (l ++ [x]) := by
  obtain ⟨rfl, rfl⟩ := h
  exact ⟨rowsOn_snoc l x, by simp⟩
theorem OnL.app {R : List (List D)} {n : Nat} {l : List α} (h : OnL R n l) (m : List α) : OnL (R ++ rowsOn m) (R.length + (rowsOn m).length) (l ++ m) := by
  obtain ⟨rfl, rfl⟩ := h
  exact ⟨(rowsOn_append l m).symm, by simp⟩
theorem app_ok {R r2 : List (List D)} {n : Nat} {l : List α} {E k : Nat} (h : OnL R n l) (hE : E = Row.n α) (h2 : (r2.all fun r => r.length == E) = true) (hb : (l.length + r2.length + 100) * k ≤ 70368744177664) :
    (r2.all fun r => r.length == E) = true ∧ (R.all fun r => r.length == E) = true ∧ (R.length + r2.length + 100) * k ≤ 70368744177664 := by
  obtain ⟨rfl, rfl⟩ := h
  exact ⟨h2, rowsOn_all l E hE, by rw [rowsOn_length]; exact hb⟩
theorem splice_all (r ds : List D) (h : ds.length = r.length) : splice r 0 ds = ds := by
  unfold splice
  simp [h]
theorem OnL.lt {R : List (List D)} {n : Nat} {l : List α} (h : OnL R n l) {i : Int} (h0 : 0 ≤ i) (hi : i < l.length) : i.toNat < R.length ∧ (rowAt R i.toNat).length = Row.n α := by
  obtain ⟨rfl, rfl⟩ := h
  refine ⟨by rw [rowsOn_length]; omega, by rw [rowAt_on l i h0 hi, Row.len]⟩
theorem OnL.set {R : List (List D)} {n : Nat} {l : List α} (h : OnL R n l) {i : Int} (h0 : 0 ≤ i) (hi : i < l.length) (x : α) : OnL (R.set i.toNat (splice (rowAt R i.toNat) 0 (row x))) n (l.set i.toNat x) := by
  have h2 := (h.lt h0 hi).2
  rw [splice_all _ _ (by rw [Row.len, h2])]
  obtain ⟨rfl, rfl⟩ := h
  exact ⟨rowsOn_set l _ x, by simp⟩
theorem OnL.rep (n : Nat) (x : α) : OnL (List.replicate n (row x)) n (List.replicate n x) := ⟨rowsOn_replicate n x, by simp⟩
theorem aload_ok (l : List α) (i : Int) {n : Nat} {sh : List Kd} (hn : n = Row.n α) (hs : ∀ x : α, okSh sh (row x)) (h0 : 0 ≤ i) (h : i < l.length) : i.toNat < l.length ∧ (rowAt (rowsOn l) i.toNat).length = n ∧ okSh sh (rowAt (rowsOn l) i.toNat) :=
  ⟨by omega, by rw [rowAt_on l i h0 h, Row.len, hn], okSh_ok sh l i hs h0 h⟩
theorem aload_okD (l : List α) (i : Int) (j : Nat) {n : Nat} {sh : List Kd} (hn : n = Row.n α) (hs : ∀ x : α, okSh sh ((row x).drop j)) (h0 : 0 ≤ i) (h : i < l.length) : i.toNat < l.length ∧ (rowAt (rowsOn l) i.toNat).length = n ∧ okSh sh (List.drop j (rowAt (rowsOn l) i.toNat)) :=
  ⟨by omega, by rw [rowAt_on l i h0 h, Row.len, hn], okSh_okD sh j l i hs h0 h⟩
theorem astore_ok {R : List (List D)} {n : Nat} {l : List α} (h : OnL R n l) {i : Int} {E a : Nat} (hE : E = Row.n α) (h0 : 0 ≤ i) (hi : i < l.length) (ha : a ≤ E) : i.toNat < R.length ∧ (rowAt R i.toNat).length = E ∧ a ≤ E := by
  obtain ⟨h1, h2⟩ := h.lt h0 hi
  exact ⟨h1, h2.trans hE.symm, ha⟩
theorem rowsOn_inj {l m : List α} (h : rowsOn l = rowsOn m) : l = m := by
  rw [← listOf_rowsOn l, h, listOf_rowsOn]
end
theorem getD_drop (r : List D) (j i : Nat) (d : D) : (r.drop j).getD i d = r.getD (j + i) d := by
  rw [List.getD_eq_getElem?_getD, List.getD_eq_getElem?_getD, List.getElem?_drop]
@[simp] theorem rd_int (l : List Int) (i : Int) : asInt (List.getD (rowAt (rowsOn l) (Int.toNat i)) 0 .nilp) = rd l i := of_rowAt l i
@[simp] theorem rd_PMem_name (l : List PMem) (i : Int) : asStr (List.getD (rowAt (rowsOn l) (Int.toNat i)) 0 .nilp) = (rd l i).name := congrArg PMem.name (of_rowAt l i)
@[simp] theorem rd_PMem_secret (l : List PMem) (i : Int) : asBool (List.getD (rowAt (rowsOn l) (Int.toNat i)) 1 .nilp) = (rd l i).secret := congrArg PMem.secret (of_rowAt l i)
@[simp] theorem rd_PMem_n (l : List PMem) (i : Int) : asInt (List.getD (rowAt (rowsOn l) (Int.toNat i)) 2 .nilp) = (rd l i).n := congrArg PMem.n (of_rowAt l i)
@[simp] theorem rd_PLabel_name (l : List PLabel) (i : Int) : asStr (List.getD (rowAt (rowsOn l) (Int.toNat i)) 0 .nilp) = (rd l i).name := congrArg PLabel.name (of_rowAt l i)
@[simp] theorem rd_PLabel_at_ (l : List PLabel) (i : Int) : asInt (List.getD (rowAt (rowsOn l) (Int.toNat i)) 1 .nilp) = (rd l i).at_ := congrArg PLabel.at_ (of_rowAt l i)
@[simp] theorem rd_Ins_kind (l : List Ins) (i : Int) : asInt (List.getD (rowAt (rowsOn l) (Int.toNat i)) 0 .nilp) = (rd l i).kind := congrArg Ins.kind (of_rowAt l i)
@[simp] theorem rd_Ins_op (l : List Ins) (i : Int) : asInt (List.getD (rowAt (rowsOn l) (Int.toNat i)) 1 .nilp) = (rd l i).op := congrArg Ins.op (of_rowAt l i)
@[simp] theorem rd_Ins_d (l : List Ins) (i : Int) : asInt (List.getD (rowAt (rowsOn l) (Int.toNat i)) 2 .nilp) = (rd l i).d := congrArg Ins.d (of_rowAt l i)
@[simp] theorem rd_Ins_aR (l : List Ins) (i : Int) : asBool (List.getD (rowAt (rowsOn l) (Int.toNat i)) 3 .nilp) = (rd l i).aR := congrArg Ins.aR (of_rowAt l i)
@[simp] theorem rd_Ins_aN (l : List Ins) (i : Int) : asInt (List.getD (rowAt (rowsOn l) (Int.toNat i)) 4 .nilp) = (rd l i).aN := congrArg Ins.aN (of_rowAt l i)
@[simp] theorem rd_Ins_bR (l : List Ins) (i : Int) : asBool (List.getD (rowAt (rowsOn l) (Int.toNat i)) 5 .nilp) = (rd l i).bR := congrArg Ins.bR (of_rowAt l i)
@[simp] theorem rd_Ins_bN (l : List Ins) (i : Int) : asInt (List.getD (rowAt (rowsOn l) (Int.toNat i)) 6 .nilp) = (rd l i).bN := congrArg Ins.bN (of_rowAt l i)
@[simp] theorem rd_Ins_name (l : List Ins) (i : Int) : asStr (List.getD (rowAt (rowsOn l) (Int.toNat i)) 7 .nilp) = (rd l i).name := congrArg Ins.name (of_rowAt l i)
@[simp] theorem rd_Ins_target (l : List Ins) (i : Int) : asInt (List.getD (rowAt (rowsOn l) (Int.toNat i)) 8 .nilp) = (rd l i).target := congrArg Ins.target (of_rowAt l i)
@[simp] theorem rd_Ent_pc (l : List Ent) (i : Int) : asInt (List.getD (rowAt (rowsOn l) (Int.toNat i)) 0 .nilp) = (rd l i).pc := congrArg Ent.pc (of_rowAt l i)
@[simp] theorem rd_Ent_val (l : List Ent) (i : Int) : asInt (List.getD (rowAt (rowsOn l) (Int.toNat i)) 1 .nilp) = (rd l i).val := congrArg Ent.val (of_rowAt l i)
@[simp] theorem rd_Ent_addr (l : List Ent) (i : Int) : asInt (List.getD (rowAt (rowsOn l) (Int.toNat i)) 2 .nilp) = (rd l i).addr := congrArg Ent.addr (of_rowAt l i)
@[simp] theorem rd_Ent_fro (l : List Ent) (i : Int) : asInt (List.getD (rowAt (rowsOn l) (Int.toNat i)) 3 .nilp) = (rd l i).fro := congrArg Ent.fro (of_rowAt l i)
@[simp] theorem rd_Ent_next (l : List Ent) (i : Int) : asInt (List.getD (rowAt (rowsOn l) (Int.toNat i)) 4 .nilp) = (rd l i).next := congrArg Ent.next (of_rowAt l i)
@[simp] theorem rd_Ent_done (l : List Ent) (i : Int) : asBool (List.getD (rowAt (rowsOn l) (Int.toNat i)) 5 .nilp) = (rd l i).done := congrArg Ent.done (of_rowAt l i)
@[simp] theorem rd_Ent_known (l : List Ent) (i : Int) : asBool (List.getD (rowAt (rowsOn l) (Int.toNat i)) 6 .nilp) = (rd l i).known := congrArg Ent.known (of_rowAt l i)
@[simp] theorem rd_Ent_fault (l : List Ent) (i : Int) : asBool (List.getD (rowAt (rowsOn l) (Int.toNat i)) 7 .nilp) = (rd l i).fault := congrArg Ent.fault (of_rowAt l i)
theorem drop_rd {α : Type} [Row α] (l : List α) (i : Int) (h0 : 0 ≤ i) (h : i < l.length) : l.drop i.toNat = rd l i :: l.drop (i + 1).toNat := by
  have hi : i.toNat < l.length := by omega
  have h1 : (i + 1).toNat = i.toNat + 1 := by omega
  rw [List.drop_eq_getElem_cons hi, h1]
  congr 1
  unfold rd
  rw [List.getD_eq_getElem?_getD, List.getElem?_eq_getElem hi]; rfl
theorem rd_mem {α : Type} [Row α] (l : List α) (i : Int) (h0 : 0 ≤ i) (h : i < l.length) : rd l i ∈ l := by
  have hi : i.toNat < l.length := by omega
  unfold rd
  rw [List.getD_eq_getElem?_getD, List.getElem?_eq_getElem hi]
  exact List.getElem_mem hi
theorem rd_lt {α : Type} [Row α] (l : List α) (i : Nat) (h : i < l.length) : rd l (i : Int) = l[i] := by
  unfold rd
  rw [List.getD_eq_getElem?_getD, show ((i : Int)).toNat = i from by omega, List.getElem?_eq_getElem h]; rfl

theorem asRows_sl (r : List (List D)) : asRows (.sl r) = r := rfl
theorem asInt_int (k : IntKind) (n : Int) : asInt (.int k n) = n := rfl
theorem asBool_bool (b : Bool) : asBool (.bool b) = b := rfl
theorem asStr_str (b : ByteArray) : asStr (.str b) = b := rfl
open Classical in
/-- One of those for which something holds. -/
noncomputable def pick {β : Type} [Inhabited β] (Q : β → Prop) : β := if h : ∃ y, Q y then h.choose else default
theorem pick_spec {β : Type} [Inhabited β] {Q : β → Prop} (h : ∃ y, Q y) : Q (pick Q) := by
  unfold pick
  rw [dif_pos h]
  exact h.choose_spec
/-- An answer as data. -/
def Rc.data : Rc → Rc
  | .new _ rows => .d (.sl rows)
  | .nil => .d (.sl [])
  | x => x
def RR.data : RR → RR
  | .c x => .c x.data
  | .agg l => .agg (l.map Rc.data)
  | .tup l => .tup (l.map fun | .inl x => .inl x.data | .inr xs => .inr (xs.map Rc.data))
section
variable {ok : Nat → Prop} {w : World}
theorem RRc.toData {x : Rc} {v : Value} {bs : List Nat} {ok' : Nat → Prop} (h : RRc ok w x v bs) (hok : ∀ b, ok b → ok' b) (hbs : ∀ b ∈ bs, ok' b) : RRc ok' w x.data v [] := by
  cases x with
  | d x => obtain ⟨h1, h2⟩ := h; exact ⟨rfl, RD.mono hok (fun _ _ => rfl) x v h2⟩
  | nil =>
    obtain ⟨h1, h2⟩ := h
    refine ⟨rfl, ?_⟩
    simp only [RD]
    exact ⟨none, 0, h2, Nat.le_refl _, fun h => absurd rfl h⟩
  | new E rows =>
    refine ⟨rfl, ?_⟩
    simp only [RD]
    rcases h with ⟨rfl, rfl, rfl⟩ | ⟨b, c, cs, ty, rfl, rfl, hE, hh, hcs, hrc, hrr⟩
    · exact ⟨none, 0, rfl, Nat.le_refl _, fun h => absurd rfl h⟩
    · exact ⟨some ⟨b, 0, none⟩, c, rfl, hrc, fun _ => ⟨_, E, rfl, hbs b (by simp), RDRows.mono hok (fun _ _ => rfl) _ rfl E rows 0 hrr⟩⟩
theorem RRcs.toData {ok' : Nat → Prop} (hok : ∀ b, ok b → ok' b) : ∀ {x : List Rc} {vs : List Value} {bs : List Nat}, RRcs ok w x vs bs → (∀ b ∈ bs, ok' b) → RRcs ok' w (x.map Rc.data) vs []
  | [], [], _, _, _ => rfl
  | [], _ :: _, _, h, _ => by simp [RRcs] at h
  | x :: xs, [], _, h, _ => by simp [RRcs] at h
  | x :: xs, v :: vs, bs, ⟨b1, b2, h1, h2, h3⟩, hb => ⟨[], [], rfl, RRc.toData h2 hok (fun b hb' => hb b (by rw [h1]; simp [hb'])), RRcs.toData hok h3 (fun b hb' => hb b (by rw [h1]; simp [hb']))⟩
theorem RR1s.toData {ok' : Nat → Prop} (hok : ∀ b, ok b → ok' b) : ∀ {x : List (Sum Rc (List Rc))} {vs : List Value} {bs : List Nat}, RR1s ok w x vs bs → (∀ b ∈ bs, ok' b) → RR1s ok' w (x.map fun | .inl x => .inl x.data | .inr xs => .inr (xs.map Rc.data)) vs []
  | [], [], _, _, _ => rfl
  | [], _ :: _, _, h, _ => by simp [RR1s] at h
  | x :: xs, [], _, h, _ => by simp [RR1s] at h
  | .inl x :: xs, v :: vs, bs, ⟨b1, b2, h1, h2, h3⟩, hb => ⟨[], [], rfl, RRc.toData h2 hok (fun b hb' => hb b (by rw [h1]; simp [hb'])), RR1s.toData hok h3 (fun b hb' => hb b (by rw [h1]; simp [hb']))⟩
  | .inr x :: xs, v :: vs, bs, ⟨b1, b2, h1, ⟨us, h2, h4⟩, h3⟩, hb => ⟨[], [], rfl, ⟨us, h2, RRcs.toData hok h4 (fun b hb' => hb b (by rw [h1]; simp [hb']))⟩, RR1s.toData hok h3 (fun b hb' => hb b (by rw [h1]; simp [hb']))⟩
theorem RRv.toData {ok' : Nat → Prop} (hok : ∀ b, ok b → ok' b) {x : RR} {v : Value} {bs : List Nat} (h : RRv ok w x v bs) (hb : ∀ b ∈ bs, ok' b) : RRv ok' w x.data v [] := by
  cases x with
  | c x => exact RRc.toData h hok hb
  | agg l => obtain ⟨vs, h1, h2⟩ := h; exact ⟨vs, h1, RRcs.toData hok h2 hb⟩
  | tup l => obtain ⟨vs, h1, h2⟩ := h; exact ⟨vs, h1, RR1s.toData hok h2 hb⟩
end
theorem ACalls.data {P : Program} {f : FuncId} {as : List A} {r : RR} (h : ACalls P f as r) : ACalls P f as r.data :=
  fun w vals ok h1 h2 h3 => (h w vals ok h1 h2 h3).mono fun e w' ⟨v, ok', bs, q1, q2, q3, q4, q5, q6, q7⟩ =>
    ⟨v, fun b => ok' b ∨ b ∈ bs, [], q1, q2, fun b hb => hb.elim (q3 b) fun hb => (q7 b hb).2.2, fun b hb => hb.elim (q4 b) fun hb => .inr (q7 b hb).2.1, RRv.toData (fun b hb => .inl hb) q5 (fun b hb => .inr hb), by simp, by simp⟩

/-- Rows that lead nowhere. -/
class NoRef (α : Type) [Row α] : Prop where
  h : ∀ a : α, ((row a).all fun d => !(hasRef d)) = true
instance : NoRef Int := ⟨fun _ => rfl⟩
instance : NoRef Ins := ⟨fun _ => rfl⟩
instance : NoRef Ent := ⟨fun _ => rfl⟩
instance : NoRef PMem := ⟨fun _ => rfl⟩
instance : NoRef PLabel := ⟨fun _ => rfl⟩
@[simp] theorem noref {α : Type} [Row α] [NoRef α] (E : Nat) (l : List α) : rcRef (.new E (rowsOn l)) = false := by
  simp only [rcRef, rowsOn, List.all_map, Bool.not_eq_false', List.all_eq_true]
  exact fun a _ => NoRef.h a

@[simp] theorem rcRef_d (x : D) : rcRef (.d x) = hasRef x := rfl
@[simp] theorem rcRef_nil : rcRef .nil = false := rfl
@[simp] theorem hasRef_int (k : IntKind) (n : Int) : hasRef (.int k n) = false := rfl
@[simp] theorem hasRef_bool (b : Bool) : hasRef (.bool b) = false := rfl
@[simp] theorem hasRef_str (s : ByteArray) : hasRef (.str s) = false := rfl
/-- A contract by what is handed in. -/
structure FT (ι : Type) where
  f : FuncId
  arg : ι → List A
  rd : List A → ι
  pre : ι → Prop
  ans : ι → RR
  ref : Bool
  rt : ∀ i, rd (arg i) = i
def FT.fe {ι : Type} (t : FT ι) : FE := { f := t.f, pre := fun xs => xs = t.arg (t.rd xs) ∧ t.pre (t.rd xs), ans := fun xs => t.ans (t.rd xs), ref := t.ref }
/-- The contract, its answer told as a value's shape. -/
def FT.gfe {ι : Type} (t : FT ι) {β : Type} (v : ι → β) (sh : β → RR) (e : ∀ i, sh (v i) = t.ans i) : FE := { f := t.f, pre := fun xs => xs = t.arg (t.rd xs) ∧ t.pre (t.rd xs), ans := fun xs => t.ans (t.rd xs), ref := t.ref, gen := fun xs => some ⟨β, v (t.rd xs), sh⟩, gok := fun xs g h => by cases h; exact e _ }
theorem FT.gfe_good {P : Program} {ι : Type} {t : FT ι} (h : t.fe.Good P) {β : Type} {v : ι → β} {sh : β → RR} {e : ∀ i, sh (v i) = t.ans i} : (t.gfe v sh e).Good P := h
theorem FT.good {P : Program} {ι : Type} (t : FT ι) (hent : Enters P t.f) (href : ∀ i, rrRef (t.ans i) = t.ref) (h : ∀ i, t.pre i → ACalls P t.f (t.arg i) (t.ans i)) : t.fe.Good P := by
  rintro xs ⟨h1, h2⟩
  refine ⟨?_, hent, href _⟩
  have := h _ h2
  rw [← h1] at this
  exact this
/-- That a contract holds of what is handed in; the words it is told in, by themselves. -/
def PreOk {ι : Type} (t : FT ι) (i : ι) (xs : List A) : Prop := t.fe.pre xs
theorem PreOk.mk {ι : Type} {t : FT ι} {i : ι} {xs : List A} (hi : t.pre i) (hx : xs = t.arg i) : PreOk t i xs := by
  subst hx
  show t.arg i = t.arg (t.rd (t.arg i)) ∧ t.pre (t.rd (t.arg i))
  rw [t.rt]
  exact ⟨rfl, hi⟩
section
variable {cx : Cx} {rs : List RVar} {R : RR → Prop} {x y : VC}
theorem holds_eq (h : x = y) (hy : y.holds cx rs R) : x.holds cx rs R := h ▸ hy
theorem br_dec {p : Prop} [Decidable p] (hx : p → x.holds cx rs R) (hy : ¬ p → y.holds cx rs R) : (VC.br (decide p) x y).holds cx rs R := br_holds (fun h => hx (of_decide_eq_true h)) (fun h => hy (of_decide_eq_false h))
theorem br_beq {α : Type} [BEq α] [LawfulBEq α] {a b : α} (hx : a = b → x.holds cx rs R) (hy : ¬ a = b → y.holds cx rs R) : (VC.br (a == b) x y).holds cx rs R := br_holds (fun h => hx (eq_of_beq h)) (fun h => hy (by simpa using h))
theorem br_bne {α : Type} [BEq α] [LawfulBEq α] {a b : α} (hx : ¬ a = b → x.holds cx rs R) (hy : a = b → y.holds cx rs R) : (VC.br (a != b) x y).holds cx rs R := br_holds (fun h => hx (by simpa using h)) (fun h => hy (by simpa using h))
theorem br_not {b : Bool} (h : (VC.br b y x).holds cx rs R) : (VC.br (!b) x y).holds cx rs R := by cases b <;> exact h
theorem all_holds {β : Type} {v : β} {k : β → VC} (h : ∀ y, y = v → (k y).holds cx rs R) : (VC.all v k).holds cx rs R := h
theorem ret_le {r r' : RR} (h : r.le r') : (VC.ret (some r)).holds cx rs (fun x => x.le r') := h
theorem ret_eq {r r' : RR} (h : r = r') : (VC.ret (some r)).holds cx rs (fun x => x.le r') := RR.le_of_eq h
end
end Go.Proofs.YtmmlolampgnamaaDoor.Ax
