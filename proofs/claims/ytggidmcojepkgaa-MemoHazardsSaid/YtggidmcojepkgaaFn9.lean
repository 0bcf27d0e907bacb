import Derived.Test.YtggidmcojepkgaaFn7
import Derived.Test.YtggidmcojepkgaaFn3
import Derived.Test.YtggidmcojepkgaaAxTab
namespace Go.Proofs.Ytggidmcojepkgaa.Ax
open Go.RowKit
set_option linter.unusedVariables false
def e15 : FE := ⟨15, pre0 15, ans0 15, false⟩
theorem e15_good : e15.Good Try.prog := good15
def e8 : FE := ⟨8, pre0 8, ans0 8, false⟩
theorem e8_good : e8.Good Try.prog := good8
def hazC (ins : List Ins) (i addr : Int) (e : Ent) : Bool := (atS ins e.pc).kind == 2 && (e.known && (e.addr == addr && decide (e.fro < i)))
def hazF (ins : List Ins) (l : List Ent) (i addr : Int) : Nat → Nat → Option Nat
  | 0, _ => none
  | m + 1, k => if hazC ins i addr (l.getD k default) = true then some k else hazF ins l i addr m (k + 1)
def hazS (ins : List Ins) (l : List Ent) (i addr : Int) : Option Nat := hazF ins l i addr (l.length - (max (min i l.length + 1) 0).toNat) (max (min i l.length + 1) 0).toNat
def tup2 (o : Option Nat) : RR := .tup [.inl (.d (.int .i64 (match o with
  | some k => (k : Int)
  | none => 0))), .inl (.d (.bool o.isSome))]
def pre9 (xs : List A) : Prop := ∃ (p : Prg) (l : List Ent) (i addr : Int), xs = [.agg p.cells, .c (.sl (rowsOn l)), .c (.int .i64 i), .c (.int .i64 addr)] ∧ l.length ≤ 1000000000 ∧ -1000000000 ≤ i
def ans9 (xs : List A) : RR := match xs with
  | [.agg [_, _, _, _, _, _, _, _, _, .sl is], .c (.sl l), .c (.int .i64 i), .c (.int .i64 addr)] => tup2 (hazS (listOf Ins is) (listOf Ent l) i addr)
  | _ => .c .nil
def e9 : FE := ⟨9, pre9, ans9, false⟩
def sp9 : Sp := spT [e15]
theorem sp9_sound : sp9.sound Try.prog := spT_sound fun e he => by
  simp only [List.mem_cons, List.not_mem_nil, or_false] at he
  subst he; exact e15_good
noncomputable def fa9 : FnA := (fnA Try.prog Try.f9 4 [(2, [1, 2, 3, 4, 10])]).getD ⟨0, .skip, [], []⟩
def F9 (p : Prg) (l : List Ent) (i addr k : Int) : St := ⟨mkS 51 [(1, .c (.d (.sl (rowsOn l)))), (2, .c (.d (.int .i64 i))), (3, .c (.d (.int .i64 addr))), (4, .c (.bptr 256 1 0)), (10, .c (.d (.int .i64 k)))],
  [(256, ⟨1, false, .box (p.cells.map .d)⟩), (704, ⟨0, false, .dead⟩), (1984, ⟨0, false, .dead⟩), (1985, ⟨0, false, .dead⟩), (1986, ⟨0, false, .dead⟩)]⟩
theorem t9s (p : Prg) (l : List Ent) (i addr : Int) : fa9.start sp9 200 [.agg p.cells, .c (.sl (rowsOn l)), .c (.int .i64 i), .c (.int .i64 addr)] =
(FnA.at_ fa9 0 (F9 p l i addr (max (IntKind.wrap IntKind.i64 (min i ↑(List.length (rowsOn l)) + (1 : Int))) (0 : Int)))) := by kernel_rfl
theorem t9r (p : Prg) (l : List Ent) (i addr k : Int) : fa9.round sp9 200 0 (F9 p l i addr k) =
(VC.br (decide (k < ↑(List.length (rowsOn l))))
 (VC.need ((0 : Int) ≤ k ∧ k < ↑(List.length (rowsOn l)) ∧ List.length (rowAt (rowsOn l) (Int.toNat k)) = (8 : Nat))
 (VC.need (okSh [Kd.int IntKind.i64, Kd.int IntKind.i64, Kd.int IntKind.i64, Kd.int IntKind.i64, Kd.int IntKind.i64, Kd.bool, Kd.bool, Kd.bool] (rowAt (rowsOn l) (Int.toNat k)))
 (VC.need (sp9.pre (15 : Nat) [A.agg p.cells, A.c (D.int IntKind.i64 (Row.of (rowAt (rowsOn l) (Int.toNat k)) : Ent).pc)])
 (VC.br ((atS (listOf Ins (rowsOn p.ins)) (Row.of (rowAt (rowsOn l) (Int.toNat k)) : Ent).pc).kind == (2 : Int))
  (VC.br ((Row.of (rowAt (rowsOn l) (Int.toNat k)) : Ent).known)
   (VC.br ((Row.of (rowAt (rowsOn l) (Int.toNat k)) : Ent).addr == addr)
    (VC.br (decide ((Row.of (rowAt (rowsOn l) (Int.toNat k)) : Ent).fro < i))
     (VC.ret (some (RR.tup [Sum.inl (Rc.d (D.int IntKind.i64 k)), Sum.inl (Rc.d (D.bool true))])))
     (FnA.at_ fa9 0 (F9 p l i addr (IntKind.wrap IntKind.i64 (k + (1 : Int))))))
    (FnA.at_ fa9 0 (F9 p l i addr (IntKind.wrap IntKind.i64 (k + (1 : Int))))))
   (FnA.at_ fa9 0 (F9 p l i addr (IntKind.wrap IntKind.i64 (k + (1 : Int))))))
  (FnA.at_ fa9 0 (F9 p l i addr (IntKind.wrap IntKind.i64 (k + (1 : Int)))))))))
 (VC.ret (some (RR.tup [Sum.inl (Rc.d (D.int IntKind.i64 (0 : Int))), Sum.inl (Rc.d (D.bool false))])))) := by kernel_rfl

theorem pre15 (p : Prg) (pc : Int) : sp9.pre (15 : Nat) [A.agg p.cells, A.c (D.int IntKind.i64 pc)] :=
  show pre0 15 [A.agg p.cells, A.c (D.int IntKind.i64 pc)] from ⟨by rw [listOf_rowsOn], by rw [listOf_rowsOn], by rw [listOf_rowsOn]⟩
theorem haz_loop (p : Prg) (l : List Ent) (i addr : Int) (hl : l.length ≤ 1000000000) : ∀ (m k : Nat), m = l.length - k →
    (fa9.at_ 0 (F9 p l i addr k)).holds sp9.cx fa9.rs fun r => r = tup2 (hazF p.ins l i addr m k) := by
  intro m
  induction m with
  | zero =>
    intro k hk
    refine at_of_round sp9_sound (m := 200) ?_
    rw [t9r]
    exact br_holds (fun h => by simp at h; omega) (fun _ => rfl)
  | succ m ih =>
    intro k hk
    have hi : k < l.length := by omega
    have hrow := rowAt_rowsOn l k hi
    have hg : l.getD k default = l[k] := by rw [List.getD_eq_getElem?_getD, List.getElem?_eq_getElem hi]; rfl
    have htn : ((k : Int)).toNat = k := by omega
    have hw : IntKind.wrap .i64 ((k : Int) + 1) = ((k + 1 : Nat) : Int) := by rw [wrap_small _ (by omega) (by omega)]; omega
    refine at_of_round sp9_sound (m := 200) ?_
    rw [t9r, htn, hrow, hw, Row.of_row, listOf_rowsOn]
    have ih := ih (k + 1) (by omega)
    have hs : hazF p.ins l i addr (m + 1) k = if hazC p.ins i addr l[k] = true then some k else hazF p.ins l i addr m (k + 1) := by simp only [hazF, hg]
    rw [hs]
    refine br_holds (fun _ => ?_) (fun h => by simp at h; omega)
    refine ⟨⟨by omega, by rw [rowsOn_length]; omega, rfl⟩, rfl, pre15 _ _, ?_⟩
    refine br_holds (fun h1 => br_holds (fun h2 => br_holds (fun h3 => br_holds (fun h4 => ?_) (fun h4 => ?_)) (fun h3 => ?_)) (fun h2 => ?_)) (fun h1 => ?_)
    · rw [if_pos (by unfold hazC; rw [h1, h2, h3, h4]; rfl)]; rfl
    · rw [if_neg (by unfold hazC; rw [h1, h2, h3, h4]; simp)]; exact ih
    · rw [if_neg (by unfold hazC; rw [h1, h2, h3]; simp)]; exact ih
    · rw [if_neg (by unfold hazC; rw [h1, h2]; simp)]; exact ih
    · rw [if_neg (by unfold hazC; rw [h1]; simp)]; exact ih
theorem e9_good : e9.Good Try.prog := by
  rintro xs ⟨p, l, i, addr, rfl, hl, hi⟩
  refine ⟨?_, ⟨Try.f9, by kernel_rfl, by decide +kernel, by kernel_rfl⟩, rfl⟩
  refine acalls_of sp9_sound (fn := Try.f9) (a := fa9) (nargs := 4) (tbl := [(2, [1, 2, 3, 4, 10])]) (by kernel_rfl) (by kernel_rfl) rfl (m := 200) ?_
  rw [t9s]
  have h1 : IntKind.wrap .i64 (min i (rowsOn l).length + 1) = min i l.length + 1 := by rw [rowsOn_length, wrap_small _ (by omega) (by omega)]
  have h2 : max (min i l.length + 1) 0 = (((max (min i (l.length : Int) + 1) 0).toNat : Nat) : Int) := by omega
  have h3 : e9.ans [.agg p.cells, .c (.sl (rowsOn l)), .c (.int .i64 i), .c (.int .i64 addr)] = tup2 (hazS p.ins l i addr) := by
    show tup2 (hazS (listOf Ins (rowsOn p.ins)) (listOf Ent (rowsOn l)) i addr) = _
    rw [listOf_rowsOn, listOf_rowsOn]
  rw [h1, h2, h3]
  exact haz_loop p l i addr hl _ _ rfl
end Go.Proofs.Ytggidmcojepkgaa.Ax
