/- ArchPlaces: the law's function answers true. -/
import Derived.Test.YtniokbafhgdpmaaF6
namespace Go.Proofs.Ytniokbafhgdpmaa.Ax
open Go.RowKit
set_option linter.unusedVariables false
set_option linter.unusedSimpArgs false
theorem rd_left {α : Type} [Row α] (l m : List α) (i : Int) (h0 : 0 ≤ i) (h : i < l.length) : rd (l ++ m) i = rd l i := by
  unfold rd
  rw [List.getD_eq_getElem?_getD, List.getD_eq_getElem?_getD, List.getElem?_append_left (by omega)]
theorem rd_right {α : Type} [Row α] (l m : List α) (i : Int) (h : (l.length : Int) ≤ i) : rd (l ++ m) i = rd m (i - l.length) := by
  unfold rd
  rw [List.getD_eq_getElem?_getD, List.getD_eq_getElem?_getD, List.getElem?_append_right (by omega)]
  congr 2
  omega
theorem rd_memPlace {n at_ i : Int} (s : Bool) (h0 : 0 ≤ i) (h : i < n) : rd (memPlace n at_ s) i = ⟨false, at_ + i, s⟩ := by
  unfold rd memPlace
  rw [List.getD_eq_getElem?_getD, List.getElem?_map, List.getElem?_range (by omega)]
  simp only [Option.map_some, Option.getD_some, Place.mk.injEq, and_true, true_and]
  omega
theorem memPlace_length (n at_ : Int) (s : Bool) (h : 0 ≤ n) : ((memPlace n at_ s).length : Int) = n := by
  unfold memPlace
  simp only [List.length_map, List.length_range]
  omega
def rdLP : List A → Int × Int × Int × Bool
  | [.c (.int _ a), .c (.int _ b), .c (.int _ c), .c (.bool d)] => (a, b, c, d)
  | _ => (0, 0, 0, false)
def haltIns : Ins := ⟨11, 0, 0, false, 0, false, 0, ByteArray.empty, 0⟩
def mA (first : Bool) (a : Int) : PMem := ⟨⟨#[97]⟩, first, a⟩
def mB (first : Bool) (b : Int) : PMem := ⟨⟨#[98]⟩, first, b⟩
def c_lPlaces : FT (Int × Int × Int × Bool) := ⟨8, fun x => [ai x.1, ai x.2.1, ai x.2.2.1, .c (.bool x.2.2.2)], rdLP, fun _ => True, fun _ => rb true, false, fun _ => rfl⟩
noncomputable def a_lPlaces : FnA := (fnA Try.prog Try.f8 4 [(6, [0, 1, 2, 3, 9, 10, 11]), (16, [1, 2, 3, 9, 12, 13, 14]), (23, [1, 2, 3, 12, 13, 15])]).getD ⟨0, .skip, [], []⟩
def s_lPlaces : Sp := spT [c_aPlaces.fe, c_aCells.fe, c_awake7.fe]
theorem s_lPlaces_sound : s_lPlaces.sound Try.prog := spT_sound fun e he => by
  simp only [List.mem_cons, List.not_mem_nil, or_false] at he
  rcases he with rfl | rfl | rfl
  · exact c_aPlaces_good
  · exact c_aCells_good
  · exact c_awake7_good
def B_lPl (a b : Int) (first : Bool) (r0 r1 r2 r3 : Int) : List (Nat × Blk) := [(576, bc [.d (.int .i64 4), .d (.int .i64 1), .d (.int .i64 1), .d (.int .i64 r0), .d (.int .i64 r1), .d (.int .i64 r2), .d (.int .i64 r3), .own 2048 1 2, .nil, .own 1088 1 1]), (1088, ba 9 [[.int .i64 11, .int .i64 0, .int .i64 0, .bool false, .int .i64 0, .bool false, .int .i64 0, .str ⟨#[]⟩, .int .i64 0]]), (2048, ba 3 [[.str ⟨#[97]⟩, .bool first, .int .i64 a], [.str ⟨#[98]⟩, .bool (!first), .int .i64 b]])]
def F_lPl0 (regs a b : Int) (first : Bool) (r0 r1 r2 r3 n i : Int) : St := ⟨mkS 118 [(0, vi regs), (1, vi a), (2, vi b), (3, vb first), (9, vp 576), (10, vi n), (11, vi i)], B_lPl a b first r0 r1 r2 r3⟩
def F_lPl1 (a b : Int) (first : Bool) (r0 r1 r2 r3 : Int) (q : List Place) (k i : Int) : St := ⟨mkS 118 [(1, vi a), (2, vi b), (3, vb first), (9, vp 576), (12, vo 3584 (rowsOn q).length), (13, vi k), (14, vi i)], B_lPl a b first r0 r1 r2 r3 ++ [(3584, ba 3 (rowsOn q))]⟩
def F_lPl2 (a b : Int) (first : Bool) (q : List Place) (k i : Int) : St := ⟨mkS 118 [(1, vi a), (2, vi b), (3, vb first), (12, vo 3584 (rowsOn q).length), (13, vi k), (15, vi i)], [(3584, ba 3 (rowsOn q))]⟩
set_option maxRecDepth 100000 in
theorem t_lPlaces (regs a b : Int) (first : Bool) : a_lPlaces.start s_lPlaces 400 [ai regs, ai a, ai b, .c (.bool first)] =
(FnA.at_ a_lPlaces 0 (F_lPl0 regs (IntKind.wrap IntKind.i64 (bits BinOp.and IntKind.i64 a (7 : Int) + (1 : Int))) (IntKind.wrap IntKind.i64 (bits BinOp.and IntKind.i64 b (7 : Int) + (1 : Int))) first (0 : Int) (0 : Int) (0 : Int) (0 : Int) (0 : Int) (0 : Int))) := by kernel_rfl
set_option maxRecDepth 100000 in
theorem t_l00 (regs a b : Int) (first : Bool) (n : Int) : a_lPlaces.round s_lPlaces 400 0 (F_lPl0 regs a b first 0 0 0 0 n 0) =
(VC.need ((0 : Int) ≤ (0 : Int))
(VC.need ((3 : Int) ≠ (0 : Int))
(VC.br (decide ((0 : Int) < Int.tmod (bits BinOp.and IntKind.i64 (Int.fdiv regs (1 : Int)) (3 : Int)) (3 : Int)))
 (FnA.at_ a_lPlaces 0 (F_lPl0 regs a b first (Int.tmod (bits BinOp.and IntKind.i64 (Int.fdiv regs (1 : Int)) (3 : Int)) (3 : Int)) (0 : Int) (0 : Int) (0 : Int) (IntKind.wrap IntKind.i64 (n + (1 : Int))) (1 : Int)))
 (FnA.at_ a_lPlaces 0 (F_lPl0 regs a b first (Int.tmod (bits BinOp.and IntKind.i64 (Int.fdiv regs (1 : Int)) (3 : Int)) (3 : Int)) (0 : Int) (0 : Int) (0 : Int) n (1 : Int)))))) := by kernel_rfl
set_option maxRecDepth 100000 in
theorem t_l01 (regs a b : Int) (first : Bool) (r0 n : Int) : a_lPlaces.round s_lPlaces 400 0 (F_lPl0 regs a b first r0 0 0 0 n 1) =
(VC.need ((0 : Int) ≤ (2 : Int))
(VC.need ((3 : Int) ≠ (0 : Int))
(VC.br (decide ((0 : Int) < Int.tmod (bits BinOp.and IntKind.i64 (Int.fdiv regs (4 : Int)) (3 : Int)) (3 : Int)))
 (FnA.at_ a_lPlaces 0 (F_lPl0 regs a b first r0 (Int.tmod (bits BinOp.and IntKind.i64 (Int.fdiv regs (4 : Int)) (3 : Int)) (3 : Int)) (0 : Int) (0 : Int) (IntKind.wrap IntKind.i64 (n + (1 : Int))) (2 : Int)))
 (FnA.at_ a_lPlaces 0 (F_lPl0 regs a b first r0 (Int.tmod (bits BinOp.and IntKind.i64 (Int.fdiv regs (4 : Int)) (3 : Int)) (3 : Int)) (0 : Int) (0 : Int) n (2 : Int)))))) := by kernel_rfl
set_option maxRecDepth 100000 in
theorem t_l02 (regs a b : Int) (first : Bool) (r0 r1 n : Int) : a_lPlaces.round s_lPlaces 400 0 (F_lPl0 regs a b first r0 r1 0 0 n 2) =
(VC.need ((0 : Int) ≤ (4 : Int))
(VC.need ((3 : Int) ≠ (0 : Int))
(VC.br (decide ((0 : Int) < Int.tmod (bits BinOp.and IntKind.i64 (Int.fdiv regs (16 : Int)) (3 : Int)) (3 : Int)))
 (FnA.at_ a_lPlaces 0 (F_lPl0 regs a b first r0 r1 (Int.tmod (bits BinOp.and IntKind.i64 (Int.fdiv regs (16 : Int)) (3 : Int)) (3 : Int)) (0 : Int) (IntKind.wrap IntKind.i64 (n + (1 : Int))) (3 : Int)))
 (FnA.at_ a_lPlaces 0 (F_lPl0 regs a b first r0 r1 (Int.tmod (bits BinOp.and IntKind.i64 (Int.fdiv regs (16 : Int)) (3 : Int)) (3 : Int)) (0 : Int) n (3 : Int)))))) := by kernel_rfl
set_option maxRecDepth 100000 in
theorem t_l03 (regs a b : Int) (first : Bool) (r0 r1 r2 n : Int) : a_lPlaces.round s_lPlaces 400 0 (F_lPl0 regs a b first r0 r1 r2 0 n 3) =
(VC.need ((0 : Int) ≤ (6 : Int))
(VC.need ((3 : Int) ≠ (0 : Int))
(VC.br (decide ((0 : Int) < Int.tmod (bits BinOp.and IntKind.i64 (Int.fdiv regs (64 : Int)) (3 : Int)) (3 : Int)))
 (FnA.at_ a_lPlaces 0 (F_lPl0 regs a b first r0 r1 r2 (Int.tmod (bits BinOp.and IntKind.i64 (Int.fdiv regs (64 : Int)) (3 : Int)) (3 : Int)) (IntKind.wrap IntKind.i64 (n + (1 : Int))) (4 : Int)))
 (FnA.at_ a_lPlaces 0 (F_lPl0 regs a b first r0 r1 r2 (Int.tmod (bits BinOp.and IntKind.i64 (Int.fdiv regs (64 : Int)) (3 : Int)) (3 : Int)) n (4 : Int)))))) := by kernel_rfl
set_option maxRecDepth 100000 in
theorem t_l04 (regs a b : Int) (first : Bool) (r0 r1 r2 r3 n : Int) : a_lPlaces.round s_lPlaces 400 0 (F_lPl0 regs a b first r0 r1 r2 r3 n 4) =
(VC.need (PreOk c_aPlaces { w := (4 : Int), window := (1 : Int), fuel := (1 : Int), r0 := r0, r1 := r1, r2 := r2, r3 := r3, mems := [{ name := { data := #[(97 : UInt8)] }, secret := first, n := a }, { name := { data := #[(98 : UInt8)] }, secret := !first, n := b }], labels := [], ins := [{ kind := (11 : Int), op := (0 : Int), d := (0 : Int), aR := false, aN := (0 : Int), bR := false, bN := (0 : Int), name := { data := #[] }, target := (0 : Int) }] } [A.agg [D.int IntKind.i64 (4 : Int), D.int IntKind.i64 (1 : Int), D.int IntKind.i64 (1 : Int), D.int IntKind.i64 r0, D.int IntKind.i64 r1, D.int IntKind.i64 r2, D.int IntKind.i64 r3, D.sl [[D.str { data := #[(97 : UInt8)] }, D.bool first, D.int IntKind.i64 a], [D.str { data := #[(98 : UInt8)] }, D.bool !first, D.int IntKind.i64 b]], D.sl [], D.sl [[D.int IntKind.i64 (11 : Int), D.int IntKind.i64 (0 : Int), D.int IntKind.i64 (0 : Int), D.bool false, D.int IntKind.i64 (0 : Int), D.bool false, D.int IntKind.i64 (0 : Int), D.str { data := #[] }, D.int IntKind.i64 (0 : Int)]]]])
(VC.br ((↑(List.length (rowsOn (placesS { w := (4 : Int), window := (1 : Int), fuel := (1 : Int), r0 := r0, r1 := r1, r2 := r2, r3 := r3, mems := [{ name := { data := #[(97 : UInt8)] }, secret := first, n := a }, { name := { data := #[(98 : UInt8)] }, secret := !first, n := b }], labels := [], ins := [{ kind := (11 : Int), op := (0 : Int), d := (0 : Int), aR := false, aN := (0 : Int), bR := false, bN := (0 : Int), name := { data := #[] }, target := (0 : Int) }] }))) : Int) != IntKind.wrap IntKind.i64 (IntKind.wrap IntKind.i64 (n + a) + b))
 (VC.ret (some (RR.c (Rc.d (D.bool false)))))
 (VC.need (PreOk c_aCells { w := (4 : Int), window := (1 : Int), fuel := (1 : Int), r0 := r0, r1 := r1, r2 := r2, r3 := r3, mems := [{ name := { data := #[(97 : UInt8)] }, secret := first, n := a }, { name := { data := #[(98 : UInt8)] }, secret := !first, n := b }], labels := [], ins := [{ kind := (11 : Int), op := (0 : Int), d := (0 : Int), aR := false, aN := (0 : Int), bR := false, bN := (0 : Int), name := { data := #[] }, target := (0 : Int) }] } [A.agg [D.int IntKind.i64 (4 : Int), D.int IntKind.i64 (1 : Int), D.int IntKind.i64 (1 : Int), D.int IntKind.i64 r0, D.int IntKind.i64 r1, D.int IntKind.i64 r2, D.int IntKind.i64 r3, D.sl [[D.str { data := #[(97 : UInt8)] }, D.bool first, D.int IntKind.i64 a], [D.str { data := #[(98 : UInt8)] }, D.bool !first, D.int IntKind.i64 b]], D.sl [], D.sl [[D.int IntKind.i64 (11 : Int), D.int IntKind.i64 (0 : Int), D.int IntKind.i64 (0 : Int), D.bool false, D.int IntKind.i64 (0 : Int), D.bool false, D.int IntKind.i64 (0 : Int), D.str { data := #[] }, D.int IntKind.i64 (0 : Int)]]]])
 (VC.br (cellsS [Row.of [D.str { data := #[(97 : UInt8)] }, D.bool first, D.int IntKind.i64 a], Row.of [D.str { data := #[(98 : UInt8)] }, D.bool !first, D.int IntKind.i64 b]] != IntKind.wrap IntKind.i64 (a + b))
  (VC.ret (some (RR.c (Rc.d (D.bool false)))))
  (FnA.at_ a_lPlaces 1 (F_lPl1 a b first r0 r1 r2 r3 (placesS { w := (4 : Int), window := (1 : Int), fuel := (1 : Int), r0 := r0, r1 := r1, r2 := r2, r3 := r3, mems := [{ name := { data := #[(97 : UInt8)] }, secret := first, n := a }, { name := { data := #[(98 : UInt8)] }, secret := !first, n := b }], labels := [], ins := [{ kind := (11 : Int), op := (0 : Int), d := (0 : Int), aR := false, aN := (0 : Int), bR := false, bN := (0 : Int), name := { data := #[] }, target := (0 : Int) }] }) (0 : Int) (0 : Int))))))) := by kernel_rfl
set_option maxRecDepth 100000 in
theorem t_l10 (a b : Int) (first : Bool) (r0 r1 r2 r3 : Int) (q : List Place) (k : Int) : a_lPlaces.round s_lPlaces 400 1 (F_lPl1 a b first r0 r1 r2 r3 q k 0) =
(VC.br (r0 == (0 : Int))
 (FnA.at_ a_lPlaces 1 (F_lPl1 a b first r0 r1 r2 r3 q k (1 : Int)))
 (VC.need ((0 : Int) ≤ k ∧ k < (↑(List.length (rowsOn q)) : Int))
 (VC.need (Int.toNat k < List.length (rowsOn q) ∧ List.length (rowAt (rowsOn q) (Int.toNat k)) = (3 : Nat) ∧ okSh [Kd.bool, Kd.int IntKind.i64, Kd.bool] (List.drop (0 : Nat) (rowAt (rowsOn q) (Int.toNat k))))
 (VC.br (if true = true then !(asBool (List.getD (List.drop (0 : Nat) (rowAt (rowsOn q) (Int.toNat k))) (0 : Nat) D.nilp) == true && (asInt (List.getD (List.drop (0 : Nat) (rowAt (rowsOn q) (Int.toNat k))) (1 : Nat) D.nilp) == (0 : Int) && (asBool (List.getD (List.drop (0 : Nat) (rowAt (rowsOn q) (Int.toNat k))) (2 : Nat) D.nilp) == (r0 == (2 : Int)) && true))) else asBool (List.getD (List.drop (0 : Nat) (rowAt (rowsOn q) (Int.toNat k))) (0 : Nat) D.nilp) == true && (asInt (List.getD (List.drop (0 : Nat) (rowAt (rowsOn q) (Int.toNat k))) (1 : Nat) D.nilp) == (0 : Int) && (asBool (List.getD (List.drop (0 : Nat) (rowAt (rowsOn q) (Int.toNat k))) (2 : Nat) D.nilp) == (r0 == (2 : Int)) && true)))
  (VC.ret (some (RR.c (Rc.d (D.bool false)))))
  (FnA.at_ a_lPlaces 1 (F_lPl1 a b first r0 r1 r2 r3 q (IntKind.wrap IntKind.i64 (k + (1 : Int))) (1 : Int))))))) := by kernel_rfl
set_option maxRecDepth 100000 in
theorem t_l11 (a b : Int) (first : Bool) (r0 r1 r2 r3 : Int) (q : List Place) (k : Int) : a_lPlaces.round s_lPlaces 400 1 (F_lPl1 a b first r0 r1 r2 r3 q k 1) =
(VC.br (r1 == (0 : Int))
 (FnA.at_ a_lPlaces 1 (F_lPl1 a b first r0 r1 r2 r3 q k (2 : Int)))
 (VC.need ((0 : Int) ≤ k ∧ k < (↑(List.length (rowsOn q)) : Int))
 (VC.need (Int.toNat k < List.length (rowsOn q) ∧ List.length (rowAt (rowsOn q) (Int.toNat k)) = (3 : Nat) ∧ okSh [Kd.bool, Kd.int IntKind.i64, Kd.bool] (List.drop (0 : Nat) (rowAt (rowsOn q) (Int.toNat k))))
 (VC.br (if true = true then !(asBool (List.getD (List.drop (0 : Nat) (rowAt (rowsOn q) (Int.toNat k))) (0 : Nat) D.nilp) == true && (asInt (List.getD (List.drop (0 : Nat) (rowAt (rowsOn q) (Int.toNat k))) (1 : Nat) D.nilp) == (1 : Int) && (asBool (List.getD (List.drop (0 : Nat) (rowAt (rowsOn q) (Int.toNat k))) (2 : Nat) D.nilp) == (r1 == (2 : Int)) && true))) else asBool (List.getD (List.drop (0 : Nat) (rowAt (rowsOn q) (Int.toNat k))) (0 : Nat) D.nilp) == true && (asInt (List.getD (List.drop (0 : Nat) (rowAt (rowsOn q) (Int.toNat k))) (1 : Nat) D.nilp) == (1 : Int) && (asBool (List.getD (List.drop (0 : Nat) (rowAt (rowsOn q) (Int.toNat k))) (2 : Nat) D.nilp) == (r1 == (2 : Int)) && true)))
  (VC.ret (some (RR.c (Rc.d (D.bool false)))))
  (FnA.at_ a_lPlaces 1 (F_lPl1 a b first r0 r1 r2 r3 q (IntKind.wrap IntKind.i64 (k + (1 : Int))) (2 : Int))))))) := by kernel_rfl
set_option maxRecDepth 100000 in
theorem t_l12 (a b : Int) (first : Bool) (r0 r1 r2 r3 : Int) (q : List Place) (k : Int) : a_lPlaces.round s_lPlaces 400 1 (F_lPl1 a b first r0 r1 r2 r3 q k 2) =
(VC.br (r2 == (0 : Int))
 (FnA.at_ a_lPlaces 1 (F_lPl1 a b first r0 r1 r2 r3 q k (3 : Int)))
 (VC.need ((0 : Int) ≤ k ∧ k < (↑(List.length (rowsOn q)) : Int))
 (VC.need (Int.toNat k < List.length (rowsOn q) ∧ List.length (rowAt (rowsOn q) (Int.toNat k)) = (3 : Nat) ∧ okSh [Kd.bool, Kd.int IntKind.i64, Kd.bool] (List.drop (0 : Nat) (rowAt (rowsOn q) (Int.toNat k))))
 (VC.br (if true = true then !(asBool (List.getD (List.drop (0 : Nat) (rowAt (rowsOn q) (Int.toNat k))) (0 : Nat) D.nilp) == true && (asInt (List.getD (List.drop (0 : Nat) (rowAt (rowsOn q) (Int.toNat k))) (1 : Nat) D.nilp) == (2 : Int) && (asBool (List.getD (List.drop (0 : Nat) (rowAt (rowsOn q) (Int.toNat k))) (2 : Nat) D.nilp) == (r2 == (2 : Int)) && true))) else asBool (List.getD (List.drop (0 : Nat) (rowAt (rowsOn q) (Int.toNat k))) (0 : Nat) D.nilp) == true && (asInt (List.getD (List.drop (0 : Nat) (rowAt (rowsOn q) (Int.toNat k))) (1 : Nat) D.nilp) == (2 : Int) && (asBool (List.getD (List.drop (0 : Nat) (rowAt (rowsOn q) (Int.toNat k))) (2 : Nat) D.nilp) == (r2 == (2 : Int)) && true)))
  (VC.ret (some (RR.c (Rc.d (D.bool false)))))
  (FnA.at_ a_lPlaces 1 (F_lPl1 a b first r0 r1 r2 r3 q (IntKind.wrap IntKind.i64 (k + (1 : Int))) (3 : Int))))))) := by kernel_rfl
set_option maxRecDepth 100000 in
theorem t_l13 (a b : Int) (first : Bool) (r0 r1 r2 r3 : Int) (q : List Place) (k : Int) : a_lPlaces.round s_lPlaces 400 1 (F_lPl1 a b first r0 r1 r2 r3 q k 3) =
(VC.br (r3 == (0 : Int))
 (FnA.at_ a_lPlaces 1 (F_lPl1 a b first r0 r1 r2 r3 q k (4 : Int)))
 (VC.need ((0 : Int) ≤ k ∧ k < (↑(List.length (rowsOn q)) : Int))
 (VC.need (Int.toNat k < List.length (rowsOn q) ∧ List.length (rowAt (rowsOn q) (Int.toNat k)) = (3 : Nat) ∧ okSh [Kd.bool, Kd.int IntKind.i64, Kd.bool] (List.drop (0 : Nat) (rowAt (rowsOn q) (Int.toNat k))))
 (VC.br (if true = true then !(asBool (List.getD (List.drop (0 : Nat) (rowAt (rowsOn q) (Int.toNat k))) (0 : Nat) D.nilp) == true && (asInt (List.getD (List.drop (0 : Nat) (rowAt (rowsOn q) (Int.toNat k))) (1 : Nat) D.nilp) == (3 : Int) && (asBool (List.getD (List.drop (0 : Nat) (rowAt (rowsOn q) (Int.toNat k))) (2 : Nat) D.nilp) == (r3 == (2 : Int)) && true))) else asBool (List.getD (List.drop (0 : Nat) (rowAt (rowsOn q) (Int.toNat k))) (0 : Nat) D.nilp) == true && (asInt (List.getD (List.drop (0 : Nat) (rowAt (rowsOn q) (Int.toNat k))) (1 : Nat) D.nilp) == (3 : Int) && (asBool (List.getD (List.drop (0 : Nat) (rowAt (rowsOn q) (Int.toNat k))) (2 : Nat) D.nilp) == (r3 == (2 : Int)) && true)))
  (VC.ret (some (RR.c (Rc.d (D.bool false)))))
  (FnA.at_ a_lPlaces 1 (F_lPl1 a b first r0 r1 r2 r3 q (IntKind.wrap IntKind.i64 (k + (1 : Int))) (4 : Int))))))) := by kernel_rfl
set_option maxRecDepth 100000 in
theorem t_l14 (a b : Int) (first : Bool) (r0 r1 r2 r3 : Int) (q : List Place) (k : Int) : a_lPlaces.round s_lPlaces 400 1 (F_lPl1 a b first r0 r1 r2 r3 q k 4) =
(FnA.at_ a_lPlaces 2 (F_lPl2 a b first q k (0 : Int))) := by kernel_rfl
set_option maxRecDepth 100000 in
theorem t_l2 (a b : Int) (first : Bool) (q : List Place) (k i : Int) : a_lPlaces.round s_lPlaces 400 2 (F_lPl2 a b first q k i) =
(VC.br (decide (i < IntKind.wrap IntKind.i64 (a + b)))
 (VC.need ((0 : Int) ≤ IntKind.wrap IntKind.i64 (k + i) ∧ IntKind.wrap IntKind.i64 (k + i) < (↑(List.length (rowsOn q)) : Int))
 (VC.need (Int.toNat (IntKind.wrap IntKind.i64 (k + i)) < List.length (rowsOn q) ∧ List.length (rowAt (rowsOn q) (Int.toNat (IntKind.wrap IntKind.i64 (k + i)))) = (3 : Nat) ∧ okSh [Kd.bool, Kd.int IntKind.i64, Kd.bool] (List.drop (0 : Nat) (rowAt (rowsOn q) (Int.toNat (IntKind.wrap IntKind.i64 (k + i))))))
 (VC.br (if true = true then !(asBool (List.getD (List.drop (0 : Nat) (rowAt (rowsOn q) (Int.toNat (IntKind.wrap IntKind.i64 (k + i))))) (0 : Nat) D.nilp) == false && (asInt (List.getD (List.drop (0 : Nat) (rowAt (rowsOn q) (Int.toNat (IntKind.wrap IntKind.i64 (k + i))))) (1 : Nat) D.nilp) == i && ((asBool (List.getD (List.drop (0 : Nat) (rowAt (rowsOn q) (Int.toNat (IntKind.wrap IntKind.i64 (k + i))))) (2 : Nat) D.nilp) == if false = true then !decide (i < a) == first else decide (i < a) == first) && true))) else asBool (List.getD (List.drop (0 : Nat) (rowAt (rowsOn q) (Int.toNat (IntKind.wrap IntKind.i64 (k + i))))) (0 : Nat) D.nilp) == false && (asInt (List.getD (List.drop (0 : Nat) (rowAt (rowsOn q) (Int.toNat (IntKind.wrap IntKind.i64 (k + i))))) (1 : Nat) D.nilp) == i && ((asBool (List.getD (List.drop (0 : Nat) (rowAt (rowsOn q) (Int.toNat (IntKind.wrap IntKind.i64 (k + i))))) (2 : Nat) D.nilp) == if false = true then !decide (i < a) == first else decide (i < a) == first) && true)))
  (VC.ret (some (RR.c (Rc.d (D.bool false)))))
  (FnA.at_ a_lPlaces 2 (F_lPl2 a b first q k (IntKind.wrap IntKind.i64 (i + (1 : Int))))))))
 (VC.need (PreOk c_awake7 PUnit.unit [])
 (VC.ret (some (RR.c (Rc.d (D.bool true))))))) := by kernel_rfl
def Y4 (a b : Int) (first : Bool) : List Place := memPlace a 0 first ++ memPlace b a (!first)
def Y3 (a b : Int) (first : Bool) (r0 r1 r2 r3 : Int) : List Place := Y4 a b first
def Y2 (a b : Int) (first : Bool) (r0 r1 r2 r3 : Int) : List Place := regPlace r3 3 ++ Y3 a b first r0 r1 r2 r3
def Y1 (a b : Int) (first : Bool) (r0 r1 r2 r3 : Int) : List Place := regPlace r2 2 ++ Y2 a b first r0 r1 r2 r3
def Y0 (a b : Int) (first : Bool) (r0 r1 r2 r3 : Int) : List Place := regPlace r1 1 ++ Y1 a b first r0 r1 r2 r3
theorem l_l2 (a b : Int) (first : Bool) (ha : 1 ≤ a ∧ a ≤ 8) (hb : 1 ≤ b ∧ b ≤ 8) (X : List Place) (hX : X.length ≤ 4) : ∀ i : Int, (fun (i : Int) => 0 ≤ i ∧ i ≤ a + b) i → (a_lPlaces.at_ 2 ((fun (i : Int) => F_lPl2 a b first (X ++ Y4 a b first) X.length i) i)).holds s_lPlaces.cx a_lPlaces.rs (fun r => r.le (rb true)) := by
  refine loop_rule (a := a_lPlaces) (j := 2) (m := 400) s_lPlaces_sound (fun (i : Int) => F_lPl2 a b first (X ++ Y4 a b first) X.length i) (fun (i : Int) => 0 ≤ i ∧ i ≤ a + b) (fun (i : Int) => (a + b - i).toNat) ?_
  rintro i h_inv ih
  try dsimp only at h_inv
  show VC.holds _ _ _ (a_lPlaces.round s_lPlaces 400 2 (F_lPl2 a b first (X ++ Y4 a b first) X.length i))
  rw [t_l2]
  try simp only [listOf_rowsOn, List.drop_zero, Prg.eta, Sta.eta, rowsOn_length, getD_drop, Nat.reduceAdd, rd_int, rd_PMem_name, rd_PMem_secret, rd_PMem_n, rd_PLabel_name, rd_PLabel_at_, rd_Ins_kind, rd_Ins_op, rd_Ins_d, rd_Ins_aR, rd_Ins_aN, rd_Ins_bR, rd_Ins_bN, rd_Ins_name, rd_Ins_target, rd_Ent_pc, rd_Ent_val, rd_Ent_addr, rd_Ent_fro, rd_Ent_next, rd_Ent_done, rd_Ent_known, rd_Ent_fault, rd_Place_reg, rd_Place_n, rd_Place_secret, rd_Obs_kind, rd_Obs_at_, rd_Dir_kind, rd_Dir_n]
  obtain ⟨h0, h1⟩ := h_inv
  have hY : ((Y4 a b first).length : Int) = a + b := by
    unfold Y4
    rw [List.length_append]
    have := memPlace_length a 0 first (by omega)
    have := memPlace_length b a (!first) (by omega)
    omega
  have hlen : ((X ++ Y4 a b first).length : Int) = X.length + (a + b) := by rw [List.length_append]; omega
  rw [wrap_small (a + b) (by omega) (by omega), wrap_small (i + 1) (by omega) (by omega), wrap_small (X.length + i) (by omega) (by omega)]
  refine br_dec (fun h => ?_) (fun h => ?_)
  · have hr : rd (X ++ Y4 a b first) (X.length + i) = ⟨false, i, decide (i < a) == first⟩ := by
      rw [rd_right X _ _ (by omega), show (X.length : Int) + i - X.length = i by omega]
      unfold Y4
      have hl := memPlace_length a 0 first (by omega)
      by_cases hi : i < a
      · rw [rd_left _ _ i h0 (by omega), rd_memPlace first h0 hi]
        simp [hi]
      · rw [rd_right _ _ i (by omega), rd_memPlace (!first) (by omega) (by omega)]
        simp only [Place.mk.injEq, true_and]
        refine ⟨by omega, by simp [hi]⟩
    refine ⟨by omega, aload_ok _ _ rfl (fun _ => rfl) (by omega) (by omega), ?_⟩
    simp only [hr]
    refine br_holds (fun h => ?_) (fun _ => ?_)
    · simp at h
    · exact ih _ ⟨by omega, by omega⟩ (by omega)
  · exact ⟨PreOk.mk trivial rfl, ret_le (RR.le_refl _)⟩
theorem l_l14 (a b : Int) (first : Bool) (ha : 1 ≤ a ∧ a ≤ 8) (hb : 1 ≤ b ∧ b ≤ 8) (r0 r1 r2 r3 k : Int) (X : List Place) (hX : X.length ≤ 4) (hk : k = X.length) :
    (a_lPlaces.at_ 1 (F_lPl1 a b first r0 r1 r2 r3 (X ++ Y4 a b first) k 4)).holds s_lPlaces.cx a_lPlaces.rs fun r => r.le (rb true) := by
  refine at_of_round s_lPlaces_sound (m := 400) ?_
  rw [t_l14]
  subst hk
  exact l_l2 a b first ha hb X hX 0 ⟨by omega, by omega⟩
theorem l_l13 (a b : Int) (first : Bool) (ha : 1 ≤ a ∧ a ≤ 8) (hb : 1 ≤ b ∧ b ≤ 8) (r0 r1 r2 r3 k : Int) (X : List Place) (hX : X.length ≤ 3) (hk : k = X.length) :
    (a_lPlaces.at_ 1 (F_lPl1 a b first r0 r1 r2 r3 (X ++ (regPlace r3 3 ++ Y3 a b first r0 r1 r2 r3)) k 3)).holds s_lPlaces.cx a_lPlaces.rs fun r => r.le (rb true) := by
  refine at_of_round s_lPlaces_sound (m := 400) ?_
  rw [t_l13]
  have hlen : ((X ++ (regPlace r3 3 ++ Y3 a b first r0 r1 r2 r3)).length : Int) = X.length + (regPlace r3 3).length + (Y3 a b first r0 r1 r2 r3).length := by simp only [List.length_append]; omega
  rw [wrap_small (k + 1) (by omega) (by omega)]
  simp only [listOf_rowsOn, List.drop_zero, Prg.eta, Sta.eta, rowsOn_length, getD_drop, Nat.reduceAdd, rd_int, rd_PMem_name, rd_PMem_secret, rd_PMem_n, rd_PLabel_name, rd_PLabel_at_, rd_Ins_kind, rd_Ins_op, rd_Ins_d, rd_Ins_aR, rd_Ins_aN, rd_Ins_bR, rd_Ins_bN, rd_Ins_name, rd_Ins_target, rd_Ent_pc, rd_Ent_val, rd_Ent_addr, rd_Ent_fro, rd_Ent_next, rd_Ent_done, rd_Ent_known, rd_Ent_fault, rd_Place_reg, rd_Place_n, rd_Place_secret, rd_Obs_kind, rd_Obs_at_, rd_Dir_kind, rd_Dir_n]
  refine br_beq (fun h => ?_) (fun h => ?_)
  · rw [regPlace_eq h, List.nil_append]
    exact l_l14 a b first ha hb r0 r1 r2 r3 k X (by omega) hk
  · rw [regPlace_ne h] at hlen ⊢
    have hr : rd (X ++ ([⟨true, 3, r3 == 2⟩] ++ Y3 a b first r0 r1 r2 r3)) k = ⟨true, 3, r3 == 2⟩ := by
      rw [rd_right X _ k (by omega), show k - X.length = 0 by omega]; rfl
    simp only [List.length_singleton] at hlen
    refine ⟨by omega, aload_ok _ _ rfl (fun _ => rfl) (by omega) (by omega), ?_⟩
    rw [hr]
    refine br_holds (fun h => ?_) (fun _ => ?_)
    · simp at h
    · have := l_l14 a b first ha hb r0 r1 r2 r3 (k + 1) (X ++ [⟨true, 3, r3 == 2⟩]) (by rw [List.length_append, List.length_singleton]; omega) (by rw [List.length_append, List.length_singleton]; omega)
      rw [List.append_assoc] at this
      exact this
theorem l_l12 (a b : Int) (first : Bool) (ha : 1 ≤ a ∧ a ≤ 8) (hb : 1 ≤ b ∧ b ≤ 8) (r0 r1 r2 r3 k : Int) (X : List Place) (hX : X.length ≤ 2) (hk : k = X.length) :
    (a_lPlaces.at_ 1 (F_lPl1 a b first r0 r1 r2 r3 (X ++ (regPlace r2 2 ++ Y2 a b first r0 r1 r2 r3)) k 2)).holds s_lPlaces.cx a_lPlaces.rs fun r => r.le (rb true) := by
  refine at_of_round s_lPlaces_sound (m := 400) ?_
  rw [t_l12]
  have hlen : ((X ++ (regPlace r2 2 ++ Y2 a b first r0 r1 r2 r3)).length : Int) = X.length + (regPlace r2 2).length + (Y2 a b first r0 r1 r2 r3).length := by simp only [List.length_append]; omega
  rw [wrap_small (k + 1) (by omega) (by omega)]
  simp only [listOf_rowsOn, List.drop_zero, Prg.eta, Sta.eta, rowsOn_length, getD_drop, Nat.reduceAdd, rd_int, rd_PMem_name, rd_PMem_secret, rd_PMem_n, rd_PLabel_name, rd_PLabel_at_, rd_Ins_kind, rd_Ins_op, rd_Ins_d, rd_Ins_aR, rd_Ins_aN, rd_Ins_bR, rd_Ins_bN, rd_Ins_name, rd_Ins_target, rd_Ent_pc, rd_Ent_val, rd_Ent_addr, rd_Ent_fro, rd_Ent_next, rd_Ent_done, rd_Ent_known, rd_Ent_fault, rd_Place_reg, rd_Place_n, rd_Place_secret, rd_Obs_kind, rd_Obs_at_, rd_Dir_kind, rd_Dir_n]
  refine br_beq (fun h => ?_) (fun h => ?_)
  · rw [regPlace_eq h, List.nil_append]
    exact l_l13 a b first ha hb r0 r1 r2 r3 k X (by omega) hk
  · rw [regPlace_ne h] at hlen ⊢
    have hr : rd (X ++ ([⟨true, 2, r2 == 2⟩] ++ Y2 a b first r0 r1 r2 r3)) k = ⟨true, 2, r2 == 2⟩ := by
      rw [rd_right X _ k (by omega), show k - X.length = 0 by omega]; rfl
    simp only [List.length_singleton] at hlen
    refine ⟨by omega, aload_ok _ _ rfl (fun _ => rfl) (by omega) (by omega), ?_⟩
    rw [hr]
    refine br_holds (fun h => ?_) (fun _ => ?_)
    · simp at h
    · have := l_l13 a b first ha hb r0 r1 r2 r3 (k + 1) (X ++ [⟨true, 2, r2 == 2⟩]) (by rw [List.length_append, List.length_singleton]; omega) (by rw [List.length_append, List.length_singleton]; omega)
      rw [List.append_assoc] at this
      exact this
theorem l_l11 (a b : Int) (first : Bool) (ha : 1 ≤ a ∧ a ≤ 8) (hb : 1 ≤ b ∧ b ≤ 8) (r0 r1 r2 r3 k : Int) (X : List Place) (hX : X.length ≤ 1) (hk : k = X.length) :
    (a_lPlaces.at_ 1 (F_lPl1 a b first r0 r1 r2 r3 (X ++ (regPlace r1 1 ++ Y1 a b first r0 r1 r2 r3)) k 1)).holds s_lPlaces.cx a_lPlaces.rs fun r => r.le (rb true) := by
  refine at_of_round s_lPlaces_sound (m := 400) ?_
  rw [t_l11]
  have hlen : ((X ++ (regPlace r1 1 ++ Y1 a b first r0 r1 r2 r3)).length : Int) = X.length + (regPlace r1 1).length + (Y1 a b first r0 r1 r2 r3).length := by simp only [List.length_append]; omega
  rw [wrap_small (k + 1) (by omega) (by omega)]
  simp only [listOf_rowsOn, List.drop_zero, Prg.eta, Sta.eta, rowsOn_length, getD_drop, Nat.reduceAdd, rd_int, rd_PMem_name, rd_PMem_secret, rd_PMem_n, rd_PLabel_name, rd_PLabel_at_, rd_Ins_kind, rd_Ins_op, rd_Ins_d, rd_Ins_aR, rd_Ins_aN, rd_Ins_bR, rd_Ins_bN, rd_Ins_name, rd_Ins_target, rd_Ent_pc, rd_Ent_val, rd_Ent_addr, rd_Ent_fro, rd_Ent_next, rd_Ent_done, rd_Ent_known, rd_Ent_fault, rd_Place_reg, rd_Place_n, rd_Place_secret, rd_Obs_kind, rd_Obs_at_, rd_Dir_kind, rd_Dir_n]
  refine br_beq (fun h => ?_) (fun h => ?_)
  · rw [regPlace_eq h, List.nil_append]
    exact l_l12 a b first ha hb r0 r1 r2 r3 k X (by omega) hk
  · rw [regPlace_ne h] at hlen ⊢
    have hr : rd (X ++ ([⟨true, 1, r1 == 2⟩] ++ Y1 a b first r0 r1 r2 r3)) k = ⟨true, 1, r1 == 2⟩ := by
      rw [rd_right X _ k (by omega), show k - X.length = 0 by omega]; rfl
    simp only [List.length_singleton] at hlen
    refine ⟨by omega, aload_ok _ _ rfl (fun _ => rfl) (by omega) (by omega), ?_⟩
    rw [hr]
    refine br_holds (fun h => ?_) (fun _ => ?_)
    · simp at h
    · have := l_l12 a b first ha hb r0 r1 r2 r3 (k + 1) (X ++ [⟨true, 1, r1 == 2⟩]) (by rw [List.length_append, List.length_singleton]; omega) (by rw [List.length_append, List.length_singleton]; omega)
      rw [List.append_assoc] at this
      exact this
theorem l_l10 (a b : Int) (first : Bool) (ha : 1 ≤ a ∧ a ≤ 8) (hb : 1 ≤ b ∧ b ≤ 8) (r0 r1 r2 r3 k : Int) (X : List Place) (hX : X.length ≤ 0) (hk : k = X.length) :
    (a_lPlaces.at_ 1 (F_lPl1 a b first r0 r1 r2 r3 (X ++ (regPlace r0 0 ++ Y0 a b first r0 r1 r2 r3)) k 0)).holds s_lPlaces.cx a_lPlaces.rs fun r => r.le (rb true) := by
  refine at_of_round s_lPlaces_sound (m := 400) ?_
  rw [t_l10]
  have hlen : ((X ++ (regPlace r0 0 ++ Y0 a b first r0 r1 r2 r3)).length : Int) = X.length + (regPlace r0 0).length + (Y0 a b first r0 r1 r2 r3).length := by simp only [List.length_append]; omega
  rw [wrap_small (k + 1) (by omega) (by omega)]
  simp only [listOf_rowsOn, List.drop_zero, Prg.eta, Sta.eta, rowsOn_length, getD_drop, Nat.reduceAdd, rd_int, rd_PMem_name, rd_PMem_secret, rd_PMem_n, rd_PLabel_name, rd_PLabel_at_, rd_Ins_kind, rd_Ins_op, rd_Ins_d, rd_Ins_aR, rd_Ins_aN, rd_Ins_bR, rd_Ins_bN, rd_Ins_name, rd_Ins_target, rd_Ent_pc, rd_Ent_val, rd_Ent_addr, rd_Ent_fro, rd_Ent_next, rd_Ent_done, rd_Ent_known, rd_Ent_fault, rd_Place_reg, rd_Place_n, rd_Place_secret, rd_Obs_kind, rd_Obs_at_, rd_Dir_kind, rd_Dir_n]
  refine br_beq (fun h => ?_) (fun h => ?_)
  · rw [regPlace_eq h, List.nil_append]
    exact l_l11 a b first ha hb r0 r1 r2 r3 k X (by omega) hk
  · rw [regPlace_ne h] at hlen ⊢
    have hr : rd (X ++ ([⟨true, 0, r0 == 2⟩] ++ Y0 a b first r0 r1 r2 r3)) k = ⟨true, 0, r0 == 2⟩ := by
      rw [rd_right X _ k (by omega), show k - X.length = 0 by omega]; rfl
    simp only [List.length_singleton] at hlen
    refine ⟨by omega, aload_ok _ _ rfl (fun _ => rfl) (by omega) (by omega), ?_⟩
    rw [hr]
    refine br_holds (fun h => ?_) (fun _ => ?_)
    · simp at h
    · have := l_l11 a b first ha hb r0 r1 r2 r3 (k + 1) (X ++ [⟨true, 0, r0 == 2⟩]) (by rw [List.length_append, List.length_singleton]; omega) (by rw [List.length_append, List.length_singleton]; omega)
      rw [List.append_assoc] at this
      exact this
def pP (a b : Int) (first : Bool) (r0 r1 r2 r3 : Int) : Prg := ⟨4, 1, 1, r0, r1, r2, r3, [mA first a, mB (!first) b], [], [haltIns]⟩
theorem pP_mems (a b : Int) (first : Bool) (ha : 1 ≤ a ∧ a ≤ 8) (hb : 1 ≤ b ∧ b ≤ 8) (r0 r1 r2 r3 : Int) : Mems (pP a b first r0 r1 r2 r3).mems := ⟨by simp [pP], by
  intro m hm
  simp only [pP, List.mem_cons, List.not_mem_nil, or_false] at hm
  rcases hm with rfl | rfl <;> simp only [mA, mB] <;> omega⟩
theorem pP_places (a b : Int) (first : Bool) (r0 r1 r2 r3 : Int) : placesS (pP a b first r0 r1 r2 r3) = [] ++ (regPlace r0 0 ++ Y0 a b first r0 r1 r2 r3) := by
  simp [placesS, regPlaces, pP, memPlaces, Y0, Y1, Y2, Y3, Y4, mA, mB, List.append_assoc]
def c1 (r : Int) : Int := if r = 0 then 0 else 1
theorem c1_len (r i : Int) : ((regPlace r i).length : Int) = c1 r := by unfold regPlace c1; split <;> rfl
theorem l_l04 (regs a b : Int) (first : Bool) (ha : 1 ≤ a ∧ a ≤ 8) (hb : 1 ≤ b ∧ b ≤ 8) (r0 r1 r2 r3 n : Int) (hn : n = c1 r0 + c1 r1 + c1 r2 + c1 r3) :
    (a_lPlaces.at_ 0 (F_lPl0 regs a b first r0 r1 r2 r3 n 4)).holds s_lPlaces.cx a_lPlaces.rs fun r => r.le (rb true) := by
  refine at_of_round s_lPlaces_sound (m := 400) ?_
  rw [t_l04]
  have hm := pP_mems a b first ha hb r0 r1 r2 r3
  have hlen : ((placesS (pP a b first r0 r1 r2 r3)).length : Int) = n + a + b := by
    rw [pP_places]
    simp only [List.nil_append, List.length_append, Y0, Y1, Y2, Y3, Y4]
    have h0 := c1_len r0 0
    have h1 := c1_len r1 1
    have h2 := c1_len r2 2
    have h3 := c1_len r3 3
    have h4 := memPlace_length a 0 first (by omega)
    have h5 := memPlace_length b a (!first) (by omega)
    omega
  have hc : ∀ r, 0 ≤ c1 r ∧ c1 r ≤ 1 := fun r => by unfold c1; split <;> omega
  have g0 := hc r0
  have g1 := hc r1
  have g2 := hc r2
  have g3 := hc r3
  refine ⟨PreOk.mk hm rfl, ?_⟩
  rw [wrap_small (n + a) (by omega) (by omega), wrap_small (n + a + b) (by omega) (by omega), wrap_small (a + b) (by omega) (by omega)]
  refine br_bne (fun h => ?_) (fun h => ?_)
  · rw [rowsOn_length] at h
    exact absurd hlen h
  · refine ⟨PreOk.mk hm rfl, ?_⟩
    refine br_bne (fun h => ?_) (fun h => ?_)
    · exfalso
      apply h
      show a + (b + 0) = a + b
      omega
    · have := l_l10 a b first ha hb r0 r1 r2 r3 0 [] (by simp) rfl
      rw [← pP_places] at this
      exact this
theorem reg3 (x : Int) : 0 ≤ Int.tmod (bits .and .i64 x 3) 3 ∧ Int.tmod (bits .and .i64 x 3) 3 ≤ 2 := by
  rw [and3, Int.tmod_eq_emod_of_nonneg (by omega)]
  omega
theorem l_l03 (regs a b : Int) (first : Bool) (ha : 1 ≤ a ∧ a ≤ 8) (hb : 1 ≤ b ∧ b ≤ 8) (r0 r1 r2 : Int) (n : Int) (hn : n = c1 r0 + c1 r1 + c1 r2) :
    (a_lPlaces.at_ 0 (F_lPl0 regs a b first r0 r1 r2 0 n 3)).holds s_lPlaces.cx a_lPlaces.rs fun r => r.le (rb true) := by
  refine at_of_round s_lPlaces_sound (m := 400) ?_
  rw [t_l03]
  have hc : ∀ r, 0 ≤ c1 r ∧ c1 r ≤ 1 := fun r => by unfold c1; split <;> omega
  have g0 := hc r0
  have g1 := hc r1
  have g2 := hc r2
  rw [wrap_small (n + 1) (by omega) (by omega)]
  refine ⟨by decide, by decide, ?_⟩
  generalize hr : Int.tmod (bits BinOp.and IntKind.i64 (Int.fdiv regs (64 : Int)) 3) 3 = r3
  have h3 := reg3 (Int.fdiv regs (64 : Int))
  rw [hr] at h3
  refine br_dec (fun h => ?_) (fun h => ?_)
  · have e : c1 r3 = 1 := if_neg (by omega)
    exact l_l04 regs a b first ha hb r0 r1 r2 r3 _ (by omega)
  · have e : c1 r3 = 0 := if_pos (by omega)
    exact l_l04 regs a b first ha hb r0 r1 r2 r3 _ (by omega)
theorem l_l02 (regs a b : Int) (first : Bool) (ha : 1 ≤ a ∧ a ≤ 8) (hb : 1 ≤ b ∧ b ≤ 8) (r0 r1 : Int) (n : Int) (hn : n = c1 r0 + c1 r1) :
    (a_lPlaces.at_ 0 (F_lPl0 regs a b first r0 r1 0 0 n 2)).holds s_lPlaces.cx a_lPlaces.rs fun r => r.le (rb true) := by
  refine at_of_round s_lPlaces_sound (m := 400) ?_
  rw [t_l02]
  have hc : ∀ r, 0 ≤ c1 r ∧ c1 r ≤ 1 := fun r => by unfold c1; split <;> omega
  have g0 := hc r0
  have g1 := hc r1
  rw [wrap_small (n + 1) (by omega) (by omega)]
  refine ⟨by decide, by decide, ?_⟩
  generalize hr : Int.tmod (bits BinOp.and IntKind.i64 (Int.fdiv regs (16 : Int)) 3) 3 = r2
  have h3 := reg3 (Int.fdiv regs (16 : Int))
  rw [hr] at h3
  refine br_dec (fun h => ?_) (fun h => ?_)
  · have e : c1 r2 = 1 := if_neg (by omega)
    exact l_l03 regs a b first ha hb r0 r1 r2 _ (by omega)
  · have e : c1 r2 = 0 := if_pos (by omega)
    exact l_l03 regs a b first ha hb r0 r1 r2 _ (by omega)
theorem l_l01 (regs a b : Int) (first : Bool) (ha : 1 ≤ a ∧ a ≤ 8) (hb : 1 ≤ b ∧ b ≤ 8) (r0 : Int) (n : Int) (hn : n = c1 r0) :
    (a_lPlaces.at_ 0 (F_lPl0 regs a b first r0 0 0 0 n 1)).holds s_lPlaces.cx a_lPlaces.rs fun r => r.le (rb true) := by
  refine at_of_round s_lPlaces_sound (m := 400) ?_
  rw [t_l01]
  have hc : ∀ r, 0 ≤ c1 r ∧ c1 r ≤ 1 := fun r => by unfold c1; split <;> omega
  have g0 := hc r0
  rw [wrap_small (n + 1) (by omega) (by omega)]
  refine ⟨by decide, by decide, ?_⟩
  generalize hr : Int.tmod (bits BinOp.and IntKind.i64 (Int.fdiv regs (4 : Int)) 3) 3 = r1
  have h3 := reg3 (Int.fdiv regs (4 : Int))
  rw [hr] at h3
  refine br_dec (fun h => ?_) (fun h => ?_)
  · have e : c1 r1 = 1 := if_neg (by omega)
    exact l_l02 regs a b first ha hb r0 r1 _ (by omega)
  · have e : c1 r1 = 0 := if_pos (by omega)
    exact l_l02 regs a b first ha hb r0 r1 _ (by omega)
theorem l_l00 (regs a b : Int) (first : Bool) (ha : 1 ≤ a ∧ a ≤ 8) (hb : 1 ≤ b ∧ b ≤ 8) (n : Int) (hn : n = 0) :
    (a_lPlaces.at_ 0 (F_lPl0 regs a b first 0 0 0 0 n 0)).holds s_lPlaces.cx a_lPlaces.rs fun r => r.le (rb true) := by
  refine at_of_round s_lPlaces_sound (m := 400) ?_
  rw [t_l00]
  have hc : ∀ r, 0 ≤ c1 r ∧ c1 r ≤ 1 := fun r => by unfold c1; split <;> omega
  rw [wrap_small (n + 1) (by omega) (by omega)]
  refine ⟨by decide, by decide, ?_⟩
  generalize hr : Int.tmod (bits BinOp.and IntKind.i64 (Int.fdiv regs (1 : Int)) 3) 3 = r0
  have h3 := reg3 (Int.fdiv regs (1 : Int))
  rw [hr] at h3
  refine br_dec (fun h => ?_) (fun h => ?_)
  · have e : c1 r0 = 1 := if_neg (by omega)
    exact l_l01 regs a b first ha hb  r0 _ (by omega)
  · have e : c1 r0 = 0 := if_pos (by omega)
    exact l_l01 regs a b first ha hb  r0 _ (by omega)
theorem c_lPlaces_good : c_lPlaces.fe.Good Try.prog := by
  refine FT.good c_lPlaces ⟨Try.f8, by kernel_rfl, by decide +kernel, by kernel_rfl⟩ (fun ⟨regs, a, b, first⟩ => by first | rfl | simp [c_lPlaces, rrRef, rplaces, Sta.fresh]) fun ⟨regs, a, b, first⟩ hp => ?_
  refine acalls_le s_lPlaces_sound (fn := Try.f8) (a := a_lPlaces) (nargs := 4) (tbl := [(6, [0, 1, 2, 3, 9, 10, 11]), (16, [1, 2, 3, 9, 12, 13, 14]), (23, [1, 2, 3, 12, 13, 15])]) (by kernel_rfl) (by kernel_rfl) rfl (m := 400) ?_
  show VC.holds _ _ _ (a_lPlaces.start s_lPlaces 400 [ai regs, ai a, ai b, .c (.bool first)])
  rw [t_lPlaces]
  try simp only [listOf_rowsOn, List.drop_zero, Prg.eta, Sta.eta, rowsOn_length, getD_drop, Nat.reduceAdd, rd_int, rd_PMem_name, rd_PMem_secret, rd_PMem_n, rd_PLabel_name, rd_PLabel_at_, rd_Ins_kind, rd_Ins_op, rd_Ins_d, rd_Ins_aR, rd_Ins_aN, rd_Ins_bR, rd_Ins_bN, rd_Ins_name, rd_Ins_target, rd_Ent_pc, rd_Ent_val, rd_Ent_addr, rd_Ent_fro, rd_Ent_next, rd_Ent_done, rd_Ent_known, rd_Ent_fault, rd_Place_reg, rd_Place_n, rd_Place_secret, rd_Obs_kind, rd_Obs_at_, rd_Dir_kind, rd_Dir_n]
  try simp only [c_lPlaces] at hp
  rw [and7, and7, wrap_small (a % 8 + 1) (by omega) (by omega), wrap_small (b % 8 + 1) (by omega) (by omega)]
  exact l_l00 regs _ _ first (by omega) (by omega) 0 rfl
end Go.Proofs.Ytniokbafhgdpmaa.Ax
