/- Programs of numbers: augurylaw6.Make. -/
import Derived.Test.YtclabjihjopclaaF7
namespace Go.Proofs.Ytclabjihjopclaa.Ax
open Go.RowKit
set_option linter.unusedVariables false
set_option linter.unusedSimpArgs false
noncomputable def a_make : FnA := (fnA Try.prog Try.f23 1 [(5, [2, 3, 4, 5, 6, 7]), (21, [2, 3, 4, 8, 9, 3000256007000900007003, 3000256008000900008002, 3000256009000900009009]), (25, [2, 3, 4, 8, 10, 3000256007000900007003, 3000256008000900008002, 3000256009000900009009])]).getD ⟨0, .skip, [], []⟩
noncomputable def s_make : Sp := spT [c_mkk.fe, c_lins.fe, c_dig1.fe]
theorem s_make_sound : s_make.sound Try.prog := spT_sound fun e he => by
  simp only [List.mem_cons, List.not_mem_nil, or_false] at he
  rcases he with rfl | rfl | rfl
  · exact c_mkk_good
  · exact c_lins_good
  · exact c_dig1_good
def Z_mk : Nat × Blk := (128, bc [.d (.int .i64 0), .d (.int .i64 0), .d (.int .i64 0), .d (.int .i64 0), .d (.int .i64 0), .d (.int .i64 0), .d (.int .i64 0), .nil, .nil, .nil])
def F_mk0 (l : List Int) (w win r0 r1 r2 r3 pub sec i : Int) : St := ⟨mkS 171 [(2, vp 128), (3, .c (.d (.fn 71 [.rptr [.sl (rowsOn l)]]))), (4, vp 256), (5, vi pub), (6, vi sec), (7, vi i)],
  [Z_mk, (256, bc [.d (.int .i64 w), .d (.int .i64 win), .d (.int .i64 6), .d (.int .i64 r0), .d (.int .i64 r1), .d (.int .i64 r2), .d (.int .i64 r3), .nil, .nil, .nil])]⟩
def B_mk (w win r0 r1 r2 r3 : Int) (M L I : List (List D)) (nm nl ni : Nat) : List (Nat × Blk) := [Z_mk, (256, bc [.d (.int .i64 w), .d (.int .i64 win), .d (.int .i64 6), .d (.int .i64 r0), .d (.int .i64 r1), .d (.int .i64 r2), .d (.int .i64 r3), .own 900007 1 nm, .own 900008 1 nl, .own 900009 1 ni]), (900007, ba 3 M), (900008, ba 2 L), (900009, ba 9 I)]
def F_mk1 (l : List Int) (w win r0 r1 r2 r3 : Int) (M L I : List (List D)) (nm nl ni : Nat) (n i : Int) : St := ⟨mkS 171 [(2, vp 128), (3, .c (.d (.fn 71 [.rptr [.sl (rowsOn l)]]))), (4, vp 256), (8, vi n), (9, vi i)], B_mk w win r0 r1 r2 r3 M L I nm nl ni⟩
def F_mk2 (l : List Int) (w win r0 r1 r2 r3 : Int) (M L I : List (List D)) (nm nl ni : Nat) (n i : Int) : St := ⟨mkS 171 [(2, vp 128), (3, .c (.d (.fn 71 [.rptr [.sl (rowsOn l)]]))), (4, vp 256), (8, vi n), (10, vi i)], B_mk w win r0 r1 r2 r3 M L I nm nl ni⟩
set_option maxRecDepth 100000 in
theorem t_make (l : List Int) : a_make.start s_make 400 [al l] =
(VC.need (PreOk c_mkk (l, (0 : Int)) [A.c (D.int IntKind.i64 (0 : Int)), A.c (D.rptr [D.sl (rowsOn l)])])
(VC.need (PreOk c_mkk (l, (0 : Int)) [A.c (D.int IntKind.i64 (0 : Int)), A.c (D.rptr [D.sl (rowsOn l)])])
(VC.need ((0 : Int) ≤ (1 : Int))
(VC.need ((3 : Int) ≠ (0 : Int))
(FnA.at_ a_make 0 (F_mk0 l (IntKind.wrap IntKind.i64 (bits BinOp.and IntKind.i64 (kS (listOf Int (rowsOn l)) (0 : Int)) (1 : Int) + (1 : Int))) (IntKind.wrap IntKind.i64 (Int.tmod (bits BinOp.and IntKind.i64 (Int.fdiv (kS (listOf Int (rowsOn l)) (0 : Int)) (2 : Int)) (255 : Int)) (3 : Int) + (1 : Int))) (0 : Int) (0 : Int) (0 : Int) (0 : Int) (0 : Int) (0 : Int) (0 : Int))))))) := by kernel_rfl
set_option maxRecDepth 100000 in
theorem t_mk00 (l : List Int) (w win pub sec : Int) : a_make.round s_make 400 0 (F_mk0 l w win 0 0 0 0 pub sec 0) =
(VC.need (PreOk c_mkk (l, (1 : Int)) [A.c (D.int IntKind.i64 (1 : Int)), A.c (D.rptr [D.sl (rowsOn l)])])
(VC.need ((0 : Int) ≤ (0 : Int))
(VC.need ((0 : Int) ≤ bits BinOp.and IntKind.i64 (Int.fdiv (kS (listOf Int (rowsOn l)) (1 : Int)) (1 : Int)) (3 : Int) ∧ bits BinOp.and IntKind.i64 (Int.fdiv (kS (listOf Int (rowsOn l)) (1 : Int)) (1 : Int)) (3 : Int) < (4 : Int))
(VC.need (Int.toNat (bits BinOp.and IntKind.i64 (Int.fdiv (kS (listOf Int (rowsOn l)) (1 : Int)) (1 : Int)) (3 : Int)) < (4 : Nat) ∧ List.length (rowAt [[D.int IntKind.i64 (0 : Int)], [D.int IntKind.i64 (0 : Int)], [D.int IntKind.i64 (1 : Int)], [D.int IntKind.i64 (2 : Int)]] (Int.toNat (bits BinOp.and IntKind.i64 (Int.fdiv (kS (listOf Int (rowsOn l)) (1 : Int)) (1 : Int)) (3 : Int)))) = (1 : Nat) ∧ okSh [Kd.int IntKind.i64] (List.drop (0 : Nat) (rowAt [[D.int IntKind.i64 (0 : Int)], [D.int IntKind.i64 (0 : Int)], [D.int IntKind.i64 (1 : Int)], [D.int IntKind.i64 (2 : Int)]] (Int.toNat (bits BinOp.and IntKind.i64 (Int.fdiv (kS (listOf Int (rowsOn l)) (1 : Int)) (1 : Int)) (3 : Int))))))
(VC.br (asInt (List.getD (List.drop (0 : Nat) (rowAt [[D.int IntKind.i64 (0 : Int)], [D.int IntKind.i64 (0 : Int)], [D.int IntKind.i64 (1 : Int)], [D.int IntKind.i64 (2 : Int)]] (Int.toNat (bits BinOp.and IntKind.i64 (Int.fdiv (kS (listOf Int (rowsOn l)) (1 : Int)) (1 : Int)) (3 : Int))))) (0 : Nat) D.nilp) == (1 : Int))
 (VC.br (decide (IntKind.wrap IntKind.i64 (pub + w) ≤ (2 : Int)))
  (FnA.at_ a_make 0 (F_mk0 l w win (asInt (List.getD (List.drop (0 : Nat) (rowAt [[D.int IntKind.i64 (0 : Int)], [D.int IntKind.i64 (0 : Int)], [D.int IntKind.i64 (1 : Int)], [D.int IntKind.i64 (2 : Int)]] (Int.toNat (bits BinOp.and IntKind.i64 (Int.fdiv (kS (listOf Int (rowsOn l)) (1 : Int)) (1 : Int)) (3 : Int))))) (0 : Nat) D.nilp)) (0 : Int) (0 : Int) (0 : Int) (IntKind.wrap IntKind.i64 (pub + w)) sec (1 : Int)))
  (VC.br (asInt (List.getD (List.drop (0 : Nat) (rowAt [[D.int IntKind.i64 (0 : Int)], [D.int IntKind.i64 (0 : Int)], [D.int IntKind.i64 (1 : Int)], [D.int IntKind.i64 (2 : Int)]] (Int.toNat (bits BinOp.and IntKind.i64 (Int.fdiv (kS (listOf Int (rowsOn l)) (1 : Int)) (1 : Int)) (3 : Int))))) (0 : Nat) D.nilp) == (2 : Int))
   (VC.br (decide (IntKind.wrap IntKind.i64 (sec + w) ≤ (2 : Int)))
    (FnA.at_ a_make 0 (F_mk0 l w win (asInt (List.getD (List.drop (0 : Nat) (rowAt [[D.int IntKind.i64 (0 : Int)], [D.int IntKind.i64 (0 : Int)], [D.int IntKind.i64 (1 : Int)], [D.int IntKind.i64 (2 : Int)]] (Int.toNat (bits BinOp.and IntKind.i64 (Int.fdiv (kS (listOf Int (rowsOn l)) (1 : Int)) (1 : Int)) (3 : Int))))) (0 : Nat) D.nilp)) (0 : Int) (0 : Int) (0 : Int) pub (IntKind.wrap IntKind.i64 (sec + w)) (1 : Int)))
    (FnA.at_ a_make 0 (F_mk0 l w win (0 : Int) (0 : Int) (0 : Int) (0 : Int) pub sec (1 : Int))))
   (FnA.at_ a_make 0 (F_mk0 l w win (0 : Int) (0 : Int) (0 : Int) (0 : Int) pub sec (1 : Int)))))
 (VC.br (asInt (List.getD (List.drop (0 : Nat) (rowAt [[D.int IntKind.i64 (0 : Int)], [D.int IntKind.i64 (0 : Int)], [D.int IntKind.i64 (1 : Int)], [D.int IntKind.i64 (2 : Int)]] (Int.toNat (bits BinOp.and IntKind.i64 (Int.fdiv (kS (listOf Int (rowsOn l)) (1 : Int)) (1 : Int)) (3 : Int))))) (0 : Nat) D.nilp) == (2 : Int))
  (VC.br (decide (IntKind.wrap IntKind.i64 (sec + w) ≤ (2 : Int)))
   (FnA.at_ a_make 0 (F_mk0 l w win (asInt (List.getD (List.drop (0 : Nat) (rowAt [[D.int IntKind.i64 (0 : Int)], [D.int IntKind.i64 (0 : Int)], [D.int IntKind.i64 (1 : Int)], [D.int IntKind.i64 (2 : Int)]] (Int.toNat (bits BinOp.and IntKind.i64 (Int.fdiv (kS (listOf Int (rowsOn l)) (1 : Int)) (1 : Int)) (3 : Int))))) (0 : Nat) D.nilp)) (0 : Int) (0 : Int) (0 : Int) pub (IntKind.wrap IntKind.i64 (sec + w)) (1 : Int)))
   (FnA.at_ a_make 0 (F_mk0 l w win (0 : Int) (0 : Int) (0 : Int) (0 : Int) pub sec (1 : Int))))
  (FnA.at_ a_make 0 (F_mk0 l w win (0 : Int) (0 : Int) (0 : Int) (0 : Int) pub sec (1 : Int))))))))) := by kernel_rfl
set_option maxRecDepth 100000 in
theorem t_mk01 (l : List Int) (w win r0 pub sec : Int) : a_make.round s_make 400 0 (F_mk0 l w win r0 0 0 0 pub sec 1) =
(VC.need (PreOk c_mkk (l, (1 : Int)) [A.c (D.int IntKind.i64 (1 : Int)), A.c (D.rptr [D.sl (rowsOn l)])])
(VC.need ((0 : Int) ≤ (2 : Int))
(VC.need ((0 : Int) ≤ bits BinOp.and IntKind.i64 (Int.fdiv (kS (listOf Int (rowsOn l)) (1 : Int)) (4 : Int)) (3 : Int) ∧ bits BinOp.and IntKind.i64 (Int.fdiv (kS (listOf Int (rowsOn l)) (1 : Int)) (4 : Int)) (3 : Int) < (4 : Int))
(VC.need (Int.toNat (bits BinOp.and IntKind.i64 (Int.fdiv (kS (listOf Int (rowsOn l)) (1 : Int)) (4 : Int)) (3 : Int)) < (4 : Nat) ∧ List.length (rowAt [[D.int IntKind.i64 (0 : Int)], [D.int IntKind.i64 (0 : Int)], [D.int IntKind.i64 (1 : Int)], [D.int IntKind.i64 (2 : Int)]] (Int.toNat (bits BinOp.and IntKind.i64 (Int.fdiv (kS (listOf Int (rowsOn l)) (1 : Int)) (4 : Int)) (3 : Int)))) = (1 : Nat) ∧ okSh [Kd.int IntKind.i64] (List.drop (0 : Nat) (rowAt [[D.int IntKind.i64 (0 : Int)], [D.int IntKind.i64 (0 : Int)], [D.int IntKind.i64 (1 : Int)], [D.int IntKind.i64 (2 : Int)]] (Int.toNat (bits BinOp.and IntKind.i64 (Int.fdiv (kS (listOf Int (rowsOn l)) (1 : Int)) (4 : Int)) (3 : Int))))))
(VC.br (asInt (List.getD (List.drop (0 : Nat) (rowAt [[D.int IntKind.i64 (0 : Int)], [D.int IntKind.i64 (0 : Int)], [D.int IntKind.i64 (1 : Int)], [D.int IntKind.i64 (2 : Int)]] (Int.toNat (bits BinOp.and IntKind.i64 (Int.fdiv (kS (listOf Int (rowsOn l)) (1 : Int)) (4 : Int)) (3 : Int))))) (0 : Nat) D.nilp) == (1 : Int))
 (VC.br (decide (IntKind.wrap IntKind.i64 (pub + w) ≤ (2 : Int)))
  (FnA.at_ a_make 0 (F_mk0 l w win r0 (asInt (List.getD (List.drop (0 : Nat) (rowAt [[D.int IntKind.i64 (0 : Int)], [D.int IntKind.i64 (0 : Int)], [D.int IntKind.i64 (1 : Int)], [D.int IntKind.i64 (2 : Int)]] (Int.toNat (bits BinOp.and IntKind.i64 (Int.fdiv (kS (listOf Int (rowsOn l)) (1 : Int)) (4 : Int)) (3 : Int))))) (0 : Nat) D.nilp)) (0 : Int) (0 : Int) (IntKind.wrap IntKind.i64 (pub + w)) sec (2 : Int)))
  (VC.br (asInt (List.getD (List.drop (0 : Nat) (rowAt [[D.int IntKind.i64 (0 : Int)], [D.int IntKind.i64 (0 : Int)], [D.int IntKind.i64 (1 : Int)], [D.int IntKind.i64 (2 : Int)]] (Int.toNat (bits BinOp.and IntKind.i64 (Int.fdiv (kS (listOf Int (rowsOn l)) (1 : Int)) (4 : Int)) (3 : Int))))) (0 : Nat) D.nilp) == (2 : Int))
   (VC.br (decide (IntKind.wrap IntKind.i64 (sec + w) ≤ (2 : Int)))
    (FnA.at_ a_make 0 (F_mk0 l w win r0 (asInt (List.getD (List.drop (0 : Nat) (rowAt [[D.int IntKind.i64 (0 : Int)], [D.int IntKind.i64 (0 : Int)], [D.int IntKind.i64 (1 : Int)], [D.int IntKind.i64 (2 : Int)]] (Int.toNat (bits BinOp.and IntKind.i64 (Int.fdiv (kS (listOf Int (rowsOn l)) (1 : Int)) (4 : Int)) (3 : Int))))) (0 : Nat) D.nilp)) (0 : Int) (0 : Int) pub (IntKind.wrap IntKind.i64 (sec + w)) (2 : Int)))
    (FnA.at_ a_make 0 (F_mk0 l w win r0 (0 : Int) (0 : Int) (0 : Int) pub sec (2 : Int))))
   (FnA.at_ a_make 0 (F_mk0 l w win r0 (0 : Int) (0 : Int) (0 : Int) pub sec (2 : Int)))))
 (VC.br (asInt (List.getD (List.drop (0 : Nat) (rowAt [[D.int IntKind.i64 (0 : Int)], [D.int IntKind.i64 (0 : Int)], [D.int IntKind.i64 (1 : Int)], [D.int IntKind.i64 (2 : Int)]] (Int.toNat (bits BinOp.and IntKind.i64 (Int.fdiv (kS (listOf Int (rowsOn l)) (1 : Int)) (4 : Int)) (3 : Int))))) (0 : Nat) D.nilp) == (2 : Int))
  (VC.br (decide (IntKind.wrap IntKind.i64 (sec + w) ≤ (2 : Int)))
   (FnA.at_ a_make 0 (F_mk0 l w win r0 (asInt (List.getD (List.drop (0 : Nat) (rowAt [[D.int IntKind.i64 (0 : Int)], [D.int IntKind.i64 (0 : Int)], [D.int IntKind.i64 (1 : Int)], [D.int IntKind.i64 (2 : Int)]] (Int.toNat (bits BinOp.and IntKind.i64 (Int.fdiv (kS (listOf Int (rowsOn l)) (1 : Int)) (4 : Int)) (3 : Int))))) (0 : Nat) D.nilp)) (0 : Int) (0 : Int) pub (IntKind.wrap IntKind.i64 (sec + w)) (2 : Int)))
   (FnA.at_ a_make 0 (F_mk0 l w win r0 (0 : Int) (0 : Int) (0 : Int) pub sec (2 : Int))))
  (FnA.at_ a_make 0 (F_mk0 l w win r0 (0 : Int) (0 : Int) (0 : Int) pub sec (2 : Int))))))))) := by kernel_rfl
set_option maxRecDepth 100000 in
theorem t_mk02 (l : List Int) (w win r0 r1 pub sec : Int) : a_make.round s_make 400 0 (F_mk0 l w win r0 r1 0 0 pub sec 2) =
(VC.need (PreOk c_mkk (l, (1 : Int)) [A.c (D.int IntKind.i64 (1 : Int)), A.c (D.rptr [D.sl (rowsOn l)])])
(VC.need ((0 : Int) ≤ (4 : Int))
(VC.need ((0 : Int) ≤ bits BinOp.and IntKind.i64 (Int.fdiv (kS (listOf Int (rowsOn l)) (1 : Int)) (16 : Int)) (3 : Int) ∧ bits BinOp.and IntKind.i64 (Int.fdiv (kS (listOf Int (rowsOn l)) (1 : Int)) (16 : Int)) (3 : Int) < (4 : Int))
(VC.need (Int.toNat (bits BinOp.and IntKind.i64 (Int.fdiv (kS (listOf Int (rowsOn l)) (1 : Int)) (16 : Int)) (3 : Int)) < (4 : Nat) ∧ List.length (rowAt [[D.int IntKind.i64 (0 : Int)], [D.int IntKind.i64 (0 : Int)], [D.int IntKind.i64 (1 : Int)], [D.int IntKind.i64 (2 : Int)]] (Int.toNat (bits BinOp.and IntKind.i64 (Int.fdiv (kS (listOf Int (rowsOn l)) (1 : Int)) (16 : Int)) (3 : Int)))) = (1 : Nat) ∧ okSh [Kd.int IntKind.i64] (List.drop (0 : Nat) (rowAt [[D.int IntKind.i64 (0 : Int)], [D.int IntKind.i64 (0 : Int)], [D.int IntKind.i64 (1 : Int)], [D.int IntKind.i64 (2 : Int)]] (Int.toNat (bits BinOp.and IntKind.i64 (Int.fdiv (kS (listOf Int (rowsOn l)) (1 : Int)) (16 : Int)) (3 : Int))))))
(VC.br (asInt (List.getD (List.drop (0 : Nat) (rowAt [[D.int IntKind.i64 (0 : Int)], [D.int IntKind.i64 (0 : Int)], [D.int IntKind.i64 (1 : Int)], [D.int IntKind.i64 (2 : Int)]] (Int.toNat (bits BinOp.and IntKind.i64 (Int.fdiv (kS (listOf Int (rowsOn l)) (1 : Int)) (16 : Int)) (3 : Int))))) (0 : Nat) D.nilp) == (1 : Int))
 (VC.br (decide (IntKind.wrap IntKind.i64 (pub + w) ≤ (2 : Int)))
  (FnA.at_ a_make 0 (F_mk0 l w win r0 r1 (asInt (List.getD (List.drop (0 : Nat) (rowAt [[D.int IntKind.i64 (0 : Int)], [D.int IntKind.i64 (0 : Int)], [D.int IntKind.i64 (1 : Int)], [D.int IntKind.i64 (2 : Int)]] (Int.toNat (bits BinOp.and IntKind.i64 (Int.fdiv (kS (listOf Int (rowsOn l)) (1 : Int)) (16 : Int)) (3 : Int))))) (0 : Nat) D.nilp)) (0 : Int) (IntKind.wrap IntKind.i64 (pub + w)) sec (3 : Int)))
  (VC.br (asInt (List.getD (List.drop (0 : Nat) (rowAt [[D.int IntKind.i64 (0 : Int)], [D.int IntKind.i64 (0 : Int)], [D.int IntKind.i64 (1 : Int)], [D.int IntKind.i64 (2 : Int)]] (Int.toNat (bits BinOp.and IntKind.i64 (Int.fdiv (kS (listOf Int (rowsOn l)) (1 : Int)) (16 : Int)) (3 : Int))))) (0 : Nat) D.nilp) == (2 : Int))
   (VC.br (decide (IntKind.wrap IntKind.i64 (sec + w) ≤ (2 : Int)))
    (FnA.at_ a_make 0 (F_mk0 l w win r0 r1 (asInt (List.getD (List.drop (0 : Nat) (rowAt [[D.int IntKind.i64 (0 : Int)], [D.int IntKind.i64 (0 : Int)], [D.int IntKind.i64 (1 : Int)], [D.int IntKind.i64 (2 : Int)]] (Int.toNat (bits BinOp.and IntKind.i64 (Int.fdiv (kS (listOf Int (rowsOn l)) (1 : Int)) (16 : Int)) (3 : Int))))) (0 : Nat) D.nilp)) (0 : Int) pub (IntKind.wrap IntKind.i64 (sec + w)) (3 : Int)))
    (FnA.at_ a_make 0 (F_mk0 l w win r0 r1 (0 : Int) (0 : Int) pub sec (3 : Int))))
   (FnA.at_ a_make 0 (F_mk0 l w win r0 r1 (0 : Int) (0 : Int) pub sec (3 : Int)))))
 (VC.br (asInt (List.getD (List.drop (0 : Nat) (rowAt [[D.int IntKind.i64 (0 : Int)], [D.int IntKind.i64 (0 : Int)], [D.int IntKind.i64 (1 : Int)], [D.int IntKind.i64 (2 : Int)]] (Int.toNat (bits BinOp.and IntKind.i64 (Int.fdiv (kS (listOf Int (rowsOn l)) (1 : Int)) (16 : Int)) (3 : Int))))) (0 : Nat) D.nilp) == (2 : Int))
  (VC.br (decide (IntKind.wrap IntKind.i64 (sec + w) ≤ (2 : Int)))
   (FnA.at_ a_make 0 (F_mk0 l w win r0 r1 (asInt (List.getD (List.drop (0 : Nat) (rowAt [[D.int IntKind.i64 (0 : Int)], [D.int IntKind.i64 (0 : Int)], [D.int IntKind.i64 (1 : Int)], [D.int IntKind.i64 (2 : Int)]] (Int.toNat (bits BinOp.and IntKind.i64 (Int.fdiv (kS (listOf Int (rowsOn l)) (1 : Int)) (16 : Int)) (3 : Int))))) (0 : Nat) D.nilp)) (0 : Int) pub (IntKind.wrap IntKind.i64 (sec + w)) (3 : Int)))
   (FnA.at_ a_make 0 (F_mk0 l w win r0 r1 (0 : Int) (0 : Int) pub sec (3 : Int))))
  (FnA.at_ a_make 0 (F_mk0 l w win r0 r1 (0 : Int) (0 : Int) pub sec (3 : Int))))))))) := by kernel_rfl
set_option maxRecDepth 100000 in
theorem t_mk03 (l : List Int) (w win r0 r1 r2 pub sec : Int) : a_make.round s_make 400 0 (F_mk0 l w win r0 r1 r2 0 pub sec 3) =
(VC.need (PreOk c_mkk (l, (1 : Int)) [A.c (D.int IntKind.i64 (1 : Int)), A.c (D.rptr [D.sl (rowsOn l)])])
(VC.need ((0 : Int) ≤ (6 : Int))
(VC.need ((0 : Int) ≤ bits BinOp.and IntKind.i64 (Int.fdiv (kS (listOf Int (rowsOn l)) (1 : Int)) (64 : Int)) (3 : Int) ∧ bits BinOp.and IntKind.i64 (Int.fdiv (kS (listOf Int (rowsOn l)) (1 : Int)) (64 : Int)) (3 : Int) < (4 : Int))
(VC.need (Int.toNat (bits BinOp.and IntKind.i64 (Int.fdiv (kS (listOf Int (rowsOn l)) (1 : Int)) (64 : Int)) (3 : Int)) < (4 : Nat) ∧ List.length (rowAt [[D.int IntKind.i64 (0 : Int)], [D.int IntKind.i64 (0 : Int)], [D.int IntKind.i64 (1 : Int)], [D.int IntKind.i64 (2 : Int)]] (Int.toNat (bits BinOp.and IntKind.i64 (Int.fdiv (kS (listOf Int (rowsOn l)) (1 : Int)) (64 : Int)) (3 : Int)))) = (1 : Nat) ∧ okSh [Kd.int IntKind.i64] (List.drop (0 : Nat) (rowAt [[D.int IntKind.i64 (0 : Int)], [D.int IntKind.i64 (0 : Int)], [D.int IntKind.i64 (1 : Int)], [D.int IntKind.i64 (2 : Int)]] (Int.toNat (bits BinOp.and IntKind.i64 (Int.fdiv (kS (listOf Int (rowsOn l)) (1 : Int)) (64 : Int)) (3 : Int))))))
(VC.br (asInt (List.getD (List.drop (0 : Nat) (rowAt [[D.int IntKind.i64 (0 : Int)], [D.int IntKind.i64 (0 : Int)], [D.int IntKind.i64 (1 : Int)], [D.int IntKind.i64 (2 : Int)]] (Int.toNat (bits BinOp.and IntKind.i64 (Int.fdiv (kS (listOf Int (rowsOn l)) (1 : Int)) (64 : Int)) (3 : Int))))) (0 : Nat) D.nilp) == (1 : Int))
 (VC.br (decide (IntKind.wrap IntKind.i64 (pub + w) ≤ (2 : Int)))
  (FnA.at_ a_make 0 (F_mk0 l w win r0 r1 r2 (asInt (List.getD (List.drop (0 : Nat) (rowAt [[D.int IntKind.i64 (0 : Int)], [D.int IntKind.i64 (0 : Int)], [D.int IntKind.i64 (1 : Int)], [D.int IntKind.i64 (2 : Int)]] (Int.toNat (bits BinOp.and IntKind.i64 (Int.fdiv (kS (listOf Int (rowsOn l)) (1 : Int)) (64 : Int)) (3 : Int))))) (0 : Nat) D.nilp)) (IntKind.wrap IntKind.i64 (pub + w)) sec (4 : Int)))
  (VC.br (asInt (List.getD (List.drop (0 : Nat) (rowAt [[D.int IntKind.i64 (0 : Int)], [D.int IntKind.i64 (0 : Int)], [D.int IntKind.i64 (1 : Int)], [D.int IntKind.i64 (2 : Int)]] (Int.toNat (bits BinOp.and IntKind.i64 (Int.fdiv (kS (listOf Int (rowsOn l)) (1 : Int)) (64 : Int)) (3 : Int))))) (0 : Nat) D.nilp) == (2 : Int))
   (VC.br (decide (IntKind.wrap IntKind.i64 (sec + w) ≤ (2 : Int)))
    (FnA.at_ a_make 0 (F_mk0 l w win r0 r1 r2 (asInt (List.getD (List.drop (0 : Nat) (rowAt [[D.int IntKind.i64 (0 : Int)], [D.int IntKind.i64 (0 : Int)], [D.int IntKind.i64 (1 : Int)], [D.int IntKind.i64 (2 : Int)]] (Int.toNat (bits BinOp.and IntKind.i64 (Int.fdiv (kS (listOf Int (rowsOn l)) (1 : Int)) (64 : Int)) (3 : Int))))) (0 : Nat) D.nilp)) pub (IntKind.wrap IntKind.i64 (sec + w)) (4 : Int)))
    (FnA.at_ a_make 0 (F_mk0 l w win r0 r1 r2 (0 : Int) pub sec (4 : Int))))
   (FnA.at_ a_make 0 (F_mk0 l w win r0 r1 r2 (0 : Int) pub sec (4 : Int)))))
 (VC.br (asInt (List.getD (List.drop (0 : Nat) (rowAt [[D.int IntKind.i64 (0 : Int)], [D.int IntKind.i64 (0 : Int)], [D.int IntKind.i64 (1 : Int)], [D.int IntKind.i64 (2 : Int)]] (Int.toNat (bits BinOp.and IntKind.i64 (Int.fdiv (kS (listOf Int (rowsOn l)) (1 : Int)) (64 : Int)) (3 : Int))))) (0 : Nat) D.nilp) == (2 : Int))
  (VC.br (decide (IntKind.wrap IntKind.i64 (sec + w) ≤ (2 : Int)))
   (FnA.at_ a_make 0 (F_mk0 l w win r0 r1 r2 (asInt (List.getD (List.drop (0 : Nat) (rowAt [[D.int IntKind.i64 (0 : Int)], [D.int IntKind.i64 (0 : Int)], [D.int IntKind.i64 (1 : Int)], [D.int IntKind.i64 (2 : Int)]] (Int.toNat (bits BinOp.and IntKind.i64 (Int.fdiv (kS (listOf Int (rowsOn l)) (1 : Int)) (64 : Int)) (3 : Int))))) (0 : Nat) D.nilp)) pub (IntKind.wrap IntKind.i64 (sec + w)) (4 : Int)))
   (FnA.at_ a_make 0 (F_mk0 l w win r0 r1 r2 (0 : Int) pub sec (4 : Int))))
  (FnA.at_ a_make 0 (F_mk0 l w win r0 r1 r2 (0 : Int) pub sec (4 : Int))))))))) := by kernel_rfl
set_option maxRecDepth 100000 in
theorem t_mk04 (l : List Int) (w win r0 r1 r2 r3 pub sec : Int) : a_make.round s_make 400 0 (F_mk0 l w win r0 r1 r2 r3 pub sec 4) =
(VC.need (PreOk c_mkk (l, (1 : Int)) [A.c (D.int IntKind.i64 (1 : Int)), A.c (D.rptr [D.sl (rowsOn l)])])
(VC.need ((0 : Int) ≤ (8 : Int))
(VC.br (decide ((0 : Int) < bits BinOp.and IntKind.i64 (Int.fdiv (kS (listOf Int (rowsOn l)) (1 : Int)) (256 : Int)) (3 : Int)))
 (VC.need ((List.all [[D.str { data := #[(109 : UInt8)] }, D.bool false, D.int IntKind.i64 (1 : Int)]] fun r ↦ List.length r == (3 : Nat)) = true ∧ (List.all ([] : List (List D)) fun r ↦ List.length r == (3 : Nat)) = true ∧ (3333 : Nat) ≤ (70368744177664 : Nat))
 (VC.br (w == (1 : Int))
  (VC.need (PreOk c_mkk (l, (1 : Int)) [A.c (D.int IntKind.i64 (1 : Int)), A.c (D.rptr [D.sl (rowsOn l)])])
  (VC.need ((0 : Int) ≤ (10 : Int))
  (VC.br (bits BinOp.and IntKind.i64 (Int.fdiv (kS (listOf Int (rowsOn l)) (1 : Int)) (1024 : Int)) (3 : Int) == (0 : Int))
   (VC.need ((0 : Int) ≤ (0 : Int) ∧ (0 : Int) < (1 : Int))
   (VC.need ((0 : Nat) < (1 : Nat) ∧ (3 : Nat) = (3 : Nat) ∧ (3 : Nat) ≤ (3 : Nat))
   (VC.need (PreOk c_mkk (l, (1 : Int)) [A.c (D.int IntKind.i64 (1 : Int)), A.c (D.rptr [D.sl (rowsOn l)])])
   (VC.need ((0 : Int) ≤ (12 : Int))
   (VC.br (decide ((0 : Int) < bits BinOp.and IntKind.i64 (Int.fdiv (kS (listOf Int (rowsOn l)) (1 : Int)) (4096 : Int)) (3 : Int)))
    (VC.br (decide (IntKind.wrap IntKind.i64 (sec + w) ≤ (3 : Int)))
     (VC.need ((0 : Int) ≤ (0 : Int) ∧ (0 : Int) < (1 : Int))
     (VC.need ((0 : Nat) < (1 : Nat) ∧ (3 : Nat) = (3 : Nat) ∧ okSh [Kd.int IntKind.i64] [D.int IntKind.i64 (2 : Int)])
     (VC.need (PreOk c_mkk (l, (0 : Int)) [A.c (D.int IntKind.i64 (0 : Int)), A.c (D.rptr [D.sl (rowsOn l)])])
     (VC.need ((0 : Int) ≤ (12 : Int))
     (FnA.at_ a_make 1 (F_mk1 l w win r0 r1 r2 r3 [[D.str { data := #[(109 : UInt8)] }, D.bool false, D.int IntKind.i64 (2 : Int)]] [] [] (1 : Nat) (0 : Nat) (0 : Nat) (IntKind.wrap IntKind.i64 (bits BinOp.and IntKind.i64 (Int.fdiv (kS (listOf Int (rowsOn l)) (0 : Int)) (4096 : Int)) (3 : Int) + (2 : Int))) (0 : Int)))))))
     (VC.need (PreOk c_mkk (l, (0 : Int)) [A.c (D.int IntKind.i64 (0 : Int)), A.c (D.rptr [D.sl (rowsOn l)])])
     (VC.need ((0 : Int) ≤ (12 : Int))
     (FnA.at_ a_make 1 (F_mk1 l w win r0 r1 r2 r3 [[D.str { data := #[(109 : UInt8)] }, D.bool false, D.int IntKind.i64 (2 : Int)]] [] [] (1 : Nat) (0 : Nat) (0 : Nat) (IntKind.wrap IntKind.i64 (bits BinOp.and IntKind.i64 (Int.fdiv (kS (listOf Int (rowsOn l)) (0 : Int)) (4096 : Int)) (3 : Int) + (2 : Int))) (0 : Int))))))
    (VC.need (PreOk c_mkk (l, (0 : Int)) [A.c (D.int IntKind.i64 (0 : Int)), A.c (D.rptr [D.sl (rowsOn l)])])
    (VC.need ((0 : Int) ≤ (12 : Int))
    (FnA.at_ a_make 1 (F_mk1 l w win r0 r1 r2 r3 [[D.str { data := #[(109 : UInt8)] }, D.bool false, D.int IntKind.i64 (2 : Int)]] [] [] (1 : Nat) (0 : Nat) (0 : Nat) (IntKind.wrap IntKind.i64 (bits BinOp.and IntKind.i64 (Int.fdiv (kS (listOf Int (rowsOn l)) (0 : Int)) (4096 : Int)) (3 : Int) + (2 : Int))) (0 : Int))))))))))
   (VC.need (PreOk c_mkk (l, (1 : Int)) [A.c (D.int IntKind.i64 (1 : Int)), A.c (D.rptr [D.sl (rowsOn l)])])
   (VC.need ((0 : Int) ≤ (12 : Int))
   (VC.br (decide ((0 : Int) < bits BinOp.and IntKind.i64 (Int.fdiv (kS (listOf Int (rowsOn l)) (1 : Int)) (4096 : Int)) (3 : Int)))
    (VC.br (decide (IntKind.wrap IntKind.i64 (sec + w) ≤ (3 : Int)))
     (VC.need ((0 : Int) ≤ (0 : Int) ∧ (0 : Int) < (1 : Int))
     (VC.need ((0 : Nat) < (1 : Nat) ∧ (3 : Nat) = (3 : Nat) ∧ okSh [Kd.int IntKind.i64] [D.int IntKind.i64 (1 : Int)])
     (VC.need ((List.all [[D.str { data := #[(115 : UInt8)] }, D.bool true, D.int IntKind.i64 (1 : Int)]] fun r ↦ List.length r == (3 : Nat)) = true ∧ (List.all [[D.str { data := #[(109 : UInt8)] }, D.bool false, D.int IntKind.i64 (1 : Int)]] fun r ↦ List.length r == (3 : Nat)) = true ∧ (3366 : Nat) ≤ (70368744177664 : Nat))
     (VC.need (PreOk c_mkk (l, (0 : Int)) [A.c (D.int IntKind.i64 (0 : Int)), A.c (D.rptr [D.sl (rowsOn l)])])
     (VC.need ((0 : Int) ≤ (12 : Int))
     (FnA.at_ a_make 1 (F_mk1 l w win r0 r1 r2 r3 [[D.str { data := #[(109 : UInt8)] }, D.bool false, D.int IntKind.i64 (1 : Int)], [D.str { data := #[(115 : UInt8)] }, D.bool true, D.int IntKind.i64 (1 : Int)]] [] [] (2 : Nat) (0 : Nat) (0 : Nat) (IntKind.wrap IntKind.i64 (bits BinOp.and IntKind.i64 (Int.fdiv (kS (listOf Int (rowsOn l)) (0 : Int)) (4096 : Int)) (3 : Int) + (2 : Int))) (0 : Int))))))))
     (VC.need (PreOk c_mkk (l, (0 : Int)) [A.c (D.int IntKind.i64 (0 : Int)), A.c (D.rptr [D.sl (rowsOn l)])])
     (VC.need ((0 : Int) ≤ (12 : Int))
     (FnA.at_ a_make 1 (F_mk1 l w win r0 r1 r2 r3 [[D.str { data := #[(109 : UInt8)] }, D.bool false, D.int IntKind.i64 (1 : Int)]] [] [] (1 : Nat) (0 : Nat) (0 : Nat) (IntKind.wrap IntKind.i64 (bits BinOp.and IntKind.i64 (Int.fdiv (kS (listOf Int (rowsOn l)) (0 : Int)) (4096 : Int)) (3 : Int) + (2 : Int))) (0 : Int))))))
    (VC.need (PreOk c_mkk (l, (0 : Int)) [A.c (D.int IntKind.i64 (0 : Int)), A.c (D.rptr [D.sl (rowsOn l)])])
    (VC.need ((0 : Int) ≤ (12 : Int))
    (FnA.at_ a_make 1 (F_mk1 l w win r0 r1 r2 r3 [[D.str { data := #[(109 : UInt8)] }, D.bool false, D.int IntKind.i64 (1 : Int)]] [] [] (1 : Nat) (0 : Nat) (0 : Nat) (IntKind.wrap IntKind.i64 (bits BinOp.and IntKind.i64 (Int.fdiv (kS (listOf Int (rowsOn l)) (0 : Int)) (4096 : Int)) (3 : Int) + (2 : Int))) (0 : Int)))))))))))
  (VC.need (PreOk c_mkk (l, (1 : Int)) [A.c (D.int IntKind.i64 (1 : Int)), A.c (D.rptr [D.sl (rowsOn l)])])
  (VC.need ((0 : Int) ≤ (12 : Int))
  (VC.br (decide ((0 : Int) < bits BinOp.and IntKind.i64 (Int.fdiv (kS (listOf Int (rowsOn l)) (1 : Int)) (4096 : Int)) (3 : Int)))
   (VC.br (decide (IntKind.wrap IntKind.i64 (sec + w) ≤ (3 : Int)))
    (VC.need ((0 : Int) ≤ (0 : Int) ∧ (0 : Int) < (1 : Int))
    (VC.need ((0 : Nat) < (1 : Nat) ∧ (3 : Nat) = (3 : Nat) ∧ okSh [Kd.int IntKind.i64] [D.int IntKind.i64 (1 : Int)])
    (VC.need ((List.all [[D.str { data := #[(115 : UInt8)] }, D.bool true, D.int IntKind.i64 (1 : Int)]] fun r ↦ List.length r == (3 : Nat)) = true ∧ (List.all [[D.str { data := #[(109 : UInt8)] }, D.bool false, D.int IntKind.i64 (1 : Int)]] fun r ↦ List.length r == (3 : Nat)) = true ∧ (3366 : Nat) ≤ (70368744177664 : Nat))
    (VC.need (PreOk c_mkk (l, (0 : Int)) [A.c (D.int IntKind.i64 (0 : Int)), A.c (D.rptr [D.sl (rowsOn l)])])
    (VC.need ((0 : Int) ≤ (12 : Int))
    (FnA.at_ a_make 1 (F_mk1 l w win r0 r1 r2 r3 [[D.str { data := #[(109 : UInt8)] }, D.bool false, D.int IntKind.i64 (1 : Int)], [D.str { data := #[(115 : UInt8)] }, D.bool true, D.int IntKind.i64 (1 : Int)]] [] [] (2 : Nat) (0 : Nat) (0 : Nat) (IntKind.wrap IntKind.i64 (bits BinOp.and IntKind.i64 (Int.fdiv (kS (listOf Int (rowsOn l)) (0 : Int)) (4096 : Int)) (3 : Int) + (2 : Int))) (0 : Int))))))))
    (VC.need (PreOk c_mkk (l, (0 : Int)) [A.c (D.int IntKind.i64 (0 : Int)), A.c (D.rptr [D.sl (rowsOn l)])])
    (VC.need ((0 : Int) ≤ (12 : Int))
    (FnA.at_ a_make 1 (F_mk1 l w win r0 r1 r2 r3 [[D.str { data := #[(109 : UInt8)] }, D.bool false, D.int IntKind.i64 (1 : Int)]] [] [] (1 : Nat) (0 : Nat) (0 : Nat) (IntKind.wrap IntKind.i64 (bits BinOp.and IntKind.i64 (Int.fdiv (kS (listOf Int (rowsOn l)) (0 : Int)) (4096 : Int)) (3 : Int) + (2 : Int))) (0 : Int))))))
   (VC.need (PreOk c_mkk (l, (0 : Int)) [A.c (D.int IntKind.i64 (0 : Int)), A.c (D.rptr [D.sl (rowsOn l)])])
   (VC.need ((0 : Int) ≤ (12 : Int))
   (FnA.at_ a_make 1 (F_mk1 l w win r0 r1 r2 r3 [[D.str { data := #[(109 : UInt8)] }, D.bool false, D.int IntKind.i64 (1 : Int)]] [] [] (1 : Nat) (0 : Nat) (0 : Nat) (IntKind.wrap IntKind.i64 (bits BinOp.and IntKind.i64 (Int.fdiv (kS (listOf Int (rowsOn l)) (0 : Int)) (4096 : Int)) (3 : Int) + (2 : Int))) (0 : Int))))))))))
 (VC.need (PreOk c_mkk (l, (1 : Int)) [A.c (D.int IntKind.i64 (1 : Int)), A.c (D.rptr [D.sl (rowsOn l)])])
 (VC.need ((0 : Int) ≤ (12 : Int))
 (VC.br (decide ((0 : Int) < bits BinOp.and IntKind.i64 (Int.fdiv (kS (listOf Int (rowsOn l)) (1 : Int)) (4096 : Int)) (3 : Int)))
  (VC.br (decide (IntKind.wrap IntKind.i64 (sec + w) ≤ (3 : Int)))
   (VC.need ((List.all [[D.str { data := #[(115 : UInt8)] }, D.bool true, D.int IntKind.i64 (1 : Int)]] fun r ↦ List.length r == (3 : Nat)) = true ∧ (List.all ([] : List (List D)) fun r ↦ List.length r == (3 : Nat)) = true ∧ (3333 : Nat) ≤ (70368744177664 : Nat))
   (VC.need (PreOk c_mkk (l, (0 : Int)) [A.c (D.int IntKind.i64 (0 : Int)), A.c (D.rptr [D.sl (rowsOn l)])])
   (VC.need ((0 : Int) ≤ (12 : Int))
   (FnA.at_ a_make 1 (F_mk1 l w win r0 r1 r2 r3 [[D.str { data := #[(115 : UInt8)] }, D.bool true, D.int IntKind.i64 (1 : Int)]] [] [] (1 : Nat) (0 : Nat) (0 : Nat) (IntKind.wrap IntKind.i64 (bits BinOp.and IntKind.i64 (Int.fdiv (kS (listOf Int (rowsOn l)) (0 : Int)) (4096 : Int)) (3 : Int) + (2 : Int))) (0 : Int))))))
   (VC.need (PreOk c_mkk (l, (0 : Int)) [A.c (D.int IntKind.i64 (0 : Int)), A.c (D.rptr [D.sl (rowsOn l)])])
   (VC.need ((0 : Int) ≤ (12 : Int))
   (FnA.at_ a_make 1 (F_mk1 l w win r0 r1 r2 r3 [] [] [] (0 : Nat) (0 : Nat) (0 : Nat) (IntKind.wrap IntKind.i64 (bits BinOp.and IntKind.i64 (Int.fdiv (kS (listOf Int (rowsOn l)) (0 : Int)) (4096 : Int)) (3 : Int) + (2 : Int))) (0 : Int))))))
  (VC.need (PreOk c_mkk (l, (0 : Int)) [A.c (D.int IntKind.i64 (0 : Int)), A.c (D.rptr [D.sl (rowsOn l)])])
  (VC.need ((0 : Int) ≤ (12 : Int))
  (FnA.at_ a_make 1 (F_mk1 l w win r0 r1 r2 r3 [] [] [] (0 : Nat) (0 : Nat) (0 : Nat) (IntKind.wrap IntKind.i64 (bits BinOp.and IntKind.i64 (Int.fdiv (kS (listOf Int (rowsOn l)) (0 : Int)) (4096 : Int)) (3 : Int) + (2 : Int))) (0 : Int))))))))))) := by kernel_rfl
set_option maxRecDepth 100000 in
theorem t_mk1 (l : List Int) (w win r0 r1 r2 r3 : Int) (M L I : List (List D)) (nm nl ni : Nat) (n i : Int) : a_make.round s_make 400 1 (F_mk1 l w win r0 r1 r2 r3 M L I nm nl ni n i) =
(VC.br (decide (i ≤ n))
 (VC.need (PreOk c_dig1 i [A.c (D.int IntKind.i64 i)])
 (VC.need ((1 : Nat) + ByteArray.size (digS i) ≤ (9223372036854775807 : Nat))
 (VC.need ((List.all [[D.str ({ data := #[(108 : UInt8)] } ++ digS i), D.int IntKind.i64 i]] fun r ↦ List.length r == (2 : Nat)) = true ∧ (List.all L fun r ↦ List.length r == (2 : Nat)) = true ∧ (List.length L + List.length [[D.str ({ data := #[(108 : UInt8)] } ++ digS i), D.int IntKind.i64 i]] + (100 : Nat)) * (25 : Nat) ≤ (70368744177664 : Nat))
 (FnA.at_ a_make 1 (F_mk1 l w win r0 r1 r2 r3 M (L ++ [[D.str ({ data := #[(108 : UInt8)] } ++ digS i), D.int IntKind.i64 i]]) I nm (List.length L + List.length [[D.str ({ data := #[(108 : UInt8)] } ++ digS i), D.int IntKind.i64 i]]) ni n (IntKind.wrap IntKind.i64 (i + (1 : Int))))))))
 (FnA.at_ a_make 2 (F_mk2 l w win r0 r1 r2 r3 M L I nm nl ni n (0 : Int)))) := by kernel_rfl
set_option maxRecDepth 100000 in
theorem t_mk2 (l : List Int) (w win r0 r1 r2 r3 : Int) (M L I : List (List D)) (nm nl ni : Nat) (n i : Int) : a_make.round s_make 400 2 (F_mk2 l w win r0 r1 r2 r3 M L I nm nl ni n i) =
(VC.br (decide (i < n))
 (VC.need (PreOk c_mkk (l, IntKind.wrap IntKind.i64 (i + (2 : Int))) [A.c (D.int IntKind.i64 (IntKind.wrap IntKind.i64 (i + (2 : Int)))), A.c (D.rptr [D.sl (rowsOn l)])])
 (VC.need (PreOk c_lins (kS l (IntKind.wrap IntKind.i64 (i + (2 : Int))), n) [A.c (D.int IntKind.i64 (kS (listOf Int (rowsOn l)) (IntKind.wrap IntKind.i64 (i + (2 : Int))))), A.c (D.int IntKind.i64 n)])
 (VC.need ((List.all [[D.int IntKind.i64 (insM (kS (listOf Int (rowsOn l)) (IntKind.wrap IntKind.i64 (i + (2 : Int)))) n).kind, D.int IntKind.i64 (insM (kS (listOf Int (rowsOn l)) (IntKind.wrap IntKind.i64 (i + (2 : Int)))) n).op, D.int IntKind.i64 (insM (kS (listOf Int (rowsOn l)) (IntKind.wrap IntKind.i64 (i + (2 : Int)))) n).d, D.bool (insM (kS (listOf Int (rowsOn l)) (IntKind.wrap IntKind.i64 (i + (2 : Int)))) n).aR, D.int IntKind.i64 (insM (kS (listOf Int (rowsOn l)) (IntKind.wrap IntKind.i64 (i + (2 : Int)))) n).aN, D.bool (insM (kS (listOf Int (rowsOn l)) (IntKind.wrap IntKind.i64 (i + (2 : Int)))) n).bR, D.int IntKind.i64 (insM (kS (listOf Int (rowsOn l)) (IntKind.wrap IntKind.i64 (i + (2 : Int)))) n).bN, D.str (insM (kS (listOf Int (rowsOn l)) (IntKind.wrap IntKind.i64 (i + (2 : Int)))) n).name, D.int IntKind.i64 (insM (kS (listOf Int (rowsOn l)) (IntKind.wrap IntKind.i64 (i + (2 : Int)))) n).target]] fun r ↦ List.length r == (9 : Nat)) = true ∧ (List.all I fun r ↦ List.length r == (9 : Nat)) = true ∧ (List.length I + List.length [[D.int IntKind.i64 (insM (kS (listOf Int (rowsOn l)) (IntKind.wrap IntKind.i64 (i + (2 : Int)))) n).kind, D.int IntKind.i64 (insM (kS (listOf Int (rowsOn l)) (IntKind.wrap IntKind.i64 (i + (2 : Int)))) n).op, D.int IntKind.i64 (insM (kS (listOf Int (rowsOn l)) (IntKind.wrap IntKind.i64 (i + (2 : Int)))) n).d, D.bool (insM (kS (listOf Int (rowsOn l)) (IntKind.wrap IntKind.i64 (i + (2 : Int)))) n).aR, D.int IntKind.i64 (insM (kS (listOf Int (rowsOn l)) (IntKind.wrap IntKind.i64 (i + (2 : Int)))) n).aN, D.bool (insM (kS (listOf Int (rowsOn l)) (IntKind.wrap IntKind.i64 (i + (2 : Int)))) n).bR, D.int IntKind.i64 (insM (kS (listOf Int (rowsOn l)) (IntKind.wrap IntKind.i64 (i + (2 : Int)))) n).bN, D.str (insM (kS (listOf Int (rowsOn l)) (IntKind.wrap IntKind.i64 (i + (2 : Int)))) n).name, D.int IntKind.i64 (insM (kS (listOf Int (rowsOn l)) (IntKind.wrap IntKind.i64 (i + (2 : Int)))) n).target]] + (100 : Nat)) * (81 : Nat) ≤ (70368744177664 : Nat))
 (FnA.at_ a_make 2 (F_mk2 l w win r0 r1 r2 r3 M L (I ++ [[D.int IntKind.i64 (insM (kS (listOf Int (rowsOn l)) (IntKind.wrap IntKind.i64 (i + (2 : Int)))) n).kind, D.int IntKind.i64 (insM (kS (listOf Int (rowsOn l)) (IntKind.wrap IntKind.i64 (i + (2 : Int)))) n).op, D.int IntKind.i64 (insM (kS (listOf Int (rowsOn l)) (IntKind.wrap IntKind.i64 (i + (2 : Int)))) n).d, D.bool (insM (kS (listOf Int (rowsOn l)) (IntKind.wrap IntKind.i64 (i + (2 : Int)))) n).aR, D.int IntKind.i64 (insM (kS (listOf Int (rowsOn l)) (IntKind.wrap IntKind.i64 (i + (2 : Int)))) n).aN, D.bool (insM (kS (listOf Int (rowsOn l)) (IntKind.wrap IntKind.i64 (i + (2 : Int)))) n).bR, D.int IntKind.i64 (insM (kS (listOf Int (rowsOn l)) (IntKind.wrap IntKind.i64 (i + (2 : Int)))) n).bN, D.str (insM (kS (listOf Int (rowsOn l)) (IntKind.wrap IntKind.i64 (i + (2 : Int)))) n).name, D.int IntKind.i64 (insM (kS (listOf Int (rowsOn l)) (IntKind.wrap IntKind.i64 (i + (2 : Int)))) n).target]]) nm nl (List.length I + List.length [[D.int IntKind.i64 (insM (kS (listOf Int (rowsOn l)) (IntKind.wrap IntKind.i64 (i + (2 : Int)))) n).kind, D.int IntKind.i64 (insM (kS (listOf Int (rowsOn l)) (IntKind.wrap IntKind.i64 (i + (2 : Int)))) n).op, D.int IntKind.i64 (insM (kS (listOf Int (rowsOn l)) (IntKind.wrap IntKind.i64 (i + (2 : Int)))) n).d, D.bool (insM (kS (listOf Int (rowsOn l)) (IntKind.wrap IntKind.i64 (i + (2 : Int)))) n).aR, D.int IntKind.i64 (insM (kS (listOf Int (rowsOn l)) (IntKind.wrap IntKind.i64 (i + (2 : Int)))) n).aN, D.bool (insM (kS (listOf Int (rowsOn l)) (IntKind.wrap IntKind.i64 (i + (2 : Int)))) n).bR, D.int IntKind.i64 (insM (kS (listOf Int (rowsOn l)) (IntKind.wrap IntKind.i64 (i + (2 : Int)))) n).bN, D.str (insM (kS (listOf Int (rowsOn l)) (IntKind.wrap IntKind.i64 (i + (2 : Int)))) n).name, D.int IntKind.i64 (insM (kS (listOf Int (rowsOn l)) (IntKind.wrap IntKind.i64 (i + (2 : Int)))) n).target]]) n (IntKind.wrap IntKind.i64 (i + (1 : Int))))))))
 (VC.ret (some (RR.agg [Rc.d (D.int IntKind.i64 w), Rc.d (D.int IntKind.i64 win), Rc.d (D.int IntKind.i64 (6 : Int)), Rc.d (D.int IntKind.i64 r0), Rc.d (D.int IntKind.i64 r1), Rc.d (D.int IntKind.i64 r2), Rc.d (D.int IntKind.i64 r3), Rc.new (3 : Nat) M, Rc.new (2 : Nat) L, Rc.new (9 : Nat) I])))) := by kernel_rfl
def Prg.fresh (p : Prg) : List Rc := [.d (.int .i64 p.w), .d (.int .i64 p.window), .d (.int .i64 p.fuel), .d (.int .i64 p.r0), .d (.int .i64 p.r1), .d (.int .i64 p.r2), .d (.int .i64 p.r3), .new 3 (rowsOn p.mems), .new 2 (rowsOn p.labels), .new 9 (rowsOn p.ins)]
def bitsR (v w r : Int) : Int := if r = v then w else 0
structure HRegs (w r0 r1 r2 r3 : Int) : Prop where
  hw : 1 ≤ w ∧ w ≤ 2
  h0 : 0 ≤ r0 ∧ r0 ≤ 2
  h1 : 0 ≤ r1 ∧ r1 ≤ 2
  h2 : 0 ≤ r2 ∧ r2 ≤ 2
  h3 : 0 ≤ r3 ∧ r3 ≤ 2
  pub : bitsR 1 w r0 + bitsR 1 w r1 + bitsR 1 w r2 + bitsR 1 w r3 ≤ 2
  sec : bitsR 2 w r0 + bitsR 2 w r1 + bitsR 2 w r2 + bitsR 2 w r3 ≤ 2
structure HMems (w r0 r1 r2 r3 : Int) (ms : List PMem) : Prop where
  len : ms.length ≤ 2
  n : ∀ m ∈ ms, 1 ≤ m.n ∧ m.n ≤ 2
  cells : cellsS ms ≤ 2
/-- A program that Make makes. -/
structure WFM (p : Prg) : Prop where
  regs : HRegs p.w p.r0 p.r1 p.r2 p.r3
  win : 1 ≤ p.window ∧ p.window ≤ 3
  fuel : p.fuel = 6
  mems : HMems p.w p.r0 p.r1 p.r2 p.r3 p.mems
  labels : p.labels.length ≤ 10
  len : 2 ≤ p.ins.length ∧ p.ins.length ≤ 5
  ins : ∀ i ∈ p.ins, WFI p.ins.length i
def MkQ (r : RR) : Prop := ∃ p, WFM p ∧ r = .agg p.fresh
theorem digS_size (n : Int) : (digS n).size = 1 := by
  unfold digS
  repeat' split
  all_goals rfl
theorem l_mk2 (l : List Int) (w win r0 r1 r2 r3 n : Int) (M L : List (List D)) (nm nl : Nat) (ms : List PMem) (ls : List PLabel) (hr : HRegs w r0 r1 r2 r3) (hwin : 1 ≤ win ∧ win ≤ 3) (hM : OnL M nm ms) (hL : OnL L nl ls) (hms : HMems w r0 r1 r2 r3 ms) (hls : ls.length ≤ 10) (hn : 2 ≤ n ∧ n ≤ 5) : ∀ i : Int × List (List D) × Nat, (fun (i : Int × List (List D) × Nat) => 0 ≤ i.1 ∧ i.1 ≤ n ∧ ∃ is : List Ins, OnL i.2.1 i.2.2 is ∧ is.length = i.1 ∧ ∀ x ∈ is, WFI n x) i → (a_make.at_ 2 ((fun (i : Int × List (List D) × Nat) => F_mk2 l w win r0 r1 r2 r3 M L i.2.1 nm nl i.2.2 n i.1) i)).holds s_make.cx a_make.rs (MkQ) := by
  refine loop_rule (a := a_make) (j := 2) (m := 400) s_make_sound (fun (i : Int × List (List D) × Nat) => F_mk2 l w win r0 r1 r2 r3 M L i.2.1 nm nl i.2.2 n i.1) (fun (i : Int × List (List D) × Nat) => 0 ≤ i.1 ∧ i.1 ≤ n ∧ ∃ is : List Ins, OnL i.2.1 i.2.2 is ∧ is.length = i.1 ∧ ∀ x ∈ is, WFI n x) (fun (i : Int × List (List D) × Nat) => (n - i.1).toNat) ?_
  rintro ⟨i, I, ni⟩ h_inv ih
  try dsimp only at h_inv
  replace ih := fun (v0 : Int) (v1 : List (List D)) (v2 : Nat) => ih (v0, v1, v2)
  try dsimp only at ih
  show VC.holds _ _ _ (a_make.round s_make 400 2 (F_mk2 l w win r0 r1 r2 r3 M L I nm nl ni n i))
  rw [t_mk2]
  try simp only [asRows_sl, asInt_int, asBool_bool, asStr_str, listOf_rowsOn, List.drop_zero, Prg.eta, Sta.eta, rowsOn_length, getD_drop, Nat.reduceAdd, rd_int, rd_PMem_name, rd_PMem_secret, rd_PMem_n, rd_PLabel_name, rd_PLabel_at_, rd_Ins_kind, rd_Ins_op, rd_Ins_d, rd_Ins_aR, rd_Ins_aN, rd_Ins_bR, rd_Ins_bN, rd_Ins_name, rd_Ins_target, rd_Ent_pc, rd_Ent_val, rd_Ent_addr, rd_Ent_fro, rd_Ent_next, rd_Ent_done, rd_Ent_known, rd_Ent_fault, rd_Place_reg, rd_Place_n, rd_Place_secret, rd_Obs_kind, rd_Obs_at_, rd_Dir_kind, rd_Dir_n]
  obtain ⟨h0, h1, is, h2, h3, h4⟩ := h_inv
  rw [wrap_small (i + 2) (by omega) (by omega), wrap_small (i + 1) (by omega) (by omega)]
  repeat' first
    | refine br_not ?_
    | refine br_dec (fun _ => ?_) (fun _ => ?_)
    | refine br_beq (fun _ => ?_) (fun _ => ?_)
    | refine br_bne (fun _ => ?_) (fun _ => ?_)
    | refine br_holds (fun _ => ?_) (fun _ => ?_)
    | refine ⟨PreOk.mk ?_ rfl, ?_⟩
    | refine ⟨idx_ok _ _ _ rfl (by omega) (by omega), ?_⟩
    | refine ⟨okSh_ok _ _ _ (fun _ => rfl) (by omega) (by omega), ?_⟩
    | refine ⟨okSh_okD _ _ _ _ (fun _ => rfl) (by omega) (by omega), ?_⟩
    | refine ⟨aload_ok _ _ rfl (fun _ => rfl) (by omega) (by omega), ?_⟩
    | refine ⟨aload_okD _ _ _ rfl (fun _ => rfl) (by omega) (by omega), ?_⟩
    | refine ⟨astore_ok (by assumption) rfl (by omega) (by omega) (by decide), ?_⟩
    | refine ⟨app_ok (by assumption) rfl rfl (by simp only [List.length_cons, List.length_nil]; omega), ?_⟩
    | refine need_holds ?_ fun _ => ?_
    | refine all_holds fun y hy => ?_
    | refine ret_eq ?_
    | refine ih _ _ _ ?_ ?_
  all_goals try (show 0 ≤ i + 2; omega)
  all_goals try (show 1 ≤ n ∧ n ≤ 1000; omega)
  · have hx := (insM_spec (kS l (i + 2)) n (by omega)).1
    refine ⟨by omega, by omega, is ++ [insM (kS l (i + 2)) n], OnL.snoc h2 (insM (kS l (i + 2)) n), by simp; omega, ?_⟩
    intro x hx'
    rcases List.mem_append.1 hx' with h | h
    · exact h4 x h
    · simp only [List.mem_singleton] at h; subst h; exact hx
  · omega
  · obtain ⟨rfl, rfl⟩ := h2
    obtain ⟨rfl, rfl⟩ := hM
    obtain ⟨rfl, rfl⟩ := hL
    have hi : (is.length : Int) = n := by omega
    exact ⟨⟨w, win, 6, r0, r1, r2, r3, ms, ls, is⟩, ⟨hr, hwin, rfl, hms, hls, by dsimp only; omega, fun x hx => by dsimp only; rw [hi]; exact h4 x hx⟩, rfl⟩
theorem l_mk1 (l : List Int) (w win r0 r1 r2 r3 n : Int) (M : List (List D)) (nm : Nat) (ms : List PMem) (hr : HRegs w r0 r1 r2 r3) (hwin : 1 ≤ win ∧ win ≤ 3) (hM : OnL M nm ms) (hms : HMems w r0 r1 r2 r3 ms) (hn : 2 ≤ n ∧ n ≤ 5) : ∀ i : Int × List (List D) × Nat, (fun (i : Int × List (List D) × Nat) => 0 ≤ i.1 ∧ i.1 ≤ n + 1 ∧ ∃ ls : List PLabel, OnL i.2.1 i.2.2 ls ∧ ls.length = i.1) i → (a_make.at_ 1 ((fun (i : Int × List (List D) × Nat) => F_mk1 l w win r0 r1 r2 r3 M i.2.1 [] nm i.2.2 0 n i.1) i)).holds s_make.cx a_make.rs (MkQ) := by
  refine loop_rule (a := a_make) (j := 1) (m := 400) s_make_sound (fun (i : Int × List (List D) × Nat) => F_mk1 l w win r0 r1 r2 r3 M i.2.1 [] nm i.2.2 0 n i.1) (fun (i : Int × List (List D) × Nat) => 0 ≤ i.1 ∧ i.1 ≤ n + 1 ∧ ∃ ls : List PLabel, OnL i.2.1 i.2.2 ls ∧ ls.length = i.1) (fun (i : Int × List (List D) × Nat) => (n + 1 - i.1).toNat) ?_
  rintro ⟨i, L, nl⟩ h_inv ih
  try dsimp only at h_inv
  replace ih := fun (v0 : Int) (v1 : List (List D)) (v2 : Nat) => ih (v0, v1, v2)
  try dsimp only at ih
  show VC.holds _ _ _ (a_make.round s_make 400 1 (F_mk1 l w win r0 r1 r2 r3 M L [] nm nl 0 n i))
  rw [t_mk1]
  try simp only [asRows_sl, asInt_int, asBool_bool, asStr_str, listOf_rowsOn, List.drop_zero, Prg.eta, Sta.eta, rowsOn_length, getD_drop, Nat.reduceAdd, rd_int, rd_PMem_name, rd_PMem_secret, rd_PMem_n, rd_PLabel_name, rd_PLabel_at_, rd_Ins_kind, rd_Ins_op, rd_Ins_d, rd_Ins_aR, rd_Ins_aN, rd_Ins_bR, rd_Ins_bN, rd_Ins_name, rd_Ins_target, rd_Ent_pc, rd_Ent_val, rd_Ent_addr, rd_Ent_fro, rd_Ent_next, rd_Ent_done, rd_Ent_known, rd_Ent_fault, rd_Place_reg, rd_Place_n, rd_Place_secret, rd_Obs_kind, rd_Obs_at_, rd_Dir_kind, rd_Dir_n]
  obtain ⟨h0, h1, ls, h2, h3⟩ := h_inv
  rw [wrap_small (i + 1) (by omega) (by omega)]
  repeat' first
    | refine br_not ?_
    | refine br_dec (fun _ => ?_) (fun _ => ?_)
    | refine br_beq (fun _ => ?_) (fun _ => ?_)
    | refine br_bne (fun _ => ?_) (fun _ => ?_)
    | refine br_holds (fun _ => ?_) (fun _ => ?_)
    | refine ⟨PreOk.mk ?_ rfl, ?_⟩
    | refine ⟨idx_ok _ _ _ rfl (by omega) (by omega), ?_⟩
    | refine ⟨okSh_ok _ _ _ (fun _ => rfl) (by omega) (by omega), ?_⟩
    | refine ⟨okSh_okD _ _ _ _ (fun _ => rfl) (by omega) (by omega), ?_⟩
    | refine ⟨aload_ok _ _ rfl (fun _ => rfl) (by omega) (by omega), ?_⟩
    | refine ⟨aload_okD _ _ _ rfl (fun _ => rfl) (by omega) (by omega), ?_⟩
    | refine ⟨astore_ok (by assumption) rfl (by omega) (by omega) (by decide), ?_⟩
    | refine ⟨app_ok (by assumption) rfl rfl (by simp only [List.length_cons, List.length_nil]; omega), ?_⟩
    | refine need_holds ?_ fun _ => ?_
    | refine all_holds fun y hy => ?_
    | refine ret_eq ?_
    | refine ih _ _ _ ?_ ?_
  all_goals try (show 0 ≤ i ∧ i ≤ 9; omega)
  · rw [digS_size]; decide
  · exact ⟨by omega, by omega, ls ++ [_], OnL.snoc h2 (⟨_, _⟩ : PLabel), by simp; omega⟩
  · omega
  · exact l_mk2 l w win r0 r1 r2 r3 n M L nm nl ms ls hr hwin hM h2 hms (by omega) hn (0, [], 0) ⟨by simp, by simp; omega, [], OnL.nil, by simp, by simp⟩
theorem hm_nil (w r0 r1 r2 r3 : Int) : HMems w r0 r1 r2 r3 [] := ⟨by simp, by simp, by simp [cellsS]⟩
theorem hm_one (w r0 r1 r2 r3 : Int) (nm : ByteArray) (b : Bool) (n : Int) (hn : 1 ≤ n ∧ n ≤ 2) : HMems w r0 r1 r2 r3 [⟨nm, b, n⟩] := ⟨by simp, by simpa using hn, by simp [cellsS]; omega⟩
theorem hm_two (w r0 r1 r2 r3 : Int) (nm nm' : ByteArray) (b b' : Bool) : HMems w r0 r1 r2 r3 [⟨nm, b, 1⟩, ⟨nm', b', 1⟩] := ⟨by simp, by simp, by simp [cellsS]⟩
theorem l_mk04 (l : List Int) (w win r0 r1 r2 r3 pub sec : Int) (hr : HRegs w r0 r1 r2 r3) (hwin : 1 ≤ win ∧ win ≤ 3) (hsec : 0 ≤ sec ∧ sec ≤ 2) : (a_make.at_ 0 (F_mk0 l w win r0 r1 r2 r3 pub sec 4)).holds s_make.cx a_make.rs MkQ := by
  have hw := hr.hw
  refine at_of_round s_make_sound (m := 400) ?_
  rw [t_mk04]
  simp only [asRows_sl, asInt_int, asBool_bool, asStr_str, listOf_rowsOn, List.drop_zero, Prg.eta, Sta.eta, rowsOn_length, getD_drop, Nat.reduceAdd, rd_int, rd_PMem_name, rd_PMem_secret, rd_PMem_n, rd_PLabel_name, rd_PLabel_at_, rd_Ins_kind, rd_Ins_op, rd_Ins_d, rd_Ins_aR, rd_Ins_aN, rd_Ins_bR, rd_Ins_bN, rd_Ins_name, rd_Ins_target, rd_Ent_pc, rd_Ent_val, rd_Ent_addr, rd_Ent_fro, rd_Ent_next, rd_Ent_done, rd_Ent_known, rd_Ent_fault, rd_Place_reg, rd_Place_n, rd_Place_secret, rd_Obs_kind, rd_Obs_at_, rd_Dir_kind, rd_Dir_n]
  simp only [and3]
  rw [wrap_small (Int.fdiv (kS l 0) 4096 % 4 + 2) (by omega) (by omega), wrap_small (sec + w) (by omega) (by omega)]
  repeat' first
    | refine br_not ?_
    | refine br_dec (fun _ => ?_) (fun _ => ?_)
    | refine br_beq (fun _ => ?_) (fun _ => ?_)
    | refine br_bne (fun _ => ?_) (fun _ => ?_)
    | refine br_holds (fun _ => ?_) (fun _ => ?_)
    | refine ⟨PreOk.mk ?_ rfl, ?_⟩
    | refine ⟨idx_ok _ _ _ rfl (by omega) (by omega), ?_⟩
    | refine ⟨okSh_ok _ _ _ (fun _ => rfl) (by omega) (by omega), ?_⟩
    | refine ⟨okSh_okD _ _ _ _ (fun _ => rfl) (by omega) (by omega), ?_⟩
    | refine ⟨aload_ok _ _ rfl (fun _ => rfl) (by omega) (by omega), ?_⟩
    | refine ⟨aload_okD _ _ _ rfl (fun _ => rfl) (by omega) (by omega), ?_⟩
    | refine ⟨astore_ok (by assumption) rfl (by omega) (by omega) (by decide), ?_⟩
    | refine ⟨app_ok (by assumption) rfl rfl (by simp only [List.length_cons, List.length_nil]; omega), ?_⟩
    | refine need_holds ?_ fun _ => ?_
    | refine all_holds fun y hy => ?_
    | refine ret_eq ?_
  all_goals try (dsimp only [c_mkk]; omega)
  all_goals try exact ⟨by decide, trivial, rfl⟩
  all_goals first
    | exact l_mk1 l w win r0 r1 r2 r3 _ _ _ [] hr hwin ⟨rfl, rfl⟩ (hm_nil ..) (by omega) (0, [], 0) ⟨by simp, by simp; omega, [], OnL.nil, rfl⟩
    | exact l_mk1 l w win r0 r1 r2 r3 _ _ _ [⟨_, _, _⟩] hr hwin ⟨rfl, rfl⟩ (hm_one _ _ _ _ _ _ _ _ (by decide)) (by omega) (0, [], 0) ⟨by simp, by simp; omega, [], OnL.nil, rfl⟩
    | exact l_mk1 l w win r0 r1 r2 r3 _ _ _ [⟨_, _, _⟩, ⟨_, _, _⟩] hr hwin ⟨rfl, rfl⟩ (hm_two ..) (by omega) (0, [], 0) ⟨by simp, by simp; omega, [], OnL.nil, rfl⟩
    | skip
  all_goals try omega
  all_goals try exact ⟨rfl, rfl, by decide⟩
  all_goals try exact ⟨by decide, trivial, by decide⟩
theorem br11 (w : Int) : bitsR 1 w 1 = w := if_pos rfl
theorem br12 (w : Int) : bitsR 1 w 2 = 0 := if_neg (by decide)
theorem br21 (w : Int) : bitsR 2 w 1 = 0 := if_neg (by decide)
theorem br22 (w : Int) : bitsR 2 w 2 = w := if_pos rfl
theorem br10 (w : Int) : bitsR 1 w 0 = 0 := if_neg (by decide)
theorem br20 (w : Int) : bitsR 2 w 0 = 0 := if_neg (by decide)
theorem tabR : ∀ i : Nat, i < 4 → (asInt (List.getD (rowAt [[D.int IntKind.i64 (0 : Int)], [D.int IntKind.i64 (0 : Int)], [D.int IntKind.i64 (1 : Int)], [D.int IntKind.i64 (2 : Int)]] i) 0 D.nilp) = 0 ∨ asInt (List.getD (rowAt [[D.int IntKind.i64 (0 : Int)], [D.int IntKind.i64 (0 : Int)], [D.int IntKind.i64 (1 : Int)], [D.int IntKind.i64 (2 : Int)]] i) 0 D.nilp) = 1 ∨ asInt (List.getD (rowAt [[D.int IntKind.i64 (0 : Int)], [D.int IntKind.i64 (0 : Int)], [D.int IntKind.i64 (1 : Int)], [D.int IntKind.i64 (2 : Int)]] i) 0 D.nilp) = 2) ∧ (rowAt [[D.int IntKind.i64 (0 : Int)], [D.int IntKind.i64 (0 : Int)], [D.int IntKind.i64 (1 : Int)], [D.int IntKind.i64 (2 : Int)]] i).length = 1 ∧ okSh [Kd.int IntKind.i64] (rowAt [[D.int IntKind.i64 (0 : Int)], [D.int IntKind.i64 (0 : Int)], [D.int IntKind.i64 (1 : Int)], [D.int IntKind.i64 (2 : Int)]] i) := by
  intro i hi
  have : i = 0 ∨ i = 1 ∨ i = 2 ∨ i = 3 := by omega
  rcases this with h | h | h | h <;> (subst h; exact ⟨by decide, rfl, rfl⟩)
theorem l_mk03 (l : List Int) (w win r0 r1 r2 pub sec : Int) (hr : HRegs w r0 r1 r2 0) (hwin : 1 ≤ win ∧ win ≤ 3) (hp : pub = bitsR 1 w r0 + bitsR 1 w r1 + bitsR 1 w r2) (hs : sec = bitsR 2 w r0 + bitsR 2 w r1 + bitsR 2 w r2) (hp2 : 0 ≤ pub ∧ pub ≤ 2) (hs2 : 0 ≤ sec ∧ sec ≤ 2) : (a_make.at_ 0 (F_mk0 l w win r0 r1 r2 0 pub sec 3)).holds s_make.cx a_make.rs MkQ := by
  have hw := hr.hw
  refine at_of_round s_make_sound (m := 400) ?_
  rw [t_mk03]
  simp only [asRows_sl, asInt_int, asBool_bool, asStr_str, listOf_rowsOn, List.drop_zero, Prg.eta, Sta.eta, rowsOn_length, getD_drop, Nat.reduceAdd, rd_int, rd_PMem_name, rd_PMem_secret, rd_PMem_n, rd_PLabel_name, rd_PLabel_at_, rd_Ins_kind, rd_Ins_op, rd_Ins_d, rd_Ins_aR, rd_Ins_aN, rd_Ins_bR, rd_Ins_bN, rd_Ins_name, rd_Ins_target, rd_Ent_pc, rd_Ent_val, rd_Ent_addr, rd_Ent_fro, rd_Ent_next, rd_Ent_done, rd_Ent_known, rd_Ent_fault, rd_Place_reg, rd_Place_n, rd_Place_secret, rd_Obs_kind, rd_Obs_at_, rd_Dir_kind, rd_Dir_n]
  simp only [and3]
  rw [wrap_small (pub + w) (by omega) (by omega), wrap_small (sec + w) (by omega) (by omega)]
  have h1 := tabR (Int.fdiv (kS l 1) 64 % 4).toNat (by omega)
  refine ⟨PreOk.mk (by dsimp only [c_mkk]; omega) rfl, by decide, ⟨by omega, by omega⟩, ⟨by omega, h1.2.1, h1.2.2⟩, ?_⟩
  obtain ⟨h2, _⟩ := h1
  revert h2
  generalize asInt (List.getD (rowAt _ (Int.fdiv (kS l 1) 64 % 4).toNat) 0 D.nilp) = kd
  intro h2
  have e1 := br11 w
  have e2 := br12 w
  have e3 := br21 w
  have e4 := br22 w
  have e5 := br10 w
  have e6 := br20 w
  obtain ⟨hw', g0, g1, g2, g3, gp, gs⟩ := hr
  rcases h2 with rfl | rfl | rfl
  all_goals
    repeat' first
      | refine br_not ?_
      | refine br_dec (fun _ => ?_) (fun _ => ?_)
      | refine br_beq (fun _ => ?_) (fun _ => ?_)
      | refine br_bne (fun _ => ?_) (fun _ => ?_)
      | refine br_holds (fun _ => ?_) (fun _ => ?_)
      | refine ⟨PreOk.mk ?_ rfl, ?_⟩
      | refine ⟨idx_ok _ _ _ rfl (by omega) (by omega), ?_⟩
      | refine ⟨okSh_ok _ _ _ (fun _ => rfl) (by omega) (by omega), ?_⟩
      | refine ⟨okSh_okD _ _ _ _ (fun _ => rfl) (by omega) (by omega), ?_⟩
      | refine ⟨aload_ok _ _ rfl (fun _ => rfl) (by omega) (by omega), ?_⟩
      | refine ⟨aload_okD _ _ _ rfl (fun _ => rfl) (by omega) (by omega), ?_⟩
      | refine ⟨astore_ok (by assumption) rfl (by omega) (by omega) (by decide), ?_⟩
      | refine ⟨app_ok (by assumption) rfl rfl (by simp only [List.length_cons, List.length_nil]; omega), ?_⟩
      | refine need_holds ?_ fun _ => ?_
      | refine all_holds fun y hy => ?_
      | refine ret_eq ?_
  all_goals try omega
  all_goals exact l_mk04 l w win r0 r1 r2 _ _ _ ⟨by omega, by omega, by omega, by omega, by omega, by omega, by omega⟩ hwin (by omega)
theorem l_mk02 (l : List Int) (w win r0 r1 pub sec : Int) (hr : HRegs w r0 r1 0 0) (hwin : 1 ≤ win ∧ win ≤ 3) (hp : pub = bitsR 1 w r0 + bitsR 1 w r1) (hs : sec = bitsR 2 w r0 + bitsR 2 w r1) (hp2 : 0 ≤ pub ∧ pub ≤ 2) (hs2 : 0 ≤ sec ∧ sec ≤ 2) : (a_make.at_ 0 (F_mk0 l w win r0 r1 0 0 pub sec 2)).holds s_make.cx a_make.rs MkQ := by
  have hw := hr.hw
  refine at_of_round s_make_sound (m := 400) ?_
  rw [t_mk02]
  simp only [asRows_sl, asInt_int, asBool_bool, asStr_str, listOf_rowsOn, List.drop_zero, Prg.eta, Sta.eta, rowsOn_length, getD_drop, Nat.reduceAdd, rd_int, rd_PMem_name, rd_PMem_secret, rd_PMem_n, rd_PLabel_name, rd_PLabel_at_, rd_Ins_kind, rd_Ins_op, rd_Ins_d, rd_Ins_aR, rd_Ins_aN, rd_Ins_bR, rd_Ins_bN, rd_Ins_name, rd_Ins_target, rd_Ent_pc, rd_Ent_val, rd_Ent_addr, rd_Ent_fro, rd_Ent_next, rd_Ent_done, rd_Ent_known, rd_Ent_fault, rd_Place_reg, rd_Place_n, rd_Place_secret, rd_Obs_kind, rd_Obs_at_, rd_Dir_kind, rd_Dir_n]
  simp only [and3]
  rw [wrap_small (pub + w) (by omega) (by omega), wrap_small (sec + w) (by omega) (by omega)]
  have h1 := tabR (Int.fdiv (kS l 1) 16 % 4).toNat (by omega)
  refine ⟨PreOk.mk (by dsimp only [c_mkk]; omega) rfl, by decide, ⟨by omega, by omega⟩, ⟨by omega, h1.2.1, h1.2.2⟩, ?_⟩
  obtain ⟨h2, _⟩ := h1
  revert h2
  generalize asInt (List.getD (rowAt _ (Int.fdiv (kS l 1) 16 % 4).toNat) 0 D.nilp) = kd
  intro h2
  have e1 := br11 w
  have e2 := br12 w
  have e3 := br21 w
  have e4 := br22 w
  have e5 := br10 w
  have e6 := br20 w
  obtain ⟨hw', g0, g1, g2, g3, gp, gs⟩ := hr
  rcases h2 with rfl | rfl | rfl
  all_goals
    repeat' first
      | refine br_not ?_
      | refine br_dec (fun _ => ?_) (fun _ => ?_)
      | refine br_beq (fun _ => ?_) (fun _ => ?_)
      | refine br_bne (fun _ => ?_) (fun _ => ?_)
      | refine br_holds (fun _ => ?_) (fun _ => ?_)
      | refine ⟨PreOk.mk ?_ rfl, ?_⟩
      | refine ⟨idx_ok _ _ _ rfl (by omega) (by omega), ?_⟩
      | refine ⟨okSh_ok _ _ _ (fun _ => rfl) (by omega) (by omega), ?_⟩
      | refine ⟨okSh_okD _ _ _ _ (fun _ => rfl) (by omega) (by omega), ?_⟩
      | refine ⟨aload_ok _ _ rfl (fun _ => rfl) (by omega) (by omega), ?_⟩
      | refine ⟨aload_okD _ _ _ rfl (fun _ => rfl) (by omega) (by omega), ?_⟩
      | refine ⟨astore_ok (by assumption) rfl (by omega) (by omega) (by decide), ?_⟩
      | refine ⟨app_ok (by assumption) rfl rfl (by simp only [List.length_cons, List.length_nil]; omega), ?_⟩
      | refine need_holds ?_ fun _ => ?_
      | refine all_holds fun y hy => ?_
      | refine ret_eq ?_
  all_goals try omega
  all_goals exact l_mk03 l w win r0 r1 _ _ _ ⟨by omega, by omega, by omega, by omega, by omega, by omega, by omega⟩ hwin (by omega) (by omega) (by omega) (by omega)
theorem l_mk01 (l : List Int) (w win r0 pub sec : Int) (hr : HRegs w r0 0 0 0) (hwin : 1 ≤ win ∧ win ≤ 3) (hp : pub = bitsR 1 w r0) (hs : sec = bitsR 2 w r0) (hp2 : 0 ≤ pub ∧ pub ≤ 2) (hs2 : 0 ≤ sec ∧ sec ≤ 2) : (a_make.at_ 0 (F_mk0 l w win r0 0 0 0 pub sec 1)).holds s_make.cx a_make.rs MkQ := by
  have hw := hr.hw
  refine at_of_round s_make_sound (m := 400) ?_
  rw [t_mk01]
  simp only [asRows_sl, asInt_int, asBool_bool, asStr_str, listOf_rowsOn, List.drop_zero, Prg.eta, Sta.eta, rowsOn_length, getD_drop, Nat.reduceAdd, rd_int, rd_PMem_name, rd_PMem_secret, rd_PMem_n, rd_PLabel_name, rd_PLabel_at_, rd_Ins_kind, rd_Ins_op, rd_Ins_d, rd_Ins_aR, rd_Ins_aN, rd_Ins_bR, rd_Ins_bN, rd_Ins_name, rd_Ins_target, rd_Ent_pc, rd_Ent_val, rd_Ent_addr, rd_Ent_fro, rd_Ent_next, rd_Ent_done, rd_Ent_known, rd_Ent_fault, rd_Place_reg, rd_Place_n, rd_Place_secret, rd_Obs_kind, rd_Obs_at_, rd_Dir_kind, rd_Dir_n]
  simp only [and3]
  rw [wrap_small (pub + w) (by omega) (by omega), wrap_small (sec + w) (by omega) (by omega)]
  have h1 := tabR (Int.fdiv (kS l 1) 4 % 4).toNat (by omega)
  refine ⟨PreOk.mk (by dsimp only [c_mkk]; omega) rfl, by decide, ⟨by omega, by omega⟩, ⟨by omega, h1.2.1, h1.2.2⟩, ?_⟩
  obtain ⟨h2, _⟩ := h1
  revert h2
  generalize asInt (List.getD (rowAt _ (Int.fdiv (kS l 1) 4 % 4).toNat) 0 D.nilp) = kd
  intro h2
  have e1 := br11 w
  have e2 := br12 w
  have e3 := br21 w
  have e4 := br22 w
  have e5 := br10 w
  have e6 := br20 w
  obtain ⟨hw', g0, g1, g2, g3, gp, gs⟩ := hr
  rcases h2 with rfl | rfl | rfl
  all_goals
    repeat' first
      | refine br_not ?_
      | refine br_dec (fun _ => ?_) (fun _ => ?_)
      | refine br_beq (fun _ => ?_) (fun _ => ?_)
      | refine br_bne (fun _ => ?_) (fun _ => ?_)
      | refine br_holds (fun _ => ?_) (fun _ => ?_)
      | refine ⟨PreOk.mk ?_ rfl, ?_⟩
      | refine ⟨idx_ok _ _ _ rfl (by omega) (by omega), ?_⟩
      | refine ⟨okSh_ok _ _ _ (fun _ => rfl) (by omega) (by omega), ?_⟩
      | refine ⟨okSh_okD _ _ _ _ (fun _ => rfl) (by omega) (by omega), ?_⟩
      | refine ⟨aload_ok _ _ rfl (fun _ => rfl) (by omega) (by omega), ?_⟩
      | refine ⟨aload_okD _ _ _ rfl (fun _ => rfl) (by omega) (by omega), ?_⟩
      | refine ⟨astore_ok (by assumption) rfl (by omega) (by omega) (by decide), ?_⟩
      | refine ⟨app_ok (by assumption) rfl rfl (by simp only [List.length_cons, List.length_nil]; omega), ?_⟩
      | refine need_holds ?_ fun _ => ?_
      | refine all_holds fun y hy => ?_
      | refine ret_eq ?_
  all_goals try omega
  all_goals exact l_mk02 l w win r0 _ _ _ ⟨by omega, by omega, by omega, by omega, by omega, by omega, by omega⟩ hwin (by omega) (by omega) (by omega) (by omega)
theorem l_mk00 (l : List Int) (w win pub sec : Int) (hr : HRegs w 0 0 0 0) (hwin : 1 ≤ win ∧ win ≤ 3) (hp : pub = 0) (hs : sec = 0) (hp2 : 0 ≤ pub ∧ pub ≤ 2) (hs2 : 0 ≤ sec ∧ sec ≤ 2) : (a_make.at_ 0 (F_mk0 l w win 0 0 0 0 pub sec 0)).holds s_make.cx a_make.rs MkQ := by
  have hw := hr.hw
  refine at_of_round s_make_sound (m := 400) ?_
  rw [t_mk00]
  simp only [asRows_sl, asInt_int, asBool_bool, asStr_str, listOf_rowsOn, List.drop_zero, Prg.eta, Sta.eta, rowsOn_length, getD_drop, Nat.reduceAdd, rd_int, rd_PMem_name, rd_PMem_secret, rd_PMem_n, rd_PLabel_name, rd_PLabel_at_, rd_Ins_kind, rd_Ins_op, rd_Ins_d, rd_Ins_aR, rd_Ins_aN, rd_Ins_bR, rd_Ins_bN, rd_Ins_name, rd_Ins_target, rd_Ent_pc, rd_Ent_val, rd_Ent_addr, rd_Ent_fro, rd_Ent_next, rd_Ent_done, rd_Ent_known, rd_Ent_fault, rd_Place_reg, rd_Place_n, rd_Place_secret, rd_Obs_kind, rd_Obs_at_, rd_Dir_kind, rd_Dir_n]
  simp only [and3]
  rw [wrap_small (pub + w) (by omega) (by omega), wrap_small (sec + w) (by omega) (by omega)]
  have h1 := tabR (Int.fdiv (kS l 1) 1 % 4).toNat (by omega)
  refine ⟨PreOk.mk (by dsimp only [c_mkk]; omega) rfl, by decide, ⟨by omega, by omega⟩, ⟨by omega, h1.2.1, h1.2.2⟩, ?_⟩
  obtain ⟨h2, _⟩ := h1
  revert h2
  generalize asInt (List.getD (rowAt _ (Int.fdiv (kS l 1) 1 % 4).toNat) 0 D.nilp) = kd
  intro h2
  have e1 := br11 w
  have e2 := br12 w
  have e3 := br21 w
  have e4 := br22 w
  have e5 := br10 w
  have e6 := br20 w
  obtain ⟨hw', g0, g1, g2, g3, gp, gs⟩ := hr
  rcases h2 with rfl | rfl | rfl
  all_goals
    repeat' first
      | refine br_not ?_
      | refine br_dec (fun _ => ?_) (fun _ => ?_)
      | refine br_beq (fun _ => ?_) (fun _ => ?_)
      | refine br_bne (fun _ => ?_) (fun _ => ?_)
      | refine br_holds (fun _ => ?_) (fun _ => ?_)
      | refine ⟨PreOk.mk ?_ rfl, ?_⟩
      | refine ⟨idx_ok _ _ _ rfl (by omega) (by omega), ?_⟩
      | refine ⟨okSh_ok _ _ _ (fun _ => rfl) (by omega) (by omega), ?_⟩
      | refine ⟨okSh_okD _ _ _ _ (fun _ => rfl) (by omega) (by omega), ?_⟩
      | refine ⟨aload_ok _ _ rfl (fun _ => rfl) (by omega) (by omega), ?_⟩
      | refine ⟨aload_okD _ _ _ rfl (fun _ => rfl) (by omega) (by omega), ?_⟩
      | refine ⟨astore_ok (by assumption) rfl (by omega) (by omega) (by decide), ?_⟩
      | refine ⟨app_ok (by assumption) rfl rfl (by simp only [List.length_cons, List.length_nil]; omega), ?_⟩
      | refine need_holds ?_ fun _ => ?_
      | refine all_holds fun y hy => ?_
      | refine ret_eq ?_
  all_goals try omega
  all_goals exact l_mk01 l w win _ _ _ ⟨by omega, by omega, by omega, by omega, by omega, by omega, by omega⟩ hwin (by omega) (by omega) (by omega) (by omega)
theorem x_make (l : List Int) : ∃ r, (MkQ) r ∧ ACalls Try.prog 23 [al l] r := by
  refine acalls_some s_make_sound (fn := Try.f23) (a := a_make) (nargs := 1) (tbl := [(5, [2, 3, 4, 5, 6, 7]), (21, [2, 3, 4, 8, 9, 3000256007000900007003, 3000256008000900008002, 3000256009000900009009]), (25, [2, 3, 4, 8, 10, 3000256007000900007003, 3000256008000900008002, 3000256009000900009009])]) (by kernel_rfl) (by kernel_rfl) rfl (m := 400) ?_
  show VC.holds _ _ _ (a_make.start s_make 400 [al l])
  rw [t_make]
  try simp only [asRows_sl, asInt_int, asBool_bool, asStr_str, listOf_rowsOn, List.drop_zero, Prg.eta, Sta.eta, rowsOn_length, getD_drop, Nat.reduceAdd, rd_int, rd_PMem_name, rd_PMem_secret, rd_PMem_n, rd_PLabel_name, rd_PLabel_at_, rd_Ins_kind, rd_Ins_op, rd_Ins_d, rd_Ins_aR, rd_Ins_aN, rd_Ins_bR, rd_Ins_bN, rd_Ins_name, rd_Ins_target, rd_Ent_pc, rd_Ent_val, rd_Ent_addr, rd_Ent_fro, rd_Ent_next, rd_Ent_done, rd_Ent_known, rd_Ent_fault, rd_Place_reg, rd_Place_n, rd_Place_secret, rd_Obs_kind, rd_Obs_at_, rd_Dir_kind, rd_Dir_n]
  simp only [tmod255]
  rw [show ∀ y : Int, bits .and .i64 y 1 = y % 2 from fun y => and1 y]
  rw [wrap_small (kS l 0 % 2 + 1) (by omega) (by omega), wrap_small (Int.fdiv (kS l 0) 2 % 256 % 3 + 1) (by omega) (by omega)]
  refine ⟨PreOk.mk (by dsimp only [c_mkk]; omega) rfl, PreOk.mk (by dsimp only [c_mkk]; omega) rfl, by decide, by decide, ?_⟩
  have e1 := br10 (kS l 0 % 2 + 1)
  have e2 := br20 (kS l 0 % 2 + 1)
  exact l_mk00 l _ _ _ _ ⟨by omega, by omega, by omega, by omega, by omega, by omega, by omega⟩ (by omega) rfl rfl (by omega) (by omega)
noncomputable def makeS (l : List Int) : Prg := pick fun p => WFM p ∧ ACalls Try.prog 23 [al l] (.agg (p.cells.map .d))
theorem makeS_spec (l : List Int) : WFM (makeS l) ∧ ACalls Try.prog 23 [al l] (.agg ((makeS l).cells.map .d)) := by
  obtain ⟨r, ⟨p, h1, rfl⟩, h2⟩ := x_make l
  exact pick_spec (Q := fun p => WFM p ∧ ACalls Try.prog 23 [al l] (.agg (p.cells.map .d))) ⟨p, h1, h2.data⟩
theorem WFM.mems' {p : Prg} (h : WFM p) : Mems p.mems := ⟨by have := h.mems.len; omega, fun m hm => by have := h.mems.n m hm; omega⟩
end Go.Proofs.Ytclabjihjopclaa.Ax
