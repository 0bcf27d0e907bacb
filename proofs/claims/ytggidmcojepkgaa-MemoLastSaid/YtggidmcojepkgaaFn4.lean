import Derived.Test.YtggidmcojepkgaaFn7
import Derived.Test.YtggidmcojepkgaaFn3
namespace Go.Proofs.Ytggidmcojepkgaa.Ax
open Go.RowKit
set_option linter.unusedVariables false
def sp3 : Sp := spL [7, 8]
noncomputable def fa3 : FnA := (fnA Try.prog Try.f3 6 [(4, [0, 1, 2, 3, 4, 5, 13, 14, 15]), (13, [4, 5, 13, 14, 17, 18])]).getD ⟨0, .skip, [], []⟩

def B3 (lg : BK) (l : BK) : List (Nat × Blk) := [(1472, ⟨1, false, .arr 3 [[.str ⟨#[109]⟩, .bool false, .int .i64 4]]⟩), (1600, ⟨1, false, .arr 9 [[.int .i64 3, .int .i64 0, .int .i64 0, .bool false, .int .i64 0, .bool false, .int .i64 0, .str ⟨#[]⟩, .int .i64 0]]⟩),
  (832, ⟨1, false, .box [.d (.int .i64 4), .d (.int .i64 0), .d (.int .i64 0), .d (.int .i64 0), .d (.int .i64 0), .d (.int .i64 0), .d (.int .i64 0), .own 1472 1 1, .nil, .own 1600 1 1]⟩), (1024, ⟨0, false, .dead⟩), (4288, ⟨0, false, .dead⟩), (4352, ⟨0, false, .dead⟩), (6464, ⟨0, false, .dead⟩), (6720, ⟨0, false, .dead⟩), (6721, ⟨0, false, .dead⟩), (6722, ⟨0, false, .dead⟩), (7872, ⟨0, false, .dead⟩), (7873, ⟨0, false, .dead⟩), (7874, ⟨0, false, .dead⟩), (10112, ⟨0, false, .dead⟩), (10113, ⟨0, false, .dead⟩), (10114, ⟨0, false, .dead⟩)]
def F3a (addrs vals : List Int) (told done addr at' i : Int) : St := ⟨mkS 160 [(0, .c (.d (.sl (rowsOn addrs)))), (1, .c (.d (.int .i64 told))), (2, .c (.d (.int .i64 done))), (3, .c (.d (.sl (rowsOn vals)))), (4, .c (.d (.int .i64 addr))), (5, .c (.d (.int .i64 at'))), (13, .c (.bptr 832 1 0)), (14, .c .nil), (15, .c (.d (.int .i64 i)))], B3 .dead .dead⟩
def BL (R : List (List D)) : List (Nat × Blk) := [(1472, ⟨1, false, .arr 3 [[.str ⟨#[109]⟩, .bool false, .int .i64 4]]⟩), (1600, ⟨1, false, .arr 9 [[.int .i64 3, .int .i64 0, .int .i64 0, .bool false, .int .i64 0, .bool false, .int .i64 0, .str ⟨#[]⟩, .int .i64 0]]⟩),
  (832, ⟨1, false, .box [.d (.int .i64 4), .d (.int .i64 0), .d (.int .i64 0), .d (.int .i64 0), .d (.int .i64 0), .d (.int .i64 0), .d (.int .i64 0), .own 1472 1 1, .nil, .own 1600 1 1]⟩), (1024, ⟨0, false, .dead⟩), (4288, ⟨0, false, .dead⟩), (4352, ⟨1, false, .arr 8 R⟩), (6464, ⟨0, false, .dead⟩), (6720, ⟨0, false, .dead⟩), (6721, ⟨0, false, .dead⟩), (6722, ⟨0, false, .dead⟩), (7872, ⟨0, false, .dead⟩), (7873, ⟨0, false, .dead⟩), (7874, ⟨0, false, .dead⟩), (10112, ⟨0, false, .dead⟩), (10113, ⟨0, false, .dead⟩), (10114, ⟨0, false, .dead⟩)]
def F3b (addrs vals : List Int) (told done addr at' i : Int) (R : List (List D)) (n : Nat) : St := ⟨mkS 160 [(0, .c (.d (.sl (rowsOn addrs)))), (1, .c (.d (.int .i64 told))), (2, .c (.d (.int .i64 done))), (3, .c (.d (.sl (rowsOn vals)))), (4, .c (.d (.int .i64 addr))), (5, .c (.d (.int .i64 at'))), (13, .c (.bptr 832 1 0)), (14, .c (.own 4352 1 n)), (15, .c (.d (.int .i64 i)))], BL R⟩
def F3c (addr at' last i : Int) (R : List (List D)) (n : Nat) : St := ⟨mkS 160 [(4, .c (.d (.int .i64 addr))), (5, .c (.d (.int .i64 at'))), (13, .c (.bptr 832 1 0)), (14, .c (.own 4352 1 n)), (17, .c (.d (.int .i64 last))), (18, .c (.d (.int .i64 i)))], BL R⟩
def F3d (addr at' last i : Int) : St := ⟨mkS 160 [(4, .c (.d (.int .i64 addr))), (5, .c (.d (.int .i64 at'))), (13, .c (.bptr 832 1 0)), (14, .c .nil), (17, .c (.d (.int .i64 last))), (18, .c (.d (.int .i64 i)))], B3 .dead .dead⟩
def insS : List Ins := [Row.of [D.int IntKind.i64 (3 : Int), D.int IntKind.i64 (0 : Int), D.int IntKind.i64 (0 : Int), D.bool false, D.int IntKind.i64 (0 : Int), D.bool false, D.int IntKind.i64 (0 : Int), D.str { data := #[] }, D.int IntKind.i64 (0 : Int)]]
def memS : List Int := [5, 6, 7, 8]
def ldS (l : List Ent) (addr at' : Int) : Int × Int × Bool := loadS insS memS (cutS l at') addr (cutS l at').length
theorem t3s (addrs vals : List Int) (told done addr at' : Int) : fa3.start sp3 200 [.c (.sl (rowsOn addrs)), .c (.int .i64 told), .c (.int .i64 done), .c (.sl (rowsOn vals)), .c (.int .i64 addr), .c (.int .i64 at')] =
(FnA.at_ fa3 0 (F3a addrs vals told done addr at' (0 : Int))) := by kernel_rfl
theorem t3a (addrs vals : List Int) (told done addr at' i : Int) : fa3.round sp3 200 0 (F3a addrs vals told done addr at' i) =
(VC.br (decide (i < ↑(List.length (rowsOn addrs))))
 (VC.br (decide (i < (12 : Int)))
  (VC.need ((0 : Int) ≤ i ∧ i < ↑(List.length (rowsOn addrs)) ∧ List.length (rowAt (rowsOn addrs) (Int.toNat i)) = (1 : Nat))
  (VC.need (okSh [Kd.int IntKind.i64] (rowAt (rowsOn addrs) (Int.toNat i)))
  (VC.need ((0 : Int) ≤ IntKind.wrap IntKind.u64 i)
  (VC.need ((0 : Int) ≤ IntKind.wrap IntKind.u64 i)
  (VC.br (decide (i < ↑(List.length (rowsOn vals))))
   (VC.need ((0 : Int) ≤ i ∧ i < ↑(List.length (rowsOn vals)) ∧ List.length (rowAt (rowsOn vals) (Int.toNat i)) = (1 : Nat))
   (VC.need (okSh [Kd.int IntKind.i64] (rowAt (rowsOn vals) (Int.toNat i)))
   (VC.need ((List.all [[D.int IntKind.i64 (0 : Int), D.int IntKind.i64 (bits BinOp.and IntKind.i64 (asInt (List.getD (rowAt (rowsOn vals) (Int.toNat i)) (0 : Nat) D.nilp)) (15 : Int)), D.int IntKind.i64 (bits BinOp.and IntKind.i64 (asInt (List.getD (rowAt (rowsOn addrs) (Int.toNat i)) (0 : Nat) D.nilp)) (3 : Int)), D.int IntKind.i64 (0 : Int), D.int IntKind.i64 (0 : Int), D.bool (bits BinOp.and IntKind.i64 (Int.fdiv done ((2 : Int) ^ min (Int.toNat (IntKind.wrap IntKind.u64 i)) (64 : Nat))) (1 : Int) == (1 : Int)), D.bool (bits BinOp.and IntKind.i64 (Int.fdiv told ((2 : Int) ^ min (Int.toNat (IntKind.wrap IntKind.u64 i)) (64 : Nat))) (1 : Int) == (1 : Int)), D.bool false]] fun r ↦ List.length r == (8 : Nat)) = true ∧ (List.all ([] : List (List D)) fun r ↦ List.length r == (8 : Nat)) = true ∧ ((0 : Nat) + List.length [[D.int IntKind.i64 (0 : Int), D.int IntKind.i64 (bits BinOp.and IntKind.i64 (asInt (List.getD (rowAt (rowsOn vals) (Int.toNat i)) (0 : Nat) D.nilp)) (15 : Int)), D.int IntKind.i64 (bits BinOp.and IntKind.i64 (asInt (List.getD (rowAt (rowsOn addrs) (Int.toNat i)) (0 : Nat) D.nilp)) (3 : Int)), D.int IntKind.i64 (0 : Int), D.int IntKind.i64 (0 : Int), D.bool (bits BinOp.and IntKind.i64 (Int.fdiv done ((2 : Int) ^ min (Int.toNat (IntKind.wrap IntKind.u64 i)) (64 : Nat))) (1 : Int) == (1 : Int)), D.bool (bits BinOp.and IntKind.i64 (Int.fdiv told ((2 : Int) ^ min (Int.toNat (IntKind.wrap IntKind.u64 i)) (64 : Nat))) (1 : Int) == (1 : Int)), D.bool false]] + (100 : Nat)) * (49 : Nat) ≤ (70368744177664 : Nat))
   (FnA.at_ fa3 0 (F3b addrs vals told done addr at' (IntKind.wrap IntKind.i64 (i + (1 : Int))) [[D.int IntKind.i64 (0 : Int), D.int IntKind.i64 (bits BinOp.and IntKind.i64 (asInt (List.getD (rowAt (rowsOn vals) (Int.toNat i)) (0 : Nat) D.nilp)) (15 : Int)), D.int IntKind.i64 (bits BinOp.and IntKind.i64 (asInt (List.getD (rowAt (rowsOn addrs) (Int.toNat i)) (0 : Nat) D.nilp)) (3 : Int)), D.int IntKind.i64 (0 : Int), D.int IntKind.i64 (0 : Int), D.bool (bits BinOp.and IntKind.i64 (Int.fdiv done ((2 : Int) ^ min (Int.toNat (IntKind.wrap IntKind.u64 i)) (64 : Nat))) (1 : Int) == (1 : Int)), D.bool (bits BinOp.and IntKind.i64 (Int.fdiv told ((2 : Int) ^ min (Int.toNat (IntKind.wrap IntKind.u64 i)) (64 : Nat))) (1 : Int) == (1 : Int)), D.bool false]] (1 : Nat))))))
   (VC.need ((List.all [[D.int IntKind.i64 (0 : Int), D.int IntKind.i64 (0 : Int), D.int IntKind.i64 (bits BinOp.and IntKind.i64 (asInt (List.getD (rowAt (rowsOn addrs) (Int.toNat i)) (0 : Nat) D.nilp)) (3 : Int)), D.int IntKind.i64 (0 : Int), D.int IntKind.i64 (0 : Int), D.bool (bits BinOp.and IntKind.i64 (Int.fdiv done ((2 : Int) ^ min (Int.toNat (IntKind.wrap IntKind.u64 i)) (64 : Nat))) (1 : Int) == (1 : Int)), D.bool (bits BinOp.and IntKind.i64 (Int.fdiv told ((2 : Int) ^ min (Int.toNat (IntKind.wrap IntKind.u64 i)) (64 : Nat))) (1 : Int) == (1 : Int)), D.bool false]] fun r ↦ List.length r == (8 : Nat)) = true ∧ (List.all ([] : List (List D)) fun r ↦ List.length r == (8 : Nat)) = true ∧ ((0 : Nat) + List.length [[D.int IntKind.i64 (0 : Int), D.int IntKind.i64 (0 : Int), D.int IntKind.i64 (bits BinOp.and IntKind.i64 (asInt (List.getD (rowAt (rowsOn addrs) (Int.toNat i)) (0 : Nat) D.nilp)) (3 : Int)), D.int IntKind.i64 (0 : Int), D.int IntKind.i64 (0 : Int), D.bool (bits BinOp.and IntKind.i64 (Int.fdiv done ((2 : Int) ^ min (Int.toNat (IntKind.wrap IntKind.u64 i)) (64 : Nat))) (1 : Int) == (1 : Int)), D.bool (bits BinOp.and IntKind.i64 (Int.fdiv told ((2 : Int) ^ min (Int.toNat (IntKind.wrap IntKind.u64 i)) (64 : Nat))) (1 : Int) == (1 : Int)), D.bool false]] + (100 : Nat)) * (49 : Nat) ≤ (70368744177664 : Nat))
   (FnA.at_ fa3 0 (F3b addrs vals told done addr at' (IntKind.wrap IntKind.i64 (i + (1 : Int))) [[D.int IntKind.i64 (0 : Int), D.int IntKind.i64 (0 : Int), D.int IntKind.i64 (bits BinOp.and IntKind.i64 (asInt (List.getD (rowAt (rowsOn addrs) (Int.toNat i)) (0 : Nat) D.nilp)) (3 : Int)), D.int IntKind.i64 (0 : Int), D.int IntKind.i64 (0 : Int), D.bool (bits BinOp.and IntKind.i64 (Int.fdiv done ((2 : Int) ^ min (Int.toNat (IntKind.wrap IntKind.u64 i)) (64 : Nat))) (1 : Int) == (1 : Int)), D.bool (bits BinOp.and IntKind.i64 (Int.fdiv told ((2 : Int) ^ min (Int.toNat (IntKind.wrap IntKind.u64 i)) (64 : Nat))) (1 : Int) == (1 : Int)), D.bool false]] (1 : Nat)))))))))
  (FnA.at_ fa3 1 (F3d (bits BinOp.and IntKind.i64 addr (3 : Int)) (bits BinOp.and IntKind.i64 at' (15 : Int)) (-1 : Int) (0 : Int))))
 (FnA.at_ fa3 1 (F3d (bits BinOp.and IntKind.i64 addr (3 : Int)) (bits BinOp.and IntKind.i64 at' (15 : Int)) (-1 : Int) (0 : Int)))) := by kernel_rfl
theorem t3b (addrs vals : List Int) (told done addr at' i : Int) (R : List (List D)) (n : Nat) : fa3.round sp3 200 0 (F3b addrs vals told done addr at' i R n) =
(VC.br (decide (i < ↑(List.length (rowsOn addrs))))
 (VC.br (decide (i < (12 : Int)))
  (VC.need ((0 : Int) ≤ i ∧ i < ↑(List.length (rowsOn addrs)) ∧ List.length (rowAt (rowsOn addrs) (Int.toNat i)) = (1 : Nat))
  (VC.need (okSh [Kd.int IntKind.i64] (rowAt (rowsOn addrs) (Int.toNat i)))
  (VC.need ((0 : Int) ≤ IntKind.wrap IntKind.u64 i)
  (VC.need ((0 : Int) ≤ IntKind.wrap IntKind.u64 i)
  (VC.br (decide (i < ↑(List.length (rowsOn vals))))
   (VC.need ((0 : Int) ≤ i ∧ i < ↑(List.length (rowsOn vals)) ∧ List.length (rowAt (rowsOn vals) (Int.toNat i)) = (1 : Nat))
   (VC.need (okSh [Kd.int IntKind.i64] (rowAt (rowsOn vals) (Int.toNat i)))
   (VC.need ((List.all [[D.int IntKind.i64 (0 : Int), D.int IntKind.i64 (bits BinOp.and IntKind.i64 (asInt (List.getD (rowAt (rowsOn vals) (Int.toNat i)) (0 : Nat) D.nilp)) (15 : Int)), D.int IntKind.i64 (bits BinOp.and IntKind.i64 (asInt (List.getD (rowAt (rowsOn addrs) (Int.toNat i)) (0 : Nat) D.nilp)) (3 : Int)), D.int IntKind.i64 (0 : Int), D.int IntKind.i64 (0 : Int), D.bool (bits BinOp.and IntKind.i64 (Int.fdiv done ((2 : Int) ^ min (Int.toNat (IntKind.wrap IntKind.u64 i)) (64 : Nat))) (1 : Int) == (1 : Int)), D.bool (bits BinOp.and IntKind.i64 (Int.fdiv told ((2 : Int) ^ min (Int.toNat (IntKind.wrap IntKind.u64 i)) (64 : Nat))) (1 : Int) == (1 : Int)), D.bool false]] fun r ↦ List.length r == (8 : Nat)) = true ∧ (List.all R fun r ↦ List.length r == (8 : Nat)) = true ∧ (List.length R + List.length [[D.int IntKind.i64 (0 : Int), D.int IntKind.i64 (bits BinOp.and IntKind.i64 (asInt (List.getD (rowAt (rowsOn vals) (Int.toNat i)) (0 : Nat) D.nilp)) (15 : Int)), D.int IntKind.i64 (bits BinOp.and IntKind.i64 (asInt (List.getD (rowAt (rowsOn addrs) (Int.toNat i)) (0 : Nat) D.nilp)) (3 : Int)), D.int IntKind.i64 (0 : Int), D.int IntKind.i64 (0 : Int), D.bool (bits BinOp.and IntKind.i64 (Int.fdiv done ((2 : Int) ^ min (Int.toNat (IntKind.wrap IntKind.u64 i)) (64 : Nat))) (1 : Int) == (1 : Int)), D.bool (bits BinOp.and IntKind.i64 (Int.fdiv told ((2 : Int) ^ min (Int.toNat (IntKind.wrap IntKind.u64 i)) (64 : Nat))) (1 : Int) == (1 : Int)), D.bool false]] + (100 : Nat)) * (49 : Nat) ≤ (70368744177664 : Nat))
   (FnA.at_ fa3 0 (F3b addrs vals told done addr at' (IntKind.wrap IntKind.i64 (i + (1 : Int))) (R ++ [[D.int IntKind.i64 (0 : Int), D.int IntKind.i64 (bits BinOp.and IntKind.i64 (asInt (List.getD (rowAt (rowsOn vals) (Int.toNat i)) (0 : Nat) D.nilp)) (15 : Int)), D.int IntKind.i64 (bits BinOp.and IntKind.i64 (asInt (List.getD (rowAt (rowsOn addrs) (Int.toNat i)) (0 : Nat) D.nilp)) (3 : Int)), D.int IntKind.i64 (0 : Int), D.int IntKind.i64 (0 : Int), D.bool (bits BinOp.and IntKind.i64 (Int.fdiv done ((2 : Int) ^ min (Int.toNat (IntKind.wrap IntKind.u64 i)) (64 : Nat))) (1 : Int) == (1 : Int)), D.bool (bits BinOp.and IntKind.i64 (Int.fdiv told ((2 : Int) ^ min (Int.toNat (IntKind.wrap IntKind.u64 i)) (64 : Nat))) (1 : Int) == (1 : Int)), D.bool false]]) (List.length R + List.length [[D.int IntKind.i64 (0 : Int), D.int IntKind.i64 (bits BinOp.and IntKind.i64 (asInt (List.getD (rowAt (rowsOn vals) (Int.toNat i)) (0 : Nat) D.nilp)) (15 : Int)), D.int IntKind.i64 (bits BinOp.and IntKind.i64 (asInt (List.getD (rowAt (rowsOn addrs) (Int.toNat i)) (0 : Nat) D.nilp)) (3 : Int)), D.int IntKind.i64 (0 : Int), D.int IntKind.i64 (0 : Int), D.bool (bits BinOp.and IntKind.i64 (Int.fdiv done ((2 : Int) ^ min (Int.toNat (IntKind.wrap IntKind.u64 i)) (64 : Nat))) (1 : Int) == (1 : Int)), D.bool (bits BinOp.and IntKind.i64 (Int.fdiv told ((2 : Int) ^ min (Int.toNat (IntKind.wrap IntKind.u64 i)) (64 : Nat))) (1 : Int) == (1 : Int)), D.bool false]]))))))
   (VC.need ((List.all [[D.int IntKind.i64 (0 : Int), D.int IntKind.i64 (0 : Int), D.int IntKind.i64 (bits BinOp.and IntKind.i64 (asInt (List.getD (rowAt (rowsOn addrs) (Int.toNat i)) (0 : Nat) D.nilp)) (3 : Int)), D.int IntKind.i64 (0 : Int), D.int IntKind.i64 (0 : Int), D.bool (bits BinOp.and IntKind.i64 (Int.fdiv done ((2 : Int) ^ min (Int.toNat (IntKind.wrap IntKind.u64 i)) (64 : Nat))) (1 : Int) == (1 : Int)), D.bool (bits BinOp.and IntKind.i64 (Int.fdiv told ((2 : Int) ^ min (Int.toNat (IntKind.wrap IntKind.u64 i)) (64 : Nat))) (1 : Int) == (1 : Int)), D.bool false]] fun r ↦ List.length r == (8 : Nat)) = true ∧ (List.all R fun r ↦ List.length r == (8 : Nat)) = true ∧ (List.length R + List.length [[D.int IntKind.i64 (0 : Int), D.int IntKind.i64 (0 : Int), D.int IntKind.i64 (bits BinOp.and IntKind.i64 (asInt (List.getD (rowAt (rowsOn addrs) (Int.toNat i)) (0 : Nat) D.nilp)) (3 : Int)), D.int IntKind.i64 (0 : Int), D.int IntKind.i64 (0 : Int), D.bool (bits BinOp.and IntKind.i64 (Int.fdiv done ((2 : Int) ^ min (Int.toNat (IntKind.wrap IntKind.u64 i)) (64 : Nat))) (1 : Int) == (1 : Int)), D.bool (bits BinOp.and IntKind.i64 (Int.fdiv told ((2 : Int) ^ min (Int.toNat (IntKind.wrap IntKind.u64 i)) (64 : Nat))) (1 : Int) == (1 : Int)), D.bool false]] + (100 : Nat)) * (49 : Nat) ≤ (70368744177664 : Nat))
   (FnA.at_ fa3 0 (F3b addrs vals told done addr at' (IntKind.wrap IntKind.i64 (i + (1 : Int))) (R ++ [[D.int IntKind.i64 (0 : Int), D.int IntKind.i64 (0 : Int), D.int IntKind.i64 (bits BinOp.and IntKind.i64 (asInt (List.getD (rowAt (rowsOn addrs) (Int.toNat i)) (0 : Nat) D.nilp)) (3 : Int)), D.int IntKind.i64 (0 : Int), D.int IntKind.i64 (0 : Int), D.bool (bits BinOp.and IntKind.i64 (Int.fdiv done ((2 : Int) ^ min (Int.toNat (IntKind.wrap IntKind.u64 i)) (64 : Nat))) (1 : Int) == (1 : Int)), D.bool (bits BinOp.and IntKind.i64 (Int.fdiv told ((2 : Int) ^ min (Int.toNat (IntKind.wrap IntKind.u64 i)) (64 : Nat))) (1 : Int) == (1 : Int)), D.bool false]]) (List.length R + List.length [[D.int IntKind.i64 (0 : Int), D.int IntKind.i64 (0 : Int), D.int IntKind.i64 (bits BinOp.and IntKind.i64 (asInt (List.getD (rowAt (rowsOn addrs) (Int.toNat i)) (0 : Nat) D.nilp)) (3 : Int)), D.int IntKind.i64 (0 : Int), D.int IntKind.i64 (0 : Int), D.bool (bits BinOp.and IntKind.i64 (Int.fdiv done ((2 : Int) ^ min (Int.toNat (IntKind.wrap IntKind.u64 i)) (64 : Nat))) (1 : Int) == (1 : Int)), D.bool (bits BinOp.and IntKind.i64 (Int.fdiv told ((2 : Int) ^ min (Int.toNat (IntKind.wrap IntKind.u64 i)) (64 : Nat))) (1 : Int) == (1 : Int)), D.bool false]])))))))))
  (FnA.at_ fa3 1 (F3c (bits BinOp.and IntKind.i64 addr (3 : Int)) (bits BinOp.and IntKind.i64 at' (15 : Int)) (-1 : Int) (0 : Int) R n)))
 (FnA.at_ fa3 1 (F3c (bits BinOp.and IntKind.i64 addr (3 : Int)) (bits BinOp.and IntKind.i64 at' (15 : Int)) (-1 : Int) (0 : Int) R n))) := by kernel_rfl
def fin3d (sp3 : Sp) (ld : Int × Int × Bool) (addr at' last : Int) : VC :=
(VC.need (sp3.pre (7 : Nat) [A.agg [D.int IntKind.i64 (4 : Int), D.int IntKind.i64 (0 : Int), D.int IntKind.i64 (0 : Int), D.int IntKind.i64 (0 : Int), D.int IntKind.i64 (0 : Int), D.int IntKind.i64 (0 : Int), D.int IntKind.i64 (0 : Int), D.sl [[D.str { data := #[(109 : UInt8)] }, D.bool false, D.int IntKind.i64 (4 : Int)]], D.sl [], D.sl [[D.int IntKind.i64 (3 : Int), D.int IntKind.i64 (0 : Int), D.int IntKind.i64 (0 : Int), D.bool false, D.int IntKind.i64 (0 : Int), D.bool false, D.int IntKind.i64 (0 : Int), D.str { data := #[] }, D.int IntKind.i64 (0 : Int)]]], A.c (D.sl [[D.int IntKind.i64 (5 : Int)], [D.int IntKind.i64 (6 : Int)], [D.int IntKind.i64 (7 : Int)], [D.int IntKind.i64 (8 : Int)]]), A.c (D.sl []), A.c (D.int IntKind.i64 at'), A.c (D.int IntKind.i64 addr)])
 (VC.br (decide (last < (0 : Int)))
  (VC.br (ld.snd.snd)
   (VC.br (ld.snd.fst == (-1 : Int))
    (VC.br (ld.fst == IntKind.wrap IntKind.i64 ((5 : Int) + addr))
     (VC.need (sp3.pre (8 : Nat) [])
     (VC.ret (some (RR.c (Rc.d (D.bool true))))))
     (VC.ret (some (RR.c (Rc.d (D.bool false))))))
    (VC.ret (some (RR.c (Rc.d (D.bool false))))))
   (VC.ret (some (RR.c (Rc.d (D.bool false))))))
  VC.ff))
theorem t3d (addr at' last i : Int) : fa3.round sp3 200 1 (F3d addr at' last i) =
(VC.br (decide (i < at'))
 (VC.br (decide (i < (0 : Int)))
  VC.ff
  (fin3d sp3 (ldS ([] : List Ent) addr at') addr at' last))
 (fin3d sp3 (ldS ([] : List Ent) addr at') addr at' last)) := by kernel_rfl
def fin3c (sp3 : Sp) (ld : Int × Int × Bool) (addr at' last : Int) (R : List (List D)) (n : Nat) : VC :=
(VC.need (sp3.pre (7 : Nat) [A.agg [D.int IntKind.i64 (4 : Int), D.int IntKind.i64 (0 : Int), D.int IntKind.i64 (0 : Int), D.int IntKind.i64 (0 : Int), D.int IntKind.i64 (0 : Int), D.int IntKind.i64 (0 : Int), D.int IntKind.i64 (0 : Int), D.sl [[D.str { data := #[(109 : UInt8)] }, D.bool false, D.int IntKind.i64 (4 : Int)]], D.sl [], D.sl [[D.int IntKind.i64 (3 : Int), D.int IntKind.i64 (0 : Int), D.int IntKind.i64 (0 : Int), D.bool false, D.int IntKind.i64 (0 : Int), D.bool false, D.int IntKind.i64 (0 : Int), D.str { data := #[] }, D.int IntKind.i64 (0 : Int)]]], A.c (D.sl [[D.int IntKind.i64 (5 : Int)], [D.int IntKind.i64 (6 : Int)], [D.int IntKind.i64 (7 : Int)], [D.int IntKind.i64 (8 : Int)]]), A.c (D.sl R), A.c (D.int IntKind.i64 at'), A.c (D.int IntKind.i64 addr)])
 (VC.br (decide (last < (0 : Int)))
  (VC.br (ld.snd.snd)
   (VC.br (ld.snd.fst == (-1 : Int))
    (VC.br (ld.fst == IntKind.wrap IntKind.i64 ((5 : Int) + addr))
     (VC.need (sp3.pre (8 : Nat) [])
     (VC.ret (some (RR.c (Rc.d (D.bool true))))))
     (VC.ret (some (RR.c (Rc.d (D.bool false))))))
    (VC.ret (some (RR.c (Rc.d (D.bool false))))))
   (VC.ret (some (RR.c (Rc.d (D.bool false))))))
  (VC.need ((0 : Int) ≤ last ∧ last < ↑n)
  (VC.need (Int.toNat last < List.length R ∧ List.length (rowAt R (Int.toNat last)) = (8 : Nat) ∧ okSh [Kd.bool] (List.drop (5 : Nat) (rowAt R (Int.toNat last))))
  (VC.br (if false = true then !ld.snd.snd == asBool (List.getD (List.drop (5 : Nat) (rowAt R (Int.toNat last))) (0 : Nat) D.nilp) else ld.snd.snd == asBool (List.getD (List.drop (5 : Nat) (rowAt R (Int.toNat last))) (0 : Nat) D.nilp))
   (VC.br (ld.snd.snd)
    (VC.br (ld.snd.fst == last)
     (VC.need ((0 : Int) ≤ last ∧ last < ↑n)
     (VC.need (Int.toNat last < List.length R ∧ List.length (rowAt R (Int.toNat last)) = (8 : Nat) ∧ okSh [Kd.int IntKind.i64] (List.drop (1 : Nat) (rowAt R (Int.toNat last))))
     (VC.br (ld.fst == asInt (List.getD (List.drop (1 : Nat) (rowAt R (Int.toNat last))) (0 : Nat) D.nilp))
      (VC.need (sp3.pre (8 : Nat) [])
      (VC.ret (some (RR.c (Rc.d (D.bool true))))))
      (VC.br (!ld.snd.snd)
       (VC.br (ld.fst == (0 : Int))
        (VC.need (sp3.pre (8 : Nat) [])
        (VC.ret (some (RR.c (Rc.d (D.bool true))))))
        (VC.ret (some (RR.c (Rc.d (D.bool false))))))
       (VC.ret (some (RR.c (Rc.d (D.bool false)))))))))
     (VC.br (!ld.snd.snd)
      (VC.br (ld.fst == (0 : Int))
       (VC.need (sp3.pre (8 : Nat) [])
       (VC.ret (some (RR.c (Rc.d (D.bool true))))))
       (VC.ret (some (RR.c (Rc.d (D.bool false))))))
      (VC.ret (some (RR.c (Rc.d (D.bool false)))))))
    (VC.br (!ld.snd.snd)
     (VC.br (ld.fst == (0 : Int))
      (VC.need (sp3.pre (8 : Nat) [])
      (VC.ret (some (RR.c (Rc.d (D.bool true))))))
      (VC.ret (some (RR.c (Rc.d (D.bool false))))))
     (VC.ret (some (RR.c (Rc.d (D.bool false)))))))
   (VC.ret (some (RR.c (Rc.d (D.bool false))))))))))
theorem t3c (addr at' last i : Int) (R : List (List D)) (n : Nat) : fa3.round sp3 200 1 (F3c addr at' last i R n) =
(VC.br (decide (i < at'))
 (VC.br (decide (i < ↑n))
  (VC.need ((0 : Int) ≤ i ∧ i < ↑n)
  (VC.need (Int.toNat i < List.length R ∧ List.length (rowAt R (Int.toNat i)) = (8 : Nat) ∧ okSh [Kd.bool] (List.drop (6 : Nat) (rowAt R (Int.toNat i))))
  (VC.br (asBool (List.getD (List.drop (6 : Nat) (rowAt R (Int.toNat i))) (0 : Nat) D.nilp))
   (VC.need ((0 : Int) ≤ i ∧ i < ↑n)
   (VC.need (Int.toNat i < List.length R ∧ List.length (rowAt R (Int.toNat i)) = (8 : Nat) ∧ okSh [Kd.int IntKind.i64] (List.drop (2 : Nat) (rowAt R (Int.toNat i))))
   (VC.br (asInt (List.getD (List.drop (2 : Nat) (rowAt R (Int.toNat i))) (0 : Nat) D.nilp) == addr)
    (FnA.at_ fa3 1 (F3c addr at' i (IntKind.wrap IntKind.i64 (i + (1 : Int))) R n))
    (FnA.at_ fa3 1 (F3c addr at' last (IntKind.wrap IntKind.i64 (i + (1 : Int))) R n)))))
   (FnA.at_ fa3 1 (F3c addr at' last (IntKind.wrap IntKind.i64 (i + (1 : Int))) R n)))))
  (fin3c sp3 (ldS (listOf Ent R) addr at') addr at' last R n))
 (fin3c sp3 (ldS (listOf Ent R) addr at') addr at' last R n)) := by kernel_rfl
end Go.Proofs.Ytggidmcojepkgaa.Ax
