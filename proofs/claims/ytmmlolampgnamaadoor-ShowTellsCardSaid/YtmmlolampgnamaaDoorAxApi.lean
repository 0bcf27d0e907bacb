/- The program's structs as Lean's, and their cells. -/
import Derived.Test.YtmmlolampgnamaaDoorAx21
namespace Go.Proofs.YtmmlolampgnamaaDoor.Ax
open Go.RowKit

class Row (α : Type) where
  row : α → List D
  of : List D → α
  of_row : ∀ a, of (row a) = a
  n : Nat
  len : ∀ a, (row a).length = n
export Row (row)

section
variable {α : Type} [Row α]
def rowsOn (l : List α) : List (List D) := l.map row
def listOf (α : Type) [Row α] (rows : List (List D)) : List α := rows.map Row.of
@[simp] theorem listOf_rowsOn (l : List α) : listOf α (rowsOn l) = l := by
  unfold listOf rowsOn
  rw [List.map_map]
  exact (List.map_congr_left fun a _ => Row.of_row a).trans (List.map_id' l)
@[simp] theorem rowsOn_length (l : List α) : (rowsOn l).length = l.length := by simp [rowsOn]
@[simp] theorem rowsOn_all (l : List α) (n : Nat) (h : n = Row.n α) : ((rowsOn l).all fun r => r.length == n) = true := by
  subst h
  simp [rowsOn, List.all_eq_true, Row.len]
theorem rowAt_rowsOn (l : List α) (i : Nat) (h : i < l.length) : rowAt (rowsOn l) i = row l[i] := by
  unfold rowAt rowsOn
  rw [List.getD_eq_getElem?_getD, List.getElem?_map, List.getElem?_eq_getElem h]; rfl
theorem rowsOn_append (l m : List α) : rowsOn (l ++ m) = rowsOn l ++ rowsOn m := by simp [rowsOn]
theorem rowsOn_take (l : List α) (n : Nat) : (rowsOn l).take n = rowsOn (l.take n) := by simp [rowsOn]
theorem rowsOn_drop (l : List α) (n : Nat) : (rowsOn l).drop n = rowsOn (l.drop n) := by simp [rowsOn]
end

instance : Row Int := ⟨fun n => [.int .i64 n], fun r => asInt (r.getD 0 .nilp), fun _ => rfl, 1, fun _ => rfl⟩

structure Ins where
  kind : Int
  op : Int
  d : Int
  aR : Bool
  aN : Int
  bR : Bool
  bN : Int
  name : ByteArray
  target : Int
  deriving Inhabited
instance : Row Ins := ⟨fun i => [.int .i64 i.kind, .int .i64 i.op, .int .i64 i.d, .bool i.aR, .int .i64 i.aN, .bool i.bR, .int .i64 i.bN, .str i.name, .int .i64 i.target],
  fun r => ⟨asInt (r.getD 0 .nilp), asInt (r.getD 1 .nilp), asInt (r.getD 2 .nilp), asBool (r.getD 3 .nilp), asInt (r.getD 4 .nilp), asBool (r.getD 5 .nilp), asInt (r.getD 6 .nilp), asStr (r.getD 7 .nilp), asInt (r.getD 8 .nilp)⟩, fun _ => rfl, 9, fun _ => rfl⟩

structure Ent where
  pc : Int
  val : Int
  addr : Int
  fro : Int
  next : Int
  done : Bool
  known : Bool
  fault : Bool
  deriving Inhabited
instance : Row Ent := ⟨fun e => [.int .i64 e.pc, .int .i64 e.val, .int .i64 e.addr, .int .i64 e.fro, .int .i64 e.next, .bool e.done, .bool e.known, .bool e.fault],
  fun r => ⟨asInt (r.getD 0 .nilp), asInt (r.getD 1 .nilp), asInt (r.getD 2 .nilp), asInt (r.getD 3 .nilp), asInt (r.getD 4 .nilp), asBool (r.getD 5 .nilp), asBool (r.getD 6 .nilp), asBool (r.getD 7 .nilp)⟩, fun _ => rfl, 8, fun _ => rfl⟩

structure PMem where
  name : ByteArray
  secret : Bool
  n : Int
  deriving Inhabited
instance : Row PMem := ⟨fun m => [.str m.name, .bool m.secret, .int .i64 m.n], fun r => ⟨asStr (r.getD 0 .nilp), asBool (r.getD 1 .nilp), asInt (r.getD 2 .nilp)⟩, fun _ => rfl, 3, fun _ => rfl⟩

structure PLabel where
  name : ByteArray
  at_ : Int
  deriving Inhabited
instance : Row PLabel := ⟨fun m => [.str m.name, .int .i64 m.at_], fun r => ⟨asStr (r.getD 0 .nilp), asInt (r.getD 1 .nilp)⟩, fun _ => rfl, 2, fun _ => rfl⟩

structure Prg where
  w : Int
  window : Int
  fuel : Int
  r0 : Int
  r1 : Int
  r2 : Int
  r3 : Int
  mems : List PMem
  labels : List PLabel
  ins : List Ins
  deriving Inhabited
def Prg.cells (p : Prg) : List D := [.int .i64 p.w, .int .i64 p.window, .int .i64 p.fuel, .int .i64 p.r0, .int .i64 p.r1, .int .i64 p.r2, .int .i64 p.r3, .sl (rowsOn p.mems), .sl (rowsOn p.labels), .sl (rowsOn p.ins)]

end Go.Proofs.YtmmlolampgnamaaDoor.Ax
