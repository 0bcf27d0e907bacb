import Derived.Test.YtggidmcojepkgaaAxBits
import Derived.Test.YtggidmcojepkgaaProg
namespace Go.Proofs.Ytggidmcojepkgaa.Ax
open Go.RowKit
set_option linter.unusedVariables false
def atS (l : List Ins) (pc : Int) : Ins := if pc < 0 ∨ (l.length : Int) ≤ pc then ⟨12, 0, 0, false, 0, false, 0, ByteArray.empty, 0⟩ else l.getD pc.toNat default
def cutS {α : Type} (l : List α) (n : Int) : List α := l.take (min (max n 0) l.length).toNat
def scan (ins : List Ins) (l : List Ent) (addr : Int) : Nat → Option Nat
  | 0 => none
  | n + 1 => if (atS ins (l.getD n default).pc).kind = 3 ∧ (l.getD n default).known = true ∧ (l.getD n default).addr = addr then some n else scan ins l addr n
def loadS (ins : List Ins) (mem : List Int) (l : List Ent) (addr : Int) (n : Nat) : Int × Int × Bool :=
  match scan ins l addr n with
  | some k => if (l.getD k default).done = true then ((l.getD k default).val, (k : Int), true) else (0, 0, false)
  | none => (if addr < 0 ∨ (mem.length : Int) ≤ addr then 0 else mem.getD addr.toNat 0, -1, true)
def tup3 (x : Int × Int × Bool) : RR := .tup [.inl (.d (.int .i64 x.1)), .inl (.d (.int .i64 x.2.1)), .inl (.d (.bool x.2.2))]

def prgOf : List D → Option Prg
  | [.int _ w, .int _ wi, .int _ fu, .int _ r0, .int _ r1, .int _ r2, .int _ r3, .sl ms, .sl ls, .sl is] => some ⟨w, wi, fu, r0, r1, r2, r3, listOf PMem ms, listOf PLabel ls, listOf Ins is⟩
  | _ => none
def pre0 (f : FuncId) (l : List A) : Prop := match f, l with
  | 15, [.agg [.int .i64 _, .int .i64 _, .int .i64 _, .int .i64 _, .int .i64 _, .int .i64 _, .int .i64 _, .sl ms, .sl ls, .sl is], .c (.int .i64 _)] => ms = rowsOn (listOf PMem ms) ∧ ls = rowsOn (listOf PLabel ls) ∧ is = rowsOn (listOf Ins is)
  | 14, [.c (.sl rows), .c (.int .i64 _)] => rows = rowsOn (listOf Ent rows) ∧ rows.length ≤ 1000000000
  | 21, [.c (.sl rows)] => rows = rowsOn (listOf Ent rows) ∧ rows.length ≤ 1000000000
  | 7, [.agg [.int .i64 _, .int .i64 _, .int .i64 _, .int .i64 _, .int .i64 _, .int .i64 _, .int .i64 _, .sl ms, .sl ls, .sl is], .c (.sl mem), .c (.sl l), .c (.int .i64 _), .c (.int .i64 _)] =>
    (ms = rowsOn (listOf PMem ms) ∧ ls = rowsOn (listOf PLabel ls) ∧ is = rowsOn (listOf Ins is)) ∧ mem = rowsOn (listOf Int mem) ∧ l = rowsOn (listOf Ent l) ∧ l.length ≤ 1000000000
  | 8, [] => True
  | _, _ => False
def ans0 (f : FuncId) (l : List A) : RR := match f, l with
  | 15, [.agg [_, _, _, _, _, _, _, _, _, .sl rows], .c (.int .i64 pc)] => .agg ((row (atS (listOf Ins rows) pc)).map .d)
  | 14, [.c (.sl rows), .c (.int .i64 i)] => .c (.d (.sl (rowsOn (cutS (listOf Ent rows) i))))
  | 21, [.c (.sl rows)] => .c (.new 8 rows)
  | 7, [.agg [_, _, _, _, _, _, _, _, _, .sl is], .c (.sl mem), .c (.sl l), .c (.int .i64 i), .c (.int .i64 addr)] => tup3 (loadS (listOf Ins is) (listOf Int mem) (cutS (listOf Ent l) i) addr (cutS (listOf Ent l) i).length)
  | 8, [] => .c (.d (.bool true))
  | _, _ => .c .nil
def ref0 (f : FuncId) (_ : List A) : Bool := f == 14
def spL (L : List Nat) : Sp := ⟨fun f xs => f ∈ L ∧ pre0 f xs, ans0, ref0, 0⟩
def Good (f : FuncId) : Prop := ∀ xs, pre0 f xs → ACalls Try.prog f xs (ans0 f xs) ∧ Enters Try.prog f ∧ rrRef (ans0 f xs) = ref0 f xs
theorem sound_of {L : List Nat} (h : ∀ f ∈ L, Good f) : (spL L).sound Try.prog := fun f xs hp => h f hp.1 xs hp.2
theorem sound_nil : (spL []).sound Try.prog := sound_of fun f h => by cases h

noncomputable def fa15 : FnA := (fnA Try.prog Try.f15 2 []).getD ⟨0, .skip, [], []⟩
theorem t15 (p : Prg) (pc : Int) : fa15.start (spL []) 100 [.agg p.cells, .c (.int .i64 pc)] =
(VC.br (decide (pc < 0))
 (VC.ret (some (RR.agg [Rc.d (D.int IntKind.i64 12), Rc.d (D.int IntKind.i64 0), Rc.d (D.int IntKind.i64 0), Rc.d (D.bool false), Rc.d (D.int IntKind.i64 0), Rc.d (D.bool false), Rc.d (D.int IntKind.i64 0), Rc.d (D.str { data := #[] }), Rc.d (D.int IntKind.i64 0)])))
 (VC.br (decide (↑(List.length (rowsOn p.ins)) ≤ pc))
  (VC.ret (some (RR.agg [Rc.d (D.int IntKind.i64 12), Rc.d (D.int IntKind.i64 0), Rc.d (D.int IntKind.i64 0), Rc.d (D.bool false), Rc.d (D.int IntKind.i64 0), Rc.d (D.bool false), Rc.d (D.int IntKind.i64 0), Rc.d (D.str { data := #[] }), Rc.d (D.int IntKind.i64 0)])))
  (VC.need (0 ≤ pc ∧ pc < ↑(List.length (rowsOn p.ins)) ∧ List.length (rowAt (rowsOn p.ins) (Int.toNat pc)) = 9)
  (VC.need (okSh [Kd.int IntKind.i64, Kd.int IntKind.i64, Kd.int IntKind.i64, Kd.bool, Kd.int IntKind.i64, Kd.bool, Kd.int IntKind.i64, Kd.str, Kd.int IntKind.i64] (rowAt (rowsOn p.ins) (Int.toNat pc)))
  (VC.ret (some (RR.agg [Rc.d (D.int IntKind.i64 (asInt (List.getD (rowAt (rowsOn p.ins) (Int.toNat pc)) 0 D.nilp))), Rc.d (D.int IntKind.i64 (asInt (List.getD (rowAt (rowsOn p.ins) (Int.toNat pc)) 1 D.nilp))), Rc.d (D.int IntKind.i64 (asInt (List.getD (rowAt (rowsOn p.ins) (Int.toNat pc)) 2 D.nilp))), Rc.d (D.bool (asBool (List.getD (rowAt (rowsOn p.ins) (Int.toNat pc)) 3 D.nilp))), Rc.d (D.int IntKind.i64 (asInt (List.getD (rowAt (rowsOn p.ins) (Int.toNat pc)) 4 D.nilp))), Rc.d (D.bool (asBool (List.getD (rowAt (rowsOn p.ins) (Int.toNat pc)) 5 D.nilp))), Rc.d (D.int IntKind.i64 (asInt (List.getD (rowAt (rowsOn p.ins) (Int.toNat pc)) 6 D.nilp))), Rc.d (D.str (asStr (List.getD (rowAt (rowsOn p.ins) (Int.toNat pc)) 7 D.nilp))), Rc.d (D.int IntKind.i64 (asInt (List.getD (rowAt (rowsOn p.ins) (Int.toNat pc)) 8 D.nilp)))]))))))) := by kernel_rfl
theorem at_calls (p : Prg) (pc : Int) : ACalls Try.prog 15 [.agg p.cells, .c (.int .i64 pc)] (.agg ((row (atS p.ins pc)).map .d)) := by
  refine acalls_of sound_nil (fn := Try.f15) (a := fa15) (nargs := 2) (tbl := []) (by kernel_rfl) (by kernel_rfl) rfl (m := 100) ?_
  rw [t15]
  refine br_holds (fun h => ?_) (fun h1 => br_holds (fun h => ?_) (fun h2 => ?_))
  · have h : pc < 0 := by simpa using h
    simp only [VC.holds, atS, h, true_or, if_true]
    rfl
  · have h : (p.ins.length : Int) ≤ pc := by simpa using h
    simp only [VC.holds, atS, h, or_true, if_true]
    rfl
  · have h1 : ¬ pc < 0 := by simpa using h1
    have h2 : ¬ (p.ins.length : Int) ≤ pc := by simpa using h2
    have hi : pc.toNat < p.ins.length := by omega
    rw [rowAt_rowsOn p.ins pc.toNat hi]
    refine ⟨⟨by omega, by rw [rowsOn_length]; omega, rfl⟩, rfl, ?_⟩
    simp only [VC.holds, atS, h1, h2, or_self, if_false, List.getD_eq_getElem?_getD, List.getElem?_eq_getElem hi]
    rfl
theorem good15 : Good 15 := by
  intro xs hp
  unfold pre0 at hp
  split at hp
  · rename_i w wi fu r0 r1 r2 r3 ms ls is pc heq
    obtain ⟨h1, h2, h3⟩ := hp
    have := at_calls ⟨w, wi, fu, r0, r1, r2, r3, listOf PMem ms, listOf PLabel ls, listOf Ins is⟩ pc
    simp only [Prg.cells, ← h1, ← h2, ← h3] at this
    exact ⟨this, ⟨Try.f15, by kernel_rfl, by decide +kernel, by kernel_rfl⟩, rfl⟩
  · rename_i heq; cases heq
  · rename_i heq; cases heq
  · rename_i heq; cases heq
  · rename_i heq; cases heq
  · exact hp.elim
end Go.Proofs.Ytggidmcojepkgaa.Ax
