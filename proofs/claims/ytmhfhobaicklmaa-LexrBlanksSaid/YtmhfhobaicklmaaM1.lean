/- What the program's functions come to, in plain words: words, places, states, one step, runs. -/
import Derived.Test.YtmhfhobaicklmaaAxW
namespace Go.Proofs.Ytmhfhobaicklmaa.Ax
open Go.RowKit
set_option linter.unusedVariables false

/-! ### Words -/
def okW (w : Int) : Prop := 1 ≤ w ∧ w ≤ 16
instance (w : Int) : Decidable (okW w) := by unfold okW; infer_instance
def sizeS (w : Int) : Int := if okW w then 2 ^ w.toNat else 0
def maskS (w n : Int) : Int := if okW w then n % 2 ^ w.toNat else 0
def truthS (b : Bool) : Int := if b then 1 else 0
def movedS (w op a b : Int) : Int := if w ≤ b then 0 else if op = 6 then a * 2 ^ b.toNat else a / 2 ^ b.toNat
def opS (w op a b : Int) : Option Int :=
  if op = 1 then some (a + b) else if op = 2 then some (a - b) else if op = 3 then some (bits .and .i64 a b) else if op = 4 then some (bits .or .i64 a b)
  else if op = 5 then some (bits .xor .i64 a b) else if op = 6 ∨ op = 7 then some (movedS w op a b) else if op = 8 then some (a * b)
  else if op = 9 then some (truthS (decide (a < b))) else if op = 10 then some (truthS (a == b)) else none
def doS (w op a b : Int) : Int × Bool :=
  if okW w then match opS w op (maskS w a) (maskS w b) with
    | some n => (maskS w n, true)
    | none => (0, false)
  else (0, false)

theorem pow_small {w : Int} (h : okW w) : 0 < (2 : Int) ^ w.toNat ∧ (2 : Int) ^ w.toNat ≤ 65536 := by
  have h1 : w.toNat ≤ 16 := by unfold okW at h; omega
  have h2 : (2 : Nat) ^ w.toNat ≤ 2 ^ 16 := Nat.pow_le_pow_right (by decide) h1
  have h3 : 0 < (2 : Nat) ^ w.toNat := Nat.two_pow_pos _
  have h4 : ((2 ^ w.toNat : Nat) : Int) = (2 : Int) ^ w.toNat := by simp
  omega
theorem maskS_ok {w : Int} (h : okW w) (n : Int) : 0 ≤ maskS w n ∧ maskS w n < 2 ^ w.toNat := by
  obtain ⟨h1, h2⟩ := pow_small h
  unfold maskS
  rw [if_pos h]
  exact ⟨Int.emod_nonneg _ (by omega), Int.emod_lt_of_pos _ h1⟩
theorem maskS_range (w n : Int) : 0 ≤ maskS w n ∧ maskS w n < 65536 := by
  by_cases h : okW w
  · have h1 := maskS_ok h n
    have h2 := pow_small h
    omega
  · unfold maskS; rw [if_neg h]; omega
theorem wrap_add_mask (w a b : Int) : IntKind.wrap .i64 (maskS w a + maskS w b) = maskS w a + maskS w b := by
  have h1 := maskS_range w a
  have h2 := maskS_range w b
  exact wrap_small _ (by omega) (by omega)
theorem wrap_sub_mask (w a b : Int) : IntKind.wrap .i64 (maskS w a - maskS w b) = maskS w a - maskS w b := by
  have h1 := maskS_range w a
  have h2 := maskS_range w b
  exact wrap_small _ (by omega) (by omega)
theorem mul_small {a b : Int} (h1 : 0 ≤ a) (h2 : a ≤ 65536) (h3 : 0 ≤ b) (h4 : b ≤ 65536) : 0 ≤ a * b ∧ a * b ≤ 4294967296 := by
  refine ⟨Int.mul_nonneg h1 h3, ?_⟩
  calc a * b ≤ 65536 * b := Int.mul_le_mul_of_nonneg_right h2 h3
    _ ≤ 65536 * 65536 := Int.mul_le_mul_of_nonneg_left h4 (by decide)
    _ = 4294967296 := by decide
theorem wrap_mul_mask (w a b : Int) : IntKind.wrap .i64 (maskS w a * maskS w b) = maskS w a * maskS w b := by
  have h1 := maskS_range w a
  have h2 := maskS_range w b
  have := mul_small h1.1 (by omega) h2.1 (by omega)
  exact wrap_small _ (by omega) (by omega)
theorem maskS_id {w n : Int} (h : okW w) (h0 : 0 ≤ n) (h1 : n < 2 ^ w.toNat) : maskS w n = n := by
  unfold maskS
  rw [if_pos h]
  exact Int.emod_eq_of_lt h0 h1
theorem maskS_mask (w n : Int) : maskS w (maskS w n) = maskS w n := by
  by_cases h : okW w
  · exact maskS_id h (maskS_ok h n).1 (maskS_ok h n).2
  · unfold maskS; simp [h]
theorem tmod_mod (n s : Int) (hs : 0 < s) : (Int.tmod n s + s).tmod s = n % s := by
  have h1 := Int.tmod_lt_of_pos n hs
  have h2 : -s < Int.tmod n s := by
    have := Int.lt_tmod_of_pos n hs
    exact this
  rw [Int.tmod_eq_emod_of_nonneg (by omega), Int.add_emod_right]
  rw [Int.tmod_eq_emod]
  split
  · simp
  · rw [show ((s.natAbs : Int)) = s from Int.natAbs_of_nonneg (by omega), Int.sub_emod_right, Int.emod_emod_of_dvd n (Int.dvd_refl s)]

theorem nat_lt2 {n : Int} {w : Nat} (h0 : 0 ≤ n) (h1 : n < 2 ^ w) : n.toNat < 2 ^ w := by
  have : (n.toNat : Int) < ((2 ^ w : Nat) : Int) := by rw [Int.toNat_of_nonneg h0]; simpa using h1
  exact_mod_cast this
theorem bits_xorN (a b : Nat) (ha : a < 2 ^ 16) (hb : b < 2 ^ 16) : bits .xor .i64 a b = ((a ^^^ b : Nat) : Int) := by
  have hx : a ^^^ b < 2 ^ 16 := Nat.xor_lt_two_pow ha hb
  have ha' : a % 2 ^ IntKind.i64.bits = a := Nat.mod_eq_of_lt (by simp only [IntKind.bits]; omega)
  have hb' : b % 2 ^ IntKind.i64.bits = b := Nat.mod_eq_of_lt (by simp only [IntKind.bits]; omega)
  simp only [bits, BitVec.ofInt_natCast, BitVec.toNat_xor, BitVec.toNat_ofNat, ha', hb']
  exact wrap_small _ (by omega) (by omega)
theorem bits_andN (a b : Nat) (ha : a < 2 ^ 16) (hb : b < 2 ^ 16) : bits .and .i64 a b = ((a &&& b : Nat) : Int) :=
  (bits_nat .i64 16 (by decide) (fun n h0 h1 => wrap_small n (by omega) (by omega)) a b ha hb).1
theorem bits_orN (a b : Nat) (ha : a < 2 ^ 16) (hb : b < 2 ^ 16) : bits .or .i64 a b = ((a ||| b : Nat) : Int) :=
  (bits_nat .i64 16 (by decide) (fun n h0 h1 => wrap_small n (by omega) (by omega)) a b ha hb).2
/-- The bits of two words make a word. -/
theorem bits_word {w a b : Int} (h : okW w) (ha : 0 ≤ a ∧ a < 2 ^ w.toNat) (hb : 0 ≤ b ∧ b < 2 ^ w.toNat) (op : BinOp) (ho : op = .and ∨ op = .or ∨ op = .xor) : 0 ≤ bits op .i64 a b ∧ bits op .i64 a b < 2 ^ w.toNat := by
  have hw : w.toNat ≤ 16 := by unfold okW at h; omega
  have hp : (2 : Nat) ^ w.toNat ≤ 2 ^ 16 := Nat.pow_le_pow_right (by decide) hw
  have h1 := nat_lt2 ha.1 ha.2
  have h2 := nat_lt2 hb.1 hb.2
  have ea : a = (a.toNat : Int) := by omega
  have eb : b = (b.toNat : Int) := by omega
  have cast : ∀ n : Nat, n < 2 ^ w.toNat → 0 ≤ (n : Int) ∧ (n : Int) < 2 ^ w.toNat := fun n hn => ⟨by omega, by exact_mod_cast hn⟩
  rw [ea, eb]
  rcases ho with rfl | rfl | rfl
  · rw [bits_andN _ _ (by omega) (by omega)]; exact cast _ (Nat.and_lt_two_pow _ h2)
  · rw [bits_orN _ _ (by omega) (by omega)]; exact cast _ (Nat.or_lt_two_pow h1 h2)
  · rw [bits_xorN _ _ (by omega) (by omega)]; exact cast _ (Nat.xor_lt_two_pow h1 h2)

/-! ### Places and states -/
structure Place where
  reg : Bool
  n : Int
  secret : Bool
  deriving Inhabited, DecidableEq
instance : Row Place := ⟨fun p => [.bool p.reg, .int .i64 p.n, .bool p.secret], fun r => ⟨asBool (r.getD 0 .nilp), asInt (r.getD 1 .nilp), asBool (r.getD 2 .nilp)⟩, fun _ => rfl, 3, fun _ => rfl⟩
instance : NoRef Place := ⟨fun _ => rfl⟩
structure Obs where
  kind : Int
  at_ : Int
  deriving Inhabited, DecidableEq
instance : Row Obs := ⟨fun p => [.int .i64 p.kind, .int .i64 p.at_], fun r => ⟨asInt (r.getD 0 .nilp), asInt (r.getD 1 .nilp)⟩, fun _ => rfl, 2, fun _ => rfl⟩
instance : NoRef Obs := ⟨fun _ => rfl⟩
structure Dir where
  kind : Int
  n : Int
  deriving Inhabited, DecidableEq
instance : Row Dir := ⟨fun p => [.int .i64 p.kind, .int .i64 p.n], fun r => ⟨asInt (r.getD 0 .nilp), asInt (r.getD 1 .nilp)⟩, fun _ => rfl, 2, fun _ => rfl⟩
instance : NoRef Dir := ⟨fun _ => rfl⟩
@[simp] theorem rd_Place_reg (l : List Place) (i : Int) : asBool (List.getD (rowAt (rowsOn l) (Int.toNat i)) 0 .nilp) = (rd l i).reg := congrArg Place.reg (of_rowAt l i)
@[simp] theorem rd_Place_n (l : List Place) (i : Int) : asInt (List.getD (rowAt (rowsOn l) (Int.toNat i)) 1 .nilp) = (rd l i).n := congrArg Place.n (of_rowAt l i)
@[simp] theorem rd_Place_secret (l : List Place) (i : Int) : asBool (List.getD (rowAt (rowsOn l) (Int.toNat i)) 2 .nilp) = (rd l i).secret := congrArg Place.secret (of_rowAt l i)
@[simp] theorem rd_Obs_kind (l : List Obs) (i : Int) : asInt (List.getD (rowAt (rowsOn l) (Int.toNat i)) 0 .nilp) = (rd l i).kind := congrArg Obs.kind (of_rowAt l i)
@[simp] theorem rd_Obs_at_ (l : List Obs) (i : Int) : asInt (List.getD (rowAt (rowsOn l) (Int.toNat i)) 1 .nilp) = (rd l i).at_ := congrArg Obs.at_ (of_rowAt l i)
@[simp] theorem rd_Dir_kind (l : List Dir) (i : Int) : asInt (List.getD (rowAt (rowsOn l) (Int.toNat i)) 0 .nilp) = (rd l i).kind := congrArg Dir.kind (of_rowAt l i)
@[simp] theorem rd_Dir_n (l : List Dir) (i : Int) : asInt (List.getD (rowAt (rowsOn l) (Int.toNat i)) 1 .nilp) = (rd l i).n := congrArg Dir.n (of_rowAt l i)
structure Sta where
  r0 : Int
  r1 : Int
  r2 : Int
  r3 : Int
  mem : List Int
  stack : List Int
  pc : Int
  deriving Inhabited, DecidableEq
def Sta.cells (s : Sta) : List D := [.int .i64 s.r0, .int .i64 s.r1, .int .i64 s.r2, .int .i64 s.r3, .sl (rowsOn s.mem), .sl (rowsOn s.stack), .int .i64 s.pc]
/-- As an answer: of memory of its own. -/
def Sta.fresh (s : Sta) : List Rc := [.d (.int .i64 s.r0), .d (.int .i64 s.r1), .d (.int .i64 s.r2), .d (.int .i64 s.r3), .new 1 (rowsOn s.mem), .new 1 (rowsOn s.stack), .d (.int .i64 s.pc)]
def Sta.of : List D → Sta
  | [.int _ a, .int _ b, .int _ c, .int _ d, .sl m, .sl s, .int _ pc] => ⟨a, b, c, d, listOf Int m, listOf Int s, pc⟩
  | _ => default
@[simp] theorem Sta.of_cells (s : Sta) : Sta.of s.cells = s := by simp [Sta.of, Sta.cells]
def Sta.reg (s : Sta) (r : Int) : Int := if r = 0 then s.r0 else if r = 1 then s.r1 else if r = 2 then s.r2 else if r = 3 then s.r3 else 0
def Sta.setReg (s : Sta) (r n : Int) : Sta := if r = 0 then { s with r0 := n } else if r = 1 then { s with r1 := n } else if r = 2 then { s with r2 := n } else if r = 3 then { s with r3 := n } else s
def Prg.of : List D → Prg
  | [.int _ w, .int _ wi, .int _ fu, .int _ r0, .int _ r1, .int _ r2, .int _ r3, .sl ms, .sl ls, .sl is] => ⟨w, wi, fu, r0, r1, r2, r3, listOf PMem ms, listOf PLabel ls, listOf Ins is⟩
  | _ => default
@[simp] theorem Prg.of_cells (p : Prg) : Prg.of p.cells = p := by simp [Prg.of, Prg.cells]
theorem Prg.eta (p : Prg) : (⟨p.w, p.window, p.fuel, p.r0, p.r1, p.r2, p.r3, p.mems, p.labels, p.ins⟩ : Prg) = p := rfl
theorem Sta.eta (s : Sta) : (⟨s.r0, s.r1, s.r2, s.r3, s.mem, s.stack, s.pc⟩ : Sta) = s := rfl
def Prg.reg (p : Prg) (r : Int) : Int := if r = 0 then p.r0 else if r = 1 then p.r1 else if r = 2 then p.r2 else if r = 3 then p.r3 else 0

def cellsS : List PMem → Int
  | [] => 0
  | m :: ms => m.n + cellsS ms
def regPlace (n r : Int) : List Place := if n = 0 then [] else [⟨true, r, decide (n = 2)⟩]
def memPlace (n at_ : Int) (secret : Bool) : List Place := (List.range n.toNat).map fun (k : Nat) => ⟨false, at_ + k, secret⟩
def memPlaces : List PMem → Int → List Place
  | [], _ => []
  | m :: ms, at_ => memPlace m.n at_ m.secret ++ memPlaces ms (at_ + m.n)
def regPlaces (p : Prg) : List Place := regPlace p.r0 0 ++ regPlace p.r1 1 ++ regPlace p.r2 2 ++ regPlace p.r3 3
def placesS (p : Prg) : List Place := regPlaces p ++ memPlaces p.mems 0

/-- All numbers are such as Make's, or a text's. -/
structure Mems (ms : List PMem) : Prop where
  len : ms.length ≤ 100
  n : ∀ m ∈ ms, 0 ≤ m.n ∧ m.n ≤ 16

def putPlace (s : Sta) (q : Place) (n : Int) : Sta := if q.reg then s.setReg q.n n else { s with mem := s.mem.set q.n.toNat n }
def fillS (w : Int) : List Place → List Int → Sta → Sta
  | q :: qs, n :: ns, s => fillS w qs ns (putPlace s q (maskS w n))
  | _, _, s => s
def zeroSta (n : Nat) : Sta := ⟨0, 0, 0, 0, List.replicate n 0, [], 0⟩
def startS (p : Prg) (l : List Int) : Sta × Bool :=
  if l.length = (placesS p).length then (fillS p.w (placesS p) l (zeroSta (cellsS p.mems).toNat), true) else (zeroSta 0, false)
def numsS (s : Sta) : List Int := [s.r0, s.r1, s.r2, s.r3, (s.mem.length : Int)] ++ s.mem ++ [(s.stack.length : Int)] ++ s.stack ++ [s.pc]

/-! ### One by one -/
def atS (l : List Ins) (pc : Int) : Ins := if pc < 0 ∨ (l.length : Int) ≤ pc then ⟨12, 0, 0, false, 0, false, 0, ByteArray.empty, 0⟩ else rd l pc
def valS (w : Int) (s : Sta) (r : Bool) (n : Int) : Int := if r then maskS w (s.reg n) else maskS w n
def valueS (w : Int) (i : Ins) (a b d : Int) : Int := if i.kind = 4 then (if a = 0 then d else b) else (doS w i.op a b).1
def wayS (w : Int) (len : Int) (i : Ins) (pc a b : Int) : Int := if i.kind = 7 then min a len else if (doS w i.op a b).1 = 0 then pc + 1 else i.target
def stepS (p : Prg) (s : Sta) : Sta × List Obs × Int :=
  let i := atS p.ins s.pc
  let a := valS p.w s i.aR i.aN
  let b := valS p.w s i.bR i.bN
  let at_ := maskS p.w (a + b)
  if i.kind = 1 ∨ i.kind = 4 then ({ s.setReg i.d (valueS p.w i a b (maskS p.w (s.reg i.d))) with pc := s.pc + 1 }, [], 0)
  else if i.kind = 2 then if at_ < cellsS p.mems ∧ at_ < s.mem.length then ({ s.setReg i.d (rd s.mem at_) with pc := s.pc + 1 }, [⟨1, at_⟩], 0) else (s, [], 2)
  else if i.kind = 3 then if at_ < cellsS p.mems ∧ at_ < s.mem.length then ({ s with mem := s.mem.set at_.toNat (maskS p.w (s.reg i.d)), pc := s.pc + 1 }, [⟨2, at_⟩], 0) else (s, [], 2)
  else if i.kind = 5 ∨ i.kind = 7 then ({ s with pc := wayS p.w p.ins.length i s.pc a b }, [⟨3, wayS p.w p.ins.length i s.pc a b⟩], 0)
  else if i.kind = 6 then ({ s with pc := i.target }, [], 0)
  else if i.kind = 8 then if 4 ≤ s.stack.length then (s, [], 2) else ({ s with stack := s.stack ++ [s.pc + 1], pc := i.target }, [], 0)
  else if i.kind = 9 then if s.stack.length = 0 then (s, [], 2) else ({ s with stack := s.stack.dropLast, pc := rd s.stack (s.stack.length - 1) }, [⟨3, rd s.stack (s.stack.length - 1)⟩], 0)
  else if i.kind = 10 then ({ s with pc := s.pc + 1 }, [], 0)
  else if i.kind = 11 then (s, [], 1)
  else (s, [], 2)
def runS (p : Prg) : Nat → Sta → Sta × List Obs × Int × Int
  | 0, s => (s, [], 0, 0)
  | n + 1, s =>
    let (t, o, e) := stepS p s
    if e ≠ 0 then (t, o, 1, e) else
    let (u, q, k, e) := runS p n t
    (u, o ++ q, k + 1, e)
end Go.Proofs.Ytmhfhobaicklmaa.Ax
