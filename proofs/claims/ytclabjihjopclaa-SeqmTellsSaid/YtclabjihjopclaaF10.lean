/- Make's contract; augurylaw7.States. -/
import Derived.Test.YtclabjihjopclaaF9
namespace Go.Proofs.Ytclabjihjopclaa.Ax
open Go.RowKit
set_option linter.unusedVariables false
set_option linter.unusedSimpArgs false
noncomputable def c_make : FT (List Int × Unit) := ⟨23, fun l => [al l.1], rdL, fun _ => True, fun l => .agg ((makeS l.1).cells.map .d), true, fun l => by simp [al, rdL]⟩
theorem c_make_good : c_make.fe.Good Try.prog := FT.good c_make ⟨Try.f23, by kernel_rfl, by decide +kernel, by kernel_rfl⟩ (fun _ => rfl) fun l _ => (makeS_spec l.1).2
def rdPLI : List A → Prg × List Int × Int
  | [.agg l, .c (.sl m), .c (.int _ i)] => (Prg.of l, listOf Int m, i)
  | _ => default
def rss (x : Sta × Sta) : RR := .tup [.inr x.1.fresh, .inr x.2.fresh]
/-- So many numbers, the first k of them told. -/
def toldS (n : Nat) (f : Nat → Int) (k : Nat) : List Int := (List.range n).map fun j => if j < k then f j else 0
theorem told_len (n : Nat) (f : Nat → Int) (k : Nat) : (toldS n f k).length = n := by simp [toldS]
theorem told_zero (n : Nat) (f : Nat → Int) : toldS n f 0 = List.replicate n 0 := by
  apply List.ext_getElem <;> simp [toldS]
theorem told_set (n : Nat) (f : Nat → Int) (k : Nat) : (toldS n f k).set k (f k) = toldS n f (k + 1) := by
  apply List.ext_getElem
  · simp [toldS]
  · intro i h1 h2
    simp only [toldS, List.getElem_set, List.getElem_map, List.getElem_range]
    by_cases h : k = i
    · subst h; simp
    · rw [if_neg h]
      by_cases h3 : i < k
      · rw [if_pos h3, if_pos (by omega)]
      · rw [if_neg h3, if_neg (by omega)]
theorem told_set2 (n : Nat) (f : Nat → Int) (k : Nat) (v : Int) : ((toldS n f k).set k v).set k (f k) = toldS n f (k + 1) := by rw [List.set_set, told_set]
theorem told_skip (n : Nat) (f : Nat → Int) (k : Nat) (h : f k = 0) : toldS n f k = toldS n f (k + 1) := by
  apply List.ext_getElem
  · simp [toldS]
  · intro i h1 h2
    simp only [toldS, List.getElem_map, List.getElem_range]
    by_cases h3 : k = i
    · subst h3; simp [h]
    · by_cases h4 : i < k
      · rw [if_pos h4, if_pos (by omega)]
      · rw [if_neg h4, if_neg (by omega)]
def padF (l : List Int) (j : Nat) : Int := if (j : Int) < l.length then rd l j else 0
def twinF (how : Int) (q : List Place) (l : List Int) (j : Nat) : Int := if (j : Int) < l.length then (if (rd q j).secret = true ∨ bits .and .i64 how 7 = 0 then Int.fdiv (rd l j) 16 else rd l j) else 0
def statesS (p : Prg) (l : List Int) (how : Int) : Sta × Sta := ((startS p (toldS (placesS p).length (padF l) (placesS p).length)).1, (startS p (toldS (placesS p).length (twinF how (placesS p) l) (placesS p).length)).1)
def c_states : FT (Prg × List Int × Int) := ⟨24, fun x => [ap x.1, al x.2.1, ai x.2.2], rdPLI, fun x => Mems x.1.mems, fun x => rss (statesS x.1 x.2.1 x.2.2), false, fun x => by simp [ap, al, ai, rdPLI]⟩
noncomputable def a_states : FnA := (fnA Try.prog Try.f24 3 [(4, [1, 2, 3, 6, 7, 8, 9, 10, 25, 26])]).getD ⟨0, .skip, [], []⟩
def s_states : Sp := spT [c_rPlaces.fe, c_rStart.fe]
theorem s_states_sound : s_states.sound Try.prog := spT_sound fun e he => by
  simp only [List.mem_cons, List.not_mem_nil, or_false] at he
  rcases he with rfl | rfl
  · exact c_rPlaces_good
  · exact c_rStart_good
def F_states (p : Prg) (l : List Int) (how : Int) (q : List Place) (X Y : List (List D)) (nx ny : Nat) (k : Int) : St := ⟨mkS 80 [(1, vr (rowsOn l)), (2, vi how), (3, vp 192), (6, vp 384), (7, vp 448), (8, vo 1088 (rowsOn q).length), (9, vo 1280 nx), (10, vo 1472 ny), (25, vi (rowsOn q).length), (26, vi k)],
  [(192, bx p.cells), (384, bc [.d (.int .i64 0), .d (.int .i64 0), .d (.int .i64 0), .d (.int .i64 0), .nil, .nil, .d (.int .i64 0)]), (448, bc [.d (.int .i64 0), .d (.int .i64 0), .d (.int .i64 0), .d (.int .i64 0), .nil, .nil, .d (.int .i64 0)]), (1088, ba 3 (rowsOn q)), (1280, ba 1 X), (1472, ba 1 Y)]⟩
set_option maxRecDepth 100000 in
theorem t_states (p : Prg) (l : List Int) (how : Int) : a_states.start s_states 400 [ap p, al l, ai how] =
(VC.need (PreOk c_rPlaces p [A.agg (Prg.cells p)])
(VC.need ((↑(List.length (rowsOn (placesS { w := p.w, window := p.window, fuel := p.fuel, r0 := p.r0, r1 := p.r1, r2 := p.r2, r3 := p.r3, mems := listOf PMem (rowsOn p.mems), labels := listOf PLabel (rowsOn p.labels), ins := listOf Ins (rowsOn p.ins) }))) : Int) = (↑(List.length (rowsOn (placesS { w := p.w, window := p.window, fuel := p.fuel, r0 := p.r0, r1 := p.r1, r2 := p.r2, r3 := p.r3, mems := listOf PMem (rowsOn p.mems), labels := listOf PLabel (rowsOn p.labels), ins := listOf Ins (rowsOn p.ins) }))) : Int) ∧ (0 : Int) ≤ (↑(List.length (rowsOn (placesS { w := p.w, window := p.window, fuel := p.fuel, r0 := p.r0, r1 := p.r1, r2 := p.r2, r3 := p.r3, mems := listOf PMem (rowsOn p.mems), labels := listOf PLabel (rowsOn p.labels), ins := listOf Ins (rowsOn p.ins) }))) : Int) ∧ (9 : Int) * (↑(List.length (rowsOn (placesS { w := p.w, window := p.window, fuel := p.fuel, r0 := p.r0, r1 := p.r1, r2 := p.r2, r3 := p.r3, mems := listOf PMem (rowsOn p.mems), labels := listOf PLabel (rowsOn p.labels), ins := listOf Ins (rowsOn p.ins) }))) : Int) ≤ (140737488355328 : Int))
(VC.need ((↑(List.length (rowsOn (placesS { w := p.w, window := p.window, fuel := p.fuel, r0 := p.r0, r1 := p.r1, r2 := p.r2, r3 := p.r3, mems := listOf PMem (rowsOn p.mems), labels := listOf PLabel (rowsOn p.labels), ins := listOf Ins (rowsOn p.ins) }))) : Int) = (↑(List.length (rowsOn (placesS { w := p.w, window := p.window, fuel := p.fuel, r0 := p.r0, r1 := p.r1, r2 := p.r2, r3 := p.r3, mems := listOf PMem (rowsOn p.mems), labels := listOf PLabel (rowsOn p.labels), ins := listOf Ins (rowsOn p.ins) }))) : Int) ∧ (0 : Int) ≤ (↑(List.length (rowsOn (placesS { w := p.w, window := p.window, fuel := p.fuel, r0 := p.r0, r1 := p.r1, r2 := p.r2, r3 := p.r3, mems := listOf PMem (rowsOn p.mems), labels := listOf PLabel (rowsOn p.labels), ins := listOf Ins (rowsOn p.ins) }))) : Int) ∧ (9 : Int) * (↑(List.length (rowsOn (placesS { w := p.w, window := p.window, fuel := p.fuel, r0 := p.r0, r1 := p.r1, r2 := p.r2, r3 := p.r3, mems := listOf PMem (rowsOn p.mems), labels := listOf PLabel (rowsOn p.labels), ins := listOf Ins (rowsOn p.ins) }))) : Int) ≤ (140737488355328 : Int))
(FnA.at_ a_states 0 (F_states p l how (placesS { w := p.w, window := p.window, fuel := p.fuel, r0 := p.r0, r1 := p.r1, r2 := p.r2, r3 := p.r3, mems := listOf PMem (rowsOn p.mems), labels := listOf PLabel (rowsOn p.labels), ins := listOf Ins (rowsOn p.ins) }) (List.replicate (Int.toNat (↑(List.length (rowsOn (placesS { w := p.w, window := p.window, fuel := p.fuel, r0 := p.r0, r1 := p.r1, r2 := p.r2, r3 := p.r3, mems := listOf PMem (rowsOn p.mems), labels := listOf PLabel (rowsOn p.labels), ins := listOf Ins (rowsOn p.ins) }))) : Int)) [D.int IntKind.i64 (0 : Int)]) (List.replicate (Int.toNat (↑(List.length (rowsOn (placesS { w := p.w, window := p.window, fuel := p.fuel, r0 := p.r0, r1 := p.r1, r2 := p.r2, r3 := p.r3, mems := listOf PMem (rowsOn p.mems), labels := listOf PLabel (rowsOn p.labels), ins := listOf Ins (rowsOn p.ins) }))) : Int)) [D.int IntKind.i64 (0 : Int)]) (Int.toNat (↑(List.length (rowsOn (placesS { w := p.w, window := p.window, fuel := p.fuel, r0 := p.r0, r1 := p.r1, r2 := p.r2, r3 := p.r3, mems := listOf PMem (rowsOn p.mems), labels := listOf PLabel (rowsOn p.labels), ins := listOf Ins (rowsOn p.ins) }))) : Int)) (Int.toNat (↑(List.length (rowsOn (placesS { w := p.w, window := p.window, fuel := p.fuel, r0 := p.r0, r1 := p.r1, r2 := p.r2, r3 := p.r3, mems := listOf PMem (rowsOn p.mems), labels := listOf PLabel (rowsOn p.labels), ins := listOf Ins (rowsOn p.ins) }))) : Int)) (0 : Int)))))) := by kernel_rfl
set_option maxRecDepth 100000 in
theorem t_states0 (p : Prg) (l : List Int) (how : Int) (q : List Place) (X Y : List (List D)) (nx ny : Nat) (k : Int) : a_states.round s_states 400 0 (F_states p l how q X Y nx ny k) =
(VC.br (decide (k < (↑(List.length (rowsOn q)) : Int)))
 (VC.br (decide (k < (↑(List.length (rowsOn l)) : Int)))
  (VC.need ((0 : Int) ≤ k ∧ k < (↑(List.length (rowsOn l)) : Int) ∧ List.length (rowAt (rowsOn l) (Int.toNat k)) = (1 : Nat))
  (VC.need (okSh [Kd.int IntKind.i64] (rowAt (rowsOn l) (Int.toNat k)))
  (VC.need ((0 : Int) ≤ k ∧ k < (↑(List.length (rowsOn l)) : Int) ∧ List.length (rowAt (rowsOn l) (Int.toNat k)) = (1 : Nat))
  (VC.need (okSh [Kd.int IntKind.i64] (rowAt (rowsOn l) (Int.toNat k)))
  (VC.need ((0 : Int) ≤ k ∧ k < (↑nx : Int))
  (VC.need (Int.toNat k < List.length X ∧ List.length (rowAt X (Int.toNat k)) = (1 : Nat) ∧ (1 : Nat) ≤ (1 : Nat))
  (VC.need ((0 : Int) ≤ k ∧ k < (↑ny : Int))
  (VC.need (Int.toNat k < List.length Y ∧ List.length (rowAt Y (Int.toNat k)) = (1 : Nat) ∧ (1 : Nat) ≤ (1 : Nat))
  (VC.need ((0 : Int) ≤ k ∧ k < (↑(List.length (rowsOn q)) : Int))
  (VC.need (Int.toNat k < List.length (rowsOn q) ∧ List.length (rowAt (rowsOn q) (Int.toNat k)) = (3 : Nat) ∧ okSh [Kd.bool] (List.drop (2 : Nat) (rowAt (rowsOn q) (Int.toNat k))))
  (VC.br (asBool (List.getD (List.drop (2 : Nat) (rowAt (rowsOn q) (Int.toNat k))) (0 : Nat) D.nilp))
   (VC.need ((0 : Int) ≤ k ∧ k < (↑(List.length (rowsOn l)) : Int) ∧ List.length (rowAt (rowsOn l) (Int.toNat k)) = (1 : Nat))
   (VC.need (okSh [Kd.int IntKind.i64] (rowAt (rowsOn l) (Int.toNat k)))
   (VC.need ((0 : Int) ≤ (4 : Int))
   (VC.need ((0 : Int) ≤ k ∧ k < (↑ny : Int))
   (VC.need (Int.toNat k < List.length (List.set Y (Int.toNat k) (splice (rowAt Y (Int.toNat k)) (0 : Nat) [D.int IntKind.i64 (asInt (List.getD (rowAt (rowsOn l) (Int.toNat k)) (0 : Nat) D.nilp))])) ∧ List.length (rowAt (List.set Y (Int.toNat k) (splice (rowAt Y (Int.toNat k)) (0 : Nat) [D.int IntKind.i64 (asInt (List.getD (rowAt (rowsOn l) (Int.toNat k)) (0 : Nat) D.nilp))])) (Int.toNat k)) = (1 : Nat) ∧ (1 : Nat) ≤ (1 : Nat))
   (FnA.at_ a_states 0 (F_states p l how q (List.set X (Int.toNat k) (splice (rowAt X (Int.toNat k)) (0 : Nat) [D.int IntKind.i64 (asInt (List.getD (rowAt (rowsOn l) (Int.toNat k)) (0 : Nat) D.nilp))])) (List.set (List.set Y (Int.toNat k) (splice (rowAt Y (Int.toNat k)) (0 : Nat) [D.int IntKind.i64 (asInt (List.getD (rowAt (rowsOn l) (Int.toNat k)) (0 : Nat) D.nilp))])) (Int.toNat k) (splice (rowAt (List.set Y (Int.toNat k) (splice (rowAt Y (Int.toNat k)) (0 : Nat) [D.int IntKind.i64 (asInt (List.getD (rowAt (rowsOn l) (Int.toNat k)) (0 : Nat) D.nilp))])) (Int.toNat k)) (0 : Nat) [D.int IntKind.i64 (Int.fdiv (asInt (List.getD (rowAt (rowsOn l) (Int.toNat k)) (0 : Nat) D.nilp)) (16 : Int))])) nx ny (IntKind.wrap IntKind.i64 (k + (1 : Int))))))))))
   (VC.br (bits BinOp.and IntKind.i64 how (7 : Int) == (0 : Int))
    (VC.need ((0 : Int) ≤ k ∧ k < (↑(List.length (rowsOn l)) : Int) ∧ List.length (rowAt (rowsOn l) (Int.toNat k)) = (1 : Nat))
    (VC.need (okSh [Kd.int IntKind.i64] (rowAt (rowsOn l) (Int.toNat k)))
    (VC.need ((0 : Int) ≤ (4 : Int))
    (VC.need ((0 : Int) ≤ k ∧ k < (↑ny : Int))
    (VC.need (Int.toNat k < List.length (List.set Y (Int.toNat k) (splice (rowAt Y (Int.toNat k)) (0 : Nat) [D.int IntKind.i64 (asInt (List.getD (rowAt (rowsOn l) (Int.toNat k)) (0 : Nat) D.nilp))])) ∧ List.length (rowAt (List.set Y (Int.toNat k) (splice (rowAt Y (Int.toNat k)) (0 : Nat) [D.int IntKind.i64 (asInt (List.getD (rowAt (rowsOn l) (Int.toNat k)) (0 : Nat) D.nilp))])) (Int.toNat k)) = (1 : Nat) ∧ (1 : Nat) ≤ (1 : Nat))
    (FnA.at_ a_states 0 (F_states p l how q (List.set X (Int.toNat k) (splice (rowAt X (Int.toNat k)) (0 : Nat) [D.int IntKind.i64 (asInt (List.getD (rowAt (rowsOn l) (Int.toNat k)) (0 : Nat) D.nilp))])) (List.set (List.set Y (Int.toNat k) (splice (rowAt Y (Int.toNat k)) (0 : Nat) [D.int IntKind.i64 (asInt (List.getD (rowAt (rowsOn l) (Int.toNat k)) (0 : Nat) D.nilp))])) (Int.toNat k) (splice (rowAt (List.set Y (Int.toNat k) (splice (rowAt Y (Int.toNat k)) (0 : Nat) [D.int IntKind.i64 (asInt (List.getD (rowAt (rowsOn l) (Int.toNat k)) (0 : Nat) D.nilp))])) (Int.toNat k)) (0 : Nat) [D.int IntKind.i64 (Int.fdiv (asInt (List.getD (rowAt (rowsOn l) (Int.toNat k)) (0 : Nat) D.nilp)) (16 : Int))])) nx ny (IntKind.wrap IntKind.i64 (k + (1 : Int))))))))))
    (FnA.at_ a_states 0 (F_states p l how q (List.set X (Int.toNat k) (splice (rowAt X (Int.toNat k)) (0 : Nat) [D.int IntKind.i64 (asInt (List.getD (rowAt (rowsOn l) (Int.toNat k)) (0 : Nat) D.nilp))])) (List.set Y (Int.toNat k) (splice (rowAt Y (Int.toNat k)) (0 : Nat) [D.int IntKind.i64 (asInt (List.getD (rowAt (rowsOn l) (Int.toNat k)) (0 : Nat) D.nilp))])) nx ny (IntKind.wrap IntKind.i64 (k + (1 : Int)))))))))))))))))
  (FnA.at_ a_states 0 (F_states p l how q X Y nx ny (IntKind.wrap IntKind.i64 (k + (1 : Int))))))
 (VC.need (PreOk c_rStart (Prg.of (Prg.cells p), listOf Int X) [A.agg (Prg.cells p), A.c (D.sl X)])
 (VC.need (PreOk c_rStart (Prg.of (Prg.cells p), listOf Int Y) [A.agg (Prg.cells p), A.c (D.sl Y)])
 (VC.ret (some (RR.tup [Sum.inr [Rc.d (D.int IntKind.i64 (startS (Prg.of (Prg.cells p)) (listOf Int X)).fst.r0), Rc.d (D.int IntKind.i64 (startS (Prg.of (Prg.cells p)) (listOf Int X)).fst.r1), Rc.d (D.int IntKind.i64 (startS (Prg.of (Prg.cells p)) (listOf Int X)).fst.r2), Rc.d (D.int IntKind.i64 (startS (Prg.of (Prg.cells p)) (listOf Int X)).fst.r3), Rc.new (1 : Nat) (rowsOn (startS (Prg.of (Prg.cells p)) (listOf Int X)).fst.mem), Rc.new (1 : Nat) (rowsOn (startS (Prg.of (Prg.cells p)) (listOf Int X)).fst.stack), Rc.d (D.int IntKind.i64 (startS (Prg.of (Prg.cells p)) (listOf Int X)).fst.pc)], Sum.inr [Rc.d (D.int IntKind.i64 (startS (Prg.of (Prg.cells p)) (listOf Int Y)).fst.r0), Rc.d (D.int IntKind.i64 (startS (Prg.of (Prg.cells p)) (listOf Int Y)).fst.r1), Rc.d (D.int IntKind.i64 (startS (Prg.of (Prg.cells p)) (listOf Int Y)).fst.r2), Rc.d (D.int IntKind.i64 (startS (Prg.of (Prg.cells p)) (listOf Int Y)).fst.r3), Rc.new (1 : Nat) (rowsOn (startS (Prg.of (Prg.cells p)) (listOf Int Y)).fst.mem), Rc.new (1 : Nat) (rowsOn (startS (Prg.of (Prg.cells p)) (listOf Int Y)).fst.stack), Rc.d (D.int IntKind.i64 (startS (Prg.of (Prg.cells p)) (listOf Int Y)).fst.pc)]])))))) := by kernel_rfl
theorem l_states0 (p : Prg) (l : List Int) (how : Int) (q : List Place) (hm : Mems p.mems) (hq : q = placesS p) (hl : q.length ≤ 10000) : ∀ i : Int × List (List D) × List (List D) × Nat × Nat, (fun (i : Int × List (List D) × List (List D) × Nat × Nat) => 0 ≤ i.1 ∧ i.1 ≤ q.length ∧ OnL i.2.1 i.2.2.2.1 (toldS q.length (padF l) i.1.toNat) ∧ OnL i.2.2.1 i.2.2.2.2 (toldS q.length (twinF how q l) i.1.toNat)) i → (a_states.at_ 0 ((fun (i : Int × List (List D) × List (List D) × Nat × Nat) => F_states p l how q i.2.1 i.2.2.1 i.2.2.2.1 i.2.2.2.2 i.1) i)).holds s_states.cx a_states.rs (fun r => r.le (rss (statesS p l how))) := by
  refine loop_rule (a := a_states) (j := 0) (m := 400) s_states_sound (fun (i : Int × List (List D) × List (List D) × Nat × Nat) => F_states p l how q i.2.1 i.2.2.1 i.2.2.2.1 i.2.2.2.2 i.1) (fun (i : Int × List (List D) × List (List D) × Nat × Nat) => 0 ≤ i.1 ∧ i.1 ≤ q.length ∧ OnL i.2.1 i.2.2.2.1 (toldS q.length (padF l) i.1.toNat) ∧ OnL i.2.2.1 i.2.2.2.2 (toldS q.length (twinF how q l) i.1.toNat)) (fun (i : Int × List (List D) × List (List D) × Nat × Nat) => ((q.length : Int) - i.1).toNat) ?_
  rintro ⟨k, X, Y, nx, ny⟩ h_inv ih
  try dsimp only at h_inv
  replace ih := fun (v0 : Int) (v1 : List (List D)) (v2 : List (List D)) (v3 : Nat) (v4 : Nat) => ih (v0, v1, v2, v3, v4)
  try dsimp only at ih
  show VC.holds _ _ _ (a_states.round s_states 400 0 (F_states p l how q X Y nx ny k))
  rw [t_states0]
  try simp only [asRows_sl, asInt_int, asBool_bool, asStr_str, listOf_rowsOn, List.drop_zero, Prg.eta, Sta.eta, rowsOn_length, getD_drop, Nat.reduceAdd, rd_int, rd_PMem_name, rd_PMem_secret, rd_PMem_n, rd_PLabel_name, rd_PLabel_at_, rd_Ins_kind, rd_Ins_op, rd_Ins_d, rd_Ins_aR, rd_Ins_aN, rd_Ins_bR, rd_Ins_bN, rd_Ins_name, rd_Ins_target, rd_Ent_pc, rd_Ent_val, rd_Ent_addr, rd_Ent_fro, rd_Ent_next, rd_Ent_done, rd_Ent_known, rd_Ent_fault, rd_Place_reg, rd_Place_n, rd_Place_secret, rd_Obs_kind, rd_Obs_at_, rd_Dir_kind, rd_Dir_n]
  obtain ⟨h0, h1, h2, h3⟩ := h_inv
  have w1 : IntKind.wrap .i64 (k + 1) = k + 1 := wrap_small _ (by omega) (by omega)
  rw [w1]
  have l2 := h2.2
  have l3 := h3.2
  rw [told_len] at l2 l3
  repeat' first
    | refine br_not ?_
    | refine br_dec (fun _ => ?_) (fun _ => ?_)
    | refine br_beq (fun _ => ?_) (fun _ => ?_)
    | refine br_bne (fun _ => ?_) (fun _ => ?_)
    | refine br_holds (fun _ => ?_) (fun _ => ?_)
    | refine ⟨PreOk.mk ?_ rfl, ?_⟩
    | refine ⟨idx_ok _ _ _ rfl (by omega) (by omega), ?_⟩
    | refine ⟨okSh_ok _ _ _ (fun _ => rfl) (by omega) (by omega), ?_⟩
    | refine ⟨okSh_okD _ _ _ _ (fun _ => rfl) (by omega) (by omega), ?_⟩
    | refine ⟨aload_ok _ _ rfl (fun _ => rfl) (by omega) (by omega), ?_⟩
    | refine ⟨aload_okD _ _ _ rfl (fun _ => rfl) (by omega) (by omega), ?_⟩
    | refine ⟨astore_ok (by assumption) rfl (by omega) (by omega) (by decide), ?_⟩
    | refine ⟨app_ok (by assumption) rfl rfl (by simp only [List.length_cons, List.length_nil]; omega), ?_⟩
    | refine need_holds ?_ fun _ => ?_
    | refine all_holds fun y hy => ?_
    | refine ret_le ?_
    | refine ih _ _ _ _ _ ?_ ?_
  all_goals try omega
  all_goals try have hk : k < q.length := by assumption
  all_goals have m2 := told_len q.length (padF l) k.toNat
  all_goals have m3 := told_len q.length (twinF how q l) k.toNat
  all_goals have m4 : ((toldS q.length (twinF how q l) k.toNat).set k.toNat (rd l k)).length = q.length := by simpa using m3
  all_goals try exact astore_ok h2 rfl (by omega) (by omega) (by decide)
  all_goals try exact astore_ok h3 rfl (by omega) (by omega) (by decide)
  all_goals try exact astore_ok (h3.set (by omega) (by omega) (rd l k)) rfl (by omega) (by omega) (by decide)
  all_goals have ek : (k + 1).toNat = k.toNat + 1 := by omega
  all_goals have ek' : ((k.toNat : Nat) : Int) = k := by omega
  all_goals try have pf : padF l k.toNat = rd l k := by unfold padF; rw [ek', if_pos ‹_›]
  · have tf : twinF how q l k.toNat = Int.fdiv (rd l k) 16 := by unfold twinF; rw [ek', if_pos ‹_›, if_pos (Or.inl ‹_›)]
    have g2 := h2.set h0 (by omega) (rd l k)
    have g3 := (h3.set h0 (by omega) (rd l k)).set h0 (by omega) (Int.fdiv (rd l k) 16)
    rw [← pf, told_set] at g2
    rw [← tf, told_set2] at g3
    rw [ek]
    exact ⟨by omega, by omega, by rw [← pf]; exact g2, by rw [← tf]; exact g3⟩
  · have tf : twinF how q l k.toNat = Int.fdiv (rd l k) 16 := by unfold twinF; rw [ek', if_pos ‹_›, if_pos (Or.inr ‹_›)]
    have g2 := h2.set h0 (by omega) (rd l k)
    have g3 := (h3.set h0 (by omega) (rd l k)).set h0 (by omega) (Int.fdiv (rd l k) 16)
    rw [← pf, told_set] at g2
    rw [← tf, told_set2] at g3
    rw [ek]
    exact ⟨by omega, by omega, by rw [← pf]; exact g2, by rw [← tf]; exact g3⟩
  · have tf : twinF how q l k.toNat = rd l k := by unfold twinF; rw [ek', if_pos ‹_›, if_neg (by rintro (h | h) <;> simp_all)]
    have g2 := h2.set h0 (by omega) (rd l k)
    have g3 := h3.set h0 (by omega) (rd l k)
    rw [← pf, told_set] at g2
    rw [← tf, told_set] at g3
    rw [ek]
    exact ⟨by omega, by omega, by rw [← pf]; exact g2, by rw [← tf]; exact g3⟩
  · have hn : ¬ ((k.toNat : Nat) : Int) < l.length := by omega
    rw [ek, ← told_skip _ _ _ (show padF l k.toNat = 0 from if_neg hn), ← told_skip _ _ _ (show twinF how q l k.toNat = 0 from if_neg hn)]
    exact ⟨by omega, by omega, h2, h3⟩
  · obtain ⟨rfl, rfl⟩ := h2
    simp only [listOf_rowsOn, Prg.of_cells]
    exact PreOk.mk hm rfl
  · obtain ⟨rfl, rfl⟩ := h3
    simp only [listOf_rowsOn, Prg.of_cells]
    exact PreOk.mk hm rfl
  · obtain ⟨rfl, rfl⟩ := h2
    obtain ⟨rfl, rfl⟩ := h3
    have hk : k.toNat = q.length := by omega
    subst hq
    rw [hk]
    simp only [listOf_rowsOn, Prg.of_cells]
    exact RR.le_refl _
theorem c_states_good : c_states.fe.Good Try.prog := by
  refine FT.good c_states ⟨Try.f24, by kernel_rfl, by decide +kernel, by kernel_rfl⟩ (fun ⟨p, l, how⟩ => by first | rfl | simp [c_states, rrRef, rplaces, Sta.fresh, rss]) fun ⟨p, l, how⟩ hp => ?_
  refine acalls_le s_states_sound (fn := Try.f24) (a := a_states) (nargs := 3) (tbl := [(4, [1, 2, 3, 6, 7, 8, 9, 10, 25, 26])]) (by kernel_rfl) (by kernel_rfl) rfl (m := 400) ?_
  show VC.holds _ _ _ (a_states.start s_states 400 [ap p, al l, ai how])
  rw [t_states]
  try simp only [asRows_sl, asInt_int, asBool_bool, asStr_str, listOf_rowsOn, List.drop_zero, Prg.eta, Sta.eta, rowsOn_length, getD_drop, Nat.reduceAdd, rd_int, rd_PMem_name, rd_PMem_secret, rd_PMem_n, rd_PLabel_name, rd_PLabel_at_, rd_Ins_kind, rd_Ins_op, rd_Ins_d, rd_Ins_aR, rd_Ins_aN, rd_Ins_bR, rd_Ins_bN, rd_Ins_name, rd_Ins_target, rd_Ent_pc, rd_Ent_val, rd_Ent_addr, rd_Ent_fro, rd_Ent_next, rd_Ent_done, rd_Ent_known, rd_Ent_fault, rd_Place_reg, rd_Place_n, rd_Place_secret, rd_Obs_kind, rd_Obs_at_, rd_Dir_kind, rd_Dir_n]
  try simp only [c_states] at hp
  have hm : Mems p.mems := hp
  have hpl := places_len p hm
  have e : c_states.ans (p, l, how) = rss (statesS p l how) := rfl
  rw [e]
  repeat' first
    | refine br_not ?_
    | refine br_dec (fun _ => ?_) (fun _ => ?_)
    | refine br_beq (fun _ => ?_) (fun _ => ?_)
    | refine br_bne (fun _ => ?_) (fun _ => ?_)
    | refine br_holds (fun _ => ?_) (fun _ => ?_)
    | refine ⟨PreOk.mk ?_ rfl, ?_⟩
    | refine ⟨idx_ok _ _ _ rfl (by omega) (by omega), ?_⟩
    | refine ⟨okSh_ok _ _ _ (fun _ => rfl) (by omega) (by omega), ?_⟩
    | refine ⟨okSh_okD _ _ _ _ (fun _ => rfl) (by omega) (by omega), ?_⟩
    | refine ⟨aload_ok _ _ rfl (fun _ => rfl) (by omega) (by omega), ?_⟩
    | refine ⟨aload_okD _ _ _ rfl (fun _ => rfl) (by omega) (by omega), ?_⟩
    | refine ⟨astore_ok (by assumption) rfl (by omega) (by omega) (by decide), ?_⟩
    | refine ⟨app_ok (by assumption) rfl rfl (by simp only [List.length_cons, List.length_nil]; omega), ?_⟩
    | refine need_holds ?_ fun _ => ?_
    | refine all_holds fun y hy => ?_
    | refine ret_le ?_
  · exact hm
  · exact ⟨trivial, by omega, by omega⟩
  · exact ⟨trivial, by omega, by omega⟩
  · have er : ∀ n : Nat, (List.replicate n [D.int IntKind.i64 0]) = rowsOn (List.replicate n (0 : Int)) := fun n => (OnL.rep n (0 : Int)).1
    rw [Int.toNat_natCast]
    refine l_states0 p l how (placesS p) hm rfl (by omega) (0, _, _, _, _) ⟨by simp, by simp, ?_, ?_⟩
    · rw [show Int.toNat 0 = 0 from rfl, told_zero]; exact OnL.rep _ (0 : Int)
    · rw [show Int.toNat 0 = 0 from rfl, told_zero]; exact OnL.rep _ (0 : Int)
end Go.Proofs.Ytclabjihjopclaa.Ax
