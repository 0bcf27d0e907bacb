/- Several texts in one, in their order. -/
import Derived.Test.YtclabjihjopclaaPart3
section
/- Layer 7, by the document: Low. -/
namespace Go.Proofs.Ytclabjihjopclaa.Ax
open Go.RowKit
set_option linter.unusedVariables false
set_option linter.unusedSimpArgs false
def c_rLow : FT (Prg × Sta × Sta) := ⟨54, fun x => [ap x.1, as_ x.2.1, as_ x.2.2], rdPSS, fun x => Mems x.1.mems ∧ SmallS x.2.1 ∧ SmallS x.2.2, fun x => rb (lowS x.1 x.2.2 x.2.1), false, fun s => by simp [as_, ap, rdPSS]⟩
noncomputable def a_rLow : FnA := (fnA Try.prog Try.f54 3 [(7, [4, 7, 8, 9, 1000007000000900001003, 3000512004000900002001])]).getD ⟨0, .skip, [], []⟩
noncomputable def s_rLow : Sp := spT [c_rPlaces.gfe v_rPlaces sh_rPlaces e_rPlaces, c_rCells.fe, c_rSame.gfe v_rSame sh_rSame e_rSame]
theorem s_rLow_sound : s_rLow.sound Try.prog := spT_sound fun e he => by
  simp only [List.mem_cons, List.not_mem_nil, or_false] at he
  rcases he with rfl | rfl | rfl
  · exact FT.gfe_good c_rPlaces_good
  · exact c_rCells_good
  · exact FT.gfe_good c_rSame_good
def F_rLow (r0 r1 r2 r3 : Int) (M : List (List D)) (n : Nat) (stk : List Int) (pc : Int) (t : Sta) (q : List Place) (k : Int) : St := ⟨mkS 87 [(4, vp 256), (7, vo 900001 (rowsOn q).length), (8, vp 512), (9, vi k)],
  [(256, bx t.cells), (512, bc [.d (.int .i64 r0), .d (.int .i64 r1), .d (.int .i64 r2), .d (.int .i64 r3), .own 900002 1 n, .d (.sl (rowsOn stk)), .d (.int .i64 pc)]), (900001, ba 3 (rowsOn q)), (900002, ba 1 M)]⟩
set_option maxRecDepth 100000 in
theorem t_rLow (p : Prg) (s t : Sta) : a_rLow.start s_rLow 400 [ap p, as_ s, as_ t] =
(VC.need (PreOk c_rPlaces p [A.agg (Prg.cells p)])
(VC.all (v_rPlaces { w := p.w, window := p.window, fuel := p.fuel, r0 := p.r0, r1 := p.r1, r2 := p.r2, r3 := p.r3, mems := listOf PMem (rowsOn p.mems), labels := listOf PLabel (rowsOn p.labels), ins := listOf Ins (rowsOn p.ins) }) fun (y3 : List Place) =>
(VC.need (PreOk c_rCells p [A.agg (Prg.cells p)])
(VC.br ((↑(List.length (rowsOn s.mem)) : Int) != cellsS (listOf PMem (rowsOn p.mems)))
 (VC.need (PreOk c_rSame (Sta.of (Sta.cells s), Sta.of (Sta.cells t)) [A.agg (Sta.cells s), A.agg (Sta.cells t)])
 (VC.all (v_rSame (Sta.of (Sta.cells s), Sta.of (Sta.cells t))) fun (y4 : Bool) =>
 (VC.ret (some (RR.c (Rc.d (D.bool y4)))))))
 (VC.need (PreOk c_rCells p [A.agg (Prg.cells p)])
 (VC.br ((↑(List.length (rowsOn t.mem)) : Int) != cellsS (listOf PMem (rowsOn p.mems)))
  (VC.need (PreOk c_rSame (Sta.of (Sta.cells s), Sta.of (Sta.cells t)) [A.agg (Sta.cells s), A.agg (Sta.cells t)])
  (VC.all (v_rSame (Sta.of (Sta.cells s), Sta.of (Sta.cells t))) fun (y4 : Bool) =>
  (VC.ret (some (RR.c (Rc.d (D.bool y4)))))))
  (VC.need ((List.all (rowsOn t.mem) fun r ↦ List.length r == (1 : Nat)) = true ∧ (List.all ([] : List (List D)) fun r ↦ List.length r == (1 : Nat)) = true ∧ ((0 : Nat) + List.length (rowsOn t.mem) + (100 : Nat)) * (9 : Nat) ≤ (70368744177664 : Nat))
  (FnA.at_ a_rLow 0 (F_rLow t.r0 t.r1 t.r2 t.r3 ([] ++ rowsOn t.mem) ((0 : Nat) + List.length (rowsOn t.mem)) t.stack t.pc s y3 (0 : Int)))))))))) := by kernel_rfl
set_option maxRecDepth 100000 in
theorem t_rLow0 (r0 r1 r2 r3 : Int) (M : List (List D)) (n : Nat) (stk : List Int) (pc : Int) (t : Sta) (q : List Place) (k : Int) : a_rLow.round s_rLow 400 0 (F_rLow r0 r1 r2 r3 M n stk pc t q k) =
(VC.br (decide (k < (↑(List.length (rowsOn q)) : Int)))
 (VC.need ((0 : Int) ≤ k ∧ k < (↑(List.length (rowsOn q)) : Int))
 (VC.need (Int.toNat k < List.length (rowsOn q) ∧ List.length (rowAt (rowsOn q) (Int.toNat k)) = (3 : Nat) ∧ okSh [Kd.bool] (List.drop (2 : Nat) (rowAt (rowsOn q) (Int.toNat k))))
 (VC.br (!asBool (List.getD (List.drop (2 : Nat) (rowAt (rowsOn q) (Int.toNat k))) (0 : Nat) D.nilp))
  (FnA.at_ a_rLow 0 (F_rLow r0 r1 r2 r3 M n stk pc t q (IntKind.wrap IntKind.i64 (k + (1 : Int)))))
  (VC.need ((0 : Int) ≤ k ∧ k < (↑(List.length (rowsOn q)) : Int))
  (VC.need (Int.toNat k < List.length (rowsOn q) ∧ List.length (rowAt (rowsOn q) (Int.toNat k)) = (3 : Nat) ∧ okSh [Kd.bool] (List.drop (0 : Nat) (rowAt (rowsOn q) (Int.toNat k))))
  (VC.br (asBool (List.getD (List.drop (0 : Nat) (rowAt (rowsOn q) (Int.toNat k))) (0 : Nat) D.nilp))
   (VC.need ((0 : Int) ≤ k ∧ k < (↑(List.length (rowsOn q)) : Int))
   (VC.need (Int.toNat k < List.length (rowsOn q) ∧ List.length (rowAt (rowsOn q) (Int.toNat k)) = (3 : Nat) ∧ okSh [Kd.int IntKind.i64] (List.drop (1 : Nat) (rowAt (rowsOn q) (Int.toNat k))))
   (VC.need ((0 : Int) ≤ k ∧ k < (↑(List.length (rowsOn q)) : Int))
   (VC.need (Int.toNat k < List.length (rowsOn q) ∧ List.length (rowAt (rowsOn q) (Int.toNat k)) = (3 : Nat) ∧ okSh [Kd.int IntKind.i64] (List.drop (1 : Nat) (rowAt (rowsOn q) (Int.toNat k))))
   (VC.br (decide (asInt (List.getD (List.drop (1 : Nat) (rowAt (rowsOn q) (Int.toNat k))) (0 : Nat) D.nilp) = (0 : Int)))
    (VC.br (decide (asInt (List.getD (List.drop (1 : Nat) (rowAt (rowsOn q) (Int.toNat k))) (0 : Nat) D.nilp) = (0 : Int)))
     (FnA.at_ a_rLow 0 (F_rLow t.r0 r1 r2 r3 M n stk pc t q (IntKind.wrap IntKind.i64 (k + (1 : Int)))))
     (VC.br (decide (asInt (List.getD (List.drop (1 : Nat) (rowAt (rowsOn q) (Int.toNat k))) (0 : Nat) D.nilp) = (1 : Int)))
      (FnA.at_ a_rLow 0 (F_rLow r0 t.r0 r2 r3 M n stk pc t q (IntKind.wrap IntKind.i64 (k + (1 : Int)))))
      (VC.br (decide (asInt (List.getD (List.drop (1 : Nat) (rowAt (rowsOn q) (Int.toNat k))) (0 : Nat) D.nilp) = (2 : Int)))
       (FnA.at_ a_rLow 0 (F_rLow r0 r1 t.r0 r3 M n stk pc t q (IntKind.wrap IntKind.i64 (k + (1 : Int)))))
       (VC.br (decide (asInt (List.getD (List.drop (1 : Nat) (rowAt (rowsOn q) (Int.toNat k))) (0 : Nat) D.nilp) = (3 : Int)))
        (FnA.at_ a_rLow 0 (F_rLow r0 r1 r2 t.r0 M n stk pc t q (IntKind.wrap IntKind.i64 (k + (1 : Int)))))
        VC.ff))))
    (VC.br (decide (asInt (List.getD (List.drop (1 : Nat) (rowAt (rowsOn q) (Int.toNat k))) (0 : Nat) D.nilp) = (1 : Int)))
     (VC.br (decide (asInt (List.getD (List.drop (1 : Nat) (rowAt (rowsOn q) (Int.toNat k))) (0 : Nat) D.nilp) = (0 : Int)))
      (FnA.at_ a_rLow 0 (F_rLow t.r1 r1 r2 r3 M n stk pc t q (IntKind.wrap IntKind.i64 (k + (1 : Int)))))
      (VC.br (decide (asInt (List.getD (List.drop (1 : Nat) (rowAt (rowsOn q) (Int.toNat k))) (0 : Nat) D.nilp) = (1 : Int)))
       (FnA.at_ a_rLow 0 (F_rLow r0 t.r1 r2 r3 M n stk pc t q (IntKind.wrap IntKind.i64 (k + (1 : Int)))))
       (VC.br (decide (asInt (List.getD (List.drop (1 : Nat) (rowAt (rowsOn q) (Int.toNat k))) (0 : Nat) D.nilp) = (2 : Int)))
        (FnA.at_ a_rLow 0 (F_rLow r0 r1 t.r1 r3 M n stk pc t q (IntKind.wrap IntKind.i64 (k + (1 : Int)))))
        (VC.br (decide (asInt (List.getD (List.drop (1 : Nat) (rowAt (rowsOn q) (Int.toNat k))) (0 : Nat) D.nilp) = (3 : Int)))
         (FnA.at_ a_rLow 0 (F_rLow r0 r1 r2 t.r1 M n stk pc t q (IntKind.wrap IntKind.i64 (k + (1 : Int)))))
         VC.ff))))
     (VC.br (decide (asInt (List.getD (List.drop (1 : Nat) (rowAt (rowsOn q) (Int.toNat k))) (0 : Nat) D.nilp) = (2 : Int)))
      (VC.br (decide (asInt (List.getD (List.drop (1 : Nat) (rowAt (rowsOn q) (Int.toNat k))) (0 : Nat) D.nilp) = (0 : Int)))
       (FnA.at_ a_rLow 0 (F_rLow t.r2 r1 r2 r3 M n stk pc t q (IntKind.wrap IntKind.i64 (k + (1 : Int)))))
       (VC.br (decide (asInt (List.getD (List.drop (1 : Nat) (rowAt (rowsOn q) (Int.toNat k))) (0 : Nat) D.nilp) = (1 : Int)))
        (FnA.at_ a_rLow 0 (F_rLow r0 t.r2 r2 r3 M n stk pc t q (IntKind.wrap IntKind.i64 (k + (1 : Int)))))
        (VC.br (decide (asInt (List.getD (List.drop (1 : Nat) (rowAt (rowsOn q) (Int.toNat k))) (0 : Nat) D.nilp) = (2 : Int)))
         (FnA.at_ a_rLow 0 (F_rLow r0 r1 t.r2 r3 M n stk pc t q (IntKind.wrap IntKind.i64 (k + (1 : Int)))))
         (VC.br (decide (asInt (List.getD (List.drop (1 : Nat) (rowAt (rowsOn q) (Int.toNat k))) (0 : Nat) D.nilp) = (3 : Int)))
          (FnA.at_ a_rLow 0 (F_rLow r0 r1 r2 t.r2 M n stk pc t q (IntKind.wrap IntKind.i64 (k + (1 : Int)))))
          VC.ff))))
      (VC.br (decide (asInt (List.getD (List.drop (1 : Nat) (rowAt (rowsOn q) (Int.toNat k))) (0 : Nat) D.nilp) = (3 : Int)))
       (VC.br (decide (asInt (List.getD (List.drop (1 : Nat) (rowAt (rowsOn q) (Int.toNat k))) (0 : Nat) D.nilp) = (0 : Int)))
        (FnA.at_ a_rLow 0 (F_rLow t.r3 r1 r2 r3 M n stk pc t q (IntKind.wrap IntKind.i64 (k + (1 : Int)))))
        (VC.br (decide (asInt (List.getD (List.drop (1 : Nat) (rowAt (rowsOn q) (Int.toNat k))) (0 : Nat) D.nilp) = (1 : Int)))
         (FnA.at_ a_rLow 0 (F_rLow r0 t.r3 r2 r3 M n stk pc t q (IntKind.wrap IntKind.i64 (k + (1 : Int)))))
         (VC.br (decide (asInt (List.getD (List.drop (1 : Nat) (rowAt (rowsOn q) (Int.toNat k))) (0 : Nat) D.nilp) = (2 : Int)))
          (FnA.at_ a_rLow 0 (F_rLow r0 r1 t.r3 r3 M n stk pc t q (IntKind.wrap IntKind.i64 (k + (1 : Int)))))
          (VC.br (decide (asInt (List.getD (List.drop (1 : Nat) (rowAt (rowsOn q) (Int.toNat k))) (0 : Nat) D.nilp) = (3 : Int)))
           (FnA.at_ a_rLow 0 (F_rLow r0 r1 r2 t.r3 M n stk pc t q (IntKind.wrap IntKind.i64 (k + (1 : Int)))))
           VC.ff))))
       VC.ff))))))))
   (VC.need ((0 : Int) ≤ k ∧ k < (↑(List.length (rowsOn q)) : Int))
   (VC.need (Int.toNat k < List.length (rowsOn q) ∧ List.length (rowAt (rowsOn q) (Int.toNat k)) = (3 : Nat) ∧ okSh [Kd.int IntKind.i64] (List.drop (1 : Nat) (rowAt (rowsOn q) (Int.toNat k))))
   (VC.need ((0 : Int) ≤ k ∧ k < (↑(List.length (rowsOn q)) : Int))
   (VC.need (Int.toNat k < List.length (rowsOn q) ∧ List.length (rowAt (rowsOn q) (Int.toNat k)) = (3 : Nat) ∧ okSh [Kd.int IntKind.i64] (List.drop (1 : Nat) (rowAt (rowsOn q) (Int.toNat k))))
   (VC.need ((0 : Int) ≤ asInt (List.getD (List.drop (1 : Nat) (rowAt (rowsOn q) (Int.toNat k))) (0 : Nat) D.nilp) ∧ asInt (List.getD (List.drop (1 : Nat) (rowAt (rowsOn q) (Int.toNat k))) (0 : Nat) D.nilp) < (↑(List.length (rowsOn t.mem)) : Int) ∧ List.length (rowAt (rowsOn t.mem) (Int.toNat (asInt (List.getD (List.drop (1 : Nat) (rowAt (rowsOn q) (Int.toNat k))) (0 : Nat) D.nilp)))) = (1 : Nat))
   (VC.need (okSh [Kd.int IntKind.i64] (rowAt (rowsOn t.mem) (Int.toNat (asInt (List.getD (List.drop (1 : Nat) (rowAt (rowsOn q) (Int.toNat k))) (0 : Nat) D.nilp)))))
   (VC.need ((0 : Int) ≤ asInt (List.getD (List.drop (1 : Nat) (rowAt (rowsOn q) (Int.toNat k))) (0 : Nat) D.nilp) ∧ asInt (List.getD (List.drop (1 : Nat) (rowAt (rowsOn q) (Int.toNat k))) (0 : Nat) D.nilp) < (↑n : Int))
   (VC.need (Int.toNat (asInt (List.getD (List.drop (1 : Nat) (rowAt (rowsOn q) (Int.toNat k))) (0 : Nat) D.nilp)) < List.length M ∧ List.length (rowAt M (Int.toNat (asInt (List.getD (List.drop (1 : Nat) (rowAt (rowsOn q) (Int.toNat k))) (0 : Nat) D.nilp)))) = (1 : Nat) ∧ (1 : Nat) ≤ (1 : Nat))
   (FnA.at_ a_rLow 0 (F_rLow r0 r1 r2 r3 (List.set M (Int.toNat (asInt (List.getD (List.drop (1 : Nat) (rowAt (rowsOn q) (Int.toNat k))) (0 : Nat) D.nilp))) (splice (rowAt M (Int.toNat (asInt (List.getD (List.drop (1 : Nat) (rowAt (rowsOn q) (Int.toNat k))) (0 : Nat) D.nilp)))) (0 : Nat) [D.int IntKind.i64 (asInt (List.getD (rowAt (rowsOn t.mem) (Int.toNat (asInt (List.getD (List.drop (1 : Nat) (rowAt (rowsOn q) (Int.toNat k))) (0 : Nat) D.nilp)))) (0 : Nat) D.nilp))])) n stk pc t q (IntKind.wrap IntKind.i64 (k + (1 : Int)))))))))))))))))))
 (VC.need (PreOk c_rSame (Sta.of (Sta.cells t), Sta.of [D.int IntKind.i64 r0, D.int IntKind.i64 r1, D.int IntKind.i64 r2, D.int IntKind.i64 r3, D.sl M, D.sl (rowsOn stk), D.int IntKind.i64 pc]) [A.agg (Sta.cells t), A.agg [D.int IntKind.i64 r0, D.int IntKind.i64 r1, D.int IntKind.i64 r2, D.int IntKind.i64 r3, D.sl M, D.sl (rowsOn stk), D.int IntKind.i64 pc]])
 (VC.all (v_rSame (Sta.of (Sta.cells t), Sta.of [D.int IntKind.i64 r0, D.int IntKind.i64 r1, D.int IntKind.i64 r2, D.int IntKind.i64 r3, D.sl M, D.sl (rowsOn stk), D.int IntKind.i64 pc])) fun (y11 : Bool) =>
 (VC.ret (some (RR.c (Rc.d (D.bool y11)))))))) := by kernel_rfl
theorem l_rLow0 (stk : List Int) (pc : Int) (t : Sta) (q : List Place) (c : Int) (fin : Sta) (hq : PlacesOk q c) (hl : q.length ≤ 10000) (hc : c ≤ 1000000) (ht : t.mem.length = c) (hs : stk.length ≤ 1000000) (hst : t.stack.length ≤ 1000000) : ∀ i_ : Int × Int × Int × Int × Int × List (List D) × Nat, (fun (i : Int × Int × Int × Int × Int × List (List D) × Nat) => 0 ≤ i.1 ∧ i.1 ≤ q.length ∧ ∃ mem : List Int, OnL i.2.2.2.2.2.1 i.2.2.2.2.2.2 mem ∧ mem.length = c ∧ (q.drop i.1.toNat).foldl (seenS t) ⟨i.2.1, i.2.2.1, i.2.2.2.1, i.2.2.2.2.1, mem, stk, pc⟩ = fin) i_ → (a_rLow.at_ 0 ((fun (i : Int × Int × Int × Int × Int × List (List D) × Nat) => F_rLow i.2.1 i.2.2.1 i.2.2.2.1 i.2.2.2.2.1 i.2.2.2.2.2.1 i.2.2.2.2.2.2 stk pc t q i.1) i_)).holds s_rLow.cx a_rLow.rs (fun r => r.le (rb (decide (t = fin)))) := by
  refine loop_rule (a := a_rLow) (j := 0) (m := 400) s_rLow_sound (fun (i : Int × Int × Int × Int × Int × List (List D) × Nat) => F_rLow i.2.1 i.2.2.1 i.2.2.2.1 i.2.2.2.2.1 i.2.2.2.2.2.1 i.2.2.2.2.2.2 stk pc t q i.1) (fun (i : Int × Int × Int × Int × Int × List (List D) × Nat) => 0 ≤ i.1 ∧ i.1 ≤ q.length ∧ ∃ mem : List Int, OnL i.2.2.2.2.2.1 i.2.2.2.2.2.2 mem ∧ mem.length = c ∧ (q.drop i.1.toNat).foldl (seenS t) ⟨i.2.1, i.2.2.1, i.2.2.2.1, i.2.2.2.2.1, mem, stk, pc⟩ = fin) (fun (i : Int × Int × Int × Int × Int × List (List D) × Nat) => ((q.length : Int) - i.1).toNat) ?_
  rintro ⟨k, r0, r1, r2, r3, M, n⟩ h_inv ih
  try dsimp only at h_inv
  replace ih := fun (v0 : Int) (v1 : Int) (v2 : Int) (v3 : Int) (v4 : Int) (v5 : List (List D)) (v6 : Nat) => ih (v0, v1, v2, v3, v4, v5, v6)
  try dsimp only at ih
  show VC.holds _ _ _ (a_rLow.round s_rLow 400 0 (F_rLow r0 r1 r2 r3 M n stk pc t q k))
  rw [t_rLow0]
  try simp only [asRows_sl, asInt_int, asBool_bool, asStr_str, listOf_rowsOn, List.drop_zero, Prg.eta, Sta.eta, rowsOn_length, getD_drop, Nat.reduceAdd, rd_int, rd_PMem_name, rd_PMem_secret, rd_PMem_n, rd_PLabel_name, rd_PLabel_at_, rd_Ins_kind, rd_Ins_op, rd_Ins_d, rd_Ins_aR, rd_Ins_aN, rd_Ins_bR, rd_Ins_bN, rd_Ins_name, rd_Ins_target, rd_Ent_pc, rd_Ent_val, rd_Ent_addr, rd_Ent_fro, rd_Ent_next, rd_Ent_done, rd_Ent_known, rd_Ent_fault, rd_Place_reg, rd_Place_n, rd_Place_secret, rd_Obs_kind, rd_Obs_at_, rd_Dir_kind, rd_Dir_n, Prg.of_cells, Sta.of_cells]
  obtain ⟨h0, h1, mem, h2, h3, h4⟩ := h_inv
  have w1 : IntKind.wrap .i64 (k + 1) = k + 1 := wrap_small _ (by omega) (by omega)
  rw [w1]
  repeat' first
    | refine br_not ?_
    | refine br_dec (fun _ => ?_) (fun _ => ?_)
    | refine br_beq (fun _ => ?_) (fun _ => ?_)
    | refine br_bne (fun _ => ?_) (fun _ => ?_)
    | refine br_holds (fun _ => ?_) (fun _ => ?_)
    | refine ⟨PreOk.mk ?_ rfl, ?_⟩
    | refine ⟨idx_ok _ _ _ rfl (by omega) (by omega), ?_⟩
    | refine ⟨okSh_ok _ _ _ (fun _ => rfl) (by omega) (by omega), ?_⟩
    | refine ⟨okSh_okD _ _ _ _ (fun _ => rfl) (by omega) (by omega), ?_⟩
    | refine ⟨aload_ok _ _ rfl (fun _ => rfl) (by omega) (by omega), ?_⟩
    | refine ⟨aload_okD _ _ _ rfl (fun _ => rfl) (by omega) (by omega), ?_⟩
    | refine ⟨astore_ok (by assumption) rfl (by omega) (by omega) (by decide), ?_⟩
    | refine ⟨app_ok (by assumption) rfl rfl (by simp only [List.length_cons, List.length_nil]; omega), ?_⟩
    | refine need_holds ?_ fun _ => ?_
    | refine all_holds fun y hy => ?_
    | refine ret_le ?_
    | refine ih _ _ _ _ _ _ _ ?_ ?_
  all_goals try omega
  all_goals try trivial
  all_goals try have hk : k < q.length := by assumption
  all_goals try have hx := hq _ (rd_mem q k h0 hk)
  all_goals try rw [drop_rd q k h0 hk, List.foldl_cons] at h4
  all_goals try (refine ⟨by omega, by omega, mem, h2, h3, ?_⟩; simpa [seenS, putPlace, Sta.setReg, Sta.reg, *] using h4)
  all_goals try (have := hx.1 ‹_›; omega)
  · have := hx.2 ‹_›
    exact idx_ok _ _ _ rfl (by omega) (by omega)
  · have := hx.2 ‹_›
    have := h2.2
    omega
  · have := hx.2 ‹_›
    refine ⟨by omega, by omega, mem.set (rd q k).n.toNat (rd t.mem (rd q k).n), h2.set (by omega) (by omega) (rd t.mem (rd q k).n), by simpa using h3, ?_⟩
    simpa [seenS, putPlace, Sta.setReg, Sta.reg, *] using h4
  · obtain ⟨rfl, rfl⟩ := h2
    refine PreOk.mk ?_ ?_
    · simp only [Sta.of, listOf_rowsOn]
      exact ⟨⟨by dsimp only; omega, hst⟩, ⟨by dsimp only; omega, by dsimp only; omega⟩⟩
    · simp [Sta.of, Sta.cells, c_rSame, as_]
  · obtain ⟨rfl, rfl⟩ := h2
    have hk : k.toNat = q.length := by omega
    rw [hk, List.drop_length] at h4
    simp only [List.foldl_nil] at h4
    subst h4
    subst y
    simp only [v_rSame, Sta.of, listOf_rowsOn, Sta.cells]
    exact rb_le rfl
theorem c_rLow_good : c_rLow.fe.Good Try.prog := by
  refine FT.good c_rLow ⟨Try.f54, by kernel_rfl, by decide +kernel, by kernel_rfl⟩ (fun ⟨p, s, t⟩ => by first | rfl | simp [c_rLow, rrRef, rint, rpair, rsplit, rnewI, rnewE, rstab, rplaces, ri, rb, rib, rnum, rby, rss, rrun, rstep, rins, Sta.fresh]) fun ⟨p, s, t⟩ hp => ?_
  refine acalls_le s_rLow_sound (fn := Try.f54) (a := a_rLow) (nargs := 3) (tbl := [(7, [4, 7, 8, 9, 1000007000000900001003, 3000512004000900002001])]) (by kernel_rfl) (by kernel_rfl) rfl (m := 400) ?_
  show VC.holds _ _ _ (a_rLow.start s_rLow 400 [ap p, as_ s, as_ t])
  rw [t_rLow]
  try simp only [asRows_sl, asInt_int, asBool_bool, asStr_str, listOf_rowsOn, List.drop_zero, Prg.eta, Sta.eta, rowsOn_length, getD_drop, Nat.reduceAdd, rd_int, rd_PMem_name, rd_PMem_secret, rd_PMem_n, rd_PLabel_name, rd_PLabel_at_, rd_Ins_kind, rd_Ins_op, rd_Ins_d, rd_Ins_aR, rd_Ins_aN, rd_Ins_bR, rd_Ins_bN, rd_Ins_name, rd_Ins_target, rd_Ent_pc, rd_Ent_val, rd_Ent_addr, rd_Ent_fro, rd_Ent_next, rd_Ent_done, rd_Ent_known, rd_Ent_fault, rd_Place_reg, rd_Place_n, rd_Place_secret, rd_Obs_kind, rd_Obs_at_, rd_Dir_kind, rd_Dir_n, Prg.of_cells, Sta.of_cells]
  try simp only [c_rLow] at hp
  obtain ⟨hm, hs, ht⟩ := hp
  have hpl := places_len p hm
  have e : c_rLow.ans (p, s, t) = rb (lowS p t s) := rfl
  rw [e]
  refine ⟨PreOk.mk hm rfl, all_holds fun y hy => ?_⟩
  replace hy : y = placesS p := by rw [hy]; simp [v_rPlaces]
  subst hy
  have eqs : ∀ (h : ¬ ((t.mem.length : Int) = cellsS p.mems ∧ (s.mem.length : Int) = cellsS p.mems)), lowS p t s = decide (s = t) := fun h => by
    have : lowS p t s = decide (t = s) := if_neg h
    rw [this]
    exact decide_eq_decide.2 ⟨Eq.symm, Eq.symm⟩
  refine ⟨PreOk.mk hm rfl, br_bne (fun h => ?_) (fun h => ⟨PreOk.mk hm rfl, br_bne (fun h2 => ?_) (fun h2 => ?_)⟩)⟩
  · refine ⟨PreOk.mk ⟨hs, ht⟩ rfl, all_holds fun y hy => ret_le ?_⟩
    replace hy : y = decide (s = t) := by rw [hy]; simp [v_rSame]
    rw [hy, eqs (fun q => h q.2)]
    exact RR.le_refl _
  · refine ⟨PreOk.mk ⟨hs, ht⟩ rfl, all_holds fun y hy => ret_le ?_⟩
    replace hy : y = decide (s = t) := by rw [hy]; simp [v_rSame]
    rw [hy, eqs (fun q => h2 q.1)]
    exact RR.le_refl _
  · have e2 : lowS p t s = decide (s = (placesS p).foldl (seenS s) t) := by
      have : lowS p t s = decide ((placesS p).foldl (seenS s) t = s) := if_pos ⟨h2, h⟩
      rw [this]
      exact decide_eq_decide.2 ⟨Eq.symm, Eq.symm⟩
    rw [e2]
    have hs' := hs
    obtain ⟨hs1, hs2⟩ := hs
    obtain ⟨ht1, ht2⟩ := ht
    refine ⟨⟨rowsOn_all t.mem 1 rfl, rfl, by first | (rw [rowsOn_length]; omega) | omega⟩, ?_⟩
    refine l_rLow0 t.stack t.pc s (placesS p) (cellsS p.mems) ((placesS p).foldl (seenS s) t) (places_ok p hm) (by omega) (by omega) (by omega) ht2 hs2 (0, t.r0, t.r1, t.r2, t.r3, _, _) ⟨by simp, by simp, t.mem, ⟨by simp, by simp⟩, by omega, rfl⟩
noncomputable def v_rLow : Prg × Sta × Sta → Bool := fun x => lowS x.1 x.2.2 x.2.1
noncomputable def sh_rLow : Bool → RR := fun b => rb b
theorem e_rLow (x : Prg × Sta × Sta) : sh_rLow (v_rLow x) = c_rLow.ans x := rfl
end Go.Proofs.Ytclabjihjopclaa.Ax
end

section
/- The statement PairOrder. -/
namespace Go.Proofs.Ytclabjihjopclaa.Ax
open Go.RowKit
set_option linter.unusedVariables false
set_option linter.unusedSimpArgs false
def rdL1v : List A → List Int × Unit
  | [.c (.sl l)] => (listOf Int l, ())
  | _ => default
noncomputable def v_hold : Prg × Sta × Bool → List Int := fun x => holdV x.1 x.2.1 x.2.2
noncomputable def sh_hold : List Int → RR := fun y => rint y
theorem e_hold (x : Prg × Sta × Bool) : sh_hold (v_hold x) = c_hold.ans x := rfl
noncomputable def v_less : List Int × List Int → Bool := fun x => lessL x.1 x.2
noncomputable def sh_less : Bool → RR := fun y => rb y
theorem e_less (x : List Int × List Int) : sh_less (v_less x) = c_less.ans x := rfl
def c_lOrd : FT (List Int × Unit) := ⟨14, fun x => [al x.1], rdL1v, fun _ => True, fun x => rb true, false, fun x => by simp [al, rdL1v]⟩
noncomputable def a_lOrd : FnA := (fnA Try.prog Try.f14 1 [(7, [3, 4, 6, 7, 1000006000000900001001])]).getD ⟨0, .skip, [], []⟩
noncomputable def s_lOrd : Sp := spT [c_make.gfe v_make sh_make e_make, c_count.gfe v_count sh_count e_count, c_pAt.gfe v_pAt sh_pAt e_pAt, c_rSame.gfe v_rSame sh_rSame e_rSame, c_rLow.gfe v_rLow sh_rLow e_rLow, c_hold.gfe v_hold sh_hold e_hold, c_less.gfe v_less sh_less e_less, c_awake19.fe]
theorem s_lOrd_sound : s_lOrd.sound Try.prog := spT_sound fun e he => by
  simp only [List.mem_cons, List.not_mem_nil, or_false] at he
  rcases he with rfl | rfl | rfl | rfl | rfl | rfl | rfl | rfl
  · exact FT.gfe_good c_make_good
  · exact FT.gfe_good c_count_good
  · exact FT.gfe_good c_pAt_good
  · exact FT.gfe_good c_rSame_good
  · exact FT.gfe_good c_rLow_good
  · exact FT.gfe_good c_hold_good
  · exact FT.gfe_good c_less_good
  · exact c_awake19_good
def F_po (p : Prg) (n : Int) (nl : Nat) (L : List (List D)) (i : Int) : St := ⟨mkS 123 [(3, vp 192), (4, vi n), (6, vo 900001 nl), (7, vi i)], [(192, bx p.cells), (900001, ba 1 L)]⟩
set_option maxRecDepth 100000 in
theorem t_lOrd (m : List Int) : a_lOrd.start s_lOrd 400 [al m] =
(VC.need (PreOk c_make (m, ()) [A.c (D.sl (rowsOn m))])
(VC.all (v_make (listOf Int (rowsOn m), ())) fun (y1 : Prg) =>
(VC.need (PreOk c_count (Prg.of (Prg.cells y1), (400 : Int)) [A.agg (Prg.cells y1), A.c (D.int IntKind.i64 (400 : Int))])
(VC.all (v_count (Prg.of (Prg.cells y1), (400 : Int))) fun (y2 : Int × Bool) =>
(VC.br (!y2.snd)
 (VC.br (y2.fst == (0 : Int))
  (VC.need (PreOk c_awake19 PUnit.unit [])
  (VC.ret (some (RR.c (Rc.d (D.bool true))))))
  (VC.ret (some (RR.c (Rc.d (D.bool false))))))
 (FnA.at_ a_lOrd 0 (F_po y1 y2.fst (0 : Nat) [] (0 : Int)))))))) := by kernel_rfl
set_option maxRecDepth 100000 in
theorem t_po0 (p : Prg) (n : Int) (nl : Nat) (L : List (List D)) (i : Int) : a_lOrd.round s_lOrd 400 0 (F_po p n nl L i) =
(VC.br (decide (i < n))
 (VC.need (PreOk c_pAt (Prg.of (Prg.cells p), i) [A.agg (Prg.cells p), A.c (D.int IntKind.i64 i)])
 (VC.all (v_pAt (Prg.of (Prg.cells p), i)) fun (y5 : Sta × Sta × Bool) =>
 (VC.br (!y5.snd.snd)
  (VC.ret (some (RR.c (Rc.d (D.bool false)))))
  (VC.need (PreOk c_rSame (Sta.of (Sta.cells y5.fst), Sta.of (Sta.cells y5.snd.fst)) [A.agg (Sta.cells y5.fst), A.agg (Sta.cells y5.snd.fst)])
  (VC.all (v_rSame (Sta.of (Sta.cells y5.fst), Sta.of (Sta.cells y5.snd.fst))) fun (y6 : Bool) =>
  (VC.br (y6)
   (VC.ret (some (RR.c (Rc.d (D.bool false)))))
   (VC.need (PreOk c_rLow (Prg.of (Prg.cells p), Sta.of (Sta.cells y5.fst), Sta.of (Sta.cells y5.snd.fst)) [A.agg (Prg.cells p), A.agg (Sta.cells y5.fst), A.agg (Sta.cells y5.snd.fst)])
   (VC.all (v_rLow (Prg.of (Prg.cells p), Sta.of (Sta.cells y5.fst), Sta.of (Sta.cells y5.snd.fst))) fun (y7 : Bool) =>
   (VC.br (!y7)
    (VC.ret (some (RR.c (Rc.d (D.bool false)))))
    (VC.need (PreOk c_rLow (Prg.of (Prg.cells p), Sta.of (Sta.cells y5.snd.fst), Sta.of (Sta.cells y5.fst)) [A.agg (Prg.cells p), A.agg (Sta.cells y5.snd.fst), A.agg (Sta.cells y5.fst)])
    (VC.all (v_rLow (Prg.of (Prg.cells p), Sta.of (Sta.cells y5.snd.fst), Sta.of (Sta.cells y5.fst))) fun (y8 : Bool) =>
    (VC.br (!y8)
     (VC.ret (some (RR.c (Rc.d (D.bool false)))))
     (VC.need (PreOk c_hold (Prg.of (Prg.cells p), Sta.of (Sta.cells y5.fst), false) [A.agg (Prg.cells p), A.agg (Sta.cells y5.fst), A.c (D.bool false)])
     (VC.all (v_hold (Prg.of (Prg.cells p), Sta.of (Sta.cells y5.fst), false)) fun (y9 : List Int) =>
     (VC.need (PreOk c_hold (Prg.of (Prg.cells p), Sta.of (Sta.cells y5.fst), true) [A.agg (Prg.cells p), A.agg (Sta.cells y5.fst), A.c (D.bool true)])
     (VC.all (v_hold (Prg.of (Prg.cells p), Sta.of (Sta.cells y5.fst), true)) fun (y10 : List Int) =>
     (VC.need ((List.all (rowsOn y10) fun r ↦ List.length r == (1 : Nat)) = true ∧ (List.all (rowsOn y9) fun r ↦ List.length r == (1 : Nat)) = true ∧ (List.length (rowsOn y9) + List.length (rowsOn y10) + (100 : Nat)) * (9 : Nat) ≤ (70368744177664 : Nat))
     (VC.need (PreOk c_hold (Prg.of (Prg.cells p), Sta.of (Sta.cells y5.snd.fst), true) [A.agg (Prg.cells p), A.agg (Sta.cells y5.snd.fst), A.c (D.bool true)])
     (VC.all (v_hold (Prg.of (Prg.cells p), Sta.of (Sta.cells y5.snd.fst), true)) fun (y11 : List Int) =>
     (VC.need ((List.all (rowsOn y11) fun r ↦ List.length r == (1 : Nat)) = true ∧ (List.all (rowsOn y9 ++ rowsOn y10) fun r ↦ List.length r == (1 : Nat)) = true ∧ (List.length (rowsOn y9 ++ rowsOn y10) + List.length (rowsOn y11) + (100 : Nat)) * (9 : Nat) ≤ (70368744177664 : Nat))
     (VC.need (PreOk c_less (listOf Int (rowsOn y9 ++ rowsOn y10 ++ rowsOn y11), listOf Int L) [A.c (D.sl (rowsOn y9 ++ rowsOn y10 ++ rowsOn y11)), A.c (D.sl L)])
     (VC.all (v_less (listOf Int (rowsOn y9 ++ rowsOn y10 ++ rowsOn y11), listOf Int L)) fun (y12 : Bool) =>
     (VC.br (y12)
      (VC.ret (some (RR.c (Rc.d (D.bool false)))))
      (VC.br (decide ((0 : Int) < i))
       (VC.need (PreOk c_less (listOf Int L, listOf Int (rowsOn y9 ++ rowsOn y10 ++ rowsOn y11)) [A.c (D.sl L), A.c (D.sl (rowsOn y9 ++ rowsOn y10 ++ rowsOn y11))])
       (VC.all (v_less (listOf Int L, listOf Int (rowsOn y9 ++ rowsOn y10 ++ rowsOn y11))) fun (y13 : Bool) =>
       (VC.br (!y13)
        (VC.ret (some (RR.c (Rc.d (D.bool false)))))
        (VC.need (PreOk c_hold (Prg.of (Prg.cells p), Sta.of (Sta.cells y5.fst), true) [A.agg (Prg.cells p), A.agg (Sta.cells y5.fst), A.c (D.bool true)])
        (VC.all (v_hold (Prg.of (Prg.cells p), Sta.of (Sta.cells y5.fst), true)) fun (y14 : List Int) =>
        (VC.need (PreOk c_hold (Prg.of (Prg.cells p), Sta.of (Sta.cells y5.snd.fst), true) [A.agg (Prg.cells p), A.agg (Sta.cells y5.snd.fst), A.c (D.bool true)])
        (VC.all (v_hold (Prg.of (Prg.cells p), Sta.of (Sta.cells y5.snd.fst), true)) fun (y15 : List Int) =>
        (VC.need (PreOk c_less (y14, y15) [A.c (D.sl (rowsOn y14)), A.c (D.sl (rowsOn y15))])
        (VC.all (v_less (listOf Int (rowsOn y14), listOf Int (rowsOn y15))) fun (y16 : Bool) =>
        (VC.br (!y16)
         (VC.ret (some (RR.c (Rc.d (D.bool false)))))
         (FnA.at_ a_lOrd 0 (F_po p n (List.length (rowsOn y9 ++ rowsOn y10) + List.length (rowsOn y11)) (rowsOn y9 ++ rowsOn y10 ++ rowsOn y11) (IntKind.wrap IntKind.i64 (i + (1 : Int)))))))))))))))
       (VC.need (PreOk c_hold (Prg.of (Prg.cells p), Sta.of (Sta.cells y5.fst), true) [A.agg (Prg.cells p), A.agg (Sta.cells y5.fst), A.c (D.bool true)])
       (VC.all (v_hold (Prg.of (Prg.cells p), Sta.of (Sta.cells y5.fst), true)) fun (y13 : List Int) =>
       (VC.need (PreOk c_hold (Prg.of (Prg.cells p), Sta.of (Sta.cells y5.snd.fst), true) [A.agg (Prg.cells p), A.agg (Sta.cells y5.snd.fst), A.c (D.bool true)])
       (VC.all (v_hold (Prg.of (Prg.cells p), Sta.of (Sta.cells y5.snd.fst), true)) fun (y14 : List Int) =>
       (VC.need (PreOk c_less (y13, y14) [A.c (D.sl (rowsOn y13)), A.c (D.sl (rowsOn y14))])
       (VC.all (v_less (listOf Int (rowsOn y13), listOf Int (rowsOn y14))) fun (y15 : Bool) =>
       (VC.br (!y15)
        (VC.ret (some (RR.c (Rc.d (D.bool false)))))
        (FnA.at_ a_lOrd 0 (F_po p n (List.length (rowsOn y9 ++ rowsOn y10) + List.length (rowsOn y11)) (rowsOn y9 ++ rowsOn y10 ++ rowsOn y11) (IntKind.wrap IntKind.i64 (i + (1 : Int))))))))))))))))))))))))))))))))))))
 (VC.need (PreOk c_pAt (Prg.of (Prg.cells p), n) [A.agg (Prg.cells p), A.c (D.int IntKind.i64 n)])
 (VC.all (v_pAt (Prg.of (Prg.cells p), n)) fun (y5 : Sta × Sta × Bool) =>
 (VC.need (PreOk c_pAt (Prg.of (Prg.cells p), (-1 : Int)) [A.agg (Prg.cells p), A.c (D.int IntKind.i64 (-1 : Int))])
 (VC.all ((zeroSta (0 : Nat), zeroSta (0 : Nat), false)) fun (y6 : Sta × Sta × Bool) =>
 (VC.br (!y5.snd.snd)
  (VC.br (!y6.snd.snd)
   (VC.need (PreOk c_awake19 PUnit.unit [])
   (VC.ret (some (RR.c (Rc.d (D.bool true))))))
   (VC.ret (some (RR.c (Rc.d (D.bool false))))))
  (VC.ret (some (RR.c (Rc.d (D.bool false))))))))))) := by kernel_rfl
theorem div_step {i E : Int} (hE : 0 < E) (hi : 0 < i) : (i - 1) / E < i / E ∨ ((i - 1) / E = i / E ∧ (i - 1) % E < i % E) := by
  have h1 := Int.mul_ediv_add_emod i E
  have h2 := Int.mul_ediv_add_emod (i - 1) E
  have h3 : (i - 1) / E ≤ i / E := Int.ediv_le_ediv hE (by omega)
  by_cases e : (i - 1) / E = i / E
  · rw [e] at h2
    exact .inr ⟨e, by omega⟩
  · exact .inl (by omega)
def rowN (s : Int) (a b : Nat) (u o q : Int) : List Int := digP s a u ++ digP s b o ++ digP s b q
theorem rowN_less (s : Int) (hs : 0 < s) (a b : Nat) {u o q u' o' q' : Int} (hu : 0 ≤ u ∧ u < s ^ a) (hu' : 0 ≤ u' ∧ u' < s ^ a) (ho : 0 ≤ o ∧ o < s ^ b) (ho' : 0 ≤ o' ∧ o' < s ^ b) (hq : 0 ≤ q ∧ q < s ^ b) (hq' : 0 ≤ q' ∧ q' < s ^ b) :
    lessL (rowN s a b u o q) (rowN s a b u' o' q') = decide (u < u' ∨ u = u' ∧ (o < o' ∨ o = o' ∧ q < q')) := by
  obtain ⟨a1, a2⟩ := lessL_dig s hs a u u'
  obtain ⟨b1, b2⟩ := lessL_dig s hs b o o'
  obtain ⟨c1, c2⟩ := lessL_dig s hs b q q'
  rw [Int.emod_eq_of_lt hu.1 hu.2, Int.emod_eq_of_lt hu'.1 hu'.2] at a1 a2
  rw [Int.emod_eq_of_lt ho.1 ho.2, Int.emod_eq_of_lt ho'.1 ho'.2] at b1 b2
  rw [Int.emod_eq_of_lt hq.1 hq.2, Int.emod_eq_of_lt hq'.1 hq'.2] at c1 c2
  unfold rowN
  rw [lessL_app _ _ _ _ (by simp [digP_len])]
  by_cases e1 : u = u'
  · have d1 := a2.2 e1
    by_cases e2 : o = o'
    · rw [if_pos (by rw [d1, b2.2 e2]), c1]
      exact decide_eq_decide.2 (by omega)
    · have : digP s b o ≠ digP s b o' := fun h => e2 (b2.1 h)
      rw [if_neg (fun h => this (List.append_cancel_left (by rw [d1] at h; exact h))), lessL_app _ _ _ _ (by simp [digP_len]), if_pos d1, b1]
      exact decide_eq_decide.2 (by omega)
  · have : digP s a u ≠ digP s a u' := fun h => e1 (a2.1 h)
    rw [if_neg (fun h => this (List.append_inj_left h (by simp [digP_len]))), lessL_app _ _ _ _ (by simp [digP_len]), if_neg this, a1]
    exact decide_eq_decide.2 (by omega)
/-- What the i-th pair is. -/
theorem pair_is {p : Prg} (hw : okW p.w) (hm : Mems p.mems) {i : Int} (h : 0 ≤ i ∧ i < 1000000 ∧ i < cntS p) : ∃ a b u o q, atP p i = (a, b, true) ∧ a.mem.length = cellsS p.mems ∧ b.mem.length = cellsS p.mems ∧ SmallS a ∧ SmallS b ∧ a ≠ b ∧ lowS p a b = true ∧ lowS p b a = true ∧
    holdV p a false = digP (sizeS p.w) (openS p).length u ∧ holdV p a true = digP (sizeS p.w) (secS p).length o ∧ holdV p b true = digP (sizeS p.w) (secS p).length q ∧ (0 ≤ u ∧ u < sizeS p.w ^ (openS p).length) ∧ (0 ≤ o ∧ o < sizeS p.w ^ (secS p).length) ∧ (0 ≤ q ∧ q < sizeS p.w ^ (secS p).length) ∧ o < q ∧
    u = i / twoS (powS p (secS p).length) ∧ o = (oneS (powS p (secS p).length) (i % twoS (powS p (secS p).length))).1 ∧ q = o + 1 + (oneS (powS p (secS p).length) (i % twoS (powS p (secS p).length))).2 := by
  have hs := size_pos hw
  have hc := (places_len p hm).2
  obtain ⟨u, o, q, ha, hu0, hu1, ho0, ho1, hq1, e1, e2, e3⟩ := (atP_spec hw i).1 h
  obtain ⟨s1, a1, a2, a3, a4, a5, a6⟩ := start_hold p hm (rowP p u o) (rowP_len p u o)
  obtain ⟨s2, b1, b2, b3, b4, b5, b6⟩ := start_hold p hm (rowP p u q) (rowP_len p u q)
  obtain ⟨v1, v2⟩ := holdV_row p hm hw u o
  obtain ⟨v3, v4⟩ := holdV_row p hm hw u q
  rw [a1] at v1 v2
  rw [b1] at v3 v4
  rw [a1, b1] at ha
  have hoq : o < q := ho1
  have hol : o < sizeS p.w ^ (secS p).length := by omega
  have hpub : ∀ x ∈ placesS p, x.secret = false → holdP s1 x = holdP s2 x := fun x hx hsec => by
    have e : (placesS p |>.filter fun x => x.secret == false).map (holdP s1) = (placesS p |>.filter fun x => x.secret == false).map (holdP s2) := v1.trans v3.symm
    exact List.map_inj_left.1 e x (List.mem_filter.2 ⟨hx, by rw [hsec]; rfl⟩)
  have l1 : lowS p s1 s2 = true := (lowS_places hm a2 b2 fun r hr e => (a6 r hr e).trans (b6 r hr e).symm).2 ⟨by rw [a3, b3], by rw [a4, b4], hpub⟩
  have l2 : lowS p s2 s1 = true := (lowS_places hm b2 a2 fun r hr e => (b6 r hr e).trans (a6 r hr e).symm).2 ⟨by rw [a3, b3], by rw [a4, b4], fun x hx hsec => (hpub x hx hsec).symm⟩
  refine ⟨s1, s2, u, o, q, ha, a2, b2, ⟨by omega, by rw [a3]; decide⟩, ⟨by omega, by rw [b3]; decide⟩, fun e => ?_, l1, l2, v1, v2, v4, ⟨hu0, hu1⟩, ⟨ho0, hol⟩, ⟨by omega, hq1⟩, hoq, e1, e2, e3⟩
  subst e
  have := (lessL_dig (sizeS p.w) (by omega) (secS p).length o q).2.1 (v2.symm.trans v4)
  rw [Int.emod_eq_of_lt ho0 hol, Int.emod_eq_of_lt (by omega) hq1] at this
  omega
def rowI (p : Prg) (i : Int) : List Int := holdV p (atP p i).1 false ++ holdV p (atP p i).1 true ++ holdV p (atP p i).2.1 true
theorem rowI_step {p : Prg} (hw : okW p.w) (hm : Mems p.mems) {i : Int} (h0 : 0 < i) (h1 : i < 1000000) (h2 : i < cntS p) : lessL (rowI p (i - 1)) (rowI p i) = true ∧ lessL (rowI p i) (rowI p (i - 1)) = false := by
  have hs := size_pos hw
  obtain ⟨a, b, u, o, q, e, _, _, _, _, _, _, _, v1, v2, v3, hu, ho, hq, hoq, e1, e2, e3⟩ := pair_is hw hm (i := i) ⟨by omega, h1, h2⟩
  obtain ⟨a', b', u', o', q', e', _, _, _, _, _, _, _, v1', v2', v3', hu', ho', hq', hoq', e1', e2', e3'⟩ := pair_is hw hm (i := i - 1) ⟨by omega, by omega, by omega⟩
  have r1 : rowI p i = rowN (sizeS p.w) (openS p).length (secS p).length u o q := by unfold rowI rowN; rw [e, v1, v2, v3]
  have r2 : rowI p (i - 1) = rowN (sizeS p.w) (openS p).length (secS p).length u' o' q' := by unfold rowI rowN; rw [e', v1', v2', v3']
  rw [r1, r2, rowN_less _ (by omega) _ _ hu' hu ho' ho hq' hq, rowN_less _ (by omega) _ _ hu hu' ho ho' hq hq']
  obtain ⟨b1, b2, b3⟩ := powS_pos hw (secS p).length
  obtain ⟨c1, c2, c3⟩ := twoS_pos b1
  have hE : twoS (powS p (secS p).length) ≠ 0 := fun z => by
    have : cntS p = 0 := by unfold cntS farS; rw [z, Int.mul_zero]; omega
    omega
  generalize powS p (secS p).length = A at *
  generalize twoS A = E at *
  have key : u' < u ∨ u' = u ∧ (o' < o ∨ o' = o ∧ q' < q) := by
    rcases div_step (show 0 < E by omega) h0 with d | ⟨d1, d2⟩
    · exact .inl (by omega)
    · refine .inr ⟨by omega, ?_⟩
      have m0 := Int.emod_nonneg (i - 1) hE
      have m1 := Int.emod_lt_of_pos i (show 0 < E by omega)
      rcases oneS_mono (all := A) m0 (by omega) d2 (by omega) with g | ⟨g1, g2⟩
      · exact .inl (by omega)
      · exact .inr ⟨by omega, by omega⟩
  exact ⟨decide_eq_true key, decide_eq_false (by omega)⟩
def lastI (p : Prg) (i : Int) : List Int := if i = 0 then [] else rowI p (i - 1)
theorem rowI_len {p : Prg} (hm : Mems p.mems) (i : Int) : (rowI p i).length ≤ 6000 := by
  have l := split_len hm
  unfold openS secS at l
  unfold rowI
  simp only [List.length_append, holdV_len]
  omega
theorem lastI_len {p : Prg} (hm : Mems p.mems) (i : Int) : (lastI p i).length ≤ 6000 := by
  unfold lastI
  split
  · simp
  · exact rowI_len hm _
theorem lessL_nil (x : List Int) : lessL x [] = false := by cases x <;> rfl
theorem l_po0 (p : Prg) (n : Int) (hw : okW p.w) (hm : Mems p.mems) (hn : n = cntS p) (hn1 : n ≤ 1000000) : ∀ i_ : Int × Nat × List (List D), (fun (i : Int × Nat × List (List D)) => 0 ≤ i.1 ∧ i.1 ≤ n ∧ OnL i.2.2 i.2.1 (lastI p i.1)) i_ → (a_lOrd.at_ 0 ((fun (i : Int × Nat × List (List D)) => F_po p n i.2.1 i.2.2 i.1) i_)).holds s_lOrd.cx a_lOrd.rs (fun r => r.le (rb true)) := by
  refine loop_rule (a := a_lOrd) (j := 0) (m := 400) s_lOrd_sound (fun (i : Int × Nat × List (List D)) => F_po p n i.2.1 i.2.2 i.1) (fun (i : Int × Nat × List (List D)) => 0 ≤ i.1 ∧ i.1 ≤ n ∧ OnL i.2.2 i.2.1 (lastI p i.1)) (fun (i : Int × Nat × List (List D)) => (n - i.1).toNat) ?_
  rintro ⟨i, nl, L⟩ h_inv ih
  try dsimp only at h_inv
  replace ih := fun (v0 : Int) (v1 : Nat) (v2 : List (List D)) => ih (v0, v1, v2)
  try dsimp only at ih
  show VC.holds _ _ _ (a_lOrd.round s_lOrd 400 0 (F_po p n nl L i))
  rw [t_po0]
  try simp only [asRows_sl, asInt_int, asBool_bool, asStr_str, listOf_rowsOn, List.drop_zero, Prg.eta, Sta.eta, rowsOn_length, getD_drop, Nat.reduceAdd, rd_int, rd_PMem_name, rd_PMem_secret, rd_PMem_n, rd_PLabel_name, rd_PLabel_at_, rd_Ins_kind, rd_Ins_op, rd_Ins_d, rd_Ins_aR, rd_Ins_aN, rd_Ins_bR, rd_Ins_bN, rd_Ins_name, rd_Ins_target, rd_Ent_pc, rd_Ent_val, rd_Ent_addr, rd_Ent_fro, rd_Ent_next, rd_Ent_done, rd_Ent_known, rd_Ent_fault, rd_Place_reg, rd_Place_n, rd_Place_secret, rd_Obs_kind, rd_Obs_at_, rd_Dir_kind, rd_Dir_n, Prg.of_cells, Sta.of_cells]
  obtain ⟨h0, h1, h2⟩ := h_inv
  obtain ⟨rfl, rfl⟩ := h2
  have w1 : IntKind.wrap .i64 (i + 1) = i + 1 := wrap_small _ (by omega) (by omega)
  simp only [w1, ← rowsOn_append, listOf_rowsOn, rowsOn_length]
  have hs := size_pos hw
  have rl := rowI_len hm i
  have ll := lastI_len hm i
  refine br_dec (fun hd => ?_) (fun hd => ?_)
  · obtain ⟨a, b, u, o, q, e, ma, mb, sa, sb, hne, l1, l2, v1, v2, v3, hu, ho, hq, hoq, _⟩ := pair_is hw hm (i := i) ⟨h0, by omega, by omega⟩
    refine ⟨PreOk.mk ⟨hw, hm⟩ rfl, all_holds fun y hy => ?_⟩
    replace hy : y = (a, b, true) := by rw [hy, ← e]; simp [v_pAt]
    subst hy
    have hless : lessL (holdV p a true) (holdV p b true) = true := by
      rw [v2, v3, (lessL_dig (sizeS p.w) (by omega) (secS p).length o q).1, Int.emod_eq_of_lt ho.1 ho.2, Int.emod_eq_of_lt hq.1 hq.2]
      exact decide_eq_true hoq
    refine br_f rfl ⟨PreOk.mk ⟨sa, sb⟩ rfl, all_holds fun z hz => br_f (by rw [hz]; exact decide_eq_false hne) ⟨PreOk.mk ⟨hm, sa, sb⟩ rfl, all_holds fun z1 hz1 => br_f (by rw [hz1]; exact congrArg not l2) ⟨PreOk.mk ⟨hm, sb, sa⟩ rfl, all_holds fun z2 hz2 => br_f (by rw [hz2]; exact congrArg not l1) ⟨PreOk.mk ⟨hm, ma⟩ rfl, all_holds fun U hU => ⟨PreOk.mk ⟨hm, ma⟩ rfl, all_holds fun O hO => ?_⟩⟩⟩⟩⟩
    replace hU : U = holdV p a false := hU
    replace hO : O = holdV p a true := hO
    have hrow : U ++ O ++ holdV p b true = rowI p i := by unfold rowI; rw [e, hU, hO]
    have lU : U.length ≤ 6000 := by rw [← hrow] at rl; simp only [List.length_append] at rl; omega
    have lO : O.length ≤ 6000 := by rw [← hrow] at rl; simp only [List.length_append] at rl; omega
    have lQ : (holdV p b true).length ≤ 6000 := by rw [← hrow] at rl; simp only [List.length_append] at rl; omega
    refine ⟨⟨rowsOn_all O 1 rfl, rowsOn_all U 1 rfl, by omega⟩, PreOk.mk ⟨hm, mb⟩ rfl, all_holds fun Q hQ => ?_⟩
    replace hQ : Q = holdV p b true := hQ
    subst hQ
    refine ⟨⟨rowsOn_all _ 1 rfl, rowsOn_all (U ++ O) 1 rfl, by simp only [List.length_append]; omega⟩, ?_⟩
    rw [hrow]
    have p1 : c_less.pre (rowI p i, lastI p i) := ⟨by dsimp only; omega, by dsimp only; omega⟩
    have p2 : c_less.pre (lastI p i, rowI p i) := ⟨by dsimp only; omega, by dsimp only; omega⟩
    have nxt : (a_lOrd.at_ 0 (F_po p n ((U ++ O).length + (holdV p b true).length) (rowsOn (rowI p i)) (i + 1))).holds s_lOrd.cx a_lOrd.rs fun r => r.le (rb true) := by
      refine ih _ _ _ ⟨by omega, by omega, ?_⟩ (by omega)
      have e2 : lastI p (i + 1) = rowI p i := by unfold lastI; rw [if_neg (by omega), show i + 1 - 1 = i by omega]
      rw [e2, ← hrow]
      exact ⟨rfl, by simp only [List.length_append]⟩
    have fin : VC.holds s_lOrd.cx a_lOrd.rs (fun r => r.le (rb true)) (VC.need (PreOk c_hold (p, a, true) [A.agg p.cells, A.agg a.cells, A.c (D.bool true)]) (VC.all (v_hold (p, a, true)) fun (y14 : List Int) => VC.need (PreOk c_hold (p, b, true) [A.agg p.cells, A.agg b.cells, A.c (D.bool true)]) (VC.all (v_hold (p, b, true)) fun (y15 : List Int) => VC.need (PreOk c_less (y14, y15) [A.c (D.sl (rowsOn y14)), A.c (D.sl (rowsOn y15))]) (VC.all (v_less (y14, y15)) fun (y16 : Bool) => VC.br (!y16) (VC.ret (some (RR.c (Rc.d (D.bool false))))) (FnA.at_ a_lOrd 0 (F_po p n ((U ++ O).length + (holdV p b true).length) (rowsOn (rowI p i)) (i + 1))))))) := by
      refine ⟨PreOk.mk ⟨hm, ma⟩ rfl, all_holds fun y14 h14 => ⟨PreOk.mk ⟨hm, mb⟩ rfl, all_holds fun y15 h15 => ?_⟩⟩
      replace h14 : y14 = holdV p a true := h14
      replace h15 : y15 = holdV p b true := h15
      refine ⟨PreOk.mk ⟨by rw [h14, ← hO]; dsimp only; omega, by rw [h15]; dsimp only; omega⟩ rfl, all_holds fun y16 h16 => ?_⟩
      replace h16 : y16 = lessL y14 y15 := h16
      rw [h14, h15, hless] at h16
      exact br_f (by rw [h16]; rfl) nxt
    refine ⟨PreOk.mk p1 rfl, all_holds fun y12 h12 => ?_⟩
    replace h12 : y12 = lessL (rowI p i) (lastI p i) := h12
    by_cases hi : i = 0
    · have el : lastI p i = [] := if_pos hi
      rw [el, lessL_nil] at h12
      exact br_f h12 (br_dec (fun q => by omega) (fun _ => fin))
    · have el : lastI p i = rowI p (i - 1) := if_neg hi
      obtain ⟨g1, g2⟩ := rowI_step hw hm (i := i) (by omega) (by omega) (by omega)
      rw [el, g2] at h12
      refine br_f h12 (br_dec (fun _ => ⟨PreOk.mk p2 rfl, all_holds fun y13 h13 => ?_⟩) (fun q => by omega))
      replace h13 : y13 = lessL (lastI p i) (rowI p i) := h13
      rw [el, g1] at h13
      exact br_f (by rw [h13]; rfl) fin
  · refine ⟨PreOk.mk ⟨hw, hm⟩ rfl, all_holds fun y hy => ⟨PreOk.mk ⟨hw, hm⟩ rfl, all_holds fun z hz => ?_⟩⟩
    replace hy : y = atP p n := by rw [hy]; simp [v_pAt]
    rw [(atP_spec hw n).2 (by omega)] at hy
    subst hy hz
    exact br_t rfl (br_t rfl ⟨PreOk.mk trivial rfl, ret_le (RR.le_refl _)⟩)
theorem c_lOrd_good : c_lOrd.fe.Good Try.prog := by
  refine FT.good c_lOrd ⟨Try.f14, by kernel_rfl, by decide +kernel, by kernel_rfl⟩ (fun ⟨m, u⟩ => by first | rfl | simp [c_lOrd, rrRef, rint, rpair, rsplit, rnewI, rnewE, rstab, rplaces, ri, rb, rib, rnum, rby, rss, rrun, rstep, rins, Sta.fresh]) fun ⟨m, u⟩ hp => ?_
  refine acalls_le s_lOrd_sound (fn := Try.f14) (a := a_lOrd) (nargs := 1) (tbl := [(7, [3, 4, 6, 7, 1000006000000900001001])]) (by kernel_rfl) (by kernel_rfl) rfl (m := 400) ?_
  show VC.holds _ _ _ (a_lOrd.start s_lOrd 400 [al m])
  rw [t_lOrd]
  try simp only [asRows_sl, asInt_int, asBool_bool, asStr_str, listOf_rowsOn, List.drop_zero, Prg.eta, Sta.eta, rowsOn_length, getD_drop, Nat.reduceAdd, rd_int, rd_PMem_name, rd_PMem_secret, rd_PMem_n, rd_PLabel_name, rd_PLabel_at_, rd_Ins_kind, rd_Ins_op, rd_Ins_d, rd_Ins_aR, rd_Ins_aN, rd_Ins_bR, rd_Ins_bN, rd_Ins_name, rd_Ins_target, rd_Ent_pc, rd_Ent_val, rd_Ent_addr, rd_Ent_fro, rd_Ent_next, rd_Ent_done, rd_Ent_known, rd_Ent_fault, rd_Place_reg, rd_Place_n, rd_Place_secret, rd_Obs_kind, rd_Obs_at_, rd_Dir_kind, rd_Dir_n, Prg.of_cells, Sta.of_cells]
  try simp only [c_lOrd] at hp
  refine ⟨PreOk.mk trivial rfl, all_holds fun p hp0 => ?_⟩
  have hwf : WFM p := by rw [hp0]; exact (makeS_spec _).1
  clear hp0
  have hm := hwf.toMems
  have hw : okW p.w := hwf.ok.w
  have hcp : 0 ≤ cntS p := by
    have b1 := powS_pos hw (openS p).length
    have b2 := twoS_pos (powS_pos hw (secS p).length).1
    have : 0 ≤ powS p (openS p).length * twoS (powS p (secS p).length) := Int.mul_nonneg (by omega) b2.1
    unfold cntS farS; omega
  refine ⟨PreOk.mk ⟨hw, hm⟩ rfl, all_holds fun n hn => ?_⟩
  replace hn : n = countS p 400 := by rw [hn]; simp [v_count]
  unfold countS at hn
  by_cases hc : min (max 400 0) 1000000 < cntS p
  · rw [if_pos hc] at hn
    subst hn
    exact br_t rfl (br_t rfl ⟨PreOk.mk trivial rfl, ret_le (RR.le_refl _)⟩)
  rw [if_neg hc] at hn
  subst hn
  exact br_f rfl (l_po0 p (cntS p) hw hm rfl (by omega) (0, 0, []) ⟨by omega, hcp, OnL.nil⟩)
end Go.Proofs.Ytclabjihjopclaa.Ax
end
