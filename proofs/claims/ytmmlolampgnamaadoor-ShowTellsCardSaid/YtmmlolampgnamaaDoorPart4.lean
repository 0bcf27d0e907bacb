/- Several texts in one, in their order. -/
import Derived.Test.YtmmlolampgnamaaDoorPart3
section
/- What a state is told as, by the document: auguryref25's name, State. -/
namespace Go.Proofs.YtmmlolampgnamaaDoor.Ax
open Go.RowKit
set_option linter.unusedVariables false
set_option linter.unusedSimpArgs false
noncomputable def v_dig1 : Int → ByteArray := fun n => digS n
noncomputable def sh_dig1 : ByteArray → RR := fun s => .c (.d (.str s))
theorem e_dig1 (x : Int) : sh_dig1 (v_dig1 x) = c_dig1.ans x := rfl
def rdPQ : List A → Prg × Place
  | [.agg p, .agg r] => (Prg.of p, Row.of r)
  | _ => default
def c_rName : FT (Prg × Place) := ⟨33, fun x => [ap x.1, aPl x.2], rdPQ, fun x => NmOk x.1.mems ∧ 0 ≤ x.2.n ∧ x.2.n ≤ 9, fun x => .c (.d (.str (nameP x.1 x.2))), false, fun x => by simp [ap, aPl, rdPQ, Row.of_row]⟩
noncomputable def a_rName : FnA := (fnA Tryd.prog Tryd.f33 2 [(5, [2, 5, 6])]).getD ⟨0, .skip, [], []⟩
noncomputable def s_rName : Sp := spT [c_dig1.gfe v_dig1 sh_dig1 e_dig1]
theorem s_rName_sound : s_rName.sound Tryd.prog := spT_sound fun e he => by
  simp only [List.mem_cons, List.not_mem_nil, or_false] at he
  rcases he with rfl
  · exact FT.gfe_good c_dig1_good
def F_rn (p : Prg) (a i : Int) : St := ⟨mkS 50 [(2, vp 128), (5, vi a), (6, vi i)], [(128, bx p.cells)]⟩
set_option maxRecDepth 100000 in
theorem t_rName (p : Prg) (q : Place) : a_rName.start s_rName 400 [ap p, aPl q] =
(VC.br (q.reg)
 (VC.need (PreOk c_dig1 q.n [A.c (D.int IntKind.i64 q.n)])
 (VC.all (v_dig1 q.n) fun (y2 : ByteArray) =>
 (VC.need ((1 : Nat) + ByteArray.size y2 ≤ (9223372036854775807 : Nat))
 (VC.need (ByteArray.size ({ data := #[(114 : UInt8)] } ++ y2) + (1 : Nat) ≤ (9223372036854775807 : Nat))
 (VC.ret (some (RR.c (Rc.d (D.str ({ data := #[(114 : UInt8)] } ++ y2 ++ { data := #[(61 : UInt8)] }))))))))))
 (FnA.at_ a_rName 0 (F_rn p q.n (0 : Int)))) := by kernel_rfl
set_option maxRecDepth 100000 in
theorem t_rn0 (p : Prg) (a i : Int) : a_rName.round s_rName 400 0 (F_rn p a i) =
(VC.br (decide (i < (↑(List.length (rowsOn p.mems)) : Int)))
 (VC.need ((0 : Int) ≤ i ∧ i < (↑(List.length (rowsOn p.mems)) : Int) ∧ List.length (rowAt (rowsOn p.mems) (Int.toNat i)) = (3 : Nat))
 (VC.need (okSh [Kd.int IntKind.i64] (List.drop (2 : Nat) (rowAt (rowsOn p.mems) (Int.toNat i))))
 (VC.br (decide (a < asInt (List.getD (List.drop (2 : Nat) (rowAt (rowsOn p.mems) (Int.toNat i))) (0 : Nat) D.nilp)))
  (VC.need ((0 : Int) ≤ i ∧ i < (↑(List.length (rowsOn p.mems)) : Int) ∧ List.length (rowAt (rowsOn p.mems) (Int.toNat i)) = (3 : Nat))
  (VC.need (okSh [Kd.str] (List.drop (0 : Nat) (rowAt (rowsOn p.mems) (Int.toNat i))))
  (VC.need (ByteArray.size (asStr (List.getD (List.drop (0 : Nat) (rowAt (rowsOn p.mems) (Int.toNat i))) (0 : Nat) D.nilp)) + (1 : Nat) ≤ (9223372036854775807 : Nat))
  (VC.need (PreOk c_dig1 a [A.c (D.int IntKind.i64 a)])
  (VC.all (v_dig1 a) fun (y3 : ByteArray) =>
  (VC.need (ByteArray.size (asStr (List.getD (List.drop (0 : Nat) (rowAt (rowsOn p.mems) (Int.toNat i))) (0 : Nat) D.nilp) ++ { data := #[(46 : UInt8)] }) + ByteArray.size y3 ≤ (9223372036854775807 : Nat))
  (VC.need (ByteArray.size (asStr (List.getD (List.drop (0 : Nat) (rowAt (rowsOn p.mems) (Int.toNat i))) (0 : Nat) D.nilp) ++ { data := #[(46 : UInt8)] } ++ y3) + (1 : Nat) ≤ (9223372036854775807 : Nat))
  (VC.ret (some (RR.c (Rc.d (D.str (asStr (List.getD (List.drop (0 : Nat) (rowAt (rowsOn p.mems) (Int.toNat i))) (0 : Nat) D.nilp) ++ { data := #[(46 : UInt8)] } ++ y3 ++ { data := #[(61 : UInt8)] })))))))))))))
  (VC.need ((0 : Int) ≤ i ∧ i < (↑(List.length (rowsOn p.mems)) : Int) ∧ List.length (rowAt (rowsOn p.mems) (Int.toNat i)) = (3 : Nat))
  (VC.need (okSh [Kd.int IntKind.i64] (List.drop (2 : Nat) (rowAt (rowsOn p.mems) (Int.toNat i))))
  (FnA.at_ a_rName 0 (F_rn p (IntKind.wrap IntKind.i64 (a - asInt (List.getD (List.drop (2 : Nat) (rowAt (rowsOn p.mems) (Int.toNat i))) (0 : Nat) D.nilp))) (IntKind.wrap IntKind.i64 (i + (1 : Int))))))))))
 (VC.ret (some (RR.c (Rc.d (D.str { data := #[(63 : UInt8)] })))))) := by kernel_rfl
theorem l_rn0 (p : Prg) (hm : NmOk p.mems) (fin : ByteArray) : ∀ i_ : Int × Int, (fun (v : Int × Int) => 0 ≤ v.1 ∧ v.1 ≤ 9 ∧ 0 ≤ v.2 ∧ v.2 ≤ p.mems.length ∧ nameM (p.mems.drop v.2.toNat) v.1 = fin) i_ → (a_rName.at_ 0 ((fun (v : Int × Int) => F_rn p v.1 v.2) i_)).holds s_rName.cx a_rName.rs (fun r => r.le (.c (.d (.str fin)))) := by
  refine loop_rule (a := a_rName) (j := 0) (m := 400) s_rName_sound (fun (v : Int × Int) => F_rn p v.1 v.2) (fun (v : Int × Int) => 0 ≤ v.1 ∧ v.1 ≤ 9 ∧ 0 ≤ v.2 ∧ v.2 ≤ p.mems.length ∧ nameM (p.mems.drop v.2.toNat) v.1 = fin) (fun (v : Int × Int) => ((p.mems.length : Int) - v.2).toNat) ?_
  rintro ⟨a, i⟩ h_inv ih
  try dsimp only at h_inv
  replace ih := fun (v0 : Int) (v1 : Int) => ih (v0, v1)
  try dsimp only at ih
  show VC.holds _ _ _ (a_rName.round s_rName 400 0 (F_rn p a i))
  rw [t_rn0]
  try simp only [asRows_sl, asInt_int, asBool_bool, asStr_str, listOf_rowsOn, List.drop_zero, Prg.eta, Sta.eta, rowsOn_length, getD_drop, Nat.reduceAdd, rd_int, rd_PMem_name, rd_PMem_secret, rd_PMem_n, rd_PLabel_name, rd_PLabel_at_, rd_Ins_kind, rd_Ins_op, rd_Ins_d, rd_Ins_aR, rd_Ins_aN, rd_Ins_bR, rd_Ins_bN, rd_Ins_name, rd_Ins_target, rd_Ent_pc, rd_Ent_val, rd_Ent_addr, rd_Ent_fro, rd_Ent_next, rd_Ent_done, rd_Ent_known, rd_Ent_fault, rd_Place_reg, rd_Place_n, rd_Place_secret, rd_Obs_kind, rd_Obs_at_, rd_Dir_kind, rd_Dir_n, rd_Rn_v, rd_Tok_kind, rd_Tok_text, rd_Tok_n, rd_Tok_at_]
  obtain ⟨a0, a9, h0, h1, hf⟩ := h_inv
  have hlen := hm.len
  have hdj := digS_size a
  refine br_dec (fun hi => ?_) (fun hi => ?_)
  · have h8 := hm.n _ (rd_mem p.mems i h0 hi)
    rw [drop_rd p.mems i h0 hi] at hf
    have hf : (if a < (rd p.mems i).n then nameC (rd p.mems i).name a else nameM (p.mems.drop (i + 1).toNat) (a - (rd p.mems i).n)) = fin := hf
    have i1 := idx_ok p.mems i 3 rfl h0 hi
    refine ⟨i1, okSh_okD [Kd.int .i64] 2 p.mems i (fun _ => rfl) h0 hi, br_dec (fun ha => ?_) (fun ha => ?_)⟩
    · replace ha : a < (rd p.mems i).n := by simpa using ha
      rw [if_pos ha] at hf
      refine ⟨i1, okSh_ok [Kd.str] p.mems i (fun _ => rfl) h0 hi, ?_, PreOk.mk ⟨a0, a9⟩ rfl, all_holds fun y hy => ?_⟩
      · show (rd p.mems i).name.size + 1 ≤ _; omega
      replace hy : y = digS a := hy
      subst hy
      refine ⟨?_, ?_, ret_le ?_⟩
      · rw [ba_size, hdj]; show (rd p.mems i).name.size + 1 + 1 ≤ _; omega
      · rw [ba_size, ba_size, hdj]; show (rd p.mems i).name.size + 1 + 1 + 1 ≤ _; omega
      · rw [← hf]; exact RR.le_refl _
    · replace ha : ¬ a < (rd p.mems i).n := by simpa using ha
      rw [if_neg ha] at hf
      refine ⟨i1, okSh_okD [Kd.int .i64] 2 p.mems i (fun _ => rfl) h0 hi, ?_⟩
      rw [wrap_small (a - (rd p.mems i).n) (by omega) (by omega), wrap_small (i + 1) (by omega) (by omega)]
      exact ih _ _ ⟨by omega, by omega, by omega, by omega, hf⟩ (by omega)
  · rw [drop_end p.mems i (by omega)] at hf
    rw [← hf]
    exact ret_le (RR.le_refl _)
theorem c_rName_good : c_rName.fe.Good Tryd.prog := by
  refine FT.good c_rName ⟨Tryd.f33, by kernel_rfl, by decide +kernel, by kernel_rfl⟩ (fun ⟨p, q⟩ => by first | rfl | simp [c_rName, rrRef, rParse, badR, rTx, rsl, rss, rnewI, rnewE, rstab, rplaces, ri, rb, rib, rR, riib3, rnum, rby, Sta.fresh]) fun ⟨p, q⟩ hp => ?_
  refine acalls_le s_rName_sound (fn := Tryd.f33) (a := a_rName) (nargs := 2) (tbl := [(5, [2, 5, 6])]) (by kernel_rfl) (by kernel_rfl) rfl (m := 400) ?_
  show VC.holds _ _ _ (a_rName.start s_rName 400 [ap p, aPl q])
  rw [t_rName]
  try simp only [asRows_sl, asInt_int, asBool_bool, asStr_str, listOf_rowsOn, List.drop_zero, Prg.eta, Sta.eta, rowsOn_length, getD_drop, Nat.reduceAdd, rd_int, rd_PMem_name, rd_PMem_secret, rd_PMem_n, rd_PLabel_name, rd_PLabel_at_, rd_Ins_kind, rd_Ins_op, rd_Ins_d, rd_Ins_aR, rd_Ins_aN, rd_Ins_bR, rd_Ins_bN, rd_Ins_name, rd_Ins_target, rd_Ent_pc, rd_Ent_val, rd_Ent_addr, rd_Ent_fro, rd_Ent_next, rd_Ent_done, rd_Ent_known, rd_Ent_fault, rd_Place_reg, rd_Place_n, rd_Place_secret, rd_Obs_kind, rd_Obs_at_, rd_Dir_kind, rd_Dir_n, rd_Rn_v, rd_Tok_kind, rd_Tok_text, rd_Tok_n, rd_Tok_at_]
  try simp only [c_rName] at hp
  obtain ⟨hm, h0, h9⟩ := hp
  have h0 : 0 ≤ q.n := h0
  have h9 : q.n ≤ 9 := h9
  have hdj := digS_size q.n
  have e : c_rName.ans (p, q) = .c (.d (.str (nameP p q))) := rfl
  rw [e]
  unfold nameP
  refine br_holds (fun hr => ?_) (fun hr => ?_)
  · rw [if_pos hr]
    refine ⟨PreOk.mk ⟨h0, h9⟩ rfl, all_holds fun y hy => ?_⟩
    replace hy : y = digS q.n := hy
    subst hy
    refine ⟨by omega, ?_, ret_le (RR.le_refl _)⟩
    rw [ba_size, hdj]; show 1 + 1 + 1 ≤ _; omega
  · rw [if_neg (by rw [hr]; simp)]
    exact l_rn0 p hm _ (q.n, 0) ⟨h0, h9, by simp, by simp, rfl⟩
noncomputable def v_rName : Prg × Place → ByteArray := fun x => nameP x.1 x.2
noncomputable def sh_rName : ByteArray → RR := fun s => .c (.d (.str s))
theorem e_rName (x : Prg × Place) : sh_rName (v_rName x) = c_rName.ans x := rfl
def c_rShow : FT (Prg × Sta) := ⟨12, fun x => [ap x.1, as_ x.2], rdPSw, fun x => MemsF x.1.mems ∧ ∀ v ∈ valsS x.1 x.2, 0 ≤ v ∧ v ≤ 9, fun x => .c (.d (.str (showS x.1 x.2))), false, fun x => by simp [ap, as_, rdPSw]⟩
noncomputable def a_rShow : FnA := (fnA Tryd.prog Tryd.f12 2 [(4, [2, 3, 5, 6, 7]), (1000000018, [2, 3, 5, 6, 7, 8])]).getD ⟨0, .skip, [], []⟩
noncomputable def s_rShow : Sp := spT [c_rPlaces.gfe v_rPlaces sh_rPlaces e_rPlaces, c_rName.gfe v_rName sh_rName e_rName, c_dig1.gfe v_dig1 sh_dig1 e_dig1]
theorem s_rShow_sound : s_rShow.sound Tryd.prog := spT_sound fun e he => by
  simp only [List.mem_cons, List.not_mem_nil, or_false] at he
  rcases he with rfl | rfl | rfl
  · exact FT.gfe_good c_rPlaces_good
  · exact FT.gfe_good c_rName_good
  · exact FT.gfe_good c_dig1_good
def F_rs (p : Prg) (s : Sta) (o : ByteArray) (q : List Place) (i : Int) : St := ⟨mkS 66 [(2, vp 128), (3, vp 192), (5, vt o), (6, vo 640 (rowsOn q).length), (7, vi i)], [(128, bx p.cells), (192, bx s.cells), (640, ba 3 (rowsOn q))]⟩
def F_rsx (p : Prg) (s : Sta) (o : ByteArray) (q : List Place) (i n : Int) : St := ⟨mkS 66 [(2, vp 128), (3, vp 192), (5, vt o), (6, vo 640 (rowsOn q).length), (7, vi i), (8, vi n)], [(128, bx p.cells), (192, bx s.cells), (640, ba 3 (rowsOn q))]⟩
set_option maxRecDepth 100000 in
theorem t_rShow (p : Prg) (s : Sta) : a_rShow.start s_rShow 400 [ap p, as_ s] =
(VC.need (PreOk c_rPlaces p [A.agg (Prg.cells p)])
(VC.all (v_rPlaces { w := p.w, window := p.window, fuel := p.fuel, r0 := p.r0, r1 := p.r1, r2 := p.r2, r3 := p.r3, mems := listOf PMem (rowsOn p.mems), labels := listOf PLabel (rowsOn p.labels), ins := listOf Ins (rowsOn p.ins) }) fun (y2 : List Place) =>
(FnA.at_ a_rShow 0 (F_rs p s { data := #[] } y2 (0 : Int))))) := by kernel_rfl
set_option maxRecDepth 100000 in
theorem t_rs0 (p : Prg) (s : Sta) (o : ByteArray) (q : List Place) (i : Int) : a_rShow.round s_rShow 400 0 (F_rs p s o q i) =
(VC.br (decide (i < (↑(List.length (rowsOn q)) : Int)))
 (VC.need ((0 : Int) ≤ i ∧ i < (↑(List.length (rowsOn q)) : Int))
 (VC.need (Int.toNat i < List.length (rowsOn q) ∧ List.length (rowAt (rowsOn q) (Int.toNat i)) = (3 : Nat) ∧ okSh [Kd.int IntKind.i64] (List.drop (1 : Nat) (rowAt (rowsOn q) (Int.toNat i))))
 (VC.br (decide (bits BinOp.and IntKind.i64 (asInt (List.getD (List.drop (1 : Nat) (rowAt (rowsOn q) (Int.toNat i))) (0 : Nat) D.nilp)) (3 : Int) = (0 : Int)))
  (VC.need ((0 : Int) ≤ i ∧ i < (↑(List.length (rowsOn q)) : Int))
  (VC.need (Int.toNat i < List.length (rowsOn q) ∧ List.length (rowAt (rowsOn q) (Int.toNat i)) = (3 : Nat) ∧ okSh [Kd.bool] (List.drop (0 : Nat) (rowAt (rowsOn q) (Int.toNat i))))
  (VC.br (!asBool (List.getD (List.drop (0 : Nat) (rowAt (rowsOn q) (Int.toNat i))) (0 : Nat) D.nilp))
   (VC.need ((0 : Int) ≤ i ∧ i < (↑(List.length (rowsOn q)) : Int))
   (VC.need (Int.toNat i < List.length (rowsOn q) ∧ List.length (rowAt (rowsOn q) (Int.toNat i)) = (3 : Nat) ∧ okSh [Kd.int IntKind.i64] (List.drop (1 : Nat) (rowAt (rowsOn q) (Int.toNat i))))
   (VC.br (decide (asInt (List.getD (List.drop (1 : Nat) (rowAt (rowsOn q) (Int.toNat i))) (0 : Nat) D.nilp) < (↑(List.length (rowsOn s.mem)) : Int)))
    (VC.need ((0 : Int) ≤ i ∧ i < (↑(List.length (rowsOn q)) : Int))
    (VC.need (Int.toNat i < List.length (rowsOn q) ∧ List.length (rowAt (rowsOn q) (Int.toNat i)) = (3 : Nat) ∧ okSh [Kd.int IntKind.i64] (List.drop (1 : Nat) (rowAt (rowsOn q) (Int.toNat i))))
    (VC.need ((0 : Int) ≤ asInt (List.getD (List.drop (1 : Nat) (rowAt (rowsOn q) (Int.toNat i))) (0 : Nat) D.nilp) ∧ asInt (List.getD (List.drop (1 : Nat) (rowAt (rowsOn q) (Int.toNat i))) (0 : Nat) D.nilp) < (↑(List.length (rowsOn s.mem)) : Int) ∧ List.length (rowAt (rowsOn s.mem) (Int.toNat (asInt (List.getD (List.drop (1 : Nat) (rowAt (rowsOn q) (Int.toNat i))) (0 : Nat) D.nilp)))) = (1 : Nat))
    (VC.need (okSh [Kd.int IntKind.i64] (rowAt (rowsOn s.mem) (Int.toNat (asInt (List.getD (List.drop (1 : Nat) (rowAt (rowsOn q) (Int.toNat i))) (0 : Nat) D.nilp)))))
    (FnA.at_ a_rShow 1 (F_rsx p s o q i (asInt (List.getD (rowAt (rowsOn s.mem) (Int.toNat (asInt (List.getD (List.drop (1 : Nat) (rowAt (rowsOn q) (Int.toNat i))) (0 : Nat) D.nilp)))) (0 : Nat) D.nilp))))))))
    (FnA.at_ a_rShow 1 (F_rsx p s o q i (0 : Int))))))
   (FnA.at_ a_rShow 1 (F_rsx p s o q i s.r0)))))
  (VC.br (decide (bits BinOp.and IntKind.i64 (asInt (List.getD (List.drop (1 : Nat) (rowAt (rowsOn q) (Int.toNat i))) (0 : Nat) D.nilp)) (3 : Int) = (1 : Int)))
   (VC.need ((0 : Int) ≤ i ∧ i < (↑(List.length (rowsOn q)) : Int))
   (VC.need (Int.toNat i < List.length (rowsOn q) ∧ List.length (rowAt (rowsOn q) (Int.toNat i)) = (3 : Nat) ∧ okSh [Kd.bool] (List.drop (0 : Nat) (rowAt (rowsOn q) (Int.toNat i))))
   (VC.br (!asBool (List.getD (List.drop (0 : Nat) (rowAt (rowsOn q) (Int.toNat i))) (0 : Nat) D.nilp))
    (VC.need ((0 : Int) ≤ i ∧ i < (↑(List.length (rowsOn q)) : Int))
    (VC.need (Int.toNat i < List.length (rowsOn q) ∧ List.length (rowAt (rowsOn q) (Int.toNat i)) = (3 : Nat) ∧ okSh [Kd.int IntKind.i64] (List.drop (1 : Nat) (rowAt (rowsOn q) (Int.toNat i))))
    (VC.br (decide (asInt (List.getD (List.drop (1 : Nat) (rowAt (rowsOn q) (Int.toNat i))) (0 : Nat) D.nilp) < (↑(List.length (rowsOn s.mem)) : Int)))
     (VC.need ((0 : Int) ≤ i ∧ i < (↑(List.length (rowsOn q)) : Int))
     (VC.need (Int.toNat i < List.length (rowsOn q) ∧ List.length (rowAt (rowsOn q) (Int.toNat i)) = (3 : Nat) ∧ okSh [Kd.int IntKind.i64] (List.drop (1 : Nat) (rowAt (rowsOn q) (Int.toNat i))))
     (VC.need ((0 : Int) ≤ asInt (List.getD (List.drop (1 : Nat) (rowAt (rowsOn q) (Int.toNat i))) (0 : Nat) D.nilp) ∧ asInt (List.getD (List.drop (1 : Nat) (rowAt (rowsOn q) (Int.toNat i))) (0 : Nat) D.nilp) < (↑(List.length (rowsOn s.mem)) : Int) ∧ List.length (rowAt (rowsOn s.mem) (Int.toNat (asInt (List.getD (List.drop (1 : Nat) (rowAt (rowsOn q) (Int.toNat i))) (0 : Nat) D.nilp)))) = (1 : Nat))
     (VC.need (okSh [Kd.int IntKind.i64] (rowAt (rowsOn s.mem) (Int.toNat (asInt (List.getD (List.drop (1 : Nat) (rowAt (rowsOn q) (Int.toNat i))) (0 : Nat) D.nilp)))))
     (FnA.at_ a_rShow 1 (F_rsx p s o q i (asInt (List.getD (rowAt (rowsOn s.mem) (Int.toNat (asInt (List.getD (List.drop (1 : Nat) (rowAt (rowsOn q) (Int.toNat i))) (0 : Nat) D.nilp)))) (0 : Nat) D.nilp))))))))
     (FnA.at_ a_rShow 1 (F_rsx p s o q i (0 : Int))))))
    (FnA.at_ a_rShow 1 (F_rsx p s o q i s.r1)))))
   (VC.br (decide (bits BinOp.and IntKind.i64 (asInt (List.getD (List.drop (1 : Nat) (rowAt (rowsOn q) (Int.toNat i))) (0 : Nat) D.nilp)) (3 : Int) = (2 : Int)))
    (VC.need ((0 : Int) ≤ i ∧ i < (↑(List.length (rowsOn q)) : Int))
    (VC.need (Int.toNat i < List.length (rowsOn q) ∧ List.length (rowAt (rowsOn q) (Int.toNat i)) = (3 : Nat) ∧ okSh [Kd.bool] (List.drop (0 : Nat) (rowAt (rowsOn q) (Int.toNat i))))
    (VC.br (!asBool (List.getD (List.drop (0 : Nat) (rowAt (rowsOn q) (Int.toNat i))) (0 : Nat) D.nilp))
     (VC.need ((0 : Int) ≤ i ∧ i < (↑(List.length (rowsOn q)) : Int))
     (VC.need (Int.toNat i < List.length (rowsOn q) ∧ List.length (rowAt (rowsOn q) (Int.toNat i)) = (3 : Nat) ∧ okSh [Kd.int IntKind.i64] (List.drop (1 : Nat) (rowAt (rowsOn q) (Int.toNat i))))
     (VC.br (decide (asInt (List.getD (List.drop (1 : Nat) (rowAt (rowsOn q) (Int.toNat i))) (0 : Nat) D.nilp) < (↑(List.length (rowsOn s.mem)) : Int)))
      (VC.need ((0 : Int) ≤ i ∧ i < (↑(List.length (rowsOn q)) : Int))
      (VC.need (Int.toNat i < List.length (rowsOn q) ∧ List.length (rowAt (rowsOn q) (Int.toNat i)) = (3 : Nat) ∧ okSh [Kd.int IntKind.i64] (List.drop (1 : Nat) (rowAt (rowsOn q) (Int.toNat i))))
      (VC.need ((0 : Int) ≤ asInt (List.getD (List.drop (1 : Nat) (rowAt (rowsOn q) (Int.toNat i))) (0 : Nat) D.nilp) ∧ asInt (List.getD (List.drop (1 : Nat) (rowAt (rowsOn q) (Int.toNat i))) (0 : Nat) D.nilp) < (↑(List.length (rowsOn s.mem)) : Int) ∧ List.length (rowAt (rowsOn s.mem) (Int.toNat (asInt (List.getD (List.drop (1 : Nat) (rowAt (rowsOn q) (Int.toNat i))) (0 : Nat) D.nilp)))) = (1 : Nat))
      (VC.need (okSh [Kd.int IntKind.i64] (rowAt (rowsOn s.mem) (Int.toNat (asInt (List.getD (List.drop (1 : Nat) (rowAt (rowsOn q) (Int.toNat i))) (0 : Nat) D.nilp)))))
      (FnA.at_ a_rShow 1 (F_rsx p s o q i (asInt (List.getD (rowAt (rowsOn s.mem) (Int.toNat (asInt (List.getD (List.drop (1 : Nat) (rowAt (rowsOn q) (Int.toNat i))) (0 : Nat) D.nilp)))) (0 : Nat) D.nilp))))))))
      (FnA.at_ a_rShow 1 (F_rsx p s o q i (0 : Int))))))
     (FnA.at_ a_rShow 1 (F_rsx p s o q i s.r2)))))
    (VC.br (decide (bits BinOp.and IntKind.i64 (asInt (List.getD (List.drop (1 : Nat) (rowAt (rowsOn q) (Int.toNat i))) (0 : Nat) D.nilp)) (3 : Int) = (3 : Int)))
     (VC.need ((0 : Int) ≤ i ∧ i < (↑(List.length (rowsOn q)) : Int))
     (VC.need (Int.toNat i < List.length (rowsOn q) ∧ List.length (rowAt (rowsOn q) (Int.toNat i)) = (3 : Nat) ∧ okSh [Kd.bool] (List.drop (0 : Nat) (rowAt (rowsOn q) (Int.toNat i))))
     (VC.br (!asBool (List.getD (List.drop (0 : Nat) (rowAt (rowsOn q) (Int.toNat i))) (0 : Nat) D.nilp))
      (VC.need ((0 : Int) ≤ i ∧ i < (↑(List.length (rowsOn q)) : Int))
      (VC.need (Int.toNat i < List.length (rowsOn q) ∧ List.length (rowAt (rowsOn q) (Int.toNat i)) = (3 : Nat) ∧ okSh [Kd.int IntKind.i64] (List.drop (1 : Nat) (rowAt (rowsOn q) (Int.toNat i))))
      (VC.br (decide (asInt (List.getD (List.drop (1 : Nat) (rowAt (rowsOn q) (Int.toNat i))) (0 : Nat) D.nilp) < (↑(List.length (rowsOn s.mem)) : Int)))
       (VC.need ((0 : Int) ≤ i ∧ i < (↑(List.length (rowsOn q)) : Int))
       (VC.need (Int.toNat i < List.length (rowsOn q) ∧ List.length (rowAt (rowsOn q) (Int.toNat i)) = (3 : Nat) ∧ okSh [Kd.int IntKind.i64] (List.drop (1 : Nat) (rowAt (rowsOn q) (Int.toNat i))))
       (VC.need ((0 : Int) ≤ asInt (List.getD (List.drop (1 : Nat) (rowAt (rowsOn q) (Int.toNat i))) (0 : Nat) D.nilp) ∧ asInt (List.getD (List.drop (1 : Nat) (rowAt (rowsOn q) (Int.toNat i))) (0 : Nat) D.nilp) < (↑(List.length (rowsOn s.mem)) : Int) ∧ List.length (rowAt (rowsOn s.mem) (Int.toNat (asInt (List.getD (List.drop (1 : Nat) (rowAt (rowsOn q) (Int.toNat i))) (0 : Nat) D.nilp)))) = (1 : Nat))
       (VC.need (okSh [Kd.int IntKind.i64] (rowAt (rowsOn s.mem) (Int.toNat (asInt (List.getD (List.drop (1 : Nat) (rowAt (rowsOn q) (Int.toNat i))) (0 : Nat) D.nilp)))))
       (FnA.at_ a_rShow 1 (F_rsx p s o q i (asInt (List.getD (rowAt (rowsOn s.mem) (Int.toNat (asInt (List.getD (List.drop (1 : Nat) (rowAt (rowsOn q) (Int.toNat i))) (0 : Nat) D.nilp)))) (0 : Nat) D.nilp))))))))
       (FnA.at_ a_rShow 1 (F_rsx p s o q i (0 : Int))))))
      (FnA.at_ a_rShow 1 (F_rsx p s o q i s.r3)))))
     VC.ff))))))
 (VC.ret (some (RR.c (Rc.d (D.str o)))))) := by kernel_rfl
set_option maxRecDepth 100000 in
theorem t_rs1 (p : Prg) (s : Sta) (o : ByteArray) (q : List Place) (i n : Int) : a_rShow.round s_rShow 400 1 (F_rsx p s o q i n) =
(VC.br (decide ((0 : Int) < i))
 (VC.need (ByteArray.size o + (1 : Nat) ≤ (9223372036854775807 : Nat))
 (VC.need ((0 : Int) ≤ i ∧ i < (↑(List.length (rowsOn q)) : Int))
 (VC.need (Int.toNat i < List.length (rowsOn q) ∧ List.length (rowAt (rowsOn q) (Int.toNat i)) = (3 : Nat) ∧ okSh [Kd.bool, Kd.int IntKind.i64, Kd.bool] (List.drop (0 : Nat) (rowAt (rowsOn q) (Int.toNat i))))
 (VC.need (PreOk c_rName (Prg.of (Prg.cells p), Row.of [D.bool (asBool (List.getD (List.drop (0 : Nat) (rowAt (rowsOn q) (Int.toNat i))) (0 : Nat) D.nilp)), D.int IntKind.i64 (asInt (List.getD (List.drop (0 : Nat) (rowAt (rowsOn q) (Int.toNat i))) (1 : Nat) D.nilp)), D.bool (asBool (List.getD (List.drop (0 : Nat) (rowAt (rowsOn q) (Int.toNat i))) (2 : Nat) D.nilp))]) [A.agg (Prg.cells p), A.agg [D.bool (asBool (List.getD (List.drop (0 : Nat) (rowAt (rowsOn q) (Int.toNat i))) (0 : Nat) D.nilp)), D.int IntKind.i64 (asInt (List.getD (List.drop (0 : Nat) (rowAt (rowsOn q) (Int.toNat i))) (1 : Nat) D.nilp)), D.bool (asBool (List.getD (List.drop (0 : Nat) (rowAt (rowsOn q) (Int.toNat i))) (2 : Nat) D.nilp))]])
 (VC.all (v_rName (Prg.of (Prg.cells p), Row.of [D.bool (asBool (List.getD (List.drop (0 : Nat) (rowAt (rowsOn q) (Int.toNat i))) (0 : Nat) D.nilp)), D.int IntKind.i64 (asInt (List.getD (List.drop (0 : Nat) (rowAt (rowsOn q) (Int.toNat i))) (1 : Nat) D.nilp)), D.bool (asBool (List.getD (List.drop (0 : Nat) (rowAt (rowsOn q) (Int.toNat i))) (2 : Nat) D.nilp))])) fun (y6 : ByteArray) =>
 (VC.need (ByteArray.size (o ++ { data := #[(32 : UInt8)] }) + ByteArray.size y6 ≤ (9223372036854775807 : Nat))
 (VC.need (PreOk c_dig1 n [A.c (D.int IntKind.i64 n)])
 (VC.all (v_dig1 n) fun (y7 : ByteArray) =>
 (VC.need (ByteArray.size (o ++ { data := #[(32 : UInt8)] } ++ y6) + ByteArray.size y7 ≤ (9223372036854775807 : Nat))
 (FnA.at_ a_rShow 0 (F_rs p s (o ++ { data := #[(32 : UInt8)] } ++ y6 ++ y7) q (IntKind.wrap IntKind.i64 (i + (1 : Int))))))))))))))
 (VC.need ((0 : Int) ≤ i ∧ i < (↑(List.length (rowsOn q)) : Int))
 (VC.need (Int.toNat i < List.length (rowsOn q) ∧ List.length (rowAt (rowsOn q) (Int.toNat i)) = (3 : Nat) ∧ okSh [Kd.bool, Kd.int IntKind.i64, Kd.bool] (List.drop (0 : Nat) (rowAt (rowsOn q) (Int.toNat i))))
 (VC.need (PreOk c_rName (Prg.of (Prg.cells p), Row.of [D.bool (asBool (List.getD (List.drop (0 : Nat) (rowAt (rowsOn q) (Int.toNat i))) (0 : Nat) D.nilp)), D.int IntKind.i64 (asInt (List.getD (List.drop (0 : Nat) (rowAt (rowsOn q) (Int.toNat i))) (1 : Nat) D.nilp)), D.bool (asBool (List.getD (List.drop (0 : Nat) (rowAt (rowsOn q) (Int.toNat i))) (2 : Nat) D.nilp))]) [A.agg (Prg.cells p), A.agg [D.bool (asBool (List.getD (List.drop (0 : Nat) (rowAt (rowsOn q) (Int.toNat i))) (0 : Nat) D.nilp)), D.int IntKind.i64 (asInt (List.getD (List.drop (0 : Nat) (rowAt (rowsOn q) (Int.toNat i))) (1 : Nat) D.nilp)), D.bool (asBool (List.getD (List.drop (0 : Nat) (rowAt (rowsOn q) (Int.toNat i))) (2 : Nat) D.nilp))]])
 (VC.all (v_rName (Prg.of (Prg.cells p), Row.of [D.bool (asBool (List.getD (List.drop (0 : Nat) (rowAt (rowsOn q) (Int.toNat i))) (0 : Nat) D.nilp)), D.int IntKind.i64 (asInt (List.getD (List.drop (0 : Nat) (rowAt (rowsOn q) (Int.toNat i))) (1 : Nat) D.nilp)), D.bool (asBool (List.getD (List.drop (0 : Nat) (rowAt (rowsOn q) (Int.toNat i))) (2 : Nat) D.nilp))])) fun (y6 : ByteArray) =>
 (VC.need (ByteArray.size o + ByteArray.size y6 ≤ (9223372036854775807 : Nat))
 (VC.need (PreOk c_dig1 n [A.c (D.int IntKind.i64 n)])
 (VC.all (v_dig1 n) fun (y7 : ByteArray) =>
 (VC.need (ByteArray.size (o ++ y6) + ByteArray.size y7 ≤ (9223372036854775807 : Nat))
 (FnA.at_ a_rShow 0 (F_rs p s (o ++ y6 ++ y7) q (IntKind.wrap IntKind.i64 (i + (1 : Int)))))))))))))) := by kernel_rfl
theorem inter_snoc (sep : List UInt8) : ∀ (l : List (List UInt8)) (x : List UInt8), sep.intercalate (l ++ [x]) = if l = [] then x else sep.intercalate l ++ (sep ++ x)
  | [], x => by simp [List.intercalate]
  | [a], x => by simp [List.intercalate, List.intersperse]
  | a :: b :: l, x => by
    have ih := inter_snoc sep (b :: l) x
    rw [if_neg (by simp)] at ih ⊢
    rw [List.cons_append, List.cons_append, inter_cons, ← List.cons_append, ih, inter_cons]
    simp only [List.append_assoc]
theorem joinT_data (l : List Tx) : (joinT l).data.toList = ([32] : List UInt8).intercalate (l.map fun t => t.v.data.toList) := by simp [joinT]
theorem ba_ext {s t : ByteArray} (h : s.data.toList = t.data.toList) : s = t := ByteArray.ext (Array.toList_inj.1 h)
theorem join_next (L : List Tx) (k : Int) (h0 : 0 ≤ k) (hk : k < L.length) : joinT (L.take (k + 1).toNat) = (if 0 < k then joinT (L.take k.toNat) ++ chB 32 else joinT (L.take k.toNat)) ++ (rd L k).v := by
  rw [take_rn L k h0 hk]
  apply ba_ext
  rw [joinT_data, List.map_append, List.map_cons, List.map_nil, inter_snoc]
  by_cases hp : 0 < k
  · have hne : ¬ (List.map (fun t : Tx => t.v.data.toList) (L.take k.toNat)) = [] := fun e => by
      have := congrArg List.length e
      rw [List.length_map, List.length_take] at this
      simp only [List.length_nil] at this
      omega
    rw [if_neg hne, if_pos hp, ba_data_app, ba_data_app, joinT_data]
    simp only [List.append_assoc]
    rfl
  · have e : k = 0 := by omega
    subst e
    rfl
theorem told_rd {p : Prg} (hm : MemsF p.mems) (s : Sta) (k : Int) (h0 : 0 ≤ k) (hk : k < (placesS p).length) : (rd (toldL p s) k).v = nameP p (rd (placesS p) k) ++ digS (heldS s (rd (placesS p) k)) ∧ rd (namesS p) k = ⟨nameP p (rd (placesS p) k)⟩ ∧ (toldL p s).length = (placesS p).length := by
  have hl := names_len hm
  have hn : rd (namesS p) k = ⟨nameP p (rd (placesS p) k)⟩ := by
    rw [← names_map hm]
    unfold rd
    rw [List.getD_eq_getElem?_getD, List.getD_eq_getElem?_getD, List.getElem?_map, List.getElem?_eq_getElem (show k.toNat < (placesS p).length by omega)]
    rfl
  have htl : (toldL p s).length = (placesS p).length := by unfold toldL; rw [List.length_zipWith]; omega
  refine ⟨?_, hn, htl⟩
  have e : rd (toldL p s) k = ⟨(rd (namesS p) k).v ++ digS (heldS s (rd (placesS p) k))⟩ := by
    unfold rd toldL
    rw [List.getD_eq_getElem?_getD, List.getElem?_eq_getElem (by rw [List.length_zipWith]; omega), List.getElem_zipWith]
    rw [List.getD_eq_getElem?_getD, List.getElem?_eq_getElem (show k.toNat < (namesS p).length by omega), List.getD_eq_getElem?_getD, List.getElem?_eq_getElem (show k.toNat < (placesS p).length by omega)]
    rfl
  rw [e, hn]
theorem at_rsx (p : Prg) (s : Sta) (hm : MemsF p.mems) (o : ByteArray) (q : List Place) (hq : q = placesS p) (i n : Int) (h0 : 0 ≤ i) (hi : i < q.length) (hn : 0 ≤ n ∧ n ≤ 9) (hx : 0 ≤ (rd q i).n ∧ (rd q i).n ≤ 9) (hnm : (nameP p (rd q i)).size ≤ 4) (ho : o.size ≤ 1000) (R : RR → Prop) (hnext : (a_rShow.at_ 0 (F_rs p s ((if 0 < i then o ++ chB 32 else o) ++ nameP p (rd q i) ++ digS n) q (i + 1))).holds s_rShow.cx a_rShow.rs R) : (a_rShow.at_ 1 (F_rsx p s o q i n)).holds s_rShow.cx a_rShow.rs (R) := by
  refine at_of_round s_rShow_sound (m := 400) ?_
  rw [t_rs1]
  try simp only [asRows_sl, asInt_int, asBool_bool, asStr_str, listOf_rowsOn, List.drop_zero, Prg.eta, Sta.eta, rowsOn_length, getD_drop, Nat.reduceAdd, rd_int, rd_PMem_name, rd_PMem_secret, rd_PMem_n, rd_PLabel_name, rd_PLabel_at_, rd_Ins_kind, rd_Ins_op, rd_Ins_d, rd_Ins_aR, rd_Ins_aN, rd_Ins_bR, rd_Ins_bN, rd_Ins_name, rd_Ins_target, rd_Ent_pc, rd_Ent_val, rd_Ent_addr, rd_Ent_fro, rd_Ent_next, rd_Ent_done, rd_Ent_known, rd_Ent_fault, rd_Place_reg, rd_Place_n, rd_Place_secret, rd_Obs_kind, rd_Obs_at_, rd_Dir_kind, rd_Dir_n, rd_Rn_v, rd_Tok_kind, rd_Tok_text, rd_Tok_n, rd_Tok_at_]
  have hdj := digS_size n
  have h6 : q.length ≤ 6 := by rw [hq]; exact places_few hm
  rw [wrap_small (i + 1) (by omega) (by omega)]
  have al := aload_ok q i (n := 3) (sh := [Kd.bool, Kd.int .i64, Kd.bool]) rfl (fun _ => rfl) h0 hi
  simp only [Prg.of_cells]
  refine br_dec (fun hp => ?_) (fun hp => ?_)
  · rw [if_pos hp] at hnext
    refine ⟨by omega, ⟨h0, hi⟩, al, PreOk.mk ⟨MemsF.ok hm, hx.1, hx.2⟩ rfl, all_holds fun y hy => ?_⟩
    replace hy : y = nameP p (rd q i) := hy
    subst hy
    refine ⟨?_, PreOk.mk hn rfl, all_holds fun z hz => ?_⟩
    · rw [ba_size]; show o.size + 1 + (nameP p (rd q i)).size ≤ _; omega
    · replace hz : z = digS n := hz
      subst hz
      refine ⟨?_, hnext⟩
      rw [ba_size, ba_size, hdj]; show o.size + 1 + (nameP p (rd q i)).size + 1 ≤ _; omega
  · rw [if_neg hp] at hnext
    refine ⟨⟨h0, hi⟩, al, PreOk.mk ⟨MemsF.ok hm, hx.1, hx.2⟩ rfl, all_holds fun y hy => ?_⟩
    replace hy : y = nameP p (rd q i) := hy
    subst hy
    refine ⟨by omega, PreOk.mk hn rfl, all_holds fun z hz => ?_⟩
    replace hz : z = digS n := hz
    subst hz
    refine ⟨?_, hnext⟩
    rw [ba_size, hdj]; omega
theorem l_rs0 (p : Prg) (s : Sta) (hm : MemsF p.mems) (q : List Place) (hq : q = placesS p) (hv : ∀ v ∈ valsS p s, 0 ≤ v ∧ v ≤ 9) : ∀ i_ : ByteArray × Int, (fun (v : ByteArray × Int) => 0 ≤ v.2 ∧ v.2 ≤ q.length ∧ v.1 = joinT ((toldL p s).take v.2.toNat) ∧ (v.1.size : Int) ≤ 10 * v.2) i_ → (a_rShow.at_ 0 ((fun (v : ByteArray × Int) => F_rs p s v.1 q v.2) i_)).holds s_rShow.cx a_rShow.rs (fun r => r.le (.c (.d (.str (showS p s))))) := by
  refine loop_rule (a := a_rShow) (j := 0) (m := 400) s_rShow_sound (fun (v : ByteArray × Int) => F_rs p s v.1 q v.2) (fun (v : ByteArray × Int) => 0 ≤ v.2 ∧ v.2 ≤ q.length ∧ v.1 = joinT ((toldL p s).take v.2.toNat) ∧ (v.1.size : Int) ≤ 10 * v.2) (fun (v : ByteArray × Int) => ((q.length : Int) - v.2).toNat) ?_
  rintro ⟨o, i⟩ h_inv ih
  try dsimp only at h_inv
  replace ih := fun (v0 : ByteArray) (v1 : Int) => ih (v0, v1)
  try dsimp only at ih
  show VC.holds _ _ _ (a_rShow.round s_rShow 400 0 (F_rs p s o q i))
  rw [t_rs0]
  try simp only [asRows_sl, asInt_int, asBool_bool, asStr_str, listOf_rowsOn, List.drop_zero, Prg.eta, Sta.eta, rowsOn_length, getD_drop, Nat.reduceAdd, rd_int, rd_PMem_name, rd_PMem_secret, rd_PMem_n, rd_PLabel_name, rd_PLabel_at_, rd_Ins_kind, rd_Ins_op, rd_Ins_d, rd_Ins_aR, rd_Ins_aN, rd_Ins_bR, rd_Ins_bN, rd_Ins_name, rd_Ins_target, rd_Ent_pc, rd_Ent_val, rd_Ent_addr, rd_Ent_fro, rd_Ent_next, rd_Ent_done, rd_Ent_known, rd_Ent_fault, rd_Place_reg, rd_Place_n, rd_Place_secret, rd_Obs_kind, rd_Obs_at_, rd_Dir_kind, rd_Dir_n, rd_Rn_v, rd_Tok_kind, rd_Tok_text, rd_Tok_n, rd_Tok_at_]
  obtain ⟨h0, h1, ho, hos⟩ := h_inv
  have h6 : q.length ≤ 6 := by rw [hq]; exact places_few hm
  refine br_dec (fun hi => ?_) (fun hi => ret_le ?_)
  · obtain ⟨g1, g2, g3⟩ := told_rd hm s i h0 (by rw [← hq]; exact hi)
    rw [← hq] at g1 g2 g3
    have hx := places_ok p (MemsF.mems hm) (rd q i) (by rw [← hq]; exact rd_mem q i h0 hi)
    have hc := MemsF.cells hm
    have hvk : 0 ≤ heldS s (rd q i) ∧ heldS s (rd q i) ≤ 9 := hv _ (List.mem_map.2 ⟨rd q i, by rw [← hq]; exact rd_mem q i h0 hi, rfl⟩)
    have hnm : (nameP p (rd q i)).size ≤ 4 := by
      have := names_size hm (rd (namesS p) i) (rd_mem _ i h0 (by rw [names_len hm, ← hq]; exact hi))
      rw [g2] at this
      exact this
    have hdj := digS_size (heldS s (rd q i))
    have hn09 : 0 ≤ (rd q i).n ∧ (rd q i).n ≤ 9 := by
      cases hr : (rd q i).reg with
      | true => have := hx.1 hr; omega
      | false => have := hx.2 hr; omega
    have go : ∀ n, n = heldS s (rd q i) → (a_rShow.at_ 1 (F_rsx p s o q i n)).holds s_rShow.cx a_rShow.rs fun r => r.le (.c (.d (.str (showS p s)))) := fun n hn => by
      subst hn
      refine at_rsx p s hm o q hq i _ h0 hi hvk hn09 hnm (by omega) _ (ih _ _ ⟨by omega, by omega, ?_, ?_⟩ (by omega))
      · rw [join_next (toldL p s) i h0 (by omega), ← ho, g1, ByteArray.append_assoc]
      · rw [ba_size, ba_size, hdj]
        split
        · rw [ba_size, show (chB 32).size = 1 from rfl]; omega
        · omega
    have al1 := aload_okD q i 1 (n := 3) (sh := [Kd.int .i64]) rfl (fun _ => rfl) h0 hi
    have al0 := aload_ok q i (n := 3) (sh := [Kd.bool]) rfl (fun _ => rfl) h0 hi
    have rest : ∀ v : Int, ((rd q i).reg = true → v = s.reg (rd q i).n) →
        (VC.br (!(rd q i).reg) (VC.br (decide ((rd q i).n < (s.mem.length : Int))) (a_rShow.at_ 1 (F_rsx p s o q i (rd s.mem (rd q i).n))) (a_rShow.at_ 1 (F_rsx p s o q i 0))) (a_rShow.at_ 1 (F_rsx p s o q i v))).holds s_rShow.cx a_rShow.rs fun r => r.le (.c (.d (.str (showS p s)))) := fun v hv2 => by
      refine br_not (br_holds (fun hr => go _ ?_) (fun hr => br_dec (fun hk => go _ ?_) (fun hk => go _ ?_)))
      · unfold heldS; rw [if_pos hr]; exact hv2 hr
      · unfold heldS; rw [if_neg (by rw [hr]; simp), if_pos hk]
      · unfold heldS; rw [if_neg (by rw [hr]; simp), if_neg hk]
    have hand : bits .and .i64 (rd q i).n 3 = (rd q i).n % 4 := and3 _
    have mload : (rd q i).reg = false → (rd q i).n < (s.mem.length : Int) → 0 ≤ (rd q i).n ∧ (rd q i).n < (s.mem.length : Int) ∧ (rowAt (rowsOn s.mem) (rd q i).n.toNat).length = 1 := fun hr hk => idx_ok s.mem _ 1 rfl hn09.1 hk
    have msh : (rd q i).n < (s.mem.length : Int) → okSh [Kd.int .i64] (rowAt (rowsOn s.mem) (rd q i).n.toNat) := fun hk => okSh_ok _ s.mem _ (fun _ => rfl) hn09.1 hk
    -- what a branch comes to, its checks done
    have br1 : ∀ v : Int, ((rd q i).reg = true → v = s.reg (rd q i).n) →
        (VC.br (!(rd q i).reg) (VC.need (0 ≤ i ∧ i < (q.length : Int)) (VC.need (i.toNat < q.length ∧ (rowAt (rowsOn q) i.toNat).length = 3 ∧ okSh [Kd.int .i64] (List.drop 1 (rowAt (rowsOn q) i.toNat))) (VC.br (decide ((rd q i).n < (s.mem.length : Int)))
          (VC.need (0 ≤ i ∧ i < (q.length : Int)) (VC.need (i.toNat < q.length ∧ (rowAt (rowsOn q) i.toNat).length = 3 ∧ okSh [Kd.int .i64] (List.drop 1 (rowAt (rowsOn q) i.toNat)))
            (VC.need (0 ≤ (rd q i).n ∧ (rd q i).n < (s.mem.length : Int) ∧ (rowAt (rowsOn s.mem) (rd q i).n.toNat).length = 1) (VC.need (okSh [Kd.int .i64] (rowAt (rowsOn s.mem) (rd q i).n.toNat)) (a_rShow.at_ 1 (F_rsx p s o q i (rd s.mem (rd q i).n)))))))
          (a_rShow.at_ 1 (F_rsx p s o q i 0))))) (a_rShow.at_ 1 (F_rsx p s o q i v))).holds s_rShow.cx a_rShow.rs fun r => r.le (.c (.d (.str (showS p s)))) := fun v hv2 => by
      refine br_not (br_holds (fun hr => go _ ?_) (fun hr => ⟨⟨h0, hi⟩, al1, br_dec (fun hk => ⟨⟨h0, hi⟩, al1, mload hr hk, msh hk, go _ ?_⟩) (fun hk => go _ ?_)⟩))
      · unfold heldS; rw [if_pos hr]; exact hv2 hr
      · unfold heldS; rw [if_neg (by rw [hr]; simp), if_pos hk]
      · unfold heldS; rw [if_neg (by rw [hr]; simp), if_neg hk]
    refine ⟨⟨h0, hi⟩, al1, ?_⟩
    refine br_dec (fun e0 => ⟨⟨h0, hi⟩, al0, br1 _ ?_⟩) (fun e0 => br_dec (fun e1 => ⟨⟨h0, hi⟩, al0, br1 _ ?_⟩) (fun e1 => br_dec (fun e2 => ⟨⟨h0, hi⟩, al0, br1 _ ?_⟩) (fun e2 => br_dec (fun e3 => ⟨⟨h0, hi⟩, al0, br1 _ ?_⟩) (fun e3 => ?_))))
    · intro hr
      have := hx.1 hr
      unfold Sta.reg
      rw [if_pos (by omega)]
    · intro hr
      have := hx.1 hr
      unfold Sta.reg
      rw [if_neg (by omega), if_pos (by omega)]
    · intro hr
      have := hx.1 hr
      unfold Sta.reg
      rw [if_neg (by omega), if_neg (by omega), if_pos (by omega)]
    · intro hr
      have := hx.1 hr
      unfold Sta.reg
      rw [if_neg (by omega), if_neg (by omega), if_neg (by omega), if_pos (by omega)]
    · exfalso; omega
  · have hl : (toldL p s).length = q.length := by
      unfold toldL
      rw [List.length_zipWith, names_len hm, hq]; omega
    rw [List.take_of_length_le (by omega)] at ho
    rw [ho]
    exact RR.le_refl _
theorem c_rShow_good : c_rShow.fe.Good Tryd.prog := by
  refine FT.good c_rShow ⟨Tryd.f12, by kernel_rfl, by decide +kernel, by kernel_rfl⟩ (fun ⟨p, s⟩ => by first | rfl | simp [c_rShow, rrRef, rParse, badR, rTx, rsl, rss, rnewI, rnewE, rstab, rplaces, ri, rb, rib, rR, riib3, rnum, rby, Sta.fresh]) fun ⟨p, s⟩ hp => ?_
  refine acalls_le s_rShow_sound (fn := Tryd.f12) (a := a_rShow) (nargs := 2) (tbl := [(4, [2, 3, 5, 6, 7]), (1000000018, [2, 3, 5, 6, 7, 8])]) (by kernel_rfl) (by kernel_rfl) rfl (m := 400) ?_
  show VC.holds _ _ _ (a_rShow.start s_rShow 400 [ap p, as_ s])
  rw [t_rShow]
  try simp only [asRows_sl, asInt_int, asBool_bool, asStr_str, listOf_rowsOn, List.drop_zero, Prg.eta, Sta.eta, rowsOn_length, getD_drop, Nat.reduceAdd, rd_int, rd_PMem_name, rd_PMem_secret, rd_PMem_n, rd_PLabel_name, rd_PLabel_at_, rd_Ins_kind, rd_Ins_op, rd_Ins_d, rd_Ins_aR, rd_Ins_aN, rd_Ins_bR, rd_Ins_bN, rd_Ins_name, rd_Ins_target, rd_Ent_pc, rd_Ent_val, rd_Ent_addr, rd_Ent_fro, rd_Ent_next, rd_Ent_done, rd_Ent_known, rd_Ent_fault, rd_Place_reg, rd_Place_n, rd_Place_secret, rd_Obs_kind, rd_Obs_at_, rd_Dir_kind, rd_Dir_n, rd_Rn_v, rd_Tok_kind, rd_Tok_text, rd_Tok_n, rd_Tok_at_]
  try simp only [c_rShow] at hp
  obtain ⟨hm, hv⟩ := hp
  have hm : MemsF p.mems := hm
  refine ⟨PreOk.mk (MemsF.mems hm) rfl, all_holds fun z hz => ?_⟩
  replace hz : z = placesS p := hz
  subst hz
  exact l_rs0 p s hm _ rfl hv (_, 0) ⟨by simp, by simp, rfl, by simp; decide⟩
end Go.Proofs.YtmmlolampgnamaaDoor.Ax
end

section
/- What is told is read, by the document: auguryref25's Parse. -/
namespace Go.Proofs.YtmmlolampgnamaaDoor.Ax
open Go.RowKit
set_option linter.unusedVariables false
set_option linter.unusedSimpArgs false
noncomputable def v_rSize : Int → Int := fun w => sizeS w
noncomputable def sh_rSize : Int → RR := fun i => ri i
theorem e_rSize (x : Int) : sh_rSize (v_rSize x) = c_rSize.ans x := rfl
noncomputable def v_rStart : Prg × List Int → Sta × Bool := fun x => startS x.1 x.2
noncomputable def sh_rStart : Sta × Bool → RR := fun y => rstab y
theorem e_rStart (x : Prg × List Int) : sh_rStart (v_rStart x) = c_rStart.ans x := rfl
def c_rParse : FT (Prg × ByteArray) := ⟨13, fun x => [ap x.1, at_ x.2], rdPT, fun x => MemsF x.1.mems ∧ 1 ≤ x.1.w ∧ x.1.w ≤ 2 ∧ x.2.size ≤ 1000000, fun x => rParse (parseS x.1 x.2), false, fun x => by simp [ap, at_, rdPT]⟩
noncomputable def a_rParse : FnA := (fnA Tryd.prog Tryd.f13 2 [(6, [2, 4, 7, 8, 9, 10, 11, 1000009000000900009001]), (12, [2, 4, 7, 8, 9, 10, 11, 12, 13, 1000009000000900009001])]).getD ⟨0, .skip, [], []⟩
noncomputable def s_rParse : Sp := spT [c_rSigns.gfe v_rSigns sh_rSigns e_rSigns, c_rPlaces.gfe v_rPlaces sh_rPlaces e_rPlaces, c_rName.gfe v_rName sh_rName e_rName, c_rNum.gfe v_rNum sh_rNum e_rNum, c_rSize.gfe v_rSize sh_rSize e_rSize, c_rStart.gfe v_rStart sh_rStart e_rStart]
theorem s_rParse_sound : s_rParse.sound Tryd.prog := spT_sound fun e he => by
  simp only [List.mem_cons, List.not_mem_nil, or_false] at he
  rcases he with rfl | rfl | rfl | rfl | rfl | rfl
  · exact FT.gfe_good c_rSigns_good
  · exact FT.gfe_good c_rPlaces_good
  · exact FT.gfe_good c_rName_good
  · exact FT.gfe_good c_rNum_good
  · exact FT.gfe_good c_rSize_good
  · exact FT.gfe_good c_rStart_good
def F_qa (p : Prg) (r : List Rn) (q : List Place) (V : List (List D)) (n : Nat) (a i : Int) : St := ⟨mkS 101 [(2, vp 128), (4, vp 256), (7, vr (rowsOn r)), (8, vo 1408 (rowsOn q).length), (9, vo 900009 n), (10, vi a), (11, vi i)],
  [(128, bx p.cells), (256, bc [.d (.int .i64 0), .d (.int .i64 0), .d (.int .i64 0), .d (.int .i64 0), .nil, .nil, .d (.int .i64 0)]), (1408, ba 3 (rowsOn q)), (900009, ba 1 V)]⟩
def F_qb (p : Prg) (r : List Rn) (q : List Place) (V : List (List D)) (n : Nat) (a i : Int) (w : ByteArray) (k : Int) : St := ⟨mkS 101 [(2, vp 128), (4, vp 256), (7, vr (rowsOn r)), (8, vo 1408 (rowsOn q).length), (9, vo 900009 n), (10, vi a), (11, vi i), (12, vt w), (13, vi k)],
  [(128, bx p.cells), (256, bc [.d (.int .i64 0), .d (.int .i64 0), .d (.int .i64 0), .d (.int .i64 0), .nil, .nil, .d (.int .i64 0)]), (1408, ba 3 (rowsOn q)), (900009, ba 1 V)]⟩
set_option maxRecDepth 100000 in
theorem t_rParse (p : Prg) (t : ByteArray) : a_rParse.start s_rParse 400 [ap p, at_ t] =
(VC.need (PreOk c_rSigns (t, ()) [A.c (D.str t)])
(VC.all (v_rSigns (t, ())) fun (y2 : List Rn) =>
(VC.need (PreOk c_rPlaces p [A.agg (Prg.cells p)])
(VC.all (v_rPlaces { w := p.w, window := p.window, fuel := p.fuel, r0 := p.r0, r1 := p.r1, r2 := p.r2, r3 := p.r3, mems := listOf PMem (rowsOn p.mems), labels := listOf PLabel (rowsOn p.labels), ins := listOf Ins (rowsOn p.ins) }) fun (y3 : List Place) =>
(FnA.at_ a_rParse 0 (F_qa p y2 y3 [] (0 : Nat) (0 : Int) (0 : Int))))))) := by kernel_rfl
set_option maxRecDepth 100000 in
theorem t_qa (p : Prg) (r : List Rn) (q : List Place) (V : List (List D)) (n : Nat) (a i : Int) : a_rParse.round s_rParse 400 0 (F_qa p r q V n a i) =
(VC.br (decide (i < (↑(List.length (rowsOn q)) : Int)))
 (VC.need ((0 : Int) ≤ i ∧ i < (↑(List.length (rowsOn q)) : Int))
 (VC.need (Int.toNat i < List.length (rowsOn q) ∧ List.length (rowAt (rowsOn q) (Int.toNat i)) = (3 : Nat) ∧ okSh [Kd.bool, Kd.int IntKind.i64, Kd.bool] (List.drop (0 : Nat) (rowAt (rowsOn q) (Int.toNat i))))
 (VC.need (PreOk c_rName (Prg.of (Prg.cells p), Row.of [D.bool (asBool (List.getD (List.drop (0 : Nat) (rowAt (rowsOn q) (Int.toNat i))) (0 : Nat) D.nilp)), D.int IntKind.i64 (asInt (List.getD (List.drop (0 : Nat) (rowAt (rowsOn q) (Int.toNat i))) (1 : Nat) D.nilp)), D.bool (asBool (List.getD (List.drop (0 : Nat) (rowAt (rowsOn q) (Int.toNat i))) (2 : Nat) D.nilp))]) [A.agg (Prg.cells p), A.agg [D.bool (asBool (List.getD (List.drop (0 : Nat) (rowAt (rowsOn q) (Int.toNat i))) (0 : Nat) D.nilp)), D.int IntKind.i64 (asInt (List.getD (List.drop (0 : Nat) (rowAt (rowsOn q) (Int.toNat i))) (1 : Nat) D.nilp)), D.bool (asBool (List.getD (List.drop (0 : Nat) (rowAt (rowsOn q) (Int.toNat i))) (2 : Nat) D.nilp))]])
 (VC.all (v_rName (Prg.of (Prg.cells p), Row.of [D.bool (asBool (List.getD (List.drop (0 : Nat) (rowAt (rowsOn q) (Int.toNat i))) (0 : Nat) D.nilp)), D.int IntKind.i64 (asInt (List.getD (List.drop (0 : Nat) (rowAt (rowsOn q) (Int.toNat i))) (1 : Nat) D.nilp)), D.bool (asBool (List.getD (List.drop (0 : Nat) (rowAt (rowsOn q) (Int.toNat i))) (2 : Nat) D.nilp))])) fun (y7 : ByteArray) =>
 (VC.br (decide ((0 : Int) < i))
  (VC.need ((1 : Nat) + ByteArray.size y7 ≤ (9223372036854775807 : Nat))
  (FnA.at_ a_rParse 1 (F_qb p r q V n a i ({ data := #[(32 : UInt8)] } ++ y7) (0 : Int))))
  (FnA.at_ a_rParse 1 (F_qb p r q V n a i y7 (0 : Int))))))))
 (VC.br (decide (a < (↑(List.length (rowsOn r)) : Int)))
  (VC.ret (some (RR.tup [Sum.inr [Rc.d (D.int IntKind.i64 (0 : Int)), Rc.d (D.int IntKind.i64 (0 : Int)), Rc.d (D.int IntKind.i64 (0 : Int)), Rc.d (D.int IntKind.i64 (0 : Int)), Rc.nil, Rc.nil, Rc.d (D.int IntKind.i64 (0 : Int))], Sum.inl (Rc.d (D.int IntKind.i64 a)), Sum.inl (Rc.d (D.bool false))])))
  (VC.need (PreOk c_rStart (Prg.of (Prg.cells p), listOf Int V) [A.agg (Prg.cells p), A.c (D.sl V)])
  (VC.all (v_rStart (Prg.of (Prg.cells p), listOf Int V)) fun (y7 : Sta × Bool) =>
  (VC.ret (some (RR.tup [Sum.inr [Rc.d (D.int IntKind.i64 y7.fst.r0), Rc.d (D.int IntKind.i64 y7.fst.r1), Rc.d (D.int IntKind.i64 y7.fst.r2), Rc.d (D.int IntKind.i64 y7.fst.r3), Rc.new (1 : Nat) (rowsOn y7.fst.mem), Rc.new (1 : Nat) (rowsOn y7.fst.stack), Rc.d (D.int IntKind.i64 y7.fst.pc)], Sum.inl (Rc.d (D.int IntKind.i64 (0 : Int))), Sum.inl (Rc.d (D.bool y7.snd))]))))))) := by kernel_rfl
set_option maxRecDepth 100000 in
theorem t_qb (p : Prg) (r : List Rn) (q : List Place) (V : List (List D)) (n : Nat) (a i : Int) (w : ByteArray) (k : Int) : a_rParse.round s_rParse 400 1 (F_qb p r q V n a i w k) =
(VC.br (decide (k < (↑(ByteArray.size w) : Int)))
 (VC.br (decide ((↑(List.length (rowsOn r)) : Int) ≤ a))
  (VC.ret (some (RR.tup [Sum.inr [Rc.d (D.int IntKind.i64 (0 : Int)), Rc.d (D.int IntKind.i64 (0 : Int)), Rc.d (D.int IntKind.i64 (0 : Int)), Rc.d (D.int IntKind.i64 (0 : Int)), Rc.nil, Rc.nil, Rc.d (D.int IntKind.i64 (0 : Int))], Sum.inl (Rc.d (D.int IntKind.i64 a)), Sum.inl (Rc.d (D.bool false))])))
  (VC.need ((0 : Int) ≤ a ∧ a < (↑(List.length (rowsOn r)) : Int) ∧ List.length (rowAt (rowsOn r) (Int.toNat a)) = (1 : Nat))
  (VC.need (okSh [Kd.int IntKind.i32] (rowAt (rowsOn r) (Int.toNat a)))
  (VC.need ((0 : Int) ≤ k ∧ k < (↑(ByteArray.size w) : Int))
  (VC.br (asInt (List.getD (rowAt (rowsOn r) (Int.toNat a)) (0 : Nat) D.nilp) != IntKind.wrap IntKind.i32 (↑(UInt8.toNat (Option.getD w[Int.toNat k]? (0 : UInt8))) : Int))
   (VC.ret (some (RR.tup [Sum.inr [Rc.d (D.int IntKind.i64 (0 : Int)), Rc.d (D.int IntKind.i64 (0 : Int)), Rc.d (D.int IntKind.i64 (0 : Int)), Rc.d (D.int IntKind.i64 (0 : Int)), Rc.nil, Rc.nil, Rc.d (D.int IntKind.i64 (0 : Int))], Sum.inl (Rc.d (D.int IntKind.i64 a)), Sum.inl (Rc.d (D.bool false))])))
   (FnA.at_ a_rParse 1 (F_qb p r q V n (IntKind.wrap IntKind.i64 (a + (1 : Int))) i w (IntKind.wrap IntKind.i64 (k + (1 : Int))))))))))
 (VC.need (PreOk c_rNum (r, a, Int.toNat (5 : Int)) [A.c (D.sl (rowsOn r)), A.c (D.int IntKind.i64 a), A.c (D.int IntKind.i64 (5 : Int))])
 (VC.all (v_rNum (listOf Rn (rowsOn r), a, (5 : Nat))) fun (y9 : Int × Int × Bool) =>
 (VC.br (!y9.snd.snd)
  (VC.ret (some (RR.tup [Sum.inr [Rc.d (D.int IntKind.i64 (0 : Int)), Rc.d (D.int IntKind.i64 (0 : Int)), Rc.d (D.int IntKind.i64 (0 : Int)), Rc.d (D.int IntKind.i64 (0 : Int)), Rc.nil, Rc.nil, Rc.d (D.int IntKind.i64 (0 : Int))], Sum.inl (Rc.d (D.int IntKind.i64 a)), Sum.inl (Rc.d (D.bool false))])))
  (VC.need (PreOk c_rSize p.w [A.c (D.int IntKind.i64 p.w)])
  (VC.all (v_rSize p.w) fun (y10 : Int) =>
  (VC.br (decide (y10 ≤ y9.snd.fst))
   (VC.ret (some (RR.tup [Sum.inr [Rc.d (D.int IntKind.i64 (0 : Int)), Rc.d (D.int IntKind.i64 (0 : Int)), Rc.d (D.int IntKind.i64 (0 : Int)), Rc.d (D.int IntKind.i64 (0 : Int)), Rc.nil, Rc.nil, Rc.d (D.int IntKind.i64 (0 : Int))], Sum.inl (Rc.d (D.int IntKind.i64 a)), Sum.inl (Rc.d (D.bool false))])))
   (VC.need ((List.all [[D.int IntKind.i64 y9.snd.fst]] fun r ↦ List.length r == (1 : Nat)) = true ∧ (List.all V fun r ↦ List.length r == (1 : Nat)) = true ∧ (List.length V + List.length [[D.int IntKind.i64 y9.snd.fst]] + (100 : Nat)) * (9 : Nat) ≤ (70368744177664 : Nat))
   (FnA.at_ a_rParse 0 (F_qa p r q (V ++ [[D.int IntKind.i64 y9.snd.fst]]) (List.length V + List.length [[D.int IntKind.i64 y9.snd.fst]]) y9.fst (IntKind.wrap IntKind.i64 (i + (1 : Int))))))))))))) := by kernel_rfl
theorem asc_drop {w : ByteArray} (hw : runesS w = ascR w.data.toList) (k : Int) (h0 : 0 ≤ k) (hk : k < w.size) : (runesS w).drop k.toNat = ⟨((Option.getD w[k.toNat]? (0 : UInt8)).toNat : Int)⟩ :: (runesS w).drop (k + 1).toNat := by
  have hlen : w.data.toList.length = w.size := by simp
  have hl : (runesS w).length = w.size := by rw [hw, ascR, List.length_map, hlen]
  rw [List.drop_eq_getElem_cons (by omega), show (k + 1).toNat = k.toNat + 1 by omega]
  congr 1
  have e : w[k.toNat]? = some (w.data.toList[k.toNat]'(by omega)) := by
    rw [getElem?_pos w k.toNat (by omega), ByteArray.getElem_eq_getElem_data]
    simp
  rw [e]
  simp only [hw, ascR, List.getElem_map]
  rfl
theorem asc_want {p : Prg} (hm : MemsF p.mems) (i : Int) (h0 : 0 ≤ i) (hi : i < (namesS p).length) : runesS (wantI (namesS p) i) = ascR (wantI (namesS p) i).data.toList ∧ (wantI (namesS p) i).size ≤ 5 := by
  have ha := names_asc hm _ (rd_mem (namesS p) i h0 hi)
  have hs := names_size hm _ (rd_mem (namesS p) i h0 hi)
  unfold wantI
  split
  · refine ⟨?_, by rw [ba_size, show (chB 32).size = 1 from rfl]; omega⟩
    rw [ascT_bl ha, ascT_runes ha, ba_data_app]
    rfl
  · exact ⟨ascT_runes ha, by omega⟩
theorem l_qb (p : Prg) (hw : 1 ≤ p.w ∧ p.w ≤ 2) (r : List Rn) (hr : r.length ≤ 1000000) (a0 : Int) (ha0 : 0 ≤ a0) (acc : List Int) (V : List (List D)) (n : Nat) (hV : OnL V n acc) (hacc : acc.length ≤ 1000000) (q : List Place) (N : List Tx) (hN : N.length ≤ 1000) (i : Int) (hi : 0 ≤ i) (hi2 : i < N.length) (s : ByteArray) (fin : List Int × Int × Bool) (hs : s = wantI N i) (hsa : runesS s = ascR s.data.toList) (hss : s.size ≤ 1000) (hfin : joinP acc (parseF (sizeS p.w) ((wantsS N).drop i.toNat) (r.drop a0.toNat) a0) = fin) (hnext : ∀ (a : Int) (V' : List (List D)) (n' : Nat) (acc' : List Int), OnL V' n' acc' → acc'.length = acc.length + 1 → 0 ≤ a → a ≤ r.length → joinP acc' (parseF (sizeS p.w) ((wantsS N).drop (i + 1).toNat) (r.drop a.toNat) a) = fin → (a_rParse.at_ 0 (F_qa p r q V' n' a (i + 1))).holds s_rParse.cx a_rParse.rs fun x => x.le (rParse (endP p fin))) : ∀ i_ : Int × Int, (fun (v : Int × Int) => 0 ≤ v.2 ∧ v.2 ≤ s.size ∧ v.1 = a0 + v.2 ∧ v.1 ≤ r.length ∧ matchN (runesS s) (r.drop a0.toNat) = v.2.toNat + matchN ((runesS s).drop v.2.toNat) (r.drop v.1.toNat)) i_ → (a_rParse.at_ 1 ((fun (v : Int × Int) => F_qb p r q V n v.1 i s v.2) i_)).holds s_rParse.cx a_rParse.rs (fun x => x.le (rParse (endP p fin))) := by
  refine loop_rule (a := a_rParse) (j := 1) (m := 400) s_rParse_sound (fun (v : Int × Int) => F_qb p r q V n v.1 i s v.2) (fun (v : Int × Int) => 0 ≤ v.2 ∧ v.2 ≤ s.size ∧ v.1 = a0 + v.2 ∧ v.1 ≤ r.length ∧ matchN (runesS s) (r.drop a0.toNat) = v.2.toNat + matchN ((runesS s).drop v.2.toNat) (r.drop v.1.toNat)) (fun (v : Int × Int) => ((s.size : Int) - v.2).toNat) ?_
  rintro ⟨a, k⟩ h_inv ih
  try dsimp only at h_inv
  replace ih := fun (v0 : Int) (v1 : Int) => ih (v0, v1)
  try dsimp only at ih
  show VC.holds _ _ _ (a_rParse.round s_rParse 400 1 (F_qb p r q V n a i s k))
  rw [t_qb]
  try simp only [asRows_sl, asInt_int, asBool_bool, asStr_str, listOf_rowsOn, List.drop_zero, Prg.eta, Sta.eta, rowsOn_length, getD_drop, Nat.reduceAdd, rd_int, rd_PMem_name, rd_PMem_secret, rd_PMem_n, rd_PLabel_name, rd_PLabel_at_, rd_Ins_kind, rd_Ins_op, rd_Ins_d, rd_Ins_aR, rd_Ins_aN, rd_Ins_bR, rd_Ins_bN, rd_Ins_name, rd_Ins_target, rd_Ent_pc, rd_Ent_val, rd_Ent_addr, rd_Ent_fro, rd_Ent_next, rd_Ent_done, rd_Ent_known, rd_Ent_fault, rd_Place_reg, rd_Place_n, rd_Place_secret, rd_Obs_kind, rd_Obs_at_, rd_Dir_kind, rd_Dir_n, rd_Rn_v, rd_Tok_kind, rd_Tok_text, rd_Tok_n, rd_Tok_at_]
  obtain ⟨k0, k1, h2, h3, h4⟩ := h_inv
  rw [wants_drop N i hi hi2, ← hs, parseF] at hfin
  have hwl : (runesS s).length = s.size := by rw [hsa, ascR, List.length_map]; simp
  -- it goes wrong amid a name
  have bad : matchN ((runesS s).drop k.toNat) (r.drop a.toNat) = 0 → k < s.size → (VC.ret (some (badR a))).holds s_rParse.cx a_rParse.rs fun x => x.le (rParse (endP p fin)) := fun e hl => by
    rw [e] at h4
    rw [if_pos (by omega), h4] at hfin
    rw [← hfin]
    refine ret_le ?_
    have := bad_le a
    unfold endP joinP
    simp only [Bool.false_eq_true, if_false, Nat.add_zero]
    rw [show a0 + ((k.toNat : Nat) : Int) = a by omega]; exact this
  refine br_dec (fun hb => ?_) (fun hb => ?_)
  · have hc := asc_drop hsa k k0 hb
    refine br_dec (fun hd => bad (by rw [drop_end r a hd, hc]; rfl) hb) (fun hd => ?_)
    have hdr := drop_rn r a (by omega) (by omega)
    have hu : (Option.getD s[k.toNat]? (0 : UInt8)).toNat < 256 := UInt8.toNat_lt _
    generalize Option.getD s[k.toNat]? (0 : UInt8) = by_ at hc hu ⊢
    rw [wrap_small32 (by_.toNat : Int) (by omega) (by omega)]
    refine ⟨rn_ok r a (by omega) (by omega), rn_sh r a (by omega) (by omega), ⟨k0, hb⟩, br_bne (fun hne => bad (by rw [hdr, hc]; exact matchN_ne hne) hb) (fun heq => ?_)⟩
    rw [wrap_small (a + 1) (by omega) (by omega), wrap_small (k + 1) (by omega) (by omega)]
    refine ih _ _ ⟨by omega, by omega, by omega, by omega, ?_⟩ (by omega)
    rw [h4, hdr, hc, matchN_eq heq]; omega
  · have ek : k = s.size := by omega
    have hd0 : (runesS s).drop k.toNat = [] := List.drop_of_length_le (by omega)
    have hm0 : matchN ([] : List Rn) (r.drop a.toNat) = 0 := by cases r.drop a.toNat <;> rfl
    rw [hd0, hm0] at h4
    have ea : a = a0 + ((runesS s).length : Int) := by omega
    have hd1 : (r.drop a0.toNat).drop (runesS s).length = r.drop a.toNat := by rw [List.drop_drop, show a0.toNat + (runesS s).length = a.toNat by omega]
    rw [if_neg (by omega), hd1, ← ea] at hfin
    -- it goes wrong at the number
    have bad2 : joinP acc ([], a, false) = fin → (VC.ret (some (badR a))).holds s_rParse.cx a_rParse.rs fun x => x.le (rParse (endP p fin)) := fun e => by
      rw [← e]
      exact ret_le (bad_le a)
    refine ⟨PreOk.mk ⟨hr, by show 0 ≤ a; omega, by show a ≤ 1000000; omega, by show 1 ≤ 5; decide, by show 5 ≤ 9; decide⟩ rfl, all_holds fun y9 hy9 => ?_⟩
    replace hy9 : y9 = numR r a 5 := hy9
    unfold numR at hy9
    cases hn : numL (r.drop a.toNat) 5 with
    | none =>
      rw [hn] at hy9 hfin
      subst hy9
      exact br_not (br_holds (fun h => by cases h) (fun _ => bad2 hfin))
    | some qq =>
      obtain ⟨v, k'⟩ := qq
      have hk := numL_len5 hn
      rw [List.length_drop] at hk
      rw [hn] at hy9 hfin
      dsimp only at hy9 hfin
      have hd2 : (r.drop a0.toNat).drop ((runesS s).length + k') = r.drop (a + k').toNat := by rw [List.drop_drop, show a0.toNat + ((runesS s).length + k') = (a + k').toNat by omega]
      rw [hd2] at hfin
      cases hal : aloneL (r.drop (a + k').toNat) with
      | false =>
        rw [hal, if_neg (by decide)] at hy9
        subst hy9
        refine br_not (br_holds (fun h => by cases h) (fun _ => bad2 ?_))
        rw [if_neg (fun h => by rw [hal] at h; cases h.1)] at hfin
        exact hfin
      | true =>
        rw [hal, if_pos rfl] at hy9
        subst hy9
        refine br_not (br_holds (fun _ => ⟨PreOk.mk trivial rfl, all_holds fun y10 hy10 => ?_⟩) (fun h => by cases h))
        replace hy10 : y10 = sizeS p.w := hy10
        subst hy10
        refine br_dec (fun hsz => bad2 ?_) (fun hsz => ⟨app_ok hV rfl rfl (by simp only [List.length_cons, List.length_nil]; omega), ?_⟩)
        · have hsz : sizeS p.w ≤ v := hsz
          rw [if_neg (fun h => by omega)] at hfin
          exact hfin
        · have hsz : ¬ sizeS p.w ≤ v := hsz
          rw [if_pos ⟨hal, by omega⟩, joinP_join] at hfin
          rw [wrap_small (i + 1) (by omega) (by omega)]
          exact hnext (a + k') _ _ (acc ++ [v]) (hV.snoc v) (by rw [List.length_append, List.length_singleton]) (by omega) (by omega) hfin
theorem l_qa (p : Prg) (hm : MemsF p.mems) (hw : 1 ≤ p.w ∧ p.w ≤ 2) (r : List Rn) (hr : r.length ≤ 1000000) (q : List Place) (hq : q = placesS p) (fin : List Int × Int × Bool) : ∀ i_ : Int × Int × List (List D) × Nat, (fun (v : Int × Int × List (List D) × Nat) => 0 ≤ v.1 ∧ v.1 ≤ q.length ∧ 0 ≤ v.2.1 ∧ v.2.1 ≤ r.length ∧ ∃ acc : List Int, OnL v.2.2.1 v.2.2.2 acc ∧ acc.length = v.1.toNat ∧ joinP acc (parseF (sizeS p.w) ((wantsS (namesS p)).drop v.1.toNat) (r.drop v.2.1.toNat) v.2.1) = fin) i_ → (a_rParse.at_ 0 ((fun (v : Int × Int × List (List D) × Nat) => F_qa p r q v.2.2.1 v.2.2.2 v.2.1 v.1) i_)).holds s_rParse.cx a_rParse.rs (fun x => x.le (rParse (endP p fin))) := by
  refine loop_rule (a := a_rParse) (j := 0) (m := 400) s_rParse_sound (fun (v : Int × Int × List (List D) × Nat) => F_qa p r q v.2.2.1 v.2.2.2 v.2.1 v.1) (fun (v : Int × Int × List (List D) × Nat) => 0 ≤ v.1 ∧ v.1 ≤ q.length ∧ 0 ≤ v.2.1 ∧ v.2.1 ≤ r.length ∧ ∃ acc : List Int, OnL v.2.2.1 v.2.2.2 acc ∧ acc.length = v.1.toNat ∧ joinP acc (parseF (sizeS p.w) ((wantsS (namesS p)).drop v.1.toNat) (r.drop v.2.1.toNat) v.2.1) = fin) (fun (v : Int × Int × List (List D) × Nat) => ((q.length : Int) - v.1).toNat) ?_
  rintro ⟨i, a, V, n⟩ h_inv ih
  try dsimp only at h_inv
  replace ih := fun (v0 : Int) (v1 : Int) (v2 : List (List D)) (v3 : Nat) => ih (v0, v1, v2, v3)
  try dsimp only at ih
  show VC.holds _ _ _ (a_rParse.round s_rParse 400 0 (F_qa p r q V n a i))
  rw [t_qa]
  try simp only [asRows_sl, asInt_int, asBool_bool, asStr_str, listOf_rowsOn, List.drop_zero, Prg.eta, Sta.eta, rowsOn_length, getD_drop, Nat.reduceAdd, rd_int, rd_PMem_name, rd_PMem_secret, rd_PMem_n, rd_PLabel_name, rd_PLabel_at_, rd_Ins_kind, rd_Ins_op, rd_Ins_d, rd_Ins_aR, rd_Ins_aN, rd_Ins_bR, rd_Ins_bN, rd_Ins_name, rd_Ins_target, rd_Ent_pc, rd_Ent_val, rd_Ent_addr, rd_Ent_fro, rd_Ent_next, rd_Ent_done, rd_Ent_known, rd_Ent_fault, rd_Place_reg, rd_Place_n, rd_Place_secret, rd_Obs_kind, rd_Obs_at_, rd_Dir_kind, rd_Dir_n, rd_Rn_v, rd_Tok_kind, rd_Tok_text, rd_Tok_n, rd_Tok_at_]
  obtain ⟨h0, h1, ha, ha2, acc, hV, hal, hfin⟩ := h_inv
  have h6 : q.length ≤ 6 := by rw [hq]; exact places_few hm
  have hl := names_len hm
  rw [← hq] at hl
  simp only [Prg.of_cells]
  refine br_dec (fun hi => ?_) (fun hi => ?_)
  · obtain ⟨_, g2, _⟩ := told_rd hm (zeroSta 0) i h0 (by rw [← hq]; exact hi)
    rw [← hq] at g2
    have hx := places_ok p (MemsF.mems hm) (rd q i) (by rw [← hq]; exact rd_mem q i h0 hi)
    have hc := MemsF.cells hm
    have hn09 : 0 ≤ (rd q i).n ∧ (rd q i).n ≤ 9 := by
      cases hr : (rd q i).reg with
      | true => have := hx.1 hr; omega
      | false => have := hx.2 hr; omega
    obtain ⟨w1, w2⟩ := asc_want hm i h0 (by omega)
    have go : ∀ s, s = wantI (namesS p) i → (a_rParse.at_ 1 (F_qb p r q V n a i s 0)).holds s_rParse.cx a_rParse.rs fun x => x.le (rParse (endP p fin)) := fun s hs =>
      l_qb p hw r hr a ha acc V n hV (by omega) q (namesS p) (by omega) i h0 (by omega) s fin hs (by rw [hs]; exact w1) (by rw [hs]; omega) hfin (fun a' V' n' acc' e1 e2 e3 e4 e5 => ih _ _ _ _ ⟨by omega, by omega, e3, e4, acc', e1, by omega, e5⟩ (by omega)) (a, 0) ⟨by simp, by simp, by simp, ha2, by simp⟩
    refine ⟨⟨h0, hi⟩, aload_ok q i rfl (fun _ => rfl) h0 hi, PreOk.mk ⟨MemsF.ok hm, hn09.1, hn09.2⟩ rfl, all_holds fun y hy => ?_⟩
    replace hy : y = nameP p (rd q i) := hy
    have hnm : (rd (namesS p) i).v = nameP p (rd q i) := by rw [g2]
    subst hy
    refine br_dec (fun hp => ⟨?_, go _ ?_⟩) (fun hp => go _ ?_)
    · unfold wantI at w2
      rw [if_pos hp, ba_size, show (chB 32).size = 1 from rfl, hnm] at w2
      omega
    · unfold wantI; rw [if_pos hp, hnm]; rfl
    · unfold wantI; rw [if_neg hp, hnm]
  · have ei : i.toNat = (wantsS (namesS p)).length := by rw [wants_len]; omega
    rw [ei, List.drop_length] at hfin
    refine br_dec (fun hd => ?_) (fun hd => ?_)
    · rw [drop_rn r a ha hd] at hfin
      have hfin : joinP acc ([], a, false) = fin := hfin
      rw [← hfin]
      exact ret_le (bad_le a)
    · rw [drop_end r a (by omega)] at hfin
      have hfin : (acc ++ [], (0 : Int), true) = fin := hfin
      rw [List.append_nil] at hfin
      obtain ⟨rfl, rfl⟩ := hV
      simp only [listOf_rowsOn]
      refine ⟨PreOk.mk (MemsF.mems hm) rfl, all_holds fun y8 hy8 => ?_⟩
      replace hy8 : y8 = startS p acc := hy8
      subst hy8
      rw [← hfin]
      exact ret_le (RR.le_refl _)
theorem c_rParse_good : c_rParse.fe.Good Tryd.prog := by
  refine FT.good c_rParse ⟨Tryd.f13, by kernel_rfl, by decide +kernel, by kernel_rfl⟩ (fun ⟨p, t⟩ => by first | rfl | simp [c_rParse, rrRef, rParse, badR, rTx, rsl, rss, rnewI, rnewE, rstab, rplaces, ri, rb, rib, rR, riib3, rnum, rby, Sta.fresh]) fun ⟨p, t⟩ hp => ?_
  refine acalls_le s_rParse_sound (fn := Tryd.f13) (a := a_rParse) (nargs := 2) (tbl := [(6, [2, 4, 7, 8, 9, 10, 11, 1000009000000900009001]), (12, [2, 4, 7, 8, 9, 10, 11, 12, 13, 1000009000000900009001])]) (by kernel_rfl) (by kernel_rfl) rfl (m := 400) ?_
  show VC.holds _ _ _ (a_rParse.start s_rParse 400 [ap p, at_ t])
  rw [t_rParse]
  try simp only [asRows_sl, asInt_int, asBool_bool, asStr_str, listOf_rowsOn, List.drop_zero, Prg.eta, Sta.eta, rowsOn_length, getD_drop, Nat.reduceAdd, rd_int, rd_PMem_name, rd_PMem_secret, rd_PMem_n, rd_PLabel_name, rd_PLabel_at_, rd_Ins_kind, rd_Ins_op, rd_Ins_d, rd_Ins_aR, rd_Ins_aN, rd_Ins_bR, rd_Ins_bN, rd_Ins_name, rd_Ins_target, rd_Ent_pc, rd_Ent_val, rd_Ent_addr, rd_Ent_fro, rd_Ent_next, rd_Ent_done, rd_Ent_known, rd_Ent_fault, rd_Place_reg, rd_Place_n, rd_Place_secret, rd_Obs_kind, rd_Obs_at_, rd_Dir_kind, rd_Dir_n, rd_Rn_v, rd_Tok_kind, rd_Tok_text, rd_Tok_n, rd_Tok_at_]
  try simp only [c_rParse] at hp
  obtain ⟨hm, hw1, hw2, ht⟩ := hp
  have hm : MemsF p.mems := hm
  have hw1 : 1 ≤ p.w := hw1
  have hw2 : p.w ≤ 2 := hw2
  have hrl := runesS_len t
  have ht : t.size ≤ 1000000 := ht
  have hsz : sizeS p.w ≤ 10 := by
    have : p.w = 1 ∨ p.w = 2 := by omega
    rcases this with h | h <;> (rw [h]; decide)
  refine ⟨PreOk.mk ht rfl, all_holds fun y hy => ⟨PreOk.mk (MemsF.mems hm) rfl, all_holds fun z hz => ?_⟩⟩
  replace hy : y = runesS t := hy
  replace hz : z = placesS p := hz
  subst hy hz
  have e : c_rParse.ans (p, t) = rParse (endP p (readS p t)) := rfl
  rw [e]
  exact l_qa p hm ⟨hw1, hw2⟩ _ (by omega) _ rfl _ (0, 0, _, _) ⟨by simp, by simp, by simp, by simp, [], OnL.nil, rfl, joinP_nil hsz _ _ _⟩
end Go.Proofs.YtmmlolampgnamaaDoor.Ax
end

section
/- A text with one sign turned, in plain words. -/
namespace Go.Proofs.YtmmlolampgnamaaDoor.Ax
open Go.RowKit
set_option linter.unusedVariables false
set_option linter.unusedSimpArgs false
/-! ### Where it goes wrong hangs on what stands there, and five runes behind -/
/-! ### What stands ahead of where it goes wrong -/
def InR (size : Int) (vs : List Int) : Prop := ∀ v ∈ vs, 0 ≤ v ∧ v < size
theorem InR.cons {size v : Int} {vs : List Int} (h0 : 0 ≤ v ∧ v < size) (h : InR size vs) : InR size (v :: vs) := fun x hx => by
  rcases List.mem_cons.1 hx with rfl | hx
  · exact h0
  · exact h x hx
theorem InR.zero {size : Int} (h : 0 < size) (n : Nat) : InR size (List.replicate n 0) := fun x hx => by
  rw [(List.mem_replicate.1 hx).2]; omega
/-! ### One sign set -/
/-! ### No two signs that stand side by side are alike -/
/-- What is put in a sign's stead. -/
inductive Turn (c : Rn) : List Rn → Prop
  | none : Turn c []
  | twice : Turn c [c, c]
  | one (x : Rn) : Turn c [x]
/-! ### Bytes -/
theorem decodeL_big (b : UInt8) (l : List UInt8) (h : ¬ b.toNat < 128) : 128 ≤ (decodeL (b :: l)).1 := by
  unfold decodeL
  dsimp only
  rw [if_neg (show ¬ ((b :: l).getD 0 0).toNat < 0x80 from h)]
  repeat' split
  all_goals first
    | (show 128 ≤ Utf8.runeError; decide)
    | (rename_i h; dsimp only; first | exact h | (simp only [Bool.and_eq_true, decide_eq_true_eq] at h; omega))
theorem runesB_head (b : UInt8) (l : List UInt8) : ∃ r, runesB (b :: l) = ⟨((decodeL (b :: l)).1 : Int)⟩ :: r := ⟨_, rfl⟩
/-- Runes below 128 are bytes. -/
theorem runes_asc : ∀ (l : List UInt8), (∀ c ∈ runesB l, c.v < 128) → isAsc l = true ∧ runesB l = ascR l
  | [], _ => ⟨rfl, rfl⟩
  | b :: l, h => by
    by_cases hb : b.toNat < 128
    · rw [runesB_ascii b l hb] at h ⊢
      obtain ⟨i1, i2⟩ := runes_asc l fun c hc => h c (List.mem_cons_of_mem _ hc)
      unfold isAsc at i1 ⊢
      rw [List.all_cons, i1, decide_eq_true hb, i2]
      exact ⟨rfl, rfl⟩
    · obtain ⟨r, hr⟩ := runesB_head b l
      have h1 := h ⟨((decodeL (b :: l)).1 : Int)⟩ (by rw [hr]; simp)
      have h2 := decodeL_big b l hb
      have h1 : ((decodeL (b :: l)).1 : Int) < 128 := h1
      omega
theorem ascR_inj : ∀ {l m : List UInt8}, ascR l = ascR m → l = m
  | [], [], _ => rfl
  | [], _ :: _, h => by simp [ascR] at h
  | _ :: _, [], h => by simp [ascR] at h
  | a :: l, b :: m, h => by
    unfold ascR at h
    rw [List.map_cons, List.map_cons] at h
    obtain ⟨h1, h2⟩ := List.cons.inj h
    have h1 : (a.toNat : Int) = b.toNat := congrArg Rn.v h1
    rw [UInt8.toNat_inj.1 (show a.toNat = b.toNat by omega), ascR_inj h2]
theorem begun_of2 {p : Prg} (hm : MemsF p.mems) (hw : 1 ≤ p.w ∧ p.w ≤ 2) (L : List Int) (hL : L.length = (placesS p).length) : Begun p (startS p L).1 := by
  obtain ⟨h1, h2⟩ := begun_vals (MemsF.mems hm) L hL
  refine ⟨hm, hw, ?_, h2⟩
  rw [h1]
  intro v hv
  obtain ⟨n, _, rfl⟩ := List.mem_map.1 hv
  exact mask_size hw n
/-- What is read is what is told. -/
theorem read_show {p : Prg} (hm : MemsF p.mems) (hw : 1 ≤ p.w ∧ p.w ≤ 2) (u : ByteArray) (h : (readS p u).2.2 = true) : Begun p (parseS p u).1 ∧ showS p (parseS p u).1 = u ∧ parseS p u = ((parseS p u).1, 0, true) := by
  have hsz := size_small hw
  obtain ⟨h1, h2, h3, h4⟩ := parse_inv (sizeS p.w) (by omega) (wantsS (namesS p)) (runesS u) 0 h
  have hL : (readS p u).1.length = (placesS p).length := by
    rw [← names_len hm, ← wants_len]; exact h2
  have hb := begun_of2 hm hw _ hL
  obtain ⟨b1, b2⟩ := begun_vals (MemsF.mems hm) _ hL
  have hok : okW p.w := ⟨hw.1, by omega⟩
  have e1 : (readS p u).1.map (maskS p.w) = (readS p u).1 := by
    have : ∀ v ∈ (readS p u).1, maskS p.w v = id v := fun v hv => by
      have := h4 v hv
      refine maskS_id hok this.1 ?_
      have h5 := this.2
      unfold sizeS at h5
      rwa [if_pos hok] at h5
    rw [List.map_congr_left this, List.map_id]
  rw [e1] at b1
  have ep : parseS p u = ((startS p (readS p u).1).1, 0, true) := by
    unfold parseS
    rw [if_pos h]
    unfold startS
    rw [if_pos hL]
  rw [ep]
  refine ⟨hb, ?_, rfl⟩
  have hr := hb.runes
  rw [b1] at hr
  have hu : runesB u.data.toList = renderR (wantsS (namesS p)) (readS p u).1 := by rw [← runesS_B]; exact h1
  have hlt : ∀ c ∈ runesB u.data.toList, c.v < 128 := by
    rw [hu]
    intro c hc
    refine render_all (fun c => c.v < 128) _ _ (fun w hw' c hc => ?_) (fun v hv => ?_) c hc
    · have := wants_ok hm w hw'
      unfold wantOk at this
      simp only [Bool.and_eq_true, List.all_eq_true, decide_eq_true_eq] at this
      exact (this.2 c hc).2
    · have := h4 v hv
      show 48 + v < 128
      omega
  obtain ⟨a1, a2⟩ := runes_asc _ hlt
  have e3 : (showS p (startS p (readS p u).1).1).data.toList = u.data.toList := ascR_inj (by rw [hr.2.1, ← a2, hu])
  exact ByteArray.ext (Array.toList_inj.1 e3)
end Go.Proofs.YtmmlolampgnamaaDoor.Ax
end
