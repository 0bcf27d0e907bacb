/- LexrTells: any line has the signs, and places, that the document says. -/
import Derived.Test.YtmhfhobaicklmaaL4
import Derived.Test.YtmhfhobaicklmaaAxRaw
namespace Go.Proofs.Ytmhfhobaicklmaa.Ax
open Go.RowKit
set_option linter.unusedVariables false
set_option linter.unusedSimpArgs false
noncomputable def textS (l : List Int) : ByteArray := pick fun s => s.size ≤ 200 ∧ ACalls Try.prog 27 [al4 l] (.c (.d (.str s)))
theorem textS_spec (l : List Int) : (textS l).size ≤ 200 ∧ ACalls Try.prog 27 [al4 l] (.c (.d (.str (textS l)))) := pick_spec (Q := fun s => s.size ≤ 200 ∧ ACalls Try.prog 27 [al4 l] (.c (.d (.str s)))) (by
  obtain ⟨r, ⟨s, hs, rfl⟩, h⟩ := x_text l
  exact ⟨s, hs, h⟩)
def rdL1 : List A → List Int × Unit
  | [.c (.sl l)] => (listOf Int l, ())
  | _ => default
noncomputable def c_text : FT (List Int × Unit) := ⟨27, fun x => [al4 x.1], rdL1, fun _ => True, fun x => .c (.d (.str (textS x.1))), false, fun x => by simp [al4, rdL1]⟩
theorem c_text_good : c_text.fe.Good Try.prog := FT.good c_text ⟨Try.f27, by kernel_rfl, by decide +kernel, by kernel_rfl⟩ (fun _ => rfl) fun x _ => (textS_spec x.1).2
noncomputable def v_text : List Int × Unit → ByteArray := fun x => textS x.1
noncomputable def sh_text : ByteArray → RR := fun s => .c (.d (.str s))
theorem e_text (x : List Int × Unit) : sh_text (v_text x) = c_text.ans x := rfl
def aB (l : List By) : A := .c (.sl (rowsOn l))
def rdBL : List A → List By × List Int
  | [.c (.sl b), .c (.sl l)] => (listOf By b, listOf Int l)
  | _ => default
def c_lTells : FT (List By × List Int) := ⟨8, fun x => [aB x.1, al4 x.2], rdBL, fun _ => True, fun _ => rb true, false, fun x => by simp [aB, al4, rdBL]⟩
noncomputable def a_lTells : FnA := (fnA Try.prog Try.f8 2 []).getD ⟨0, .skip, [], []⟩
noncomputable def s_lTells : Sp := spT [c_awake4.fe, c_text.gfe v_text sh_text e_text, c_lLine.gfe v_lLine sh_lLine e_lLine, c_rLine4.gfe v_rLine4 sh_rLine4 e_rLine4, c_same4.gfe v_same4 sh_same4 e_same4]
theorem s_lTells_sound : s_lTells.sound Try.prog := spT_sound fun e he => by
  simp only [List.mem_cons, List.not_mem_nil, or_false] at he
  rcases he with rfl | rfl | rfl | rfl | rfl
  · exact c_awake4_good
  · exact FT.gfe_good c_text_good
  · exact FT.gfe_good c_lLine_good
  · exact FT.gfe_good c_rLine4_good
  · exact FT.gfe_good c_same4_good
set_option maxRecDepth 100000 in
theorem t_lTells (b : List By) (l : List Int) : a_lTells.start s_lTells 400 [aB b, al4 l] =
(VC.br (decide ((300 : Int) < (↑(List.length (rowsOn b)) : Int)))
 (VC.need (PreOk c_awake4 PUnit.unit [])
 (VC.ret (some (RR.c (Rc.d (D.bool true))))))
 (VC.need (rowsOn b = List.map (fun r ↦ [D.int IntKind.u8 (asInt (List.getD r (0 : Nat) D.nilp))]) (rowsOn b))
 (VC.need (PreOk c_text (l, ()) [A.c (D.sl (rowsOn l))])
 (VC.all (v_text (listOf Int (rowsOn l), ())) fun (y2 : ByteArray) =>
 (VC.need (PreOk c_text (l, ()) [A.c (D.sl (rowsOn l))])
 (VC.all (v_text (listOf Int (rowsOn l), ())) fun (y3 : ByteArray) =>
 (VC.need (rowsOn b = List.map (fun r ↦ [D.int IntKind.u8 (asInt (List.getD r (0 : Nat) D.nilp))]) (rowsOn b))
 (VC.need (ByteArray.size y3 + ByteArray.size (strOfNums (List.map (fun r ↦ asInt (List.getD r (0 : Nat) D.nilp)) (rowsOn b))) ≤ (9223372036854775807 : Nat))
 (VC.need ((0 : Int) ≤ (0 : Int) ∧ (0 : Int) < (3 : Int))
 (VC.need ((0 : Nat) < List.length [[D.str (strOfNums (List.map (fun r ↦ asInt (List.getD r (0 : Nat) D.nilp)) (rowsOn b)))], [D.str y2], [D.str (y3 ++ strOfNums (List.map (fun r ↦ asInt (List.getD r (0 : Nat) D.nilp)) (rowsOn b)))]] ∧ List.length [D.str (strOfNums (List.map (fun r ↦ asInt (List.getD r (0 : Nat) D.nilp)) (rowsOn b)))] = (1 : Nat) ∧ okSh [Kd.str] [D.str (strOfNums (List.map (fun r ↦ asInt (List.getD r (0 : Nat) D.nilp)) (rowsOn b)))])
 (VC.need (PreOk c_lLine (asStr (D.str (strOfNums (List.map (fun r ↦ asInt (List.getD r (0 : Nat) D.nilp)) (rowsOn b)))), ()) [A.c (D.str (asStr (D.str (strOfNums (List.map (fun r ↦ asInt (List.getD r (0 : Nat) D.nilp)) (rowsOn b))))))])
 (VC.all (v_lLine (asStr (D.str (strOfNums (List.map (fun r ↦ asInt (List.getD r (0 : Nat) D.nilp)) (rowsOn b)))), ())) fun (y4 : List Tok × Int × Bool) =>
 (VC.need (PreOk c_rLine4 (asStr (D.str (strOfNums (List.map (fun r ↦ asInt (List.getD r (0 : Nat) D.nilp)) (rowsOn b)))), ()) [A.c (D.str (asStr (D.str (strOfNums (List.map (fun r ↦ asInt (List.getD r (0 : Nat) D.nilp)) (rowsOn b))))))])
 (VC.all (v_rLine4 (asStr (D.str (strOfNums (List.map (fun r ↦ asInt (List.getD r (0 : Nat) D.nilp)) (rowsOn b)))), ())) fun (y5 : List Tok × Int × Bool) =>
 (VC.br (if true = true then !y4.snd.snd == y5.snd.snd else y4.snd.snd == y5.snd.snd)
  (VC.ret (some (RR.c (Rc.d (D.bool false)))))
  (VC.br (y4.snd.fst != y5.snd.fst)
   (VC.ret (some (RR.c (Rc.d (D.bool false)))))
   (VC.need (PreOk c_same4 (y4.fst, y5.fst) [A.c (D.sl (rowsOn y4.fst)), A.c (D.sl (rowsOn y5.fst))])
   (VC.all (v_same4 (listOf Tok (rowsOn y4.fst), listOf Tok (rowsOn y5.fst))) fun (y6 : Bool) =>
   (VC.br (!y6)
    (VC.ret (some (RR.c (Rc.d (D.bool false)))))
    (VC.need ((0 : Int) ≤ (1 : Int) ∧ (1 : Int) < (3 : Int))
    (VC.need ((1 : Nat) < List.length [[D.str (strOfNums (List.map (fun r ↦ asInt (List.getD r (0 : Nat) D.nilp)) (rowsOn b)))], [D.str y2], [D.str (y3 ++ strOfNums (List.map (fun r ↦ asInt (List.getD r (0 : Nat) D.nilp)) (rowsOn b)))]] ∧ List.length [D.str y2] = (1 : Nat) ∧ okSh [Kd.str] [D.str y2])
    (VC.need (PreOk c_lLine (asStr (D.str y2), ()) [A.c (D.str (asStr (D.str y2)))])
    (VC.all (v_lLine (asStr (D.str y2), ())) fun (y7 : List Tok × Int × Bool) =>
    (VC.need (PreOk c_rLine4 (asStr (D.str y2), ()) [A.c (D.str (asStr (D.str y2)))])
    (VC.all (v_rLine4 (asStr (D.str y2), ())) fun (y8 : List Tok × Int × Bool) =>
    (VC.br (if true = true then !y7.snd.snd == y8.snd.snd else y7.snd.snd == y8.snd.snd)
     (VC.ret (some (RR.c (Rc.d (D.bool false)))))
     (VC.br (y7.snd.fst != y8.snd.fst)
      (VC.ret (some (RR.c (Rc.d (D.bool false)))))
      (VC.need (PreOk c_same4 (y7.fst, y8.fst) [A.c (D.sl (rowsOn y7.fst)), A.c (D.sl (rowsOn y8.fst))])
      (VC.all (v_same4 (listOf Tok (rowsOn y7.fst), listOf Tok (rowsOn y8.fst))) fun (y9 : Bool) =>
      (VC.br (!y9)
       (VC.ret (some (RR.c (Rc.d (D.bool false)))))
       (VC.need ((0 : Int) ≤ (2 : Int) ∧ (2 : Int) < (3 : Int))
       (VC.need ((2 : Nat) < List.length [[D.str (strOfNums (List.map (fun r ↦ asInt (List.getD r (0 : Nat) D.nilp)) (rowsOn b)))], [D.str y2], [D.str (y3 ++ strOfNums (List.map (fun r ↦ asInt (List.getD r (0 : Nat) D.nilp)) (rowsOn b)))]] ∧ List.length [D.str (y3 ++ strOfNums (List.map (fun r ↦ asInt (List.getD r (0 : Nat) D.nilp)) (rowsOn b)))] = (1 : Nat) ∧ okSh [Kd.str] [D.str (y3 ++ strOfNums (List.map (fun r ↦ asInt (List.getD r (0 : Nat) D.nilp)) (rowsOn b)))])
       (VC.need (PreOk c_lLine (asStr (D.str (y3 ++ strOfNums (List.map (fun r ↦ asInt (List.getD r (0 : Nat) D.nilp)) (rowsOn b)))), ()) [A.c (D.str (asStr (D.str (y3 ++ strOfNums (List.map (fun r ↦ asInt (List.getD r (0 : Nat) D.nilp)) (rowsOn b))))))])
       (VC.all (v_lLine (asStr (D.str (y3 ++ strOfNums (List.map (fun r ↦ asInt (List.getD r (0 : Nat) D.nilp)) (rowsOn b)))), ())) fun (y10 : List Tok × Int × Bool) =>
       (VC.need (PreOk c_rLine4 (asStr (D.str (y3 ++ strOfNums (List.map (fun r ↦ asInt (List.getD r (0 : Nat) D.nilp)) (rowsOn b)))), ()) [A.c (D.str (asStr (D.str (y3 ++ strOfNums (List.map (fun r ↦ asInt (List.getD r (0 : Nat) D.nilp)) (rowsOn b))))))])
       (VC.all (v_rLine4 (asStr (D.str (y3 ++ strOfNums (List.map (fun r ↦ asInt (List.getD r (0 : Nat) D.nilp)) (rowsOn b)))), ())) fun (y11 : List Tok × Int × Bool) =>
       (VC.br (if true = true then !y10.snd.snd == y11.snd.snd else y10.snd.snd == y11.snd.snd)
        (VC.ret (some (RR.c (Rc.d (D.bool false)))))
        (VC.br (y10.snd.fst != y11.snd.fst)
         (VC.ret (some (RR.c (Rc.d (D.bool false)))))
         (VC.need (PreOk c_same4 (y10.fst, y11.fst) [A.c (D.sl (rowsOn y10.fst)), A.c (D.sl (rowsOn y11.fst))])
         (VC.all (v_same4 (listOf Tok (rowsOn y10.fst), listOf Tok (rowsOn y11.fst))) fun (y12 : Bool) =>
         (VC.br (!y12)
          (VC.ret (some (RR.c (Rc.d (D.bool false)))))
          (VC.need (PreOk c_awake4 PUnit.unit [])
          (VC.ret (some (RR.c (Rc.d (D.bool true))))))))))))))))))))))))))))))))))))))))))))))) := by kernel_rfl
theorem lineF_len : ∀ (f : Nat) (l : List Rn) (a : Int), (lineF f l a).1.length ≤ l.length
  | 0, l, _ => by simp [lineF]
  | _ + 1, [], _ => by simp [lineF]
  | f + 1, c :: l, a => by
    unfold lineF
    split
    · simp
    · split
      · have := lineF_len f l (a + 1); simp only [List.length_cons]; omega
      · split
        · simp
        · rename_i t k hs
          have hk := signL_pos hs
          have ih := lineF_len f ((c :: l).drop k) (a + k)
          rw [List.length_drop] at ih
          split
          · simp
          · split
            · simp only [List.length_cons] at *; omega
            · omega
theorem lineS_len (s : ByteArray) : (lineS s).1.length ≤ s.size := Nat.le_trans (lineF_len _ _ _) (runesS_len s)
theorem rowsOn_by (l : List By) : rowsOn l = List.map (fun r => [D.int IntKind.u8 (asInt (List.getD r 0 D.nilp))]) (rowsOn l) := by
  unfold rowsOn
  rw [List.map_map]
  rfl
theorem strOfNums_size (l : List Int) : (strOfNums l).size = l.length := by
  unfold strOfNums
  show (l.map fun n => UInt8.ofNat n.toNat).toArray.size = _
  simp
section
variable {cx : Cx} {rs : List RVar} {R : RR → Prop} {x y : VC}
theorem br_t {b : Bool} (h : b = true) (hx : x.holds cx rs R) : (VC.br b x y).holds cx rs R := by subst h; exact hx
theorem br_f {b : Bool} (h : b = false) (hy : y.holds cx rs R) : (VC.br b x y).holds cx rs R := by subst h; exact hy
end
theorem same_eq (b c : Bool) (h : b = c) : (if True then !b == c else b == c) = false := by subst h; cases b <;> rfl
theorem c_lTells_good : c_lTells.fe.Good Try.prog := by
  refine FT.good c_lTells ⟨Try.f8, by kernel_rfl, by decide +kernel, by kernel_rfl⟩ (fun ⟨b, l⟩ => by first | rfl | simp [c_lTells, rrRef, rTok3, rLine, rR, riib3, ri, rb, rib, Sta.fresh]) fun ⟨b, l⟩ hp => ?_
  refine acalls_le s_lTells_sound (fn := Try.f8) (a := a_lTells) (nargs := 2) (tbl := []) (by kernel_rfl) (by kernel_rfl) rfl (m := 400) ?_
  show VC.holds _ _ _ (a_lTells.start s_lTells 400 [aB b, al4 l])
  rw [t_lTells]
  try simp only [asRows_sl, asInt_int, asBool_bool, asStr_str, listOf_rowsOn, List.drop_zero, Prg.eta, Sta.eta, rowsOn_length, getD_drop, Nat.reduceAdd, rd_int, rd_PMem_name, rd_PMem_secret, rd_PMem_n, rd_PLabel_name, rd_PLabel_at_, rd_Ins_kind, rd_Ins_op, rd_Ins_d, rd_Ins_aR, rd_Ins_aN, rd_Ins_bR, rd_Ins_bN, rd_Ins_name, rd_Ins_target, rd_Ent_pc, rd_Ent_val, rd_Ent_addr, rd_Ent_fro, rd_Ent_next, rd_Ent_done, rd_Ent_known, rd_Ent_fault, rd_Place_reg, rd_Place_n, rd_Place_secret, rd_Obs_kind, rd_Obs_at_, rd_Dir_kind, rd_Dir_n, rd_Rn_v, rd_Tok_kind, rd_Tok_text, rd_Tok_n, rd_Tok_at_]
  try simp only [c_lTells] at hp
  refine br_dec (fun _ => ⟨PreOk.mk trivial rfl, ret_le (RR.le_refl _)⟩) (fun hb => ?_)
  have hsz : (strOfNums (List.map (fun r => asInt (List.getD r 0 D.nilp)) (rowsOn b))).size = b.length := by rw [strOfNums_size, List.length_map, rowsOn_length]
  generalize strOfNums (List.map (fun r => asInt (List.getD r 0 D.nilp)) (rowsOn b)) = raw at hsz
  refine ⟨rowsOn_by b, PreOk.mk trivial rfl, all_holds fun t ht => ⟨PreOk.mk trivial rfl, all_holds fun u hu => ⟨rowsOn_by b, ?_⟩⟩⟩
  have ht2 : t.size ≤ 200 := by rw [show t = textS l from ht]; exact (textS_spec l).1
  have hu2 : u.size ≤ 200 := by rw [show u = textS l from hu]; exact (textS_spec l).1
  have l1 := lineS_len raw
  have l2 := lineS_len t
  have l3 := lineS_len (u ++ raw)
  have l4 := ba_len u raw
  refine ⟨by omega, ⟨by decide, by decide⟩, ⟨by show 0 < 3; decide, rfl, rfl⟩, PreOk.mk (by show raw.size ≤ 1000000; omega) rfl, all_holds fun y4 h4 => ⟨PreOk.mk (by show raw.size ≤ 1000000; omega) rfl, all_holds fun y5 h5 => ?_⟩⟩
  replace h4 : y4 = lineS raw := h4
  replace h5 : y5 = lineS raw := h5
  refine br_f (same_eq _ _ (by rw [h4, h5])) (br_bne (fun h => absurd (by rw [h4, h5]) h) (fun _ => ⟨PreOk.mk ⟨by rw [h4]; dsimp only; omega, by rw [h5]; dsimp only; omega⟩ rfl, all_holds fun y6 h6 => br_not (br_t (h6.trans (decide_eq_true (by rw [h4, h5]))) ?_)⟩))
  refine ⟨⟨by decide, by decide⟩, ⟨by show 1 < 3; decide, rfl, rfl⟩, PreOk.mk (by show t.size ≤ 1000000; omega) rfl, all_holds fun y7 h7 => ⟨PreOk.mk (by show t.size ≤ 1000000; omega) rfl, all_holds fun y8 h8 => ?_⟩⟩
  replace h7 : y7 = lineS t := h7
  replace h8 : y8 = lineS t := h8
  refine br_f (same_eq _ _ (by rw [h7, h8])) (br_bne (fun h => absurd (by rw [h7, h8]) h) (fun _ => ⟨PreOk.mk ⟨by rw [h7]; dsimp only; omega, by rw [h8]; dsimp only; omega⟩ rfl, all_holds fun y9 h9 => br_not (br_t (h9.trans (decide_eq_true (by rw [h7, h8]))) ?_)⟩))
  refine ⟨⟨by decide, by decide⟩, ⟨by show 2 < 3; decide, rfl, rfl⟩, PreOk.mk (by show (u ++ raw).size ≤ 1000000; omega) rfl, all_holds fun y10 h10 => ⟨PreOk.mk (by show (u ++ raw).size ≤ 1000000; omega) rfl, all_holds fun y11 h11 => ?_⟩⟩
  replace h10 : y10 = lineS (u ++ raw) := h10
  replace h11 : y11 = lineS (u ++ raw) := h11
  refine br_f (same_eq _ _ (by rw [h10, h11])) (br_bne (fun h => absurd (by rw [h10, h11]) h) (fun _ => ⟨PreOk.mk ⟨by rw [h10]; dsimp only; omega, by rw [h11]; dsimp only; omega⟩ rfl, all_holds fun y12 h12 => br_not (br_t (h12.trans (decide_eq_true (by rw [h10, h11]))) ?_)⟩))
  exact ⟨PreOk.mk trivial rfl, ret_le (RR.le_refl _)⟩
end Go.Proofs.Ytmhfhobaicklmaa.Ax
