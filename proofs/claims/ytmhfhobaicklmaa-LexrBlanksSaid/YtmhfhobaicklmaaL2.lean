/- The signs of a line: lexr's sign, lexr's Line. -/
import Derived.Test.YtmhfhobaicklmaaL1
import Derived.Test.YtmhfhobaicklmaaAxLaw
import Derived.Test.YtmhfhobaicklmaaShelf
namespace Go.Proofs.Ytmhfhobaicklmaa.Ax
open Go.RowKit
set_option linter.unusedVariables false
set_option linter.unusedSimpArgs false
def rdC : List A → ByteArray × ByteArray
  | [.c (.str s), .c (.str t)] => (s, t)
  | _ => default
def c_cont : FT (ByteArray × ByteArray) := ⟨96, fun x => [at_ x.1, at_ x.2], rdC, fun x => x.1.size < 1000000, fun x => rb (Lib.contains x.1.data.toList x.2.data.toList), false, fun x => by simp [at_, rdC]⟩
theorem c_cont_good : c_cont.fe.Good Try.prog := FT.good c_cont ⟨Try.f96, by kernel_rfl, by decide +kernel, by kernel_rfl⟩ (fun _ => rfl) fun ⟨s, t⟩ hp => by
  intro w vals ok hok hgl hargs
  obtain ⟨m, hm⟩ := hgl (0, .i64) (by simp [globs])
  have hs : s.size < 4294967281 := Nat.lt_trans hp (by decide)
  cases vals with
  | nil => exact hargs.elim
  | cons v vs =>
    obtain ⟨h1, h2⟩ := hargs
    cases vs with
    | nil => exact h2.elim
    | cons v2 vs =>
      obtain ⟨h2, h3⟩ := h2
      cases vs with
      | cons _ _ => exact h3.elim
      | nil =>
        simp only [at_, RA, RD] at h1 h2
        subst h1 h2
        refine (Try.strings_Contains s t m w hs hm).mono fun e w' h => ?_
        obtain ⟨rfl, rfl⟩ := h
        exact ⟨_, ok, [], rfl, Below.refl _ _, hok, fun b h => .inl h, ⟨rfl, by simp only [RD]⟩, List.nodup_nil, fun b h => by cases h⟩
noncomputable def v_cont : ByteArray × ByteArray → Bool := fun x => Lib.contains x.1.data.toList x.2.data.toList
noncomputable def sh_cont : Bool → RR := fun b => rb b
theorem e_cont (x : ByteArray × ByteArray) : sh_cont (v_cont x) = c_cont.ans x := rfl
def tok0 : Tok := ⟨0, ByteArray.empty, 0, 0⟩
def signV (l : List Rn) (i : Int) : Tok × Int × Bool := match signL (l.drop i.toNat) i with
  | some (t, k) => (t, i + k, true)
  | none => (tok0, i, false)
def rTok3 (x : Tok × Int × Bool) : RR := .tup [.inr ((row x.1).map .d), .inl (.d (.int .i64 x.2.1)), .inl (.d (.bool x.2.2))]
def c_lSign : FT (List Rn × Int) := ⟨54, fun x => [aR x.1, ai x.2], rdRI, fun x => x.1.length ≤ 1000000 ∧ 0 ≤ x.2 ∧ x.2 < x.1.length, fun x => rTok3 (signV x.1 x.2), false, fun x => by simp [aR, ai, rdRI]⟩
noncomputable def a_lSign : FnA := (fnA Try.prog Try.f54 2 []).getD ⟨0, .skip, [], []⟩
noncomputable def s_lSign : Sp := spT [c_lLet.gfe v_lLet sh_lLet e_lLet, c_lName.gfe v_lName sh_lName e_lName, c_lDig.gfe v_lDig sh_lDig e_lDig, c_lNum.gfe v_lNum sh_lNum e_lNum, c_cont.gfe v_cont sh_cont e_cont]
theorem s_lSign_sound : s_lSign.sound Try.prog := spT_sound fun e he => by
  simp only [List.mem_cons, List.not_mem_nil, or_false] at he
  rcases he with rfl | rfl | rfl | rfl | rfl
  · exact FT.gfe_good c_lLet_good
  · exact FT.gfe_good c_lName_good
  · exact FT.gfe_good c_lDig_good
  · exact FT.gfe_good c_lNum_good
  · exact FT.gfe_good c_cont_good
set_option maxRecDepth 100000 in
theorem t_lSign (l : List Rn) (i : Int) : a_lSign.start s_lSign 400 [aR l, ai i] =
(VC.need ((0 : Int) ≤ i ∧ i < (↑(List.length (rowsOn l)) : Int) ∧ List.length (rowAt (rowsOn l) (Int.toNat i)) = (1 : Nat))
(VC.need (okSh [Kd.int IntKind.i32] (rowAt (rowsOn l) (Int.toNat i)))
(VC.need (PreOk c_lLet (asInt (List.getD (rowAt (rowsOn l) (Int.toNat i)) (0 : Nat) D.nilp)) [A.c (D.int IntKind.i32 (asInt (List.getD (rowAt (rowsOn l) (Int.toNat i)) (0 : Nat) D.nilp)))])
(VC.all (v_lLet (asInt (List.getD (rowAt (rowsOn l) (Int.toNat i)) (0 : Nat) D.nilp))) fun (y2 : Bool) =>
(VC.br (y2)
 (VC.need (PreOk c_lName (l, i) [A.c (D.sl (rowsOn l)), A.c (D.int IntKind.i64 i)])
 (VC.all (v_lName (listOf Rn (rowsOn l), i)) fun (y3 : Int) =>
 (VC.need ((List.all (rowsOn l) fun r ↦ List.length r == (1 : Nat)) = true ∧ (0 : Int) ≤ i ∧ i ≤ y3 ∧ y3 ≤ (↑(List.length (rowsOn l)) : Int))
 (VC.need (List.drop (Int.toNat i) (List.take (Int.toNat y3) (rowsOn l)) = List.map (fun r ↦ [D.int IntKind.i32 (asInt (List.getD r (0 : Nat) D.nilp))]) (List.drop (Int.toNat i) (List.take (Int.toNat y3) (rowsOn l))))
 (VC.ret (some (RR.tup [Sum.inr [Rc.d (D.int IntKind.i64 (1 : Int)), Rc.d (D.str (runesBytes (List.map (fun r ↦ asInt (List.getD r (0 : Nat) D.nilp)) (List.drop (Int.toNat i) (List.take (Int.toNat y3) (rowsOn l)))))), Rc.d (D.int IntKind.i64 (0 : Int)), Rc.d (D.int IntKind.i64 i)], Sum.inl (Rc.d (D.int IntKind.i64 y3)), Sum.inl (Rc.d (D.bool true))])))))))
 (VC.need (PreOk c_lDig (asInt (List.getD (rowAt (rowsOn l) (Int.toNat i)) (0 : Nat) D.nilp)) [A.c (D.int IntKind.i32 (asInt (List.getD (rowAt (rowsOn l) (Int.toNat i)) (0 : Nat) D.nilp)))])
 (VC.all (v_lDig (asInt (List.getD (rowAt (rowsOn l) (Int.toNat i)) (0 : Nat) D.nilp))) fun (y3 : Bool) =>
 (VC.br (y3)
  (VC.need (PreOk c_lNum (l, i, Int.toNat (5 : Int)) [A.c (D.sl (rowsOn l)), A.c (D.int IntKind.i64 i), A.c (D.int IntKind.i64 (5 : Int))])
  (VC.all (v_lNum (listOf Rn (rowsOn l), i, (5 : Nat))) fun (y4 : Int × Int × Bool) =>
  (VC.need ((List.all (rowsOn l) fun r ↦ List.length r == (1 : Nat)) = true ∧ (0 : Int) ≤ i ∧ i ≤ y4.snd.fst ∧ y4.snd.fst ≤ (↑(List.length (rowsOn l)) : Int))
  (VC.need (List.drop (Int.toNat i) (List.take (Int.toNat y4.snd.fst) (rowsOn l)) = List.map (fun r ↦ [D.int IntKind.i32 (asInt (List.getD r (0 : Nat) D.nilp))]) (List.drop (Int.toNat i) (List.take (Int.toNat y4.snd.fst) (rowsOn l))))
  (VC.ret (some (RR.tup [Sum.inr [Rc.d (D.int IntKind.i64 (2 : Int)), Rc.d (D.str (runesBytes (List.map (fun r ↦ asInt (List.getD r (0 : Nat) D.nilp)) (List.drop (Int.toNat i) (List.take (Int.toNat y4.snd.fst) (rowsOn l)))))), Rc.d (D.int IntKind.i64 y4.fst), Rc.d (D.int IntKind.i64 i)], Sum.inl (Rc.d (D.int IntKind.i64 y4.snd.fst)), Sum.inl (Rc.d (D.bool true))])))))))
  (VC.need (PreOk c_cont ({ data := #[(44 : UInt8), (58 : UInt8), (91 : UInt8), (93 : UInt8), (43 : UInt8)] }, Utf8.encode (asInt (List.getD (rowAt (rowsOn l) (Int.toNat i)) (0 : Nat) D.nilp))) [A.c (D.str { data := #[(44 : UInt8), (58 : UInt8), (91 : UInt8), (93 : UInt8), (43 : UInt8)] }), A.c (D.str (Utf8.encode (asInt (List.getD (rowAt (rowsOn l) (Int.toNat i)) (0 : Nat) D.nilp))))])
  (VC.all (v_cont ({ data := #[(44 : UInt8), (58 : UInt8), (91 : UInt8), (93 : UInt8), (43 : UInt8)] }, Utf8.encode (asInt (List.getD (rowAt (rowsOn l) (Int.toNat i)) (0 : Nat) D.nilp)))) fun (y4 : Bool) =>
  (VC.br (y4)
   (VC.ret (some (RR.tup [Sum.inr [Rc.d (D.int IntKind.i64 (3 : Int)), Rc.d (D.str (Utf8.encode (asInt (List.getD (rowAt (rowsOn l) (Int.toNat i)) (0 : Nat) D.nilp)))), Rc.d (D.int IntKind.i64 (0 : Int)), Rc.d (D.int IntKind.i64 i)], Sum.inl (Rc.d (D.int IntKind.i64 (IntKind.wrap IntKind.i64 (i + (1 : Int))))), Sum.inl (Rc.d (D.bool true))])))
   (VC.ret (some (RR.tup [Sum.inr [Rc.d (D.int IntKind.i64 (0 : Int)), Rc.d (D.str { data := #[] }), Rc.d (D.int IntKind.i64 (0 : Int)), Rc.d (D.int IntKind.i64 (0 : Int))], Sum.inl (Rc.d (D.int IntKind.i64 i)), Sum.inl (Rc.d (D.bool false))])))))))))))))) := by kernel_rfl
theorem u8_ge {n : Nat} (h1 : 128 ≤ n) (h2 : n < 256) : 128 ≤ (UInt8.ofNat n).toNat := by
  simp only [UInt8.toNat_ofNat']
  omega
theorem encode_hd {c : Int} (h : ¬ (0 ≤ c ∧ c < 128)) : ∃ b rest, (Utf8.encode c).data.toList = b :: rest ∧ 128 ≤ b.toNat := by
  unfold Utf8.encode
  have hv : 128 ≤ (if Utf8.valid c = true then c.toNat else Utf8.runeError) ∧ (if Utf8.valid c = true then c.toNat else Utf8.runeError) < 0x110000 := by
    split
    · rename_i hv
      unfold Utf8.valid at hv
      simp only [Bool.or_eq_true, Bool.and_eq_true, decide_eq_true_eq] at hv
      omega
    · exact ⟨by decide, by decide⟩
  generalize (if Utf8.valid c = true then c.toNat else Utf8.runeError) = n at hv
  dsimp only
  rw [if_neg (show ¬ n < 128 by omega)]
  split
  · exact ⟨_, _, rfl, u8_ge (by omega) (by omega)⟩
  · split
    · exact ⟨_, _, rfl, u8_ge (by omega) (by omega)⟩
    · exact ⟨_, _, rfl, u8_ge (by omega) (by omega)⟩
theorem encode_small {c : Int} (h0 : 0 ≤ c) (h : c < 128) : Utf8.encode c = ⟨#[UInt8.ofNat c.toNat]⟩ := by
  unfold Utf8.encode
  have hv : Utf8.valid c = true := by
    unfold Utf8.valid
    simp only [Bool.or_eq_true, Bool.and_eq_true, decide_eq_true_eq]
    omega
  dsimp only
  rw [if_pos hv, if_pos (show c.toNat < 0x80 by omega)]
theorem index_hd (b : UInt8) (rest : List UInt8) : ∀ (l : List UInt8), b ∉ l → Lib.index l (b :: rest) = -1
  | [], _ => rfl
  | x :: l, h => by
    have ih := index_hd b rest l fun q => h (List.mem_cons_of_mem _ q)
    have hx : (b == x) = false := by rw [beq_eq_false_iff_ne]; exact fun q => h (q ▸ List.mem_cons_self)
    unfold Lib.index
    rw [ih]
    simp [List.isPrefixOf, hx]
theorem contains_small : ∀ n : Fin 128, Lib.contains [44, 58, 91, 93, 43] [UInt8.ofNat n.val] = isSig (n.val : Int) := by decide +kernel
theorem contains_sig (c : Int) : Lib.contains [44, 58, 91, 93, 43] (Utf8.encode c).data.toList = isSig c := by
  by_cases h : 0 ≤ c ∧ c < 128
  · rw [encode_small h.1 h.2]
    have := contains_small ⟨c.toNat, by omega⟩
    rw [show ((⟨c.toNat, by omega⟩ : Fin 128).val : Int) = c from Int.toNat_of_nonneg h.1] at this
    exact this
  · obtain ⟨b, rest, e, hb⟩ := encode_hd h
    rw [e]
    have h1 : b ∉ ([44, 58, 91, 93, 43] : List UInt8) := by
      intro q
      simp only [List.mem_cons, List.not_mem_nil, or_false] at q
      rcases q with rfl | rfl | rfl | rfl | rfl <;> exact absurd hb (by decide)
    have h2 : isSig c = false := by
      unfold isSig
      simp only [Bool.or_eq_false_iff, beq_eq_false_iff_ne]
      omega
    unfold Lib.contains
    rw [index_hd b rest _ h1, h2]
    rfl
theorem runes_slice (l : List Rn) (i : Int) (k : Nat) (h0 : 0 ≤ i) : List.drop i.toNat (List.take (Int.toNat (i + k)) (rowsOn l)) = rowsOn ((l.drop i.toNat).take k) := by
  rw [rowsOn_take, rowsOn_drop, show Int.toNat (i + k) = i.toNat + k by omega, List.drop_take]
  congr 2
  omega
theorem rowsOn_rn (l : List Rn) : rowsOn l = List.map (fun r => [D.int IntKind.i32 (asInt (List.getD r 0 D.nilp))]) (rowsOn l) := by
  unfold rowsOn
  rw [List.map_map]
  rfl
theorem map_rn (l : List Rn) : List.map (fun r => asInt (List.getD r 0 D.nilp)) (rowsOn l) = l.map (·.v) := by
  unfold rowsOn
  rw [List.map_map]
  rfl
theorem runes_one (c : Int) : runesBytes [c] = Utf8.encode c := by
  show ByteArray.empty ++ Utf8.encode c = _
  exact ByteArray.empty_append
theorem numL_len {l : List Rn} {m : Nat} {n : Int} {k : Nat} (h : numL l m = some (n, k)) : k ≤ l.length := by
  unfold numL at h
  cases l with
  | nil => cases h
  | cons c l =>
    dsimp only at h
    split at h
    · split at h
      · simp only [Option.some.injEq, Prod.mk.injEq] at h
        simp only [List.length_cons]; omega
      · simp only [Option.some.injEq] at h
        have h1 := digF_len (c :: l) m 0
        have h2 : (digF (c :: l) m 0).2 = k := by rw [h]
        omega
    · cases h
theorem c_lSign_good : c_lSign.fe.Good Try.prog := by
  refine FT.good c_lSign ⟨Try.f54, by kernel_rfl, by decide +kernel, by kernel_rfl⟩ (fun ⟨l, i⟩ => by first | rfl | simp [c_lSign, rrRef, rR, riib3, ri, rb, rib, rTok3, Sta.fresh]) fun ⟨l, i⟩ hp => ?_
  refine acalls_le s_lSign_sound (fn := Try.f54) (a := a_lSign) (nargs := 2) (tbl := []) (by kernel_rfl) (by kernel_rfl) rfl (m := 400) ?_
  show VC.holds _ _ _ (a_lSign.start s_lSign 400 [aR l, ai i])
  rw [t_lSign]
  try simp only [asRows_sl, asInt_int, asBool_bool, asStr_str, listOf_rowsOn, List.drop_zero, Prg.eta, Sta.eta, rowsOn_length, getD_drop, Nat.reduceAdd, rd_int, rd_PMem_name, rd_PMem_secret, rd_PMem_n, rd_PLabel_name, rd_PLabel_at_, rd_Ins_kind, rd_Ins_op, rd_Ins_d, rd_Ins_aR, rd_Ins_aN, rd_Ins_bR, rd_Ins_bN, rd_Ins_name, rd_Ins_target, rd_Ent_pc, rd_Ent_val, rd_Ent_addr, rd_Ent_fro, rd_Ent_next, rd_Ent_done, rd_Ent_known, rd_Ent_fault, rd_Place_reg, rd_Place_n, rd_Place_secret, rd_Obs_kind, rd_Obs_at_, rd_Dir_kind, rd_Dir_n, rd_Rn_v, rd_Tok_kind, rd_Tok_text, rd_Tok_n, rd_Tok_at_]
  try simp only [c_lSign] at hp
  obtain ⟨hl, h0, h1⟩ := hp
  have e : c_lSign.ans (l, i) = rTok3 (signV l i) := rfl
  rw [e]
  unfold signV
  have hd := drop_rn l i h0 h1
  have hlen : (l.drop i.toNat).length = l.length - i.toNat := List.length_drop
  refine ⟨rn_ok l i h0 h1, rn_sh l i h0 h1, PreOk.mk trivial rfl, all_holds fun y hy => br_holds (fun h2 => ?_) (fun h2 => ?_)⟩
  · replace hy : y = isLet (rd l i).v := hy
    have hn := nameL_len (l.drop i.toNat)
    refine ⟨PreOk.mk ⟨hl, h0, by dsimp only; omega⟩ rfl, all_holds fun z hz => ?_⟩
    replace hz : z = i + nameL (l.drop i.toNat) := hz
    subst hz
    rw [runes_slice l i _ h0, map_rn]
    refine ⟨⟨rowsOn_all l 1 rfl, h0, by omega, by omega⟩, rowsOn_rn _, ret_le ?_⟩
    have es : signL (l.drop i.toNat) i = some (⟨1, txt ((l.drop i.toNat).take (nameL (l.drop i.toNat))), 0, i⟩, nameL (l.drop i.toNat)) := by
      rw [hd]
      unfold signL
      dsimp only
      rw [if_pos (by rw [← hy]; exact h2)]
    rw [es]
    exact RR.le_refl _
  · replace hy : y = isLet (rd l i).v := hy
    have hy2 : ¬ isLet (rd l i).v = true := by rw [← hy, h2]; simp
    refine ⟨PreOk.mk trivial rfl, all_holds fun z hz => br_holds (fun h3 => ?_) (fun h3 => ?_)⟩
    · replace hz : z = isDig (rd l i).v := hz
      have hz2 : isDig (rd l i).v = true := by rw [← hz]; exact h3
      refine ⟨PreOk.mk ⟨hl, h0, by dsimp only; omega, by show 5 ≤ 9; decide⟩ rfl, all_holds fun w hw => ?_⟩
      replace hw : w = numS l i 5 := hw
      obtain ⟨n, k, hnk⟩ : ∃ n k, numL (l.drop i.toNat) 5 = some (n, k) := by
        rw [hd]
        unfold numL
        dsimp only
        rw [if_pos hz2]
        split
        · exact ⟨_, _, rfl⟩
        · exact ⟨_, _, rfl⟩
      have hk := numL_len hnk
      have ew : w = (n, i + k, true) := by rw [hw]; unfold numS; rw [hnk]
      subst ew
      rw [runes_slice l i _ h0, map_rn]
      refine ⟨⟨rowsOn_all l 1 rfl, h0, by dsimp only; omega, by dsimp only; omega⟩, rowsOn_rn _, ret_le ?_⟩
      have es : signL (l.drop i.toNat) i = some (⟨2, txt ((l.drop i.toNat).take k), n, i⟩, k) := by
        rw [hd] at hnk ⊢
        unfold signL
        dsimp only
        rw [if_neg hy2, if_pos hz2, hnk]
      rw [es]
      exact RR.le_refl _
    · replace hz : z = isDig (rd l i).v := hz
      have hz2 : ¬ isDig (rd l i).v = true := by rw [← hz, h3]; simp
      refine ⟨PreOk.mk (show (5 : Nat) < 1000000 by decide) rfl, all_holds fun w hw => ?_⟩
      replace hw : w = isSig (rd l i).v := hw.trans (contains_sig _)
      refine br_holds (fun h4 => ?_) (fun h4 => ?_)
      · have es : signL (l.drop i.toNat) i = some (⟨3, txt [rd l i], 0, i⟩, 1) := by
          rw [hd]
          unfold signL
          dsimp only
          rw [if_neg hy2, if_neg hz2, if_pos (by rw [← hw]; exact h4)]
        rw [es, wrap_small (i + 1) (by omega) (by omega), ← runes_one]
        exact ret_le (RR.le_refl _)
      · have es : signL (l.drop i.toNat) i = none := by
          rw [hd]
          unfold signL
          dsimp only
          rw [if_neg hy2, if_neg hz2, if_neg (by rw [← hw, h4]; simp)]
        rw [es]
        exact ret_le (RR.le_refl _)
noncomputable def v_lSign : List Rn × Int → Tok × Int × Bool := fun x => signV x.1 x.2
noncomputable def sh_lSign : Tok × Int × Bool → RR := fun y => rTok3 y
theorem e_lSign (x : List Rn × Int) : sh_lSign (v_lSign x) = c_lSign.ans x := rfl
def rLine (x : List Tok × Int × Bool) : RR := .tup [.inl (.d (.sl (rowsOn x.1))), .inl (.d (.int .i64 x.2.1)), .inl (.d (.bool x.2.2))]
def c_lLine : FT (ByteArray × Unit) := ⟨25, fun x => [at_ x.1], rdT1, fun x => x.1.size ≤ 1000000, fun x => rLine (lineS x.1), true, fun x => by simp [at_, rdT1]⟩
noncomputable def a_lLine : FnA := (fnA Try.prog Try.f25 1 [(4, [5, 6, 7, 1000006000000900001004])]).getD ⟨0, .skip, [], []⟩
noncomputable def s_lLine : Sp := spT [c_lRunes.gfe v_lRunes sh_lRunes e_lRunes, c_lSign.gfe v_lSign sh_lSign e_lSign, c_lAlone.gfe v_lAlone sh_lAlone e_lAlone]
theorem s_lLine_sound : s_lLine.sound Try.prog := spT_sound fun e he => by
  simp only [List.mem_cons, List.not_mem_nil, or_false] at he
  rcases he with rfl | rfl | rfl
  · exact FT.gfe_good c_lRunes_good
  · exact FT.gfe_good c_lSign_good
  · exact FT.gfe_good c_lAlone_good
def F_lin (l : List Rn) (i : Int) (n : Nat) (R : List (List D)) : St := ⟨mkS 64 [(5, vr (rowsOn l)), (6, vo 900001 n), (7, vi i)], [(900001, ba 4 R)]⟩
set_option maxRecDepth 100000 in
theorem t_lLine (s : ByteArray) : a_lLine.start s_lLine 400 [at_ s] =
(VC.need (PreOk c_lRunes (s, ()) [A.c (D.str s)])
(VC.all (v_lRunes (s, ())) fun (y1 : List Rn) =>
(FnA.at_ a_lLine 0 (F_lin y1 (0 : Int) (0 : Nat) [])))) := by kernel_rfl
set_option maxRecDepth 100000 in
theorem t_lLin0 (l : List Rn) (i : Int) (n : Nat) (R : List (List D)) : a_lLine.round s_lLine 400 0 (F_lin l i n R) =
(VC.br (decide (i < (↑(List.length (rowsOn l)) : Int)))
 (VC.need ((0 : Int) ≤ i ∧ i < (↑(List.length (rowsOn l)) : Int) ∧ List.length (rowAt (rowsOn l) (Int.toNat i)) = (1 : Nat))
 (VC.need (okSh [Kd.int IntKind.i32] (rowAt (rowsOn l) (Int.toNat i)))
 (VC.br (asInt (List.getD (rowAt (rowsOn l) (Int.toNat i)) (0 : Nat) D.nilp) != (59 : Int))
  (VC.need ((0 : Int) ≤ i ∧ i < (↑(List.length (rowsOn l)) : Int) ∧ List.length (rowAt (rowsOn l) (Int.toNat i)) = (1 : Nat))
  (VC.need (okSh [Kd.int IntKind.i32] (rowAt (rowsOn l) (Int.toNat i)))
  (VC.br (asInt (List.getD (rowAt (rowsOn l) (Int.toNat i)) (0 : Nat) D.nilp) == (32 : Int))
   (FnA.at_ a_lLine 0 (F_lin l (IntKind.wrap IntKind.i64 (i + (1 : Int))) n R))
   (VC.need ((0 : Int) ≤ i ∧ i < (↑(List.length (rowsOn l)) : Int) ∧ List.length (rowAt (rowsOn l) (Int.toNat i)) = (1 : Nat))
   (VC.need (okSh [Kd.int IntKind.i32] (rowAt (rowsOn l) (Int.toNat i)))
   (VC.br (asInt (List.getD (rowAt (rowsOn l) (Int.toNat i)) (0 : Nat) D.nilp) == (9 : Int))
    (FnA.at_ a_lLine 0 (F_lin l (IntKind.wrap IntKind.i64 (i + (1 : Int))) n R))
    (VC.need (PreOk c_lSign (l, i) [A.c (D.sl (rowsOn l)), A.c (D.int IntKind.i64 i)])
    (VC.all (v_lSign (listOf Rn (rowsOn l), i)) fun (y4 : Tok × Int × Bool) =>
    (VC.br (!y4.snd.snd)
     (VC.ret (some (RR.tup [Sum.inl Rc.nil, Sum.inl (Rc.d (D.int IntKind.i64 i)), Sum.inl (Rc.d (D.bool false))])))
     (VC.br (y4.fst.kind == (2 : Int))
      (VC.need (PreOk c_lAlone (l, y4.snd.fst) [A.c (D.sl (rowsOn l)), A.c (D.int IntKind.i64 y4.snd.fst)])
      (VC.all (v_lAlone (listOf Rn (rowsOn l), y4.snd.fst)) fun (y5 : Bool) =>
      (VC.br (!y5)
       (VC.ret (some (RR.tup [Sum.inl Rc.nil, Sum.inl (Rc.d (D.int IntKind.i64 y4.snd.fst)), Sum.inl (Rc.d (D.bool false))])))
       (VC.need ((List.all [[D.int IntKind.i64 y4.fst.kind, D.str y4.fst.text, D.int IntKind.i64 y4.fst.n, D.int IntKind.i64 y4.fst.at_]] fun r ↦ List.length r == (4 : Nat)) = true ∧ (List.all R fun r ↦ List.length r == (4 : Nat)) = true ∧ (List.length R + List.length [[D.int IntKind.i64 y4.fst.kind, D.str y4.fst.text, D.int IntKind.i64 y4.fst.n, D.int IntKind.i64 y4.fst.at_]] + (100 : Nat)) * (41 : Nat) ≤ (70368744177664 : Nat))
       (FnA.at_ a_lLine 0 (F_lin l y4.snd.fst (List.length R + List.length [[D.int IntKind.i64 y4.fst.kind, D.str y4.fst.text, D.int IntKind.i64 y4.fst.n, D.int IntKind.i64 y4.fst.at_]]) (R ++ [[D.int IntKind.i64 y4.fst.kind, D.str y4.fst.text, D.int IntKind.i64 y4.fst.n, D.int IntKind.i64 y4.fst.at_]])))))))
      (VC.need ((List.all [[D.int IntKind.i64 y4.fst.kind, D.str y4.fst.text, D.int IntKind.i64 y4.fst.n, D.int IntKind.i64 y4.fst.at_]] fun r ↦ List.length r == (4 : Nat)) = true ∧ (List.all R fun r ↦ List.length r == (4 : Nat)) = true ∧ (List.length R + List.length [[D.int IntKind.i64 y4.fst.kind, D.str y4.fst.text, D.int IntKind.i64 y4.fst.n, D.int IntKind.i64 y4.fst.at_]] + (100 : Nat)) * (41 : Nat) ≤ (70368744177664 : Nat))
      (FnA.at_ a_lLine 0 (F_lin l y4.snd.fst (List.length R + List.length [[D.int IntKind.i64 y4.fst.kind, D.str y4.fst.text, D.int IntKind.i64 y4.fst.n, D.int IntKind.i64 y4.fst.at_]]) (R ++ [[D.int IntKind.i64 y4.fst.kind, D.str y4.fst.text, D.int IntKind.i64 y4.fst.n, D.int IntKind.i64 y4.fst.at_]]))))))))))))))
  (VC.ret (some (RR.tup [Sum.inl (Rc.new (4 : Nat) R), Sum.inl (Rc.d (D.int IntKind.i64 (0 : Int))), Sum.inl (Rc.d (D.bool true))]))))))
 (VC.ret (some (RR.tup [Sum.inl (Rc.new (4 : Nat) R), Sum.inl (Rc.d (D.int IntKind.i64 (0 : Int))), Sum.inl (Rc.d (D.bool true))])))) := by kernel_rfl
/-- What was seen ahead, and what comes from a place on. -/
def joinL (acc : List Tok) (r : List Tok × Int × Bool) : List Tok × Int × Bool := if r.2.2 = true then (acc ++ r.1, r.2) else ([], r.2)
theorem lineA_bad : ∀ (f : Nat) (l : List Rn) (a : Int), (lineF f l a).2.2 = false → (lineF f l a).1 = []
  | 0, _, _, h => by cases h
  | _ + 1, [], _, h => by cases h
  | f + 1, c :: l, a, h => by
    unfold lineF at h ⊢
    split
    · rfl
    · rename_i h1
      rw [if_neg h1] at h
      split
      · rename_i h2
        rw [if_pos h2] at h
        exact lineA_bad f _ _ h
      · rename_i h2
        rw [if_neg h2] at h
        split
        · rfl
        · rename_i t k hs
          rw [hs] at h
          dsimp only at h
          split
          · rfl
          · rename_i h3
            rw [if_neg h3] at h
            split
            · rename_i h4
              rw [if_pos h4] at h
              dsimp only at h
              rw [h4] at h; cases h
            · rename_i h4
              rw [if_neg h4] at h
              exact lineA_bad f _ _ h
theorem l_lLin0 (l : List Rn) (fin : List Tok × Int × Bool) (hl : l.length ≤ 1000000) : ∀ i_ : Int × Nat × List (List D), (fun (v : Int × Nat × List (List D)) => ∃ acc : List Tok, OnL v.2.2 v.2.1 acc ∧ 0 ≤ v.1 ∧ v.1 ≤ l.length ∧ acc.length ≤ v.1 ∧ joinL acc (lineA (l.drop v.1.toNat) v.1) = fin) i_ → (a_lLine.at_ 0 ((fun (v : Int × Nat × List (List D)) => F_lin l v.1 v.2.1 v.2.2) i_)).holds s_lLine.cx a_lLine.rs (fun r => r.data.le (rLine fin)) := by
  refine loop_rule (a := a_lLine) (j := 0) (m := 400) s_lLine_sound (fun (v : Int × Nat × List (List D)) => F_lin l v.1 v.2.1 v.2.2) (fun (v : Int × Nat × List (List D)) => ∃ acc : List Tok, OnL v.2.2 v.2.1 acc ∧ 0 ≤ v.1 ∧ v.1 ≤ l.length ∧ acc.length ≤ v.1 ∧ joinL acc (lineA (l.drop v.1.toNat) v.1) = fin) (fun (v : Int × Nat × List (List D)) => ((l.length : Int) - v.1).toNat) ?_
  rintro ⟨i, n, R⟩ h_inv ih
  try dsimp only at h_inv
  replace ih := fun (v0 : Int) (v1 : Nat) (v2 : List (List D)) => ih (v0, v1, v2)
  try dsimp only at ih
  show VC.holds _ _ _ (a_lLine.round s_lLine 400 0 (F_lin l i n R))
  rw [t_lLin0]
  try simp only [asRows_sl, asInt_int, asBool_bool, asStr_str, listOf_rowsOn, List.drop_zero, Prg.eta, Sta.eta, rowsOn_length, getD_drop, Nat.reduceAdd, rd_int, rd_PMem_name, rd_PMem_secret, rd_PMem_n, rd_PLabel_name, rd_PLabel_at_, rd_Ins_kind, rd_Ins_op, rd_Ins_d, rd_Ins_aR, rd_Ins_aN, rd_Ins_bR, rd_Ins_bN, rd_Ins_name, rd_Ins_target, rd_Ent_pc, rd_Ent_val, rd_Ent_addr, rd_Ent_fro, rd_Ent_next, rd_Ent_done, rd_Ent_known, rd_Ent_fault, rd_Place_reg, rd_Place_n, rd_Place_secret, rd_Obs_kind, rd_Obs_at_, rd_Dir_kind, rd_Dir_n, rd_Rn_v, rd_Tok_kind, rd_Tok_text, rd_Tok_n, rd_Tok_at_]
  obtain ⟨acc, hR, h0, h1, hacc, hj⟩ := h_inv
  have fine : lineA (l.drop i.toNat) i = ([], 0, true) → (VC.ret (some (RR.tup [Sum.inl (Rc.new 4 R), Sum.inl (Rc.d (D.int IntKind.i64 0)), Sum.inl (Rc.d (D.bool true))]))).holds s_lLine.cx a_lLine.rs fun r => r.data.le (rLine fin) := fun e => ret_leD (by
    rw [e] at hj
    have hj : (acc ++ [], (0 : Int), true) = fin := hj
    rw [← hj, List.append_nil, hR.1]
    exact RR.le_refl _)
  have bad : ∀ at_ : Int, lineA (l.drop i.toNat) i = ([], at_, false) → (VC.ret (some (RR.tup [Sum.inl Rc.nil, Sum.inl (Rc.d (D.int IntKind.i64 at_)), Sum.inl (Rc.d (D.bool false))]))).holds s_lLine.cx a_lLine.rs fun r => r.data.le (rLine fin) := fun at_ e => ret_leD (by
    rw [e] at hj
    have hj : (([] : List Tok), at_, false) = fin := hj
    rw [← hj]
    exact RR.le_refl _)
  refine br_dec (fun hd => ?_) (fun hd => fine (by rw [drop_end l i (by omega)]; rfl))
  have hdr := drop_rn l i h0 hd
  have hc := lineA_cons (rd l i) (l.drop (i + 1).toNat) i
  rw [← hdr] at hc
  refine ⟨rn_ok l i h0 hd, rn_sh l i h0 hd, br_bne (fun h59 => ?_) (fun h59 => fine (by rw [hc, if_pos h59]))⟩
  rw [if_neg h59] at hc
  rw [wrap_small (i + 1) (by omega) (by omega)]
  have blank : isBl (rd l i).v = true → (a_lLine.at_ 0 (F_lin l (i + 1) n R)).holds s_lLine.cx a_lLine.rs fun r => r.data.le (rLine fin) := fun hb => by
    rw [if_pos hb] at hc
    exact ih _ _ _ ⟨acc, hR, by omega, by omega, by omega, by rw [← hj, hc]⟩ (by omega)
  refine ⟨rn_ok l i h0 hd, rn_sh l i h0 hd, br_beq (fun h32 => blank (by unfold isBl; rw [h32]; rfl)) (fun h32 => ⟨rn_ok l i h0 hd, rn_sh l i h0 hd, br_beq (fun h9 => blank (by unfold isBl; rw [h9]; rfl)) (fun h9 => ?_)⟩)⟩
  have hb : ¬ isBl (rd l i).v = true := by
    unfold isBl
    simp only [Bool.or_eq_true, beq_iff_eq]
    omega
  rw [if_neg hb] at hc
  refine ⟨PreOk.mk ⟨hl, h0, hd⟩ rfl, all_holds fun y hy => ?_⟩
  replace hy : y = signV l i := hy
  unfold signV at hy
  have hlen : (l.drop i.toNat).length = l.length - i.toNat := List.length_drop
  cases hs : signL (l.drop i.toNat) i with
  | none =>
    rw [hs] at hy hc
    subst hy
    exact br_not (br_holds (fun h => by cases h) (fun _ => bad i hc))
  | some p =>
    obtain ⟨t, k⟩ := p
    have hk := signL_pos hs
    rw [hs] at hy hc
    dsimp only at hc
    subst hy
    have hdk : (l.drop i.toNat).drop k = l.drop (i + k).toNat := by rw [List.drop_drop, show (i + k).toNat = i.toNat + k by omega]
    rw [hdk] at hc
    have nxt : ¬ (t.kind = 2 ∧ aloneL (l.drop (i + k).toNat) = false) → (a_lLine.at_ 0 (F_lin l (i + k) (R.length + [[D.int IntKind.i64 t.kind, D.str t.text, D.int IntKind.i64 t.n, D.int IntKind.i64 t.at_]].length) (R ++ [[D.int IntKind.i64 t.kind, D.str t.text, D.int IntKind.i64 t.n, D.int IntKind.i64 t.at_]]))).holds s_lLine.cx a_lLine.rs fun r => r.data.le (rLine fin) := fun hn => by
      rw [if_neg hn] at hc
      refine ih _ _ _ ⟨acc ++ [t], hR.snoc t, by omega, by omega, by rw [List.length_append, List.length_singleton]; omega, ?_⟩ (by omega)
      rw [← hj, hc]
      unfold joinL
      split
      · simp
      · rfl
    have apn := app_ok (r2 := [row t]) (E := 4) (k := 41) hR rfl rfl (by simp only [List.length_cons, List.length_nil]; omega)
    refine br_not (br_holds (fun _ => br_beq (fun h2 => ⟨PreOk.mk (show 0 ≤ i + (k : Int) by omega) rfl, all_holds fun z hz => ?_⟩) (fun h2 => ⟨apn, nxt fun q => h2 q.1⟩)) (fun h => by cases h))
    replace hz : z = aloneL (l.drop (i + k).toNat) := hz
    refine br_not (br_holds (fun h3 => ⟨apn, nxt fun q => ?_⟩) (fun h3 => bad _ ?_))
    · rw [← hz, h3] at q; cases q.2
    · rw [if_pos ⟨h2, by rw [← hz]; exact h3⟩] at hc
      exact hc
theorem c_lLine_good : c_lLine.fe.Good Try.prog := by
  refine FT.good c_lLine ⟨Try.f25, by kernel_rfl, by decide +kernel, by kernel_rfl⟩ (fun ⟨s, u⟩ => by first | rfl | simp [c_lLine, rrRef, rR, riib3, ri, rb, rib, rTok3, rLine, Sta.fresh]) fun ⟨s, u⟩ hp => ?_
  refine acalls_leD s_lLine_sound (fn := Try.f25) (a := a_lLine) (nargs := 1) (tbl := [(4, [5, 6, 7, 1000006000000900001004])]) (by kernel_rfl) (by kernel_rfl) rfl (m := 400) ?_
  show VC.holds _ _ _ (a_lLine.start s_lLine 400 [at_ s])
  rw [t_lLine]
  try simp only [asRows_sl, asInt_int, asBool_bool, asStr_str, listOf_rowsOn, List.drop_zero, Prg.eta, Sta.eta, rowsOn_length, getD_drop, Nat.reduceAdd, rd_int, rd_PMem_name, rd_PMem_secret, rd_PMem_n, rd_PLabel_name, rd_PLabel_at_, rd_Ins_kind, rd_Ins_op, rd_Ins_d, rd_Ins_aR, rd_Ins_aN, rd_Ins_bR, rd_Ins_bN, rd_Ins_name, rd_Ins_target, rd_Ent_pc, rd_Ent_val, rd_Ent_addr, rd_Ent_fro, rd_Ent_next, rd_Ent_done, rd_Ent_known, rd_Ent_fault, rd_Place_reg, rd_Place_n, rd_Place_secret, rd_Obs_kind, rd_Obs_at_, rd_Dir_kind, rd_Dir_n, rd_Rn_v, rd_Tok_kind, rd_Tok_text, rd_Tok_n, rd_Tok_at_]
  try simp only [c_lLine] at hp
  have hs : s.size ≤ 1000000 := hp
  have := runesS_len s
  refine ⟨PreOk.mk hs rfl, all_holds fun y hy => ?_⟩
  replace hy : y = runesS s := hy
  subst hy
  refine l_lLin0 _ (lineS s) (by omega) (0, _, _) ⟨[], OnL.nil, by dsimp only; omega, by dsimp only; omega, by simp, ?_⟩
  show joinL [] (lineA (runesS s) 0) = lineA (runesS s) 0
  unfold joinL
  split
  · rfl
  · rename_i h
    have hb := lineA_bad _ (runesS s) 0 (Bool.eq_false_iff.2 h)
    rw [← show (lineA (runesS s) 0).1 = [] from hb]
noncomputable def v_lLine : ByteArray × Unit → List Tok × Int × Bool := fun x => lineS x.1
noncomputable def sh_lLine : List Tok × Int × Bool → RR := fun y => rLine y
theorem e_lLine (x : ByteArray × Unit) : sh_lLine (v_lLine x) = c_lLine.ans x := rfl
end Go.Proofs.Ytmhfhobaicklmaa.Ax
