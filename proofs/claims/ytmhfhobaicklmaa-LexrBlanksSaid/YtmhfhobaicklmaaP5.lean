/- Lines: what stands where. -/
import Derived.Test.YtmhfhobaicklmaaLLP
namespace Go.Proofs.Ytmhfhobaicklmaa.Ax
open Go.RowKit
set_option linter.unusedVariables false
set_option linter.unusedSimpArgs false
theorem runesBytes_list : ∀ (ns : List Int) (r : ByteArray), (ns.foldl (fun r n => r ++ Utf8.encode n) r).data.toList = r.data.toList ++ ns.flatMap fun n => (Utf8.encode n).data.toList
  | [], r => by simp
  | n :: ns, r => by
    rw [List.foldl_cons, runesBytes_list ns, ba_data_app, List.flatMap_cons, List.append_assoc]
def ascL (M : List Rn) : Prop := ∀ c ∈ M, 0 ≤ c.v ∧ c.v < 128
theorem txt_asc : ∀ {M : List Rn}, ascL M → Asc (txt M) M := fun {M} h => by
  have e : (txt M).data.toList = M.map fun c => UInt8.ofNat c.v.toNat := by
    have h1 := runesBytes_list (M.map (·.v)) ByteArray.empty
    have h2 : (txt M).data.toList = (M.map (·.v)).flatMap fun n => (Utf8.encode n).data.toList := h1
    rw [h2]
    clear h1 h2
    induction M with
    | nil => rfl
    | cons c M ih =>
      rw [List.map_cons, List.flatMap_cons, ih fun d hd => h d (List.mem_cons_of_mem _ hd), encode_small (h c List.mem_cons_self).1 (h c List.mem_cons_self).2]
      rfl
  have hb : ∀ c ∈ M, (UInt8.ofNat c.v.toNat).toNat = c.v.toNat := fun c hc => by
    have := h c hc
    rw [UInt8.toNat_ofNat']
    omega
  refine ⟨?_, ?_⟩
  · rw [e]
    unfold isAsc
    rw [List.all_eq_true]
    intro b hb2
    obtain ⟨c, hc, rfl⟩ := List.mem_map.1 hb2
    rw [decide_eq_true_eq, hb c hc]
    have := h c hc
    omega
  · rw [e]
    unfold ascR
    rw [List.map_map]
    refine (List.map_congr_left fun c hc => ?_).trans (List.map_id' M)
    show (⟨((UInt8.ofNat c.v.toNat).toNat : Int)⟩ : Rn) = c
    rw [hb c hc, Int.toNat_of_nonneg (h c hc).1]
/-- What digits say, as the law reads them. -/
def valF : Int → List Rn → Int
  | n, [] => n
  | n, c :: M => valF (IntKind.wrap .i64 (IntKind.wrap .i64 (10 * n) + IntKind.wrap .i64 (IntKind.wrap .i32 (c.v - 48)))) M
theorem digF_val : ∀ (l : List Rn) (m : Nat) (n : Int), m ≤ 9 → 0 ≤ n → n < (10 : Int) ^ (9 - m) → (digF l m n).1 = valF n (l.take (digF l m n).2) ∧ ascL (l.take (digF l m n).2)
  | [], m, n, _, _, _ => by cases m <;> exact ⟨rfl, fun c hc => by cases hc⟩
  | c :: l, 0, n, _, _, _ => ⟨rfl, fun c hc => by cases hc⟩
  | c :: l, m + 1, n, hm, h0, h1 => by
    unfold digF
    by_cases h : isDig c.v = true
    · have hd := isDig_iff.1 h
      have hp : (10 : Int) ^ (9 - m) = 10 * (10 : Int) ^ (9 - (m + 1)) := by
        rw [show 9 - m = 9 - (m + 1) + 1 by omega, Int.pow_succ]; omega
      have hb : (10 : Int) ^ (9 - (m + 1)) ≤ 1000000000 := ten_pow (by omega)
      have ih := digF_val l m (10 * n + (c.v - 48)) (by omega) (by omega) (by omega)
      simp only [if_pos h]
      refine ⟨?_, ?_⟩
      · rw [List.take_succ_cons]
        show _ = valF (IntKind.wrap .i64 (IntKind.wrap .i64 (10 * n) + IntKind.wrap .i64 (IntKind.wrap .i32 (c.v - 48)))) _
        rw [wrap_small32 _ (by omega) (by omega), wrap_small (c.v - 48) (by omega) (by omega), wrap_small (10 * n) (by omega) (by omega), wrap_small (10 * n + (c.v - 48)) (by omega) (by omega)]
        exact ih.1
      · rw [List.take_succ_cons]
        intro d hd2
        rcases List.mem_cons.1 hd2 with rfl | h2
        · omega
        · exact ih.2 d h2
    · simp only [if_neg h]
      exact ⟨rfl, fun c hc => by cases hc⟩
theorem nameL_take : ∀ l : List Rn, ∀ c ∈ l.take (nameL l), isNm c.v = true
  | [], c, h => by cases h
  | d :: l, c, h => by
    rw [nameL_cons] at h
    split at h
    · rename_i hd
      rw [List.take_succ_cons] at h
      rcases List.mem_cons.1 h with rfl | h2
      · exact hd
      · exact nameL_take l c h2
    · cases h
theorem isNm_asc {v : Int} (h : isNm v = true) : 0 ≤ v ∧ v < 128 := by
  unfold isNm at h
  rw [Bool.or_eq_true, isLet_iff, isDig_iff] at h
  omega
theorem isSig_asc {v : Int} (h : isSig v = true) : 0 ≤ v ∧ v < 128 := by
  unfold isSig at h
  simp only [Bool.or_eq_true, beq_iff_eq] at h
  omega
/-- What a sign is. -/
theorem signL_is {l : List Rn} {a : Int} {t : Tok} {k : Nat} (h : signL l a = some (t, k)) : t.at_ = a ∧ t.text = txt (l.take k) ∧ ascL (l.take k) ∧ (t.kind = 2 → t.n = valF 0 (l.take k)) ∧ (t.kind ≠ 2 → t.n = 0) := by
  unfold signL at h
  cases l with
  | nil => cases h
  | cons c l =>
    dsimp only at h
    split at h
    · simp only [Option.some.injEq, Prod.mk.injEq] at h
      obtain ⟨rfl, rfl⟩ := h
      exact ⟨rfl, rfl, fun d hd => isNm_asc (nameL_take _ d hd), fun q => absurd q (show ¬ (1 : Int) = 2 by decide), fun _ => rfl⟩
    · split at h
      · rename_i hd
        split at h
        · rename_i n k' hn
          simp only [Option.some.injEq, Prod.mk.injEq] at h
          obtain ⟨rfl, rfl⟩ := h
          unfold numL at hn
          dsimp only at hn
          rw [if_pos hd] at hn
          split at hn
          · rename_i h48
            simp only [Option.some.injEq, Prod.mk.injEq] at hn
            obtain ⟨rfl, rfl⟩ := hn
            refine ⟨rfl, rfl, fun d hd2 => ?_, fun _ => ?_, fun q => absurd rfl q⟩
            · rw [List.take_succ_cons, List.take_zero] at hd2
              rw [List.mem_singleton.1 hd2, h48]; decide
            · rw [List.take_succ_cons, List.take_zero]
              show (0 : Int) = IntKind.wrap .i64 (IntKind.wrap .i64 (10 * 0) + IntKind.wrap .i64 (IntKind.wrap .i32 (c.v - 48)))
              rw [h48]; decide
          · simp only [Option.some.injEq] at hn
            have hv := digF_val (c :: l) 5 0 (by decide) (by decide) (by decide)
            rw [hn] at hv
            exact ⟨rfl, rfl, hv.2, fun _ => hv.1, fun q => absurd rfl q⟩
        · cases h
      · split at h
        · rename_i hs
          simp only [Option.some.injEq, Prod.mk.injEq] at h
          obtain ⟨rfl, rfl⟩ := h
          refine ⟨rfl, rfl, fun d hd2 => ?_, fun q => absurd q (show ¬ (3 : Int) = 2 by decide), fun _ => rfl⟩
          rw [List.take_succ_cons, List.take_zero] at hd2
          rw [List.mem_singleton.1 hd2]; exact isSig_asc hs
        · cases h
inductive Chain : List Rn → Int → List Tok → Prop
  | done (B R : List Rn) (a : Int) (hB : ∀ c ∈ B, isBl c.v = true) (hR : R = [] ∨ ∃ c R', R = c :: R' ∧ c.v = 59) : Chain (B ++ R) a []
  | tok (B M l : List Rn) (a : Int) (t : Tok) (ts : List Tok) (hB : ∀ c ∈ B, isBl c.v = true) (hat : t.at_ = a + B.length) (hM : M ≠ []) (ht : t.text = txt M) (hasc : ascL M) (hv : t.kind = 2 → t.n = valF 0 M) (hn : t.kind ≠ 2 → t.n = 0)
      (hs : signL (M ++ l) (a + B.length) = some (t, M.length)) (ha : t.kind = 2 → aloneL l = true) (h : Chain l (a + B.length + M.length) ts) : Chain (B ++ (M ++ l)) a (t :: ts)
theorem chain_blank {c : Rn} (hc : isBl c.v = true) {l : List Rn} {a : Int} {ts : List Tok} (h : Chain l (a + 1) ts) : Chain (c :: l) a ts := by
  have hB2 : ∀ {B : List Rn}, (∀ d ∈ B, isBl d.v = true) → ∀ d ∈ c :: B, isBl d.v = true := fun hB d hd => by
    rcases List.mem_cons.1 hd with rfl | h
    · exact hc
    · exact hB d h
  cases h with
  | done B R a hB hR => exact Chain.done (c :: B) R a (hB2 hB) hR
  | tok B M l a t ts hB hat hM ht hasc hv hn hs ha h =>
    have e : a + 1 + (B.length : Int) = a + ((c :: B).length : Int) := by rw [List.length_cons]; omega
    rw [e] at hat hs h
    exact Chain.tok (c :: B) M l a t ts (hB2 hB) hat hM ht hasc hv hn hs ha h
theorem chain_of : ∀ (n : Nat) (l : List Rn) (a : Int), l.length ≤ n → (lineA l a).2.2 = true → Chain l a (lineA l a).1
  | _, [], a, _, _ => Chain.done [] [] a (fun c hc => by cases hc) (.inl rfl)
  | 0, c :: l, a, h, _ => by simp at h
  | n + 1, c :: l, a, hl, hok => by
    rw [lineA_cons] at hok ⊢
    simp only [List.length_cons] at hl
    by_cases h59 : c.v = 59
    · rw [if_pos h59]
      exact Chain.done [] (c :: l) a (fun c hc => by cases hc) (.inr ⟨c, l, rfl, h59⟩)
    · rw [if_neg h59] at hok ⊢
      by_cases hb : isBl c.v = true
      · rw [if_pos hb] at hok ⊢
        exact chain_blank hb (chain_of n l (a + 1) (by omega) hok)
      · rw [if_neg hb] at hok ⊢
        cases hs : signL (c :: l) a with
        | none => rw [hs] at hok; cases hok
        | some p =>
          obtain ⟨t, k⟩ := p
          rw [hs] at hok
          dsimp only at hok ⊢
          have hk := signL_pos hs
          simp only [List.length_cons] at hk
          obtain ⟨i1, i2, i3, i4, i5⟩ := signL_is hs
          by_cases hn : t.kind = 2 ∧ aloneL ((c :: l).drop k) = false
          · rw [if_pos hn] at hok; cases hok
          · rw [if_neg hn] at hok ⊢
            by_cases h2 : (lineA ((c :: l).drop k) (a + k)).2.2 = true
            · rw [if_pos h2]
              have ih := chain_of n ((c :: l).drop k) (a + k) (by rw [List.length_drop, List.length_cons]; omega) h2
              have hlen : ((c :: l).take k).length = k := by rw [List.length_take, List.length_cons]; omega
              have hM : (c :: l).take k ≠ [] := fun e => by rw [e] at hlen; simp at hlen; omega
              have := Chain.tok [] ((c :: l).take k) ((c :: l).drop k) a t (lineA ((c :: l).drop k) (a + k)).1 (fun c hc => by cases hc) (by simp; exact i1) hM i2 i3 i4 i5
                (by rw [List.take_append_drop, hlen]; simpa using hs) (fun q => by
                  cases ha : aloneL ((c :: l).drop k) with
                  | true => rfl
                  | false => exact absurd ⟨q, ha⟩ hn) (by rw [hlen]; simpa using ih)
              rw [List.nil_append, List.take_append_drop] at this
              exact this
            · rw [if_neg h2] at hok
              exact absurd hok h2
end Go.Proofs.Ytmhfhobaicklmaa.Ax
