/- Runs of code, with what is to be done behind it. -/
import Derived.Test.YtmmlolampgnamaaDoorAx16
namespace Go.Proofs.YtmmlolampgnamaaDoor.Ax
open Go.RowKit
set_option linter.unusedVariables false

theorem aloop_mono {f g : St → Option (Ex × St)} (h : ∀ s r, f s = some r → g s = some r) : ∀ {n m : Nat} {s : St} {r : Ex × St}, n ≤ m → aloop f n s = some r → aloop g m s = some r
  | 0, _, _, _, _, h => by simp [aloop] at h
  | n + 1, 0, _, _, hm, _ => by omega
  | n + 1, m + 1, s, r, hm, hr => by
    simp only [aloop] at hr ⊢
    split at hr
    · rename_i s1 h1
      rw [h s _ h1]
      exact aloop_mono h (by omega) hr
    · rename_i e s1 hne h1
      rw [h s _ h1]
      cases e with
      | normal => exact absurd rfl hne
      | exit k => exact hr
      | ret => exact hr
    · cases hr

theorem aback_mono {f f' g g' : St → Option (Ex × St)} (hf : ∀ s r, f s = some r → f' s = some r) (hg : ∀ s r, g s = some r → g' s = some r) {rows : List (List D)} {sh : Option Nat} {p q : Nat} {slots : List AV} {blk0 : List (Nat × Blk)} :
    ∀ {k : Nat} {blk : List (Nat × Blk)} {r : Ex × St}, aback f g rows sh p q slots blk0 k blk = some r → aback f' g' rows sh p q slots blk0 k blk = some r
  | 0, _, _, h => h
  | k + 1, blk, r, h => by
    simp only [aback] at h ⊢
    split at h
    · rename_i row hrow
      split at h
      · rename_i v hv
        split at h
        · rename_i s1 h1
          rw [hf _ _ h1]
          simp only []
          split at h
          · rename_i s2 h2
            rw [hg _ _ h2]
            exact aback_mono hf hg h
          · rename_i e s2 hne h2
            rw [hg _ _ h2]
            cases e with
            | normal => exact absurd rfl hne
            | exit k => exact h
            | ret => exact h
          · cases h
        · cases h
      · cases h
    · cases h

theorem acode_mono {cx : Cx} {n m : Nat} (hm : n ≤ m) : ∀ (c : ACode) (s : St) (r : Ex × St), acode cx n c s = some r → acode cx m c s = some r
  | .skip, _, _, h => h
  | .region _, _, _, h => h
  | .draw _ _, _, _, h => h
  | .exit _, _, _, h => h
  | .ret, _, _, h => h
  | .seq x y, s, r, h => by
    simp only [acode] at h ⊢
    split at h
    · rename_i s1 h1
      rw [acode_mono hm x s _ h1]
      exact acode_mono hm y s1 r h
    · rename_i e s1 hne h1
      rw [acode_mono hm x s _ h1]
      cases e with
      | normal => exact absurd rfl hne
      | exit k => exact h
      | ret => exact h
    · cases h
  | .cond c x y, s, r, h => by
    simp only [acode] at h ⊢
    split at h
    · split at h
      · rename_i hb; exact (if_pos hb).trans (acode_mono hm x s r h)
      · rename_i hb; exact (if_neg hb).trans (acode_mono hm y s r h)
    · cases h
  | .block id x, s, r, h => by
    simp only [acode] at h ⊢
    split at h
    · rename_i k s1 h1
      rw [acode_mono hm x s _ h1]; exact h
    · rename_i e s1 hne h1
      rw [acode_mono hm x s _ h1]
      cases e with
      | normal => exact h
      | exit k => exact absurd rfl (hne k)
      | ret => exact h
    · cases h
  | .loop x, s, r, h => by
    simp only [acode] at h ⊢
    exact aloop_mono (fun s r => acode_mono hm x s r) hm h
  | .forget keep x, s, r, h => by
    simp only [acode] at h ⊢
    exact acode_mono hm x _ r h
  | .inl d k body rs xs, s, r, h => by
    simp only [acode] at h ⊢
    split at h
    · cases h
    · rename_i e s1 hne h1
      rw [acode_mono hm body _ _ h1]
      cases e with
      | normal => exact h
      | exit k => exact absurd rfl (hne k)
      | ret => exact h
    · cases h
  | .back g p q x y, s, r, h => by
    simp only [acode] at h ⊢
    split at h
    · rename_i f rows hg
      split at h
      · rename_i sh hsh
        split at h
        · rename_i hw
          rw [if_pos hw]
          exact aback_mono (fun s r => acode_mono hm x s r) (fun s r => acode_mono hm y s r) h
        · cases h
      · cases h
    · cases h
  | .rnd k rows sh p q x y blk0, s, r, h => by
    simp only [acode] at h ⊢
    exact aback_mono (fun s r => acode_mono hm x s r) (fun s r => acode_mono hm y s r) h

/-- The code comes to something that answers. -/
def Aw (cx : Cx) (c : ACode) (s : St) (Q : Ex → St → Prop) : Prop := ∃ n e s', acode cx n c s = some (e, s') ∧ Q e s'

inductive Fr where
  | s (y : ACode)
  | b (id : Nat)
  | l (x : ACode)
  | i (d : Option Nat) (slots : List AV) (rs : List RVar)
  | a (y : ACode)
  | r (k : Nat) (rows : List (List D)) (sh : Option Nat × List Kd) (p q : Nat) (x y : ACode) (blk0 : List (Nat × Blk)) (slots : List AV)
  deriving Inhabited

def unw (cx : Cx) : List Fr → (Ex → St → Prop) → Ex → St → Prop
  | [], Q, e, s => Q e s
  | .s y :: F, Q, .normal, s => Aw cx y s (unw cx F Q)
  | .s _ :: F, Q, e, s => unw cx F Q e s
  | .b id :: F, Q, .exit j, s => unw cx F Q (if j = id then .normal else .exit j) s
  | .b _ :: F, Q, e, s => unw cx F Q e s
  | .l x :: F, Q, .normal, s => Aw cx (.loop x) s (unw cx F Q)
  | .l _ :: F, Q, e, s => unw cx F Q e s
  | .i _ _ _ :: _, _, .exit _, _ => False
  | .i d slots rs :: F, Q, _, s => ∃ s', inlS d rs slots s = some s' ∧ unw cx F Q .normal s'
  | .a y :: F, Q, .normal, s => Aw cx y s (unw cx F Q)
  | .a _ :: _, _, _, _ => False
  | .r k rows sh p q x y blk0 slots :: F, Q, .normal, s => Aw cx (.rnd k rows sh p q x y blk0) ⟨slots, resetB blk0 s.blk⟩ (unw cx F Q)
  | .r _ _ _ _ _ _ _ _ slots :: F, Q, e, s => unw cx F Q e ⟨slots, s.blk⟩

section
variable {cx : Cx} {s : St} {F : List Fr} {Q : Ex → St → Prop}

theorem Aw.imp {c : ACode} {Q' : Ex → St → Prop} (h : Aw cx c s Q) (hQ : ∀ e s, Q e s → Q' e s) : Aw cx c s Q' :=
  let ⟨n, e, s', h1, h2⟩ := h; ⟨n, e, s', h1, hQ e s' h2⟩

theorem aw_skip (h : Q .normal s) : Aw cx .skip s Q := ⟨0, .normal, s, rfl, h⟩
theorem aw_exit {id : Nat} (h : Q (.exit id) s) : Aw cx (.exit id) s Q := ⟨0, .exit id, s, rfl, h⟩
theorem aw_ret (h : Q .ret s) : Aw cx .ret s Q := ⟨0, .ret, s, rfl, h⟩
theorem aw_forget {keep : List Nat} {x : ACode} (h : Aw cx x (forget keep s) Q) : Aw cx (.forget keep x) s Q :=
  let ⟨n, e, s', h1, h2⟩ := h; ⟨n, e, s', by simpa only [acode] using h1, h2⟩
theorem aw_seq {x y : ACode} (h : Aw cx x s (unw cx (.s y :: F) Q)) : Aw cx (.seq x y) s (unw cx F Q) := by
  obtain ⟨n, e, s', h1, h2⟩ := h
  cases e with
  | normal =>
    simp only [unw] at h2
    obtain ⟨m, e2, s2, g1, g2⟩ := h2
    refine ⟨max n m, e2, s2, ?_, g2⟩
    simp only [acode]
    rw [acode_mono (Nat.le_max_left n m) _ _ _ h1]
    exact acode_mono (Nat.le_max_right n m) _ _ _ g1
  | exit k => simp only [unw] at h2; exact ⟨n, .exit k, s', by simp only [acode, h1], h2⟩
  | ret => simp only [unw] at h2; exact ⟨n, .ret, s', by simp only [acode, h1], h2⟩
theorem aw_block {id : Nat} {x : ACode} (h : Aw cx x s (unw cx (.b id :: F) Q)) : Aw cx (.block id x) s (unw cx F Q) := by
  obtain ⟨n, e, s', h1, h2⟩ := h
  cases e with
  | normal => simp only [unw] at h2; exact ⟨n, .normal, s', by simp only [acode, h1], h2⟩
  | exit k => simp only [unw] at h2; exact ⟨n, _, s', by simp only [acode, h1], h2⟩
  | ret => simp only [unw] at h2; exact ⟨n, .ret, s', by simp only [acode, h1], h2⟩
theorem aw_loop {x : ACode} (h : Aw cx x s (unw cx (.l x :: F) Q)) : Aw cx (.loop x) s (unw cx F Q) := by
  obtain ⟨n, e, s', h1, h2⟩ := h
  cases e with
  | normal =>
    simp only [unw] at h2
    obtain ⟨m, e2, s2, g1, g2⟩ := h2
    refine ⟨max n m + 1, e2, s2, ?_, g2⟩
    simp only [acode] at g1 ⊢
    simp only [aloop]
    rw [acode_mono (Nat.le_trans (Nat.le_max_left n m) (Nat.le_succ _)) _ _ _ h1]
    exact aloop_mono (fun s r => acode_mono (Nat.le_trans (Nat.le_max_right n m) (Nat.le_succ _)) x s r) (Nat.le_max_right n m) g1
  | exit k =>
    simp only [unw] at h2
    refine ⟨n + 1, .exit k, s', ?_, h2⟩
    simp only [acode, aloop]
    rw [acode_mono (Nat.le_succ n) _ _ _ h1]
  | ret =>
    simp only [unw] at h2
    refine ⟨n + 1, .ret, s', ?_, h2⟩
    simp only [acode, aloop]
    rw [acode_mono (Nat.le_succ n) _ _ _ h1]
theorem aw_inl {d : Option Nat} {m : Nat} {body : ACode} {rs : List RVar} {xs : List Operand} (h : Aw cx body (inlStart m xs s) (unw cx (.i d s.slots rs :: F) Q)) : Aw cx (.inl d m body rs xs) s (unw cx F Q) := by
  obtain ⟨n, e, s', h1, h2⟩ := h
  cases e with
  | exit k => simp only [unw] at h2
  | normal =>
    simp only [unw] at h2
    obtain ⟨s3, h3, h4⟩ := h2
    exact ⟨n, .normal, s3, by simp only [acode, h1, h3, Option.map_some], h4⟩
  | ret =>
    simp only [unw] at h2
    obtain ⟨s3, h3, h4⟩ := h2
    exact ⟨n, .normal, s3, by simp only [acode, h1, h3, Option.map_some], h4⟩
theorem aw_cond {c : Operand} {x y : ACode} {b : Bool} (hc : evalF (slotsF s.slots) c = .c (.d (.bool b))) (h : if b = true then Aw cx x s Q else Aw cx y s Q) : Aw cx (.cond c x y) s Q := by
  cases b with
  | true =>
    rw [if_pos rfl] at h
    obtain ⟨n, e, s', h1, h2⟩ := h
    exact ⟨n, e, s', by simp only [acode, hc, if_true]; exact h1, h2⟩
  | false =>
    rw [if_neg (by simp)] at h
    obtain ⟨n, e, s', h1, h2⟩ := h
    exact ⟨n, e, s', by simp only [acode, hc, Bool.false_eq_true, if_false]; exact h1, h2⟩
theorem aw_region {is : List AInst} {s' : St} {fs : List Ef} (h : runI cx is s = some (s', fs)) (hQ : Q .normal s') : Aw cx (.region is) s Q := ⟨0, .normal, s', by simp only [acode, h], hQ⟩
theorem aw_draw {is : List AInst} {after : List (List Nat)} {s' : St} {fs : List Ef} (h : runI cx is s = some (s', fs)) (hok : okDraw after is fs = true) (hQ : Q .normal s') : Aw cx (.draw is after) s Q :=
  ⟨0, .normal, s', by simp only [acode, h, hok, if_true], hQ⟩
theorem aw_rnd0 {rows : List (List D)} {sh : Option Nat × List Kd} {p q : Nat} {x y : ACode} {blk0 : List (Nat × Blk)} (h : Q .normal s) : Aw cx (.rnd 0 rows sh p q x y blk0) s Q := ⟨0, .normal, s, rfl, h⟩
theorem aw_back {g : Operand} {p q : Nat} {x y : ACode} {f : FuncId} {rows : List (List D)} {sh : Option Nat × List Kd} (hg : evalF (slotsF s.slots) g = .c (.d (.fn f [.rptr [.sl rows]]))) (hsh : cx.back f = some sh) (hw : okBack sh.1 rows = true) (h : Aw cx (.rnd rows.length rows sh p q x y s.blk) s Q) : Aw cx (.back g p q x y) s Q := by
  obtain ⟨n, e, s', h1, h2⟩ := h
  refine ⟨n, e, s', ?_, h2⟩
  simp only [acode, hg, hsh] at h1 ⊢
  rw [if_pos hw]
  exact h1
theorem aw_rndS {k : Nat} {rows : List (List D)} {sh : Option Nat × List Kd} {p q : Nat} {x y : ACode} {blk0 : List (Nat × Blk)} {row : List D} {v : AV} (hrow : rows[k]? = some row) (hv : pickN sh.1 (row.map .d) = some v)
    (h : Aw cx x ⟨(s.slots.set p (.c (.d (.int .i64 k)))).set q v, s.blk⟩ (unw cx (.a y :: .r k rows sh p q x y blk0 s.slots :: F) Q)) : Aw cx (.rnd (k + 1) rows sh p q x y blk0) s (unw cx F Q) := by
  obtain ⟨n1, e1, s1, h1, h2⟩ := h
  cases e1 with
  | exit _ => simp only [unw] at h2
  | ret => simp only [unw] at h2
  | normal =>
    simp only [unw] at h2
    obtain ⟨n2, e2, s2, g1, g2⟩ := h2
    cases e2 with
    | normal =>
      simp only [unw] at g2
      obtain ⟨n3, e3, s3, k1, k2⟩ := g2
      refine ⟨max (max n1 n2) n3, e3, s3, ?_, k2⟩
      simp only [acode, aback, hrow, hv] at k1 ⊢
      rw [acode_mono (m := max (max n1 n2) n3) (by omega) _ _ _ h1]
      simp only []
      rw [acode_mono (m := max (max n1 n2) n3) (by omega) _ _ _ g1]
      exact aback_mono (fun s r => acode_mono (by omega) x s r) (fun s r => acode_mono (by omega) y s r) k1
    | exit j =>
      simp only [unw] at g2
      refine ⟨max n1 n2, .exit j, _, ?_, g2⟩
      simp only [acode, aback, hrow, hv]
      rw [acode_mono (m := max n1 n2) (by omega) _ _ _ h1]
      simp only []
      rw [acode_mono (m := max n1 n2) (by omega) _ _ _ g1]
    | ret =>
      simp only [unw] at g2
      refine ⟨max n1 n2, .ret, _, ?_, g2⟩
      simp only [acode, aback, hrow, hv]
      rw [acode_mono (m := max n1 n2) (by omega) _ _ _ h1]
      simp only []
      rw [acode_mono (m := max n1 n2) (by omega) _ _ _ g1]
end

end Go.Proofs.YtmmlolampgnamaaDoor.Ax
