import Derived.Test.YtggidmcojepkgaaFn10
namespace Go.Proofs.Ytggidmcojepkgaa.Ax
open Go.RowKit
set_option linter.unusedVariables false
def wOf : Option Nat → Int
  | some k => (k : Int)
  | none => -1
theorem hazF_app (ins : List Ins) (l : List Ent) (e : Ent) (i addr : Int) : ∀ (m k : Nat), k + m = l.length →
    hazF ins (l ++ [e]) i addr (m + 1) k = match hazF ins l i addr m k with
      | some j => some j
      | none => if hazC ins i addr e = true then some l.length else none
  | 0, k, h => by
    have hg : (l ++ [e]).getD k default = e := by
      rw [List.getD_eq_getElem?_getD, List.getElem?_append_right (by omega), show k - l.length = 0 by omega]; rfl
    simp only [hazF, hg]
    rw [show k = l.length by omega]
  | m + 1, k, h => by
    have hg : (l ++ [e]).getD k default = l.getD k default := by
      rw [List.getD_eq_getElem?_getD, List.getD_eq_getElem?_getD, List.getElem?_append_left (by omega)]
    rw [hazF, hazF_app ins l e i addr m (k + 1) (by omega), hg]
    conv => rhs; rw [hazF]
    by_cases hc : hazC ins i addr (l.getD k default) = true
    · rw [if_pos hc, if_pos hc]
    · rw [if_neg hc, if_neg hc]
theorem hazS_app (l : List Ent) (e : Ent) (ahead addr : Int) (h0 : 0 ≤ ahead) (h1 : ahead < l.length) :
    hazS ins4 (l ++ [e]) ahead addr = match hazS ins4 l ahead addr with
      | some j => some j
      | none => if hazC ins4 ahead addr e = true then some l.length else none := by
  have hs : (max (min ahead l.length + 1) 0).toNat = ahead.toNat + 1 := by omega
  have hs' : (max (min ahead ((l ++ [e]).length : Nat) + 1) 0).toNat = ahead.toNat + 1 := by rw [List.length_append]; simp; omega
  have hm : (l ++ [e]).length - (ahead.toNat + 1) = (l.length - (ahead.toNat + 1)) + 1 := by rw [List.length_append]; simp; omega
  unfold hazS
  rw [hs, hs', hm, hazF_app ins4 l e ahead addr (l.length - (ahead.toNat + 1)) (ahead.toNat + 1) (by omega)]

theorem pre8' : sp4.pre (8 : Nat) [] := show pre0 8 [] from trivial
theorem fin4_holds (l : List Ent) (ahead addr : Int) (hl : l.length ≤ 1000) (h0 : 0 ≤ ahead) :
    (fin4 sp4 (hz4 (rowsOn l) ahead addr) ahead addr (wOf (hz4 (rowsOn l) ahead addr)) (rowsOn l)).holds sp4.cx fa4.rs fun r => r = .c (.d (.bool true)) := by
  unfold fin4
  refine ⟨show pre9 _ from ⟨⟨4, 0, 0, 0, 0, 0, 0, [⟨⟨#[109]⟩, false, 4⟩], [], ins4⟩, l, ahead, addr, rfl, by omega, by omega⟩, ?_⟩
  cases hz4 (rowsOn l) ahead addr with
  | none => exact ⟨pre8', rfl⟩
  | some k =>
    refine br_holds (fun _ => br_holds (fun h => by simp at h) (fun _ => br_holds (fun _ => br_holds (fun _ => ⟨pre8', rfl⟩) (fun h => by simp [kOf, wOf] at h)) (fun h => by simp at h))) (fun h => by simp [wOf] at h)

theorem next4 {addrs fro : List Int} {told ahead addr W : Int} {i : Nat} {l : List Ent} {e : Ent} (hi : i ≤ 12) (hW : W = wOf (hz4 (rowsOn (l ++ [e])) ahead addr))
    (h : (fa4.at_ 0 (F4b addrs fro told ahead addr (wOf (hz4 (rowsOn (l ++ [e])) ahead addr)) ((i + 1 : Nat) : Int) (rowsOn (l ++ [e])) (l ++ [e]).length)).holds sp4.cx fa4.rs fun r => r = .c (.d (.bool true))) :
    (fa4.at_ 0 (F4b addrs fro told ahead addr W (IntKind.wrap .i64 ((i : Int) + 1)) (rowsOn l ++ [row e]) ((rowsOn l).length + [row e].length))).holds sp4.cx fa4.rs fun r => r = .c (.d (.bool true)) := by
  have hw : IntKind.wrap .i64 ((i : Int) + 1) = ((i + 1 : Nat) : Int) := by rw [wrap_small _ (by omega) (by omega)]; omega
  have h2 : rowsOn (l ++ [e]) = rowsOn l ++ [row e] := rowsOn_append l [e]
  have h3 : (l ++ [e]).length = (rowsOn l).length + [row e].length := by simp
  rw [hw, hW, ← h2, ← h3]
  exact h
theorem need4 {l : List Ent} {e : Ent} (hl : l.length ≤ 20) : (List.all [row e] fun r ↦ List.length r == (8 : Nat)) = true ∧ (List.all (rowsOn l) fun r ↦ List.length r == (8 : Nat)) = true ∧ (List.length (rowsOn l) + List.length [row e] + (100 : Nat)) * (49 : Nat) ≤ (70368744177664 : Nat) :=
  ⟨rfl, rowsOn_all l 8 rfl, by simp only [rowsOn_length, List.length_singleton]; omega⟩
theorem u64_nonneg (x : Int) : (0 : Int) ≤ IntKind.wrap .u64 x := by
  simp [IntKind.wrap, IntKind.bits, IntKind.signed]; omega
theorem hazC4 (ahead addr : Int) (a f : Int) (b : Bool) : hazC ins4 ahead addr ⟨1, 0, a, f, 0, false, b, false⟩ = (b && (a == addr && decide (f < ahead))) := rfl

theorem tree4_holds (addrs fro : List Int) (told ahead addr : Int) (h0 : 0 ≤ ahead) (h3 : ahead ≤ 3) (i : Nat) (l : List Ent) (hl : (l.length : Int) = ahead + 1 + i) (hi : i < 10) (hia : i < addrs.length)
    (ih : ∀ l' : List Ent, (l'.length : Int) = ahead + 1 + (i + 1 : Nat) → (fa4.at_ 0 (F4b addrs fro told ahead addr (wOf (hz4 (rowsOn l') ahead addr)) ((i + 1 : Nat) : Int) (rowsOn l') l'.length)).holds sp4.cx fa4.rs fun r => r = .c (.d (.bool true))) :
    (tree4 addrs fro told ahead addr (wOf (hz4 (rowsOn l) ahead addr)) i (rowsOn l) l.length).holds sp4.cx fa4.rs fun r => r = .c (.d (.bool true)) := by
  have happ : ∀ e : Ent, hz4 (rowsOn (l ++ [e])) ahead addr = match hz4 (rowsOn l) ahead addr with
      | some j => some j
      | none => if hazC ins4 ahead addr e = true then some l.length else none := by
    intro e
    unfold hz4
    rw [listOf_rowsOn, listOf_rowsOn]
    exact hazS_app l e ahead addr h0 (by omega)
  have hrow := rowAt_rowsOn addrs i hia
  have htn : ((i : Int)).toNat = i := by omega
  have keep : ∀ e : Ent, (0 ≤ wOf (hz4 (rowsOn l) ahead addr) ∨ hazC ins4 ahead addr e = false) → wOf (hz4 (rowsOn l) ahead addr) = wOf (hz4 (rowsOn (l ++ [e])) ahead addr) := by
    intro e he
    rw [happ e]
    cases hh : hz4 (rowsOn l) ahead addr with
    | some j => rfl
    | none =>
      rw [hh] at he
      simp only [wOf] at he
      rcases he with he | he
      · omega
      · rw [he]; rfl
  have new : ∀ e : Ent, wOf (hz4 (rowsOn l) ahead addr) < 0 → hazC ins4 ahead addr e = true → IntKind.wrap IntKind.i64 (IntKind.wrap IntKind.i64 (ahead + (1 : Int)) + i) = wOf (hz4 (rowsOn (l ++ [e])) ahead addr) := by
    intro e hw he
    rw [happ e]
    cases hh : hz4 (rowsOn l) ahead addr with
    | some j => rw [hh] at hw; simp only [wOf] at hw; omega
    | none =>
      simp only [he, if_true, wOf]
      rw [wrap_small (ahead + 1) (by omega) (by omega), wrap_small _ (by omega) (by omega)]; omega
  have one : ∀ (e : Ent) (W : Int), W = wOf (hz4 (rowsOn (l ++ [e])) ahead addr) → (fa4.at_ 0 (F4b addrs fro told ahead addr W (IntKind.wrap .i64 ((i : Int) + 1)) (rowsOn l ++ [row e]) ((rowsOn l).length + [row e].length))).holds sp4.cx fa4.rs fun r => r = .c (.d (.bool true)) :=
    fun e W hW => next4 (by omega) hW (ih (l ++ [e]) (by rw [List.length_append]; simp; omega))
  unfold tree4
  rw [htn, hrow]
  refine br_holds (fun _ => br_holds (fun _ => ?_) (fun h => by simp at h; omega)) (fun h => by simp at h; omega)
  refine ⟨⟨by omega, by rw [rowsOn_length]; omega, rfl⟩, rfl, u64_nonneg _, ?_⟩
  have sub : ∀ (a f : Int) (b : Bool), (VC.br (decide (wOf (hz4 (rowsOn l) ahead addr) < (0 : Int)))
    (VC.br b
     (VC.br (a == addr)
      (VC.br (decide (f < ahead))
       (FnA.at_ fa4 0 (F4b addrs fro told ahead addr (IntKind.wrap IntKind.i64 (IntKind.wrap IntKind.i64 (ahead + (1 : Int)) + i)) (IntKind.wrap IntKind.i64 (i + (1 : Int))) (rowsOn l ++ [row (⟨1, 0, a, f, 0, false, b, false⟩ : Ent)]) ((rowsOn l).length + [row (⟨1, 0, a, f, 0, false, b, false⟩ : Ent)].length)))
       (FnA.at_ fa4 0 (F4b addrs fro told ahead addr (wOf (hz4 (rowsOn l) ahead addr)) (IntKind.wrap IntKind.i64 (i + (1 : Int))) (rowsOn l ++ [row (⟨1, 0, a, f, 0, false, b, false⟩ : Ent)]) ((rowsOn l).length + [row (⟨1, 0, a, f, 0, false, b, false⟩ : Ent)].length))))
      (FnA.at_ fa4 0 (F4b addrs fro told ahead addr (wOf (hz4 (rowsOn l) ahead addr)) (IntKind.wrap IntKind.i64 (i + (1 : Int))) (rowsOn l ++ [row (⟨1, 0, a, f, 0, false, b, false⟩ : Ent)]) ((rowsOn l).length + [row (⟨1, 0, a, f, 0, false, b, false⟩ : Ent)].length))))
     (FnA.at_ fa4 0 (F4b addrs fro told ahead addr (wOf (hz4 (rowsOn l) ahead addr)) (IntKind.wrap IntKind.i64 (i + (1 : Int))) (rowsOn l ++ [row (⟨1, 0, a, f, 0, false, b, false⟩ : Ent)]) ((rowsOn l).length + [row (⟨1, 0, a, f, 0, false, b, false⟩ : Ent)].length))))
    (FnA.at_ fa4 0 (F4b addrs fro told ahead addr (wOf (hz4 (rowsOn l) ahead addr)) (IntKind.wrap IntKind.i64 (i + (1 : Int))) (rowsOn l ++ [row (⟨1, 0, a, f, 0, false, b, false⟩ : Ent)]) ((rowsOn l).length + [row (⟨1, 0, a, f, 0, false, b, false⟩ : Ent)].length)))).holds sp4.cx fa4.rs fun r => r = .c (.d (.bool true)) := by
    intro a f b
    refine br_holds (fun h1 => br_holds (fun h2 => br_holds (fun h3 => br_holds (fun h4 => one _ _ (new _ (by simpa using h1) ?_)) (fun h4 => one _ _ (keep _ (.inr ?_)))) (fun h3 => one _ _ (keep _ (.inr ?_)))) (fun h2 => one _ _ (keep _ (.inr ?_)))) (fun h1 => one _ _ (keep _ (.inl (by simpa using h1))))
    · rw [hazC4, h2, h3, h4]; rfl
    · rw [hazC4, h2, h3, h4]; rfl
    · rw [hazC4, h2, h3]; rfl
    · rw [hazC4, h2]; rfl
  refine br_holds (fun h => ?_) (fun _ => ?_)
  · have hv : i < fro.length := by simp at h; omega
    rw [rowAt_rowsOn fro i hv]
    exact ⟨⟨by omega, by rw [rowsOn_length]; omega, rfl⟩, rfl, need4 (by omega), sub _ _ _⟩
  · exact ⟨need4 (by omega), sub _ _ _⟩

theorem tree4_end (addrs fro : List Int) (told ahead addr : Int) (h0 : 0 ≤ ahead) (h3 : ahead ≤ 3) (i : Nat) (l : List Ent) (hl : (l.length : Int) = ahead + 1 + i) (hi : i ≤ 10) (hia : ¬ (i < 10 ∧ i < addrs.length)) :
    (tree4 addrs fro told ahead addr (wOf (hz4 (rowsOn l) ahead addr)) i (rowsOn l) l.length).holds sp4.cx fa4.rs fun r => r = .c (.d (.bool true)) := by
  have hfin := fin4_holds l ahead addr (by omega) h0
  unfold tree4
  refine br_holds (fun h => br_holds (fun h' => ?_) (fun _ => hfin)) (fun _ => hfin)
  simp only [decide_eq_true_eq, rowsOn_length] at h h'
  omega
theorem loop4 (hsp : sp4.sound Try.prog) (addrs fro : List Int) (told ahead addr : Int) (h0 : 0 ≤ ahead) (h3 : ahead ≤ 3) : ∀ (m i : Nat) (l : List Ent), i + m = min 10 addrs.length → (l.length : Int) = ahead + 1 + i →
    (fa4.at_ 0 (F4b addrs fro told ahead addr (wOf (hz4 (rowsOn l) ahead addr)) i (rowsOn l) l.length)).holds sp4.cx fa4.rs fun r => r = .c (.d (.bool true)) := by
  intro m
  induction m with
  | zero =>
    intro i l hm hl
    refine at_of_round hsp (m := 200) ?_
    rw [t4b]
    exact tree4_end addrs fro told ahead addr h0 h3 i l hl (by omega) (by omega)
  | succ m ih =>
    intro i l hm hl
    refine at_of_round hsp (m := 200) ?_
    rw [t4b]
    exact tree4_holds addrs fro told ahead addr h0 h3 i l hl (by omega) (by omega) (fun l' hl' => ih (i + 1) l' (by omega) hl')

theorem memoHazards_calls (hsp : sp4.sound Try.prog) (addrs fro : List Int) (told ahead addr : Int) :
    ACalls Try.prog 4 [.c (.sl (rowsOn addrs)), .c (.int .i64 told), .c (.sl (rowsOn fro)), .c (.int .i64 ahead), .c (.int .i64 addr)] (.c (.d (.bool true))) := by
  refine acalls_of hsp (fn := Try.f4) (a := fa4) (nargs := 5) (tbl := [(6, [0, 1, 2, 3, 4, 11, 12, 13, 14])]) (by kernel_rfl) (by kernel_rfl) rfl (m := 200) ?_
  rw [t4s]
  have h1 : bits BinOp.and IntKind.i64 ahead (3 : Int) = ahead % 4 := and3 ahead
  have h2 : bits BinOp.and IntKind.i64 addr (3 : Int) = addr % 4 := and3 addr
  rw [h1, h2, wrap_small (ahead % 4 + 1) (by omega) (by omega)]
  refine ⟨⟨rfl, by omega, by omega⟩, ?_⟩
  have e : (List.replicate (ahead % 4 + 1).toNat [D.int IntKind.i64 (0 : Int), D.int IntKind.i64 (0 : Int), D.int IntKind.i64 (0 : Int), D.int IntKind.i64 (0 : Int), D.int IntKind.i64 (0 : Int), D.bool false, D.bool false, D.bool false]) = rowsOn (List.replicate (ahead % 4 + 1).toNat (⟨0, 0, 0, 0, 0, false, false, false⟩ : Ent)) := by
    unfold rowsOn; rw [List.map_replicate]; rfl
  have hn : hz4 (rowsOn (List.replicate (ahead % 4 + 1).toNat (⟨0, 0, 0, 0, 0, false, false, false⟩ : Ent))) (ahead % 4) (addr % 4) = none := by
    unfold hz4
    rw [listOf_rowsOn]
    unfold hazS
    rw [List.length_replicate, show (ahead % 4 + 1).toNat - (max (min (ahead % 4) ((ahead % 4 + 1).toNat : Nat) + 1) 0).toNat = 0 by omega]
    rfl
  have hlen : (List.replicate (ahead % 4 + 1).toNat (⟨0, 0, 0, 0, 0, false, false, false⟩ : Ent)).length = (ahead % 4 + 1).toNat := List.length_replicate
  rw [e]
  refine at_of_round hsp (m := 200) ?_
  rw [t4a]
  generalize hL : List.replicate (ahead % 4 + 1).toNat (⟨0, 0, 0, 0, 0, false, false, false⟩ : Ent) = l at hn hlen
  rw [← hlen, show (-1 : Int) = wOf (hz4 (rowsOn l) (ahead % 4) (addr % 4)) by rw [hn]; rfl]
  by_cases h : 0 < addrs.length
  · exact tree4_holds addrs fro told (ahead % 4) (addr % 4) (by omega) (by omega) 0 l (by omega) (by omega) h (fun l' hl' => loop4 hsp addrs fro told (ahead % 4) (addr % 4) (by omega) (by omega) (min 10 addrs.length - 1) 1 l' (by omega) hl')
  · exact tree4_end addrs fro told (ahead % 4) (addr % 4) (by omega) (by omega) 0 l (by omega) (by omega) (by omega)
theorem sp4_sound : sp4.sound Try.prog := spT_sound fun e he => by
  simp only [List.mem_cons, List.not_mem_nil, or_false] at he
  rcases he with rfl | rfl
  · exact e8_good
  · exact e9_good
end Go.Proofs.Ytggidmcojepkgaa.Ax
