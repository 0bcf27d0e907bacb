import Derived.Test.YtggidmcojepkgaaFn4
namespace Go.Proofs.Ytggidmcojepkgaa.Ax
open Go.RowKit
set_option linter.unusedVariables false
def lastS (l : List Ent) (addr : Int) (i : Nat) : Int := match scan insS l addr i with
  | some k => (k : Int)
  | none => -1
theorem scan_lt {ins : List Ins} {l : List Ent} {addr : Int} : ∀ {n k : Nat}, scan ins l addr n = some k → k < n
  | 0, _, h => by cases h
  | n + 1, k, h => by
    simp only [scan] at h
    split at h
    · simp only [Option.some.injEq] at h; omega
    · have := scan_lt h; omega
theorem scan_take {ins : List Ins} {l : List Ent} {addr : Int} {M : Nat} (hM : M ≤ l.length) : ∀ {n : Nat}, n ≤ M → scan ins (l.take M) addr n = scan ins l addr n
  | 0, _ => rfl
  | n + 1, h => by
    have hg : (l.take M).getD n default = l.getD n default := by
      rw [List.getD_eq_getElem?_getD, List.getD_eq_getElem?_getD, List.getElem?_take, if_pos (by omega)]
    simp only [scan, hg, scan_take hM (show n ≤ M by omega)]
theorem scan_succ {l : List Ent} (hl : ∀ e ∈ l, e.pc = 0) {addr : Int} {i : Nat} (hi : i < l.length) : scan insS l addr (i + 1) = if l[i].known = true ∧ l[i].addr = addr then some i else scan insS l addr i := by
  have hg : l.getD i default = l[i] := by rw [List.getD_eq_getElem?_getD, List.getElem?_eq_getElem hi]; rfl
  have hp : l[i].pc = 0 := hl _ (List.getElem_mem hi)
  have hk : (atS insS 0).kind = 3 := rfl
  simp only [scan, hg, hp, hk, true_and]
theorem ldS_eq (l : List Ent) (addr : Int) (at' : Int) (h0 : 0 ≤ at') (ha : 0 ≤ addr) (ha' : addr ≤ 3) : ldS l addr at' =
    match scan insS l addr (min at'.toNat l.length) with
    | some k => if (l.getD k default).done = true then ((l.getD k default).val, (k : Int), true) else (0, 0, false)
    | none => (5 + addr, -1, true) := by
  have hM : (min (max at' 0) (l.length : Int)).toNat = min at'.toNat l.length := by omega
  have hlen : (l.take (min at'.toNat l.length)).length = min at'.toNat l.length := by rw [List.length_take]; omega
  unfold ldS loadS cutS
  rw [hM, hlen, scan_take (by omega) (Nat.le_refl _)]
  cases hk : scan insS l addr (min at'.toNat l.length) with
  | some k =>
    have hlt := scan_lt hk
    have hg : (l.take (min at'.toNat l.length)).getD k default = l.getD k default := by
      rw [List.getD_eq_getElem?_getD, List.getD_eq_getElem?_getD, List.getElem?_take, if_pos (by omega)]
    simp only [hg]
  | none =>
    have : addr = 0 ∨ addr = 1 ∨ addr = 2 ∨ addr = 3 := by omega
    rcases this with rfl | rfl | rfl | rfl <;> rfl

theorem pre7 (l : List Ent) (addr at' : Int) (hl : l.length ≤ 12) : sp3.pre (7 : Nat) [A.agg [D.int IntKind.i64 (4 : Int), D.int IntKind.i64 (0 : Int), D.int IntKind.i64 (0 : Int), D.int IntKind.i64 (0 : Int), D.int IntKind.i64 (0 : Int), D.int IntKind.i64 (0 : Int), D.int IntKind.i64 (0 : Int), D.sl [[D.str { data := #[(109 : UInt8)] }, D.bool false, D.int IntKind.i64 (4 : Int)]], D.sl [], D.sl [[D.int IntKind.i64 (3 : Int), D.int IntKind.i64 (0 : Int), D.int IntKind.i64 (0 : Int), D.bool false, D.int IntKind.i64 (0 : Int), D.bool false, D.int IntKind.i64 (0 : Int), D.str { data := #[] }, D.int IntKind.i64 (0 : Int)]]], A.c (D.sl [[D.int IntKind.i64 (5 : Int)], [D.int IntKind.i64 (6 : Int)], [D.int IntKind.i64 (7 : Int)], [D.int IntKind.i64 (8 : Int)]]), A.c (D.sl (rowsOn l)), A.c (D.int IntKind.i64 at'), A.c (D.int IntKind.i64 addr)] := by
  refine ⟨by simp, ⟨rfl, rfl, rfl⟩, rfl, by rw [listOf_rowsOn], by rw [rowsOn_length]; omega⟩
theorem pre8 : sp3.pre (8 : Nat) [] := ⟨by simp, trivial⟩

theorem fin3c_holds (l : List Ent) (addr at' : Int) (hlen : l.length ≤ 12) (h0 : 0 ≤ at') (ha : 0 ≤ addr) (ha' : addr ≤ 3) :
    (fin3c sp3 (ldS l addr at') addr at' (lastS l addr (min at'.toNat l.length)) (rowsOn l) l.length).holds sp3.cx fa3.rs fun r => r = .c (.d (.bool true)) := by
  unfold fin3c
  refine ⟨pre7 l addr at' hlen, ?_⟩
  rw [ldS_eq l addr at' h0 ha ha']
  unfold lastS
  cases hs : scan insS l addr (min at'.toNat l.length) with
  | none =>
    simp only []
    refine br_holds (fun _ => br_holds (fun _ => br_holds (fun _ => br_holds (fun _ => ⟨pre8, rfl⟩) (fun h => ?_)) (fun h => by simp at h)) (fun h => by simp at h)) (fun h => by simp at h)
    have : IntKind.wrap .i64 ((5 : Int) + addr) = 5 + addr := wrap_small _ (by omega) (by omega)
    rw [this] at h
    simp at h
  | some k =>
    have hlt := scan_lt hs
    have hk : k < l.length := by omega
    have hrow := rowAt_rowsOn l k hk
    have hg : l.getD k default = l[k] := by rw [List.getD_eq_getElem?_getD, List.getElem?_eq_getElem hk]; rfl
    have htn : ((k : Int)).toNat = k := by omega
    simp only [hg, htn, hrow]
    refine br_holds (fun h => by simp at h; omega) (fun _ => ?_)
    refine ⟨⟨by omega, by omega⟩, ⟨by rw [rowsOn_length]; exact hk, rfl, rfl⟩, ?_⟩
    have hd : asBool (List.getD (List.drop (5 : Nat) (row l[k])) (0 : Nat) D.nilp) = l[k].done := rfl
    have hv : asInt (List.getD (List.drop (1 : Nat) (row l[k])) (0 : Nat) D.nilp) = l[k].val := rfl
    rw [hd, hv]
    cases hdn : l[k].done with
    | true =>
      simp only [if_true]
      refine br_holds (fun _ => br_holds (fun _ => br_holds (fun _ => ⟨⟨by omega, by omega⟩, ⟨by rw [rowsOn_length]; exact hk, rfl, rfl⟩, br_holds (fun _ => ⟨pre8, rfl⟩) (fun h => by simp at h)⟩) (fun h => by simp at h)) (fun h => by simp at h)) (fun h => by simp at h)
    | false =>
      simp only [Bool.false_eq_true, if_false]
      refine br_holds (fun _ => br_holds (fun h => by simp at h) (fun _ => br_holds (fun _ => br_holds (fun _ => ⟨pre8, rfl⟩) (fun h => by simp at h)) (fun h => by simp at h))) (fun h => by simp at h)

theorem loop3c (hsp : sp3.sound Try.prog) (l : List Ent) (hl : ∀ e ∈ l, e.pc = 0) (addr at' : Int) (hlen : l.length ≤ 12) (h0 : 0 ≤ at') (ha : 0 ≤ addr) (ha' : addr ≤ 3) : ∀ (m i : Nat), i + m = min at'.toNat l.length →
    (fa3.at_ 1 (F3c addr at' (lastS l addr i) i (rowsOn l) l.length)).holds sp3.cx fa3.rs fun r => r = .c (.d (.bool true)) := by
  intro m
  induction m with
  | zero =>
    intro i hi
    have hfin := fin3c_holds l addr at' hlen h0 ha ha'
    rw [← hi, Nat.add_zero] at hfin
    refine at_of_round hsp (m := 200) ?_
    rw [t3c, listOf_rowsOn]
    refine br_holds (fun h => br_holds (fun h' => ?_) (fun _ => hfin)) (fun _ => hfin)
    simp only [decide_eq_true_eq] at h h'
    omega
  | succ m ih =>
    intro i hi
    have hi' : i < l.length := by omega
    have hrow := rowAt_rowsOn l i hi'
    have htn : ((i : Int)).toNat = i := by omega
    have hw : IntKind.wrap .i64 ((i : Int) + 1) = ((i + 1 : Nat) : Int) := by rw [wrap_small _ (by omega) (by omega)]; omega
    have ih := ih (i + 1) (by omega)
    refine at_of_round hsp (m := 200) ?_
    rw [t3c, htn, hrow, hw]
    have hkn : asBool (List.getD (List.drop (6 : Nat) (row l[i])) (0 : Nat) D.nilp) = l[i].known := rfl
    have had : asInt (List.getD (List.drop (2 : Nat) (row l[i])) (0 : Nat) D.nilp) = l[i].addr := rfl
    rw [hkn, had]
    have hsc := scan_succ hl (addr := addr) hi'
    refine br_holds (fun _ => br_holds (fun _ => ?_) (fun h => by simp at h; omega)) (fun h => by simp at h; omega)
    refine ⟨⟨by omega, by omega⟩, ⟨by rw [rowsOn_length]; exact hi', rfl, rfl⟩, ?_⟩
    refine br_holds (fun h1 => ⟨⟨by omega, by omega⟩, ⟨by rw [rowsOn_length]; exact hi', rfl, rfl⟩, br_holds (fun h2 => ?_) (fun h2 => ?_)⟩) (fun h1 => ?_)
    · have : lastS l addr (i + 1) = i := by unfold lastS; rw [hsc, if_pos ⟨h1, by simpa using h2⟩]
      rw [this] at ih; exact ih
    · have : lastS l addr (i + 1) = lastS l addr i := by unfold lastS; rw [hsc, if_neg (by intro h; simp at h2; exact h2 h.2)]
      rw [this] at ih; exact ih
    · have : lastS l addr (i + 1) = lastS l addr i := by unfold lastS; rw [hsc, if_neg (by intro h; rw [h1] at h; cases h.1)]
      rw [this] at ih; exact ih

theorem fin3d_holds (addr at' : Int) (h0 : 0 ≤ at') (ha : 0 ≤ addr) (ha' : addr ≤ 3) :
    (fin3d sp3 (ldS ([] : List Ent) addr at') addr at' (-1)).holds sp3.cx fa3.rs fun r => r = .c (.d (.bool true)) := by
  unfold fin3d
  refine ⟨pre7 [] addr at' (by simp), ?_⟩
  rw [ldS_eq [] addr at' h0 ha ha', show min at'.toNat ([] : List Ent).length = 0 by simp]
  simp only [scan]
  refine br_holds (fun _ => br_holds (fun _ => br_holds (fun _ => br_holds (fun _ => ⟨pre8, rfl⟩) (fun h => ?_)) (fun h => by simp at h)) (fun h => by simp at h)) (fun h => by simp at h)
  have : IntKind.wrap .i64 ((5 : Int) + addr) = 5 + addr := wrap_small _ (by omega) (by omega)
  rw [this] at h
  simp at h
theorem loop3d (hsp : sp3.sound Try.prog) (addr at' : Int) (h0 : 0 ≤ at') (ha : 0 ≤ addr) (ha' : addr ≤ 3) :
    (fa3.at_ 1 (F3d addr at' (-1) 0)).holds sp3.cx fa3.rs fun r => r = .c (.d (.bool true)) := by
  have hfin := fin3d_holds addr at' h0 ha ha'
  refine at_of_round hsp (m := 200) ?_
  rw [t3d]
  exact br_holds (fun h => br_holds (fun h' => by simp at h') (fun _ => hfin)) (fun _ => hfin)


theorem next3 (hsp : sp3.sound Try.prog) {addrs vals : List Int} {told done addr at' : Int} {i : Nat} {l : List Ent} {e : Ent} (hi : i ≤ 12)
    (h : (fa3.at_ 0 (F3b addrs vals told done addr at' ((i + 1 : Nat) : Int) (rowsOn (l ++ [e])) (l ++ [e]).length)).holds sp3.cx fa3.rs fun r => r = .c (.d (.bool true))) :
    (fa3.at_ 0 (F3b addrs vals told done addr at' (IntKind.wrap .i64 ((i : Int) + 1)) (rowsOn l ++ [row e]) ((rowsOn l).length + [row e].length))).holds sp3.cx fa3.rs fun r => r = .c (.d (.bool true)) := by
  have hw : IntKind.wrap .i64 ((i : Int) + 1) = ((i + 1 : Nat) : Int) := by rw [wrap_small _ (by omega) (by omega)]; omega
  have h2 : rowsOn (l ++ [e]) = rowsOn l ++ [row e] := rowsOn_append l [e]
  have h3 : (l ++ [e]).length = (rowsOn l).length + [row e].length := by simp
  rw [hw, ← h2, ← h3]
  exact h

theorem end3 (hsp : sp3.sound Try.prog) (l : List Ent) (hl : ∀ e ∈ l, e.pc = 0) (hlen : l.length ≤ 12) (addr at' : Int) :
    (fa3.at_ 1 (F3c (bits BinOp.and IntKind.i64 addr (3 : Int)) (bits BinOp.and IntKind.i64 at' (15 : Int)) (-1 : Int) (0 : Int) (rowsOn l) l.length)).holds sp3.cx fa3.rs fun r => r = .c (.d (.bool true)) := by
  rw [and3, and15]
  exact loop3c hsp l hl _ _ hlen (by omega) (by omega) (by omega) (min (at' % 16).toNat l.length) 0 (by omega)

theorem u64_nonneg (x : Int) : (0 : Int) ≤ IntKind.wrap .u64 x := by
  simp [IntKind.wrap, IntKind.bits, IntKind.signed]; omega

theorem need3 {l : List Ent} {e : Ent} (hl : l.length ≤ 12) : (List.all [row e] fun r ↦ List.length r == (8 : Nat)) = true ∧ (List.all (rowsOn l) fun r ↦ List.length r == (8 : Nat)) = true ∧ (List.length (rowsOn l) + List.length [row e] + (100 : Nat)) * (49 : Nat) ≤ (70368744177664 : Nat) :=
  ⟨rfl, rowsOn_all l 8 rfl, by simp only [rowsOn_length, List.length_singleton]; omega⟩

theorem loop3b (hsp : sp3.sound Try.prog) (addrs vals : List Int) (told done addr at' : Int) : ∀ (m : Nat) (l : List Ent), (∀ e ∈ l, e.pc = 0) → l.length + m = min 12 addrs.length →
    (fa3.at_ 0 (F3b addrs vals told done addr at' (l.length : Nat) (rowsOn l) l.length)).holds sp3.cx fa3.rs fun r => r = .c (.d (.bool true)) := by
  intro m
  induction m with
  | zero =>
    intro l hl hi
    have hfin := end3 hsp l hl (by omega) addr at'
    refine at_of_round hsp (m := 200) ?_
    rw [t3b]
    refine br_holds (fun h => br_holds (fun h' => ?_) (fun _ => hfin)) (fun _ => hfin)
    simp only [decide_eq_true_eq, rowsOn_length] at h h'
    omega
  | succ m ih =>
    intro l hl hi
    have hi' : l.length < addrs.length := by omega
    have hrow := rowAt_rowsOn addrs l.length hi'
    have htn : ((l.length : Int)).toNat = l.length := by omega
    have hstep : ∀ e : Ent, e.pc = 0 → (fa3.at_ 0 (F3b addrs vals told done addr at' (IntKind.wrap .i64 ((l.length : Int) + 1)) (rowsOn l ++ [row e]) ((rowsOn l).length + [row e].length))).holds sp3.cx fa3.rs fun r => r = .c (.d (.bool true)) := by
      intro e he
      refine next3 hsp (by omega) ?_
      have := ih (l ++ [e]) (by intro e' h'; rcases List.mem_append.1 h' with h' | h'; exact hl _ h'; rw [List.mem_singleton] at h'; subst h'; exact he) (by simp; omega)
      rw [show (l ++ [e]).length = l.length + 1 by simp] at this ⊢
      exact this
    refine at_of_round hsp (m := 200) ?_
    rw [t3b, htn, hrow]
    refine br_holds (fun _ => br_holds (fun _ => ?_) (fun h => by simp at h; omega)) (fun h => by simp at h; omega)
    refine ⟨⟨by omega, by rw [rowsOn_length]; omega, rfl⟩, rfl, u64_nonneg _, u64_nonneg _, ?_⟩
    refine br_holds (fun h => ?_) (fun _ => ?_)
    · have hv : l.length < vals.length := by simp at h; omega
      rw [rowAt_rowsOn vals l.length hv]
      exact ⟨⟨by omega, by rw [rowsOn_length]; omega, rfl⟩, rfl, need3 (e := ⟨0, _, _, 0, 0, _, _, false⟩) (by omega), hstep ⟨0, _, _, 0, 0, _, _, false⟩ rfl⟩
    · exact ⟨need3 (e := ⟨0, _, _, 0, 0, _, _, false⟩) (by omega), hstep ⟨0, _, _, 0, 0, _, _, false⟩ rfl⟩

theorem memoLast_calls (hsp : sp3.sound Try.prog) (addrs vals : List Int) (told done addr at' : Int) :
    ACalls Try.prog 3 [.c (.sl (rowsOn addrs)), .c (.int .i64 told), .c (.int .i64 done), .c (.sl (rowsOn vals)), .c (.int .i64 addr), .c (.int .i64 at')] (.c (.d (.bool true))) := by
  refine acalls_of hsp (fn := Try.f3) (a := fa3) (nargs := 6) (tbl := [(4, [0, 1, 2, 3, 4, 5, 13, 14, 15]), (13, [4, 5, 13, 14, 17, 18])]) (by kernel_rfl) (by kernel_rfl) rfl (m := 200) ?_
  rw [t3s]
  have hd := loop3d hsp (bits BinOp.and IntKind.i64 addr (3 : Int)) (bits BinOp.and IntKind.i64 at' (15 : Int)) (by rw [and15]; omega) (by rw [and3]; omega) (by rw [and3]; omega)
  refine at_of_round hsp (m := 200) ?_
  rw [t3a]
  refine br_holds (fun h => br_holds (fun _ => ?_) (fun _ => hd)) (fun _ => hd)
  have h0 : 0 < addrs.length := by simpa using h
  have hrow := rowAt_rowsOn addrs 0 h0
  have hstep : ∀ e : Ent, e.pc = 0 → (fa3.at_ 0 (F3b addrs vals told done addr at' (IntKind.wrap .i64 ((0 : Int) + 1)) [row e] 1)).holds sp3.cx fa3.rs fun r => r = .c (.d (.bool true)) := by
    intro e he
    exact loop3b hsp addrs vals told done addr at' (min 12 addrs.length - 1) [e] (by intro e' h'; rw [List.mem_singleton] at h'; subst h'; exact he) (by simp; omega)
  rw [show (0 : Int).toNat = 0 from rfl, hrow]
  refine ⟨⟨by omega, by rw [rowsOn_length]; omega, rfl⟩, rfl, u64_nonneg _, u64_nonneg _, ?_⟩
  refine br_holds (fun h => ?_) (fun _ => ?_)
  · have hv : 0 < vals.length := by simp at h; omega
    rw [rowAt_rowsOn vals 0 hv]
    exact ⟨⟨by omega, by rw [rowsOn_length]; omega, rfl⟩, rfl, ⟨rfl, rfl, by simp⟩, hstep ⟨0, _, _, 0, 0, _, _, false⟩ rfl⟩
  · exact ⟨⟨rfl, rfl, by simp⟩, hstep ⟨0, _, _, 0, 0, _, _, false⟩ rfl⟩
theorem sp3_sound : sp3.sound Try.prog := sound_of fun f hf => by
  simp only [List.mem_cons, List.not_mem_nil, or_false] at hf
  rcases hf with rfl | rfl
  · exact good7
  · exact good8
end Go.Proofs.Ytggidmcojepkgaa.Ax
