import Derived.Test.YtggidmcojepkgaaFn2
namespace Go.Proofs.Ytggidmcojepkgaa.Ax
open Go.RowKit
set_option linter.unusedVariables false
def sp0 : Sp := spL [14, 15]
theorem sp0_sound : sp0.sound Try.prog := sound_of fun f hf => by
  simp only [List.mem_cons, List.not_mem_nil, or_false] at hf
  rcases hf with rfl | rfl
  · exact good14
  · exact good15
noncomputable def fa7 : FnA := (fnA Try.prog Try.f7 5 [(3, [1, 4, 5, 13, 14])]).getD ⟨0, .skip, [], []⟩
def F7 (p : Prg) (mem : List Int) (l : List Ent) (k addr : Int) : St := ⟨mkS 65 [(1, .c (.d (.sl (rowsOn mem)))), (4, .c (.d (.int .i64 addr))), (5, .c (.bptr 320 1 0)), (13, .c (.d (.sl (rowsOn l)))), (14, .c (.d (.int .i64 k)))],
  [(320, ⟨1, false, .box (p.cells.map .d)⟩), (1152, ⟨0, false, .dead⟩), (1153, ⟨0, false, .dead⟩), (1154, ⟨0, false, .dead⟩), (960, ⟨0, false, .dead⟩), (2112, ⟨0, false, .dead⟩), (2113, ⟨0, false, .dead⟩), (2114, ⟨0, false, .dead⟩)]⟩

theorem t7a (p : Prg) (mem : List Int) (l : List Ent) (i addr : Int) : fa7.start sp0 100 [.agg p.cells, .c (.sl (rowsOn mem)), .c (.sl (rowsOn l)), .c (.int .i64 i), .c (.int .i64 addr)] =
(VC.need (sp0.pre 14 [A.c (D.sl (rowsOn l)), A.c (D.int IntKind.i64 i)])
(FnA.at_ fa7 0 (F7 p mem (cutS (listOf Ent (rowsOn l)) i) (IntKind.wrap IntKind.i64 (↑(List.length (rowsOn (cutS (listOf Ent (rowsOn l)) i))) - 1)) addr))) := by kernel_rfl
theorem t7b (p : Prg) (mem : List Int) (l : List Ent) (k addr : Int) : fa7.round sp0 100 0 (F7 p mem l k addr) =
(VC.br (decide (0 ≤ k))
 (VC.need (0 ≤ k ∧ k < ↑(List.length (rowsOn l)) ∧ List.length (rowAt (rowsOn l) (Int.toNat k)) = 8)
 (VC.need (okSh [Kd.int IntKind.i64, Kd.int IntKind.i64, Kd.int IntKind.i64, Kd.int IntKind.i64, Kd.int IntKind.i64, Kd.bool, Kd.bool, Kd.bool] (rowAt (rowsOn l) (Int.toNat k)))
 (VC.need (sp0.pre 15 [A.agg [D.int IntKind.i64 p.w, D.int IntKind.i64 p.window, D.int IntKind.i64 p.fuel, D.int IntKind.i64 p.r0, D.int IntKind.i64 p.r1, D.int IntKind.i64 p.r2, D.int IntKind.i64 p.r3, D.sl (rowsOn p.mems), D.sl (rowsOn p.labels), D.sl (rowsOn p.ins)], A.c (D.int IntKind.i64 (asInt (List.getD (rowAt (rowsOn l) (Int.toNat k)) 0 D.nilp)))])
 (VC.br ((atS (listOf Ins (rowsOn p.ins)) (asInt (List.getD (rowAt (rowsOn l) (Int.toNat k)) 0 D.nilp))).kind != 3)
  (FnA.at_ fa7 0 (F7 p mem l (IntKind.wrap IntKind.i64 (k - 1)) addr))
  (VC.br (!asBool (List.getD (rowAt (rowsOn l) (Int.toNat k)) 6 D.nilp))
   (FnA.at_ fa7 0 (F7 p mem l (IntKind.wrap IntKind.i64 (k - 1)) addr))
   (VC.br (asInt (List.getD (rowAt (rowsOn l) (Int.toNat k)) 2 D.nilp) != addr)
    (FnA.at_ fa7 0 (F7 p mem l (IntKind.wrap IntKind.i64 (k - 1)) addr))
    (VC.br (!asBool (List.getD (rowAt (rowsOn l) (Int.toNat k)) 5 D.nilp))
     (VC.ret (some (RR.tup [Sum.inl (Rc.d (D.int IntKind.i64 0)), Sum.inl (Rc.d (D.int IntKind.i64 0)), Sum.inl (Rc.d (D.bool false))])))
     (VC.ret (some (RR.tup [Sum.inl (Rc.d (D.int IntKind.i64 (asInt (List.getD (rowAt (rowsOn l) (Int.toNat k)) 1 D.nilp)))), Sum.inl (Rc.d (D.int IntKind.i64 k)), Sum.inl (Rc.d (D.bool true))]))))))))))
 (VC.br (decide (addr < 0))
  (VC.ret (some (RR.tup [Sum.inl (Rc.d (D.int IntKind.i64 0)), Sum.inl (Rc.d (D.int IntKind.i64 (-1))), Sum.inl (Rc.d (D.bool true))])))
  (VC.br (decide (↑(List.length (rowsOn mem)) ≤ addr))
   (VC.ret (some (RR.tup [Sum.inl (Rc.d (D.int IntKind.i64 0)), Sum.inl (Rc.d (D.int IntKind.i64 (-1))), Sum.inl (Rc.d (D.bool true))])))
   (VC.need (0 ≤ addr ∧ addr < ↑(List.length (rowsOn mem)) ∧ List.length (rowAt (rowsOn mem) (Int.toNat addr)) = 1)
   (VC.need (okSh [Kd.int IntKind.i64] (rowAt (rowsOn mem) (Int.toNat addr)))
   (VC.ret (some (RR.tup [Sum.inl (Rc.d (D.int IntKind.i64 (asInt (List.getD (rowAt (rowsOn mem) (Int.toNat addr)) 0 D.nilp)))), Sum.inl (Rc.d (D.int IntKind.i64 (-1))), Sum.inl (Rc.d (D.bool true))])))))))) := by kernel_rfl

theorem load_loop (hsp : sp0.sound Try.prog) (p : Prg) (mem : List Int) (l : List Ent) (addr : Int) (hl : (l.length : Int) ≤ 4611686018427387904) : ∀ n : Nat, n ≤ l.length → (fa7.at_ 0 (F7 p mem l ((n : Int) - 1) addr)).holds sp0.cx fa7.rs fun r => r = tup3 (loadS p.ins mem l addr n) := by
  intro n
  induction n with
  | zero =>
    intro _
    refine at_of_round hsp (m := 100) ?_
    rw [t7b]
    refine br_holds (fun h => by simp at h) (fun _ => ?_)
    refine br_holds (fun h => ?_) (fun h1 => br_holds (fun h => ?_) (fun h2 => ?_))
    · have : addr < 0 := by simpa using h
      simp [VC.holds, tup3, loadS, scan, this]
    · have : (mem.length : Int) ≤ addr := by simpa using h
      simp [VC.holds, tup3, loadS, scan, this]
    · have h1 : ¬ addr < 0 := by simpa using h1
      have h2 : ¬ (mem.length : Int) ≤ addr := by simpa using h2
      have hi : addr.toNat < mem.length := by omega
      have hrow := rowAt_rowsOn mem addr.toNat hi
      rw [hrow]
      refine ⟨⟨by omega, by rw [rowsOn_length]; omega, rfl⟩, rfl, ?_⟩
      simp only [VC.holds, tup3, loadS, scan, h1, h2, or_self, if_false, List.getD_eq_getElem?_getD, List.getElem?_eq_getElem hi]
      rfl
  | succ n ih =>
    intro hn
    have hn' : n < l.length := by omega
    have hk : ((n + 1 : Nat) : Int) - 1 = n := by omega
    rw [hk]
    refine at_of_round hsp (m := 100) ?_
    rw [t7b]
    have hrow := rowAt_rowsOn l n hn'
    have hgd : l.getD n default = l[n] := by rw [List.getD_eq_getElem?_getD, List.getElem?_eq_getElem hn']; rfl
    have htn : ((n : Int)).toNat = n := by omega
    have hw : IntKind.wrap .i64 ((n : Int) - 1) = (n : Int) - 1 := wrap_small _ (by omega) (by omega)
    rw [htn, hrow, hw]
    refine br_holds (fun _ => ?_) (fun h => by simp at h)
    refine ⟨⟨by omega, by rw [rowsOn_length]; omega, rfl⟩, rfl, ?_, ?_⟩
    · refine ⟨by simp, ?_⟩
      exact ⟨by rw [listOf_rowsOn], by rw [listOf_rowsOn], by rw [listOf_rowsOn]⟩
    rw [listOf_rowsOn]
    show (VC.br ((atS p.ins l[n].pc).kind != 3) _ (VC.br (!l[n].known) _ (VC.br (l[n].addr != addr) _ (VC.br (!l[n].done) _ _)))).holds _ _ _
    have ih := ih (by omega)
    have hs : scan p.ins l addr (n + 1) = if (atS p.ins l[n].pc).kind = 3 ∧ l[n].known = true ∧ l[n].addr = addr then some n else scan p.ins l addr n := by simp only [scan, hgd]
    unfold loadS
    rw [hs]
    refine br_holds (fun h => ?_) (fun h1 => br_holds (fun h => ?_) (fun h2 => br_holds (fun h => ?_) (fun h3 => br_holds (fun h => ?_) (fun h4 => ?_))))
    · have : ¬ (atS p.ins l[n].pc).kind = 3 := by simpa using h
      rw [if_neg (by simp [this])]; exact ih
    · have : l[n].known = false := by simpa using h
      rw [if_neg (by simp [this])]; exact ih
    · have : ¬ l[n].addr = addr := by simpa using h
      rw [if_neg (by simp [this])]; exact ih
    · have h1 : (atS p.ins l[n].pc).kind = 3 := by simpa using h1
      have h2 : l[n].known = true := by simpa using h2
      have h3 : l[n].addr = addr := by simpa using h3
      have h4 : l[n].done = false := by simpa using h
      rw [if_pos ⟨h1, h2, h3⟩]
      simp only [VC.holds, tup3, hgd, h4, Bool.false_eq_true, if_false]
    · have h1 : (atS p.ins l[n].pc).kind = 3 := by simpa using h1
      have h2 : l[n].known = true := by simpa using h2
      have h3 : l[n].addr = addr := by simpa using h3
      have h4 : l[n].done = true := by simpa using h4
      rw [if_pos ⟨h1, h2, h3⟩]
      simp only [VC.holds, tup3, hgd, h4, if_true]
      rfl

theorem load_calls (p : Prg) (mem : List Int) (l : List Ent) (i addr : Int) (hl : l.length ≤ 1000000000) :
    ACalls Try.prog 7 [.agg p.cells, .c (.sl (rowsOn mem)), .c (.sl (rowsOn l)), .c (.int .i64 i), .c (.int .i64 addr)] (tup3 (loadS p.ins mem (cutS l i) addr (cutS l i).length)) := by
  have hsp := sp0_sound
  refine acalls_of hsp (fn := Try.f7) (a := fa7) (nargs := 5) (tbl := [(3, [1, 4, 5, 13, 14])]) (by kernel_rfl) (by kernel_rfl) rfl (m := 100) ?_
  rw [t7a]
  have hle : (cutS l i).length ≤ l.length := by simp only [cutS, List.length_take]; omega
  refine ⟨⟨by simp, ?_⟩, ?_⟩
  · exact ⟨by rw [listOf_rowsOn], by rw [rowsOn_length]; exact hl⟩
  · rw [listOf_rowsOn, rowsOn_length, wrap_small _ (by omega) (by omega)]
    exact load_loop hsp p mem (cutS l i) addr (by omega) _ (Nat.le_refl _)
theorem good7 : Good 7 := by
  intro xs hp
  unfold pre0 at hp
  split at hp
  · rename_i heq; cases heq
  · rename_i heq; cases heq
  · rename_i heq; cases heq
  · rename_i w wi fu r0 r1 r2 r3 ms ls is mem l i addr heq
    obtain ⟨⟨h1, h2, h3⟩, h4, h5, h6⟩ := hp
    have hlen : (listOf Ent l).length ≤ 1000000000 := by rw [h5, rowsOn_length] at h6; exact h6
    have := load_calls ⟨w, wi, fu, r0, r1, r2, r3, listOf PMem ms, listOf PLabel ls, listOf Ins is⟩ (listOf Int mem) (listOf Ent l) i addr hlen
    simp only [Prg.cells, ← h1, ← h2, ← h3, ← h4, ← h5] at this
    exact ⟨this, ⟨Try.f7, by kernel_rfl, by decide +kernel, by kernel_rfl⟩, rfl⟩
  · rename_i heq; cases heq
  · exact hp.elim
end Go.Proofs.Ytggidmcojepkgaa.Ax
