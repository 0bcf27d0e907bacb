/- States that are begun: what arch's and the reference's Start come to. -/
import Derived.Test.YtclabjihjopclaaF4
namespace Go.Proofs.Ytclabjihjopclaa.Ax
open Go.RowKit
set_option linter.unusedVariables false
set_option linter.unusedSimpArgs false
def al (l : List Int) : A := .c (.sl (rowsOn l))
def rdPL : List A → Prg × List Int
  | [.agg l, .c (.sl m)] => (Prg.of l, listOf Int m)
  | _ => (default, [])
def rstab (x : Sta × Bool) : RR := .tup [.inr x.1.fresh, .inl (.d (.bool x.2))]
theorem fill_step (w : Int) (q : List Place) (l : List Int) (k : Int) (s : Sta) (h0 : 0 ≤ k) (h1 : k < q.length) (h2 : k < l.length) : fillS w (q.drop k.toNat) (l.drop k.toNat) s = fillS w (q.drop (k + 1).toNat) (l.drop (k + 1).toNat) (putPlace s (rd q k) (maskS w (rd l k))) := by
  rw [drop_rd q k h0 h1, drop_rd l k h0 h2]; rfl
/-- Places that there are. -/
def PlacesOk (q : List Place) (c : Int) : Prop := ∀ x ∈ q, (x.reg = true → 0 ≤ x.n ∧ x.n < 4) ∧ (x.reg = false → 0 ≤ x.n ∧ x.n < c)
theorem memPlaces_ok : ∀ (ms : List PMem) (at_ : Int), 0 ≤ at_ → (∀ m ∈ ms, 0 ≤ m.n ∧ m.n ≤ 16) → ∀ x ∈ memPlaces ms at_, x.reg = false ∧ 0 ≤ x.n ∧ x.n < at_ + cellsS ms
  | [], _, _, _, x, hx => by simp [memPlaces] at hx
  | m :: ms, at_, h0, hm, x, hx => by
    have h1 := hm m (by simp)
    have h2 := cellsS_nonneg (ms := ms) fun y hy => hm y (by simp [hy])
    simp only [memPlaces, List.mem_append] at hx
    simp only [cellsS]
    rcases hx with hx | hx
    · unfold memPlace at hx
      obtain ⟨k, hk, rfl⟩ := List.mem_map.1 hx
      have := List.mem_range.1 hk
      refine ⟨rfl, ?_, ?_⟩ <;> simp only <;> omega
    · obtain ⟨g1, g2, g3⟩ := memPlaces_ok ms (at_ + m.n) (by omega) (fun y hy => hm y (by simp [hy])) x hx
      exact ⟨g1, g2, by omega⟩
theorem regPlace_ok {n r : Int} {x : Place} (h : x ∈ regPlace n r) : x.reg = true ∧ x.n = r := by
  unfold regPlace at h
  split at h
  · simp at h
  · simp only [List.mem_singleton] at h; subst h; exact ⟨rfl, rfl⟩
theorem places_ok (p : Prg) (hm : Mems p.mems) : PlacesOk (placesS p) (cellsS p.mems) := by
  intro x hx
  unfold placesS regPlaces at hx
  simp only [List.mem_append] at hx
  rcases hx with (((hx | hx) | hx) | hx) | hx
  · obtain ⟨h1, h2⟩ := regPlace_ok hx; exact ⟨fun _ => by omega, fun h => by rw [h1] at h; cases h⟩
  · obtain ⟨h1, h2⟩ := regPlace_ok hx; exact ⟨fun _ => by omega, fun h => by rw [h1] at h; cases h⟩
  · obtain ⟨h1, h2⟩ := regPlace_ok hx; exact ⟨fun _ => by omega, fun h => by rw [h1] at h; cases h⟩
  · obtain ⟨h1, h2⟩ := regPlace_ok hx; exact ⟨fun _ => by omega, fun h => by rw [h1] at h; cases h⟩
  · obtain ⟨h1, h2, h3⟩ := memPlaces_ok p.mems 0 (Int.le_refl _) hm.n x hx
    exact ⟨fun h => (by rw [h1] at h; cases h), fun _ => by omega⟩
theorem regPlace_len (n r : Int) : (regPlace n r).length ≤ 1 := by unfold regPlace; split <;> simp
theorem memPlaces_len : ∀ (ms : List PMem) (at_ : Int), (∀ m ∈ ms, 0 ≤ m.n ∧ m.n ≤ 16) → (memPlaces ms at_).length = cellsS ms
  | [], _, _ => rfl
  | m :: ms, at_, h => by
    have h1 := h m (by simp)
    simp only [memPlaces, memPlace, cellsS, List.length_append, List.length_map, List.length_range]
    have := memPlaces_len ms (at_ + m.n) (fun y hy => h y (by simp [hy]))
    omega
theorem places_len (p : Prg) (hm : Mems p.mems) : (placesS p).length ≤ 4 + cellsS p.mems ∧ cellsS p.mems ≤ 1600 ∧ 0 ≤ cellsS p.mems := by
  have h1 := cellsS_nonneg hm.n
  have h2 := hm.len
  have h3 := memPlaces_len p.mems 0 hm.n
  have g0 := regPlace_len p.r0 0
  have g1 := regPlace_len p.r1 1
  have g2 := regPlace_len p.r2 2
  have g3 := regPlace_len p.r3 3
  unfold placesS regPlaces
  simp only [List.length_append]
  omega
theorem zero_le (b : Bool) : (RR.tup [.inr [.d (.int .i64 0), .d (.int .i64 0), .d (.int .i64 0), .d (.int .i64 0), .nil, .nil, .d (.int .i64 0)], .inl (.d (.bool b))]).le (rstab (zeroSta 0, b)) := ⟨⟨rfl, rfl, rfl, rfl, rfl, rfl, rfl, trivial⟩, rfl, trivial⟩
def c_aStart : FT (Prg × List Int) := ⟨38, fun x => [ap x.1, al x.2], rdPL, fun x => Mems x.1.mems, fun x => rstab (startS x.1 x.2), false, fun x => by simp [ap, al, rdPL]⟩
noncomputable def a_aStart : FnA := (fnA Try.prog Try.f38 2 [(6, [1, 2, 4, 7, 23, 24, 25])]).getD ⟨0, .skip, [], []⟩
def s_aStart : Sp := spT [c_aPlaces.fe, c_aCells.fe, c_wMask.fe]
theorem s_aStart_sound : s_aStart.sound Try.prog := spT_sound fun e he => by
  simp only [List.mem_cons, List.not_mem_nil, or_false] at he
  rcases he with rfl | rfl | rfl
  · exact c_aPlaces_good
  · exact c_aCells_good
  · exact c_wMask_good
def F_aStart (p : Prg) (l : List Int) (q : List Place) (k r0 r1 r2 r3 : Int) (R : List (List D)) (n : Nat) : St := ⟨mkS 52 [(1, vr (rowsOn l)), (2, vp 128), (4, vp 256), (7, vp 448), (23, vo 768 (rowsOn q).length), (24, vi (rowsOn q).length), (25, vi k)],
  [(128, bx p.cells), (256, bc [.d (.int .i64 0), .d (.int .i64 0), .d (.int .i64 0), .d (.int .i64 0), .nil, .nil, .d (.int .i64 0)]), (448, bc [.d (.int .i64 r0), .d (.int .i64 r1), .d (.int .i64 r2), .d (.int .i64 r3), .own 1344 1 n, .nil, .d (.int .i64 0)]), (768, ba 3 (rowsOn q)), (1344, ba 1 R)]⟩
set_option maxRecDepth 100000 in
theorem t_aStart (p : Prg) (l : List Int) : a_aStart.start s_aStart 400 [ap p, al l] =
(VC.need (PreOk c_aPlaces p [A.agg (Prg.cells p)])
(VC.br ((↑(List.length (rowsOn l)) : Int) != (↑(List.length (rowsOn (placesS { w := p.w, window := p.window, fuel := p.fuel, r0 := p.r0, r1 := p.r1, r2 := p.r2, r3 := p.r3, mems := listOf PMem (rowsOn p.mems), labels := listOf PLabel (rowsOn p.labels), ins := listOf Ins (rowsOn p.ins) }))) : Int))
 (VC.ret (some (RR.tup [Sum.inr [Rc.d (D.int IntKind.i64 (0 : Int)), Rc.d (D.int IntKind.i64 (0 : Int)), Rc.d (D.int IntKind.i64 (0 : Int)), Rc.d (D.int IntKind.i64 (0 : Int)), Rc.nil, Rc.nil, Rc.d (D.int IntKind.i64 (0 : Int))], Sum.inl (Rc.d (D.bool false))])))
 (VC.need (PreOk c_aCells p [A.agg (Prg.cells p)])
 (VC.need (cellsS (listOf PMem (rowsOn p.mems)) = cellsS (listOf PMem (rowsOn p.mems)) ∧ (0 : Int) ≤ cellsS (listOf PMem (rowsOn p.mems)) ∧ (9 : Int) * cellsS (listOf PMem (rowsOn p.mems)) ≤ (140737488355328 : Int))
 (FnA.at_ a_aStart 0 (F_aStart p l (placesS { w := p.w, window := p.window, fuel := p.fuel, r0 := p.r0, r1 := p.r1, r2 := p.r2, r3 := p.r3, mems := listOf PMem (rowsOn p.mems), labels := listOf PLabel (rowsOn p.labels), ins := listOf Ins (rowsOn p.ins) }) (0 : Int) (0 : Int) (0 : Int) (0 : Int) (0 : Int) (List.replicate (Int.toNat (cellsS (listOf PMem (rowsOn p.mems)))) [D.int IntKind.i64 (0 : Int)]) (Int.toNat (cellsS (listOf PMem (rowsOn p.mems)))))))))) := by kernel_rfl
set_option maxRecDepth 100000 in
theorem t_aStart0 (p : Prg) (l : List Int) (q : List Place) (k r0 r1 r2 r3 : Int) (R : List (List D)) (n : Nat) : a_aStart.round s_aStart 400 0 (F_aStart p l q k r0 r1 r2 r3 R n) =
(VC.br (decide (k < (↑(List.length (rowsOn q)) : Int)))
 (VC.need ((0 : Int) ≤ k ∧ k < (↑(List.length (rowsOn q)) : Int))
 (VC.need (Int.toNat k < List.length (rowsOn q) ∧ List.length (rowAt (rowsOn q) (Int.toNat k)) = (3 : Nat) ∧ okSh [Kd.bool, Kd.int IntKind.i64, Kd.bool] (List.drop (0 : Nat) (rowAt (rowsOn q) (Int.toNat k))))
 (VC.need ((0 : Int) ≤ k ∧ k < (↑(List.length (rowsOn l)) : Int) ∧ List.length (rowAt (rowsOn l) (Int.toNat k)) = (1 : Nat))
 (VC.need (okSh [Kd.int IntKind.i64] (rowAt (rowsOn l) (Int.toNat k)))
 (VC.need (PreOk c_wMask (p.w, asInt (List.getD (rowAt (rowsOn l) (Int.toNat k)) (0 : Nat) D.nilp)) [A.c (D.int IntKind.i64 p.w), A.c (D.int IntKind.i64 (asInt (List.getD (rowAt (rowsOn l) (Int.toNat k)) (0 : Nat) D.nilp)))])
 (VC.br (asBool (List.getD (List.drop (0 : Nat) (rowAt (rowsOn q) (Int.toNat k))) (0 : Nat) D.nilp))
  (VC.br (decide (asInt (List.getD (List.drop (0 : Nat) (rowAt (rowsOn q) (Int.toNat k))) (1 : Nat) D.nilp) = (0 : Int)))
   (FnA.at_ a_aStart 0 (F_aStart p l q (IntKind.wrap IntKind.i64 (k + (1 : Int))) (maskS p.w (asInt (List.getD (rowAt (rowsOn l) (Int.toNat k)) (0 : Nat) D.nilp))) r1 r2 r3 R n))
   (VC.br (decide (asInt (List.getD (List.drop (0 : Nat) (rowAt (rowsOn q) (Int.toNat k))) (1 : Nat) D.nilp) = (1 : Int)))
    (FnA.at_ a_aStart 0 (F_aStart p l q (IntKind.wrap IntKind.i64 (k + (1 : Int))) r0 (maskS p.w (asInt (List.getD (rowAt (rowsOn l) (Int.toNat k)) (0 : Nat) D.nilp))) r2 r3 R n))
    (VC.br (decide (asInt (List.getD (List.drop (0 : Nat) (rowAt (rowsOn q) (Int.toNat k))) (1 : Nat) D.nilp) = (2 : Int)))
     (FnA.at_ a_aStart 0 (F_aStart p l q (IntKind.wrap IntKind.i64 (k + (1 : Int))) r0 r1 (maskS p.w (asInt (List.getD (rowAt (rowsOn l) (Int.toNat k)) (0 : Nat) D.nilp))) r3 R n))
     (VC.br (decide (asInt (List.getD (List.drop (0 : Nat) (rowAt (rowsOn q) (Int.toNat k))) (1 : Nat) D.nilp) = (3 : Int)))
      (FnA.at_ a_aStart 0 (F_aStart p l q (IntKind.wrap IntKind.i64 (k + (1 : Int))) r0 r1 r2 (maskS p.w (asInt (List.getD (rowAt (rowsOn l) (Int.toNat k)) (0 : Nat) D.nilp))) R n))
      VC.ff))))
  (VC.need ((0 : Int) ≤ asInt (List.getD (List.drop (0 : Nat) (rowAt (rowsOn q) (Int.toNat k))) (1 : Nat) D.nilp) ∧ asInt (List.getD (List.drop (0 : Nat) (rowAt (rowsOn q) (Int.toNat k))) (1 : Nat) D.nilp) < (↑n : Int))
  (VC.need (Int.toNat (asInt (List.getD (List.drop (0 : Nat) (rowAt (rowsOn q) (Int.toNat k))) (1 : Nat) D.nilp)) < List.length R ∧ List.length (rowAt R (Int.toNat (asInt (List.getD (List.drop (0 : Nat) (rowAt (rowsOn q) (Int.toNat k))) (1 : Nat) D.nilp)))) = (1 : Nat) ∧ (1 : Nat) ≤ (1 : Nat))
  (FnA.at_ a_aStart 0 (F_aStart p l q (IntKind.wrap IntKind.i64 (k + (1 : Int))) r0 r1 r2 r3 (List.set R (Int.toNat (asInt (List.getD (List.drop (0 : Nat) (rowAt (rowsOn q) (Int.toNat k))) (1 : Nat) D.nilp))) (splice (rowAt R (Int.toNat (asInt (List.getD (List.drop (0 : Nat) (rowAt (rowsOn q) (Int.toNat k))) (1 : Nat) D.nilp)))) (0 : Nat) [D.int IntKind.i64 (maskS p.w (asInt (List.getD (rowAt (rowsOn l) (Int.toNat k)) (0 : Nat) D.nilp)))])) n))))))))))
 (VC.ret (some (RR.tup [Sum.inr [Rc.d (D.int IntKind.i64 r0), Rc.d (D.int IntKind.i64 r1), Rc.d (D.int IntKind.i64 r2), Rc.d (D.int IntKind.i64 r3), Rc.new (1 : Nat) R, Rc.nil, Rc.d (D.int IntKind.i64 (0 : Int))], Sum.inl (Rc.d (D.bool true))])))) := by kernel_rfl
theorem l_aStart0 (p : Prg) (l : List Int) (q : List Place) (c : Int) (fin : Sta) (hq : PlacesOk q c) (hlen : l.length = q.length) (hl : q.length ≤ 10000) : ∀ i : Int × Int × Int × Int × Int × List (List D) × Nat, (fun (i : Int × Int × Int × Int × Int × List (List D) × Nat) => 0 ≤ i.1 ∧ i.1 ≤ q.length ∧ ∃ mem : List Int, OnL i.2.2.2.2.2.1 i.2.2.2.2.2.2 mem ∧ mem.length = c ∧ fillS p.w (q.drop i.1.toNat) (l.drop i.1.toNat) ⟨i.2.1, i.2.2.1, i.2.2.2.1, i.2.2.2.2.1, mem, [], 0⟩ = fin) i → (a_aStart.at_ 0 ((fun (i : Int × Int × Int × Int × Int × List (List D) × Nat) => F_aStart p l q i.1 i.2.1 i.2.2.1 i.2.2.2.1 i.2.2.2.2.1 i.2.2.2.2.2.1 i.2.2.2.2.2.2) i)).holds s_aStart.cx a_aStart.rs (fun r => r.le (rstab (fin, true))) := by
  refine loop_rule (a := a_aStart) (j := 0) (m := 400) s_aStart_sound (fun (i : Int × Int × Int × Int × Int × List (List D) × Nat) => F_aStart p l q i.1 i.2.1 i.2.2.1 i.2.2.2.1 i.2.2.2.2.1 i.2.2.2.2.2.1 i.2.2.2.2.2.2) (fun (i : Int × Int × Int × Int × Int × List (List D) × Nat) => 0 ≤ i.1 ∧ i.1 ≤ q.length ∧ ∃ mem : List Int, OnL i.2.2.2.2.2.1 i.2.2.2.2.2.2 mem ∧ mem.length = c ∧ fillS p.w (q.drop i.1.toNat) (l.drop i.1.toNat) ⟨i.2.1, i.2.2.1, i.2.2.2.1, i.2.2.2.2.1, mem, [], 0⟩ = fin) (fun (i : Int × Int × Int × Int × Int × List (List D) × Nat) => ((q.length : Int) - i.1).toNat) ?_
  rintro ⟨k, r0, r1, r2, r3, R, n⟩ h_inv ih
  try dsimp only at h_inv
  replace ih := fun (v0 : Int) (v1 : Int) (v2 : Int) (v3 : Int) (v4 : Int) (v5 : List (List D)) (v6 : Nat) => ih (v0, v1, v2, v3, v4, v5, v6)
  try dsimp only at ih
  show VC.holds _ _ _ (a_aStart.round s_aStart 400 0 (F_aStart p l q k r0 r1 r2 r3 R n))
  rw [t_aStart0]
  try simp only [asRows_sl, asInt_int, asBool_bool, asStr_str, listOf_rowsOn, List.drop_zero, Prg.eta, Sta.eta, rowsOn_length, getD_drop, Nat.reduceAdd, rd_int, rd_PMem_name, rd_PMem_secret, rd_PMem_n, rd_PLabel_name, rd_PLabel_at_, rd_Ins_kind, rd_Ins_op, rd_Ins_d, rd_Ins_aR, rd_Ins_aN, rd_Ins_bR, rd_Ins_bN, rd_Ins_name, rd_Ins_target, rd_Ent_pc, rd_Ent_val, rd_Ent_addr, rd_Ent_fro, rd_Ent_next, rd_Ent_done, rd_Ent_known, rd_Ent_fault, rd_Place_reg, rd_Place_n, rd_Place_secret, rd_Obs_kind, rd_Obs_at_, rd_Dir_kind, rd_Dir_n]
  obtain ⟨h0, h1, mem, h2, h3, h4⟩ := h_inv
  have w1 : IntKind.wrap .i64 (k + 1) = k + 1 := wrap_small _ (by omega) (by omega)
  rw [w1]
  repeat' first
    | refine br_not ?_
    | refine br_dec (fun _ => ?_) (fun _ => ?_)
    | refine br_beq (fun _ => ?_) (fun _ => ?_)
    | refine br_bne (fun _ => ?_) (fun _ => ?_)
    | refine br_holds (fun _ => ?_) (fun _ => ?_)
    | refine ⟨PreOk.mk ?_ rfl, ?_⟩
    | refine ⟨idx_ok _ _ _ rfl (by omega) (by omega), ?_⟩
    | refine ⟨okSh_ok _ _ _ (fun _ => rfl) (by omega) (by omega), ?_⟩
    | refine ⟨okSh_okD _ _ _ _ (fun _ => rfl) (by omega) (by omega), ?_⟩
    | refine ⟨aload_ok _ _ rfl (fun _ => rfl) (by omega) (by omega), ?_⟩
    | refine ⟨aload_okD _ _ _ rfl (fun _ => rfl) (by omega) (by omega), ?_⟩
    | refine ⟨astore_ok (by assumption) rfl (by omega) (by omega) (by decide), ?_⟩
    | refine ⟨app_ok (by assumption) rfl rfl (by simp only [List.length_cons, List.length_nil]; omega), ?_⟩
    | refine need_holds ?_ fun _ => ?_
    | refine all_holds fun y hy => ?_
    | refine ret_le ?_
    | refine ih _ _ _ _ _ _ _ ?_ ?_
  all_goals try trivial
  all_goals try have hk : k < q.length := by assumption
  all_goals try have hx := hq _ (rd_mem q k h0 hk)
  all_goals try rw [fill_step p.w q l k _ h0 hk (by omega)] at h4
  · refine ⟨by omega, by omega, mem, h2, h3, ?_⟩
    simpa [putPlace, Sta.setReg, *] using h4
  · omega
  · refine ⟨by omega, by omega, mem, h2, h3, ?_⟩
    simpa [putPlace, Sta.setReg, *] using h4
  · omega
  · refine ⟨by omega, by omega, mem, h2, h3, ?_⟩
    simpa [putPlace, Sta.setReg, *] using h4
  · omega
  · refine ⟨by omega, by omega, mem, h2, h3, ?_⟩
    simpa [putPlace, Sta.setReg, *] using h4
  · omega
  · have := hx.1 ‹_›
    omega
  · have := hx.2 ‹_›
    have := h2.2
    omega
  · have := hx.2 ‹_›
    exact astore_ok h2 rfl (by omega) (by omega) (by decide)
  · have := hx.2 ‹_›
    refine ⟨by omega, by omega, mem.set (rd q k).n.toNat (maskS p.w (rd l k)), h2.set (by omega) (by omega) (maskS p.w (rd l k)), by simpa using h3, ?_⟩
    simpa [putPlace, *] using h4
  · omega
  · have hk : k.toNat = q.length := by omega
    rw [hk, List.drop_length] at h4
    simp only [fillS] at h4
    obtain ⟨rfl, rfl⟩ := h2
    subst h4
    exact ⟨⟨rfl, rfl, rfl, rfl, rfl, rfl, rfl, trivial⟩, rfl, trivial⟩
theorem c_aStart_good : c_aStart.fe.Good Try.prog := by
  refine FT.good c_aStart ⟨Try.f38, by kernel_rfl, by decide +kernel, by kernel_rfl⟩ (fun ⟨p, l⟩ => by first | rfl | simp [c_aStart, rrRef, rplaces, Sta.fresh, rstab]) fun ⟨p, l⟩ hp => ?_
  refine acalls_le s_aStart_sound (fn := Try.f38) (a := a_aStart) (nargs := 2) (tbl := [(6, [1, 2, 4, 7, 23, 24, 25])]) (by kernel_rfl) (by kernel_rfl) rfl (m := 400) ?_
  show VC.holds _ _ _ (a_aStart.start s_aStart 400 [ap p, al l])
  rw [t_aStart]
  try simp only [asRows_sl, asInt_int, asBool_bool, asStr_str, listOf_rowsOn, List.drop_zero, Prg.eta, Sta.eta, rowsOn_length, getD_drop, Nat.reduceAdd, rd_int, rd_PMem_name, rd_PMem_secret, rd_PMem_n, rd_PLabel_name, rd_PLabel_at_, rd_Ins_kind, rd_Ins_op, rd_Ins_d, rd_Ins_aR, rd_Ins_aN, rd_Ins_bR, rd_Ins_bN, rd_Ins_name, rd_Ins_target, rd_Ent_pc, rd_Ent_val, rd_Ent_addr, rd_Ent_fro, rd_Ent_next, rd_Ent_done, rd_Ent_known, rd_Ent_fault, rd_Place_reg, rd_Place_n, rd_Place_secret, rd_Obs_kind, rd_Obs_at_, rd_Dir_kind, rd_Dir_n]
  try simp only [c_aStart] at hp
  have hm : Mems p.mems := hp
  have hpl := places_len p hm
  repeat' first
    | refine br_not ?_
    | refine br_dec (fun _ => ?_) (fun _ => ?_)
    | refine br_beq (fun _ => ?_) (fun _ => ?_)
    | refine br_bne (fun _ => ?_) (fun _ => ?_)
    | refine br_holds (fun _ => ?_) (fun _ => ?_)
    | refine ⟨PreOk.mk ?_ rfl, ?_⟩
    | refine ⟨idx_ok _ _ _ rfl (by omega) (by omega), ?_⟩
    | refine ⟨okSh_ok _ _ _ (fun _ => rfl) (by omega) (by omega), ?_⟩
    | refine ⟨okSh_okD _ _ _ _ (fun _ => rfl) (by omega) (by omega), ?_⟩
    | refine ⟨aload_ok _ _ rfl (fun _ => rfl) (by omega) (by omega), ?_⟩
    | refine ⟨aload_okD _ _ _ rfl (fun _ => rfl) (by omega) (by omega), ?_⟩
    | refine ⟨astore_ok (by assumption) rfl (by omega) (by omega) (by decide), ?_⟩
    | refine ⟨app_ok (by assumption) rfl rfl (by simp only [List.length_cons, List.length_nil]; omega), ?_⟩
    | refine need_holds ?_ fun _ => ?_
    | refine all_holds fun y hy => ?_
    | refine ret_le ?_
  all_goals try exact hm
  · exact ⟨trivial, by omega, by omega⟩
  · have hll : l.length = (placesS p).length := by omega
    have e : c_aStart.ans (p, l) = rstab (fillS p.w (placesS p) l (zeroSta (cellsS p.mems).toNat), true) := by simp only [c_aStart, startS, if_pos hll]
    rw [e]
    exact l_aStart0 p l (placesS p) (cellsS p.mems) _ (places_ok p hm) hll (by omega) (0, 0, 0, 0, 0, _, _) ⟨by simp, by simp, List.replicate (cellsS p.mems).toNat 0, OnL.rep _ (0 : Int), by simp; omega, rfl⟩
  · have : ¬ l.length = (placesS p).length := by omega
    have e : c_aStart.ans (p, l) = rstab (zeroSta 0, false) := by simp only [c_aStart, startS, if_neg this]
    rw [e]
    exact zero_le false
def c_rStart : FT (Prg × List Int) := ⟨74, fun x => [ap x.1, al x.2], rdPL, fun x => Mems x.1.mems, fun x => rstab (startS x.1 x.2), false, fun x => by simp [ap, al, rdPL]⟩
noncomputable def a_rStart : FnA := (fnA Try.prog Try.f74 2 [(6, [1, 2, 4, 6, 7, 8])]).getD ⟨0, .skip, [], []⟩
def s_rStart : Sp := spT [c_rPlaces.fe, c_rCells.fe, c_rMask.fe]
theorem s_rStart_sound : s_rStart.sound Try.prog := spT_sound fun e he => by
  simp only [List.mem_cons, List.not_mem_nil, or_false] at he
  rcases he with rfl | rfl | rfl
  · exact c_rPlaces_good
  · exact c_rCells_good
  · exact c_rMask_good
def F_rStart (p : Prg) (l : List Int) (q : List Place) (k r0 r1 r2 r3 : Int) (R : List (List D)) (n : Nat) : St := ⟨mkS 58 [(1, vr (rowsOn l)), (2, vp 128), (4, vp 256), (6, vo 704 (rowsOn q).length), (7, vp 448), (8, vi k)],
  [(128, bx p.cells), (256, bc [.d (.int .i64 0), .d (.int .i64 0), .d (.int .i64 0), .d (.int .i64 0), .nil, .nil, .d (.int .i64 0)]), (448, bc [.d (.int .i64 r0), .d (.int .i64 r1), .d (.int .i64 r2), .d (.int .i64 r3), .own 1280 1 n, .nil, .d (.int .i64 0)]), (704, ba 3 (rowsOn q)), (1280, ba 1 R)]⟩
set_option maxRecDepth 100000 in
theorem t_rStart (p : Prg) (l : List Int) : a_rStart.start s_rStart 400 [ap p, al l] =
(VC.need (PreOk c_rPlaces p [A.agg (Prg.cells p)])
(VC.br ((↑(List.length (rowsOn l)) : Int) != (↑(List.length (rowsOn (placesS { w := p.w, window := p.window, fuel := p.fuel, r0 := p.r0, r1 := p.r1, r2 := p.r2, r3 := p.r3, mems := listOf PMem (rowsOn p.mems), labels := listOf PLabel (rowsOn p.labels), ins := listOf Ins (rowsOn p.ins) }))) : Int))
 (VC.ret (some (RR.tup [Sum.inr [Rc.d (D.int IntKind.i64 (0 : Int)), Rc.d (D.int IntKind.i64 (0 : Int)), Rc.d (D.int IntKind.i64 (0 : Int)), Rc.d (D.int IntKind.i64 (0 : Int)), Rc.nil, Rc.nil, Rc.d (D.int IntKind.i64 (0 : Int))], Sum.inl (Rc.d (D.bool false))])))
 (VC.need (PreOk c_rCells p [A.agg (Prg.cells p)])
 (VC.need (cellsS (listOf PMem (rowsOn p.mems)) = cellsS (listOf PMem (rowsOn p.mems)) ∧ (0 : Int) ≤ cellsS (listOf PMem (rowsOn p.mems)) ∧ (9 : Int) * cellsS (listOf PMem (rowsOn p.mems)) ≤ (140737488355328 : Int))
 (FnA.at_ a_rStart 0 (F_rStart p l (placesS { w := p.w, window := p.window, fuel := p.fuel, r0 := p.r0, r1 := p.r1, r2 := p.r2, r3 := p.r3, mems := listOf PMem (rowsOn p.mems), labels := listOf PLabel (rowsOn p.labels), ins := listOf Ins (rowsOn p.ins) }) (0 : Int) (0 : Int) (0 : Int) (0 : Int) (0 : Int) (List.replicate (Int.toNat (cellsS (listOf PMem (rowsOn p.mems)))) [D.int IntKind.i64 (0 : Int)]) (Int.toNat (cellsS (listOf PMem (rowsOn p.mems)))))))))) := by kernel_rfl
set_option maxRecDepth 100000 in
theorem t_rStart0 (p : Prg) (l : List Int) (q : List Place) (k r0 r1 r2 r3 : Int) (R : List (List D)) (n : Nat) : a_rStart.round s_rStart 400 0 (F_rStart p l q k r0 r1 r2 r3 R n) =
(VC.br (decide (k < (↑(List.length (rowsOn q)) : Int)))
 (VC.need ((0 : Int) ≤ k ∧ k < (↑(List.length (rowsOn l)) : Int) ∧ List.length (rowAt (rowsOn l) (Int.toNat k)) = (1 : Nat))
 (VC.need (okSh [Kd.int IntKind.i64] (rowAt (rowsOn l) (Int.toNat k)))
 (VC.need (PreOk c_rMask (p.w, asInt (List.getD (rowAt (rowsOn l) (Int.toNat k)) (0 : Nat) D.nilp)) [A.c (D.int IntKind.i64 p.w), A.c (D.int IntKind.i64 (asInt (List.getD (rowAt (rowsOn l) (Int.toNat k)) (0 : Nat) D.nilp)))])
 (VC.need ((0 : Int) ≤ k ∧ k < (↑(List.length (rowsOn q)) : Int))
 (VC.need (Int.toNat k < List.length (rowsOn q) ∧ List.length (rowAt (rowsOn q) (Int.toNat k)) = (3 : Nat) ∧ okSh [Kd.bool] (List.drop (0 : Nat) (rowAt (rowsOn q) (Int.toNat k))))
 (VC.br (asBool (List.getD (List.drop (0 : Nat) (rowAt (rowsOn q) (Int.toNat k))) (0 : Nat) D.nilp))
  (VC.need ((0 : Int) ≤ k ∧ k < (↑(List.length (rowsOn q)) : Int))
  (VC.need (Int.toNat k < List.length (rowsOn q) ∧ List.length (rowAt (rowsOn q) (Int.toNat k)) = (3 : Nat) ∧ okSh [Kd.int IntKind.i64] (List.drop (1 : Nat) (rowAt (rowsOn q) (Int.toNat k))))
  (VC.br (decide (asInt (List.getD (List.drop (1 : Nat) (rowAt (rowsOn q) (Int.toNat k))) (0 : Nat) D.nilp) = (0 : Int)))
   (FnA.at_ a_rStart 0 (F_rStart p l q (IntKind.wrap IntKind.i64 (k + (1 : Int))) (maskS p.w (asInt (List.getD (rowAt (rowsOn l) (Int.toNat k)) (0 : Nat) D.nilp))) r1 r2 r3 R n))
   (VC.br (decide (asInt (List.getD (List.drop (1 : Nat) (rowAt (rowsOn q) (Int.toNat k))) (0 : Nat) D.nilp) = (1 : Int)))
    (FnA.at_ a_rStart 0 (F_rStart p l q (IntKind.wrap IntKind.i64 (k + (1 : Int))) r0 (maskS p.w (asInt (List.getD (rowAt (rowsOn l) (Int.toNat k)) (0 : Nat) D.nilp))) r2 r3 R n))
    (VC.br (decide (asInt (List.getD (List.drop (1 : Nat) (rowAt (rowsOn q) (Int.toNat k))) (0 : Nat) D.nilp) = (2 : Int)))
     (FnA.at_ a_rStart 0 (F_rStart p l q (IntKind.wrap IntKind.i64 (k + (1 : Int))) r0 r1 (maskS p.w (asInt (List.getD (rowAt (rowsOn l) (Int.toNat k)) (0 : Nat) D.nilp))) r3 R n))
     (VC.br (decide (asInt (List.getD (List.drop (1 : Nat) (rowAt (rowsOn q) (Int.toNat k))) (0 : Nat) D.nilp) = (3 : Int)))
      (FnA.at_ a_rStart 0 (F_rStart p l q (IntKind.wrap IntKind.i64 (k + (1 : Int))) r0 r1 r2 (maskS p.w (asInt (List.getD (rowAt (rowsOn l) (Int.toNat k)) (0 : Nat) D.nilp))) R n))
      VC.ff))))))
  (VC.need ((0 : Int) ≤ k ∧ k < (↑(List.length (rowsOn q)) : Int))
  (VC.need (Int.toNat k < List.length (rowsOn q) ∧ List.length (rowAt (rowsOn q) (Int.toNat k)) = (3 : Nat) ∧ okSh [Kd.int IntKind.i64] (List.drop (1 : Nat) (rowAt (rowsOn q) (Int.toNat k))))
  (VC.need ((0 : Int) ≤ asInt (List.getD (List.drop (1 : Nat) (rowAt (rowsOn q) (Int.toNat k))) (0 : Nat) D.nilp) ∧ asInt (List.getD (List.drop (1 : Nat) (rowAt (rowsOn q) (Int.toNat k))) (0 : Nat) D.nilp) < (↑n : Int))
  (VC.need (Int.toNat (asInt (List.getD (List.drop (1 : Nat) (rowAt (rowsOn q) (Int.toNat k))) (0 : Nat) D.nilp)) < List.length R ∧ List.length (rowAt R (Int.toNat (asInt (List.getD (List.drop (1 : Nat) (rowAt (rowsOn q) (Int.toNat k))) (0 : Nat) D.nilp)))) = (1 : Nat) ∧ (1 : Nat) ≤ (1 : Nat))
  (FnA.at_ a_rStart 0 (F_rStart p l q (IntKind.wrap IntKind.i64 (k + (1 : Int))) r0 r1 r2 r3 (List.set R (Int.toNat (asInt (List.getD (List.drop (1 : Nat) (rowAt (rowsOn q) (Int.toNat k))) (0 : Nat) D.nilp))) (splice (rowAt R (Int.toNat (asInt (List.getD (List.drop (1 : Nat) (rowAt (rowsOn q) (Int.toNat k))) (0 : Nat) D.nilp)))) (0 : Nat) [D.int IntKind.i64 (maskS p.w (asInt (List.getD (rowAt (rowsOn l) (Int.toNat k)) (0 : Nat) D.nilp)))])) n))))))))))))
 (VC.ret (some (RR.tup [Sum.inr [Rc.d (D.int IntKind.i64 r0), Rc.d (D.int IntKind.i64 r1), Rc.d (D.int IntKind.i64 r2), Rc.d (D.int IntKind.i64 r3), Rc.new (1 : Nat) R, Rc.nil, Rc.d (D.int IntKind.i64 (0 : Int))], Sum.inl (Rc.d (D.bool true))])))) := by kernel_rfl
theorem l_rStart0 (p : Prg) (l : List Int) (q : List Place) (c : Int) (fin : Sta) (hq : PlacesOk q c) (hlen : l.length = q.length) (hl : q.length ≤ 10000) : ∀ i : Int × Int × Int × Int × Int × List (List D) × Nat, (fun (i : Int × Int × Int × Int × Int × List (List D) × Nat) => 0 ≤ i.1 ∧ i.1 ≤ q.length ∧ ∃ mem : List Int, OnL i.2.2.2.2.2.1 i.2.2.2.2.2.2 mem ∧ mem.length = c ∧ fillS p.w (q.drop i.1.toNat) (l.drop i.1.toNat) ⟨i.2.1, i.2.2.1, i.2.2.2.1, i.2.2.2.2.1, mem, [], 0⟩ = fin) i → (a_rStart.at_ 0 ((fun (i : Int × Int × Int × Int × Int × List (List D) × Nat) => F_rStart p l q i.1 i.2.1 i.2.2.1 i.2.2.2.1 i.2.2.2.2.1 i.2.2.2.2.2.1 i.2.2.2.2.2.2) i)).holds s_rStart.cx a_rStart.rs (fun r => r.le (rstab (fin, true))) := by
  refine loop_rule (a := a_rStart) (j := 0) (m := 400) s_rStart_sound (fun (i : Int × Int × Int × Int × Int × List (List D) × Nat) => F_rStart p l q i.1 i.2.1 i.2.2.1 i.2.2.2.1 i.2.2.2.2.1 i.2.2.2.2.2.1 i.2.2.2.2.2.2) (fun (i : Int × Int × Int × Int × Int × List (List D) × Nat) => 0 ≤ i.1 ∧ i.1 ≤ q.length ∧ ∃ mem : List Int, OnL i.2.2.2.2.2.1 i.2.2.2.2.2.2 mem ∧ mem.length = c ∧ fillS p.w (q.drop i.1.toNat) (l.drop i.1.toNat) ⟨i.2.1, i.2.2.1, i.2.2.2.1, i.2.2.2.2.1, mem, [], 0⟩ = fin) (fun (i : Int × Int × Int × Int × Int × List (List D) × Nat) => ((q.length : Int) - i.1).toNat) ?_
  rintro ⟨k, r0, r1, r2, r3, R, n⟩ h_inv ih
  try dsimp only at h_inv
  replace ih := fun (v0 : Int) (v1 : Int) (v2 : Int) (v3 : Int) (v4 : Int) (v5 : List (List D)) (v6 : Nat) => ih (v0, v1, v2, v3, v4, v5, v6)
  try dsimp only at ih
  show VC.holds _ _ _ (a_rStart.round s_rStart 400 0 (F_rStart p l q k r0 r1 r2 r3 R n))
  rw [t_rStart0]
  try simp only [asRows_sl, asInt_int, asBool_bool, asStr_str, listOf_rowsOn, List.drop_zero, Prg.eta, Sta.eta, rowsOn_length, getD_drop, Nat.reduceAdd, rd_int, rd_PMem_name, rd_PMem_secret, rd_PMem_n, rd_PLabel_name, rd_PLabel_at_, rd_Ins_kind, rd_Ins_op, rd_Ins_d, rd_Ins_aR, rd_Ins_aN, rd_Ins_bR, rd_Ins_bN, rd_Ins_name, rd_Ins_target, rd_Ent_pc, rd_Ent_val, rd_Ent_addr, rd_Ent_fro, rd_Ent_next, rd_Ent_done, rd_Ent_known, rd_Ent_fault, rd_Place_reg, rd_Place_n, rd_Place_secret, rd_Obs_kind, rd_Obs_at_, rd_Dir_kind, rd_Dir_n]
  obtain ⟨h0, h1, mem, h2, h3, h4⟩ := h_inv
  have w1 : IntKind.wrap .i64 (k + 1) = k + 1 := wrap_small _ (by omega) (by omega)
  rw [w1]
  repeat' first
    | refine br_not ?_
    | refine br_dec (fun _ => ?_) (fun _ => ?_)
    | refine br_beq (fun _ => ?_) (fun _ => ?_)
    | refine br_bne (fun _ => ?_) (fun _ => ?_)
    | refine br_holds (fun _ => ?_) (fun _ => ?_)
    | refine ⟨PreOk.mk ?_ rfl, ?_⟩
    | refine ⟨idx_ok _ _ _ rfl (by omega) (by omega), ?_⟩
    | refine ⟨okSh_ok _ _ _ (fun _ => rfl) (by omega) (by omega), ?_⟩
    | refine ⟨okSh_okD _ _ _ _ (fun _ => rfl) (by omega) (by omega), ?_⟩
    | refine ⟨aload_ok _ _ rfl (fun _ => rfl) (by omega) (by omega), ?_⟩
    | refine ⟨aload_okD _ _ _ rfl (fun _ => rfl) (by omega) (by omega), ?_⟩
    | refine ⟨astore_ok (by assumption) rfl (by omega) (by omega) (by decide), ?_⟩
    | refine ⟨app_ok (by assumption) rfl rfl (by simp only [List.length_cons, List.length_nil]; omega), ?_⟩
    | refine need_holds ?_ fun _ => ?_
    | refine all_holds fun y hy => ?_
    | refine ret_le ?_
    | refine ih _ _ _ _ _ _ _ ?_ ?_
  all_goals try trivial
  all_goals try have hk : k < q.length := by assumption
  all_goals try have hx := hq _ (rd_mem q k h0 hk)
  all_goals try rw [fill_step p.w q l k _ h0 hk (by omega)] at h4
  · refine ⟨by omega, by omega, mem, h2, h3, ?_⟩
    simpa [putPlace, Sta.setReg, *] using h4
  · omega
  · refine ⟨by omega, by omega, mem, h2, h3, ?_⟩
    simpa [putPlace, Sta.setReg, *] using h4
  · omega
  · refine ⟨by omega, by omega, mem, h2, h3, ?_⟩
    simpa [putPlace, Sta.setReg, *] using h4
  · omega
  · refine ⟨by omega, by omega, mem, h2, h3, ?_⟩
    simpa [putPlace, Sta.setReg, *] using h4
  · omega
  · have := hx.1 ‹_›
    omega
  · have := hx.2 ‹_›
    have := h2.2
    omega
  · have := hx.2 ‹_›
    exact astore_ok h2 rfl (by omega) (by omega) (by decide)
  · have := hx.2 ‹_›
    refine ⟨by omega, by omega, mem.set (rd q k).n.toNat (maskS p.w (rd l k)), h2.set (by omega) (by omega) (maskS p.w (rd l k)), by simpa using h3, ?_⟩
    simpa [putPlace, *] using h4
  · omega
  · have hk : k.toNat = q.length := by omega
    rw [hk, List.drop_length] at h4
    simp only [fillS] at h4
    obtain ⟨rfl, rfl⟩ := h2
    subst h4
    exact ⟨⟨rfl, rfl, rfl, rfl, rfl, rfl, rfl, trivial⟩, rfl, trivial⟩
theorem c_rStart_good : c_rStart.fe.Good Try.prog := by
  refine FT.good c_rStart ⟨Try.f74, by kernel_rfl, by decide +kernel, by kernel_rfl⟩ (fun ⟨p, l⟩ => by first | rfl | simp [c_rStart, rrRef, rplaces, Sta.fresh, rstab]) fun ⟨p, l⟩ hp => ?_
  refine acalls_le s_rStart_sound (fn := Try.f74) (a := a_rStart) (nargs := 2) (tbl := [(6, [1, 2, 4, 6, 7, 8])]) (by kernel_rfl) (by kernel_rfl) rfl (m := 400) ?_
  show VC.holds _ _ _ (a_rStart.start s_rStart 400 [ap p, al l])
  rw [t_rStart]
  try simp only [asRows_sl, asInt_int, asBool_bool, asStr_str, listOf_rowsOn, List.drop_zero, Prg.eta, Sta.eta, rowsOn_length, getD_drop, Nat.reduceAdd, rd_int, rd_PMem_name, rd_PMem_secret, rd_PMem_n, rd_PLabel_name, rd_PLabel_at_, rd_Ins_kind, rd_Ins_op, rd_Ins_d, rd_Ins_aR, rd_Ins_aN, rd_Ins_bR, rd_Ins_bN, rd_Ins_name, rd_Ins_target, rd_Ent_pc, rd_Ent_val, rd_Ent_addr, rd_Ent_fro, rd_Ent_next, rd_Ent_done, rd_Ent_known, rd_Ent_fault, rd_Place_reg, rd_Place_n, rd_Place_secret, rd_Obs_kind, rd_Obs_at_, rd_Dir_kind, rd_Dir_n]
  try simp only [c_rStart] at hp
  have hm : Mems p.mems := hp
  have hpl := places_len p hm
  repeat' first
    | refine br_not ?_
    | refine br_dec (fun _ => ?_) (fun _ => ?_)
    | refine br_beq (fun _ => ?_) (fun _ => ?_)
    | refine br_bne (fun _ => ?_) (fun _ => ?_)
    | refine br_holds (fun _ => ?_) (fun _ => ?_)
    | refine ⟨PreOk.mk ?_ rfl, ?_⟩
    | refine ⟨idx_ok _ _ _ rfl (by omega) (by omega), ?_⟩
    | refine ⟨okSh_ok _ _ _ (fun _ => rfl) (by omega) (by omega), ?_⟩
    | refine ⟨okSh_okD _ _ _ _ (fun _ => rfl) (by omega) (by omega), ?_⟩
    | refine ⟨aload_ok _ _ rfl (fun _ => rfl) (by omega) (by omega), ?_⟩
    | refine ⟨aload_okD _ _ _ rfl (fun _ => rfl) (by omega) (by omega), ?_⟩
    | refine ⟨astore_ok (by assumption) rfl (by omega) (by omega) (by decide), ?_⟩
    | refine ⟨app_ok (by assumption) rfl rfl (by simp only [List.length_cons, List.length_nil]; omega), ?_⟩
    | refine need_holds ?_ fun _ => ?_
    | refine all_holds fun y hy => ?_
    | refine ret_le ?_
  all_goals try exact hm
  · exact ⟨trivial, by omega, by omega⟩
  · have hll : l.length = (placesS p).length := by omega
    have e : c_rStart.ans (p, l) = rstab (fillS p.w (placesS p) l (zeroSta (cellsS p.mems).toNat), true) := by simp only [c_rStart, startS, if_pos hll]
    rw [e]
    exact l_rStart0 p l (placesS p) (cellsS p.mems) _ (places_ok p hm) hll (by omega) (0, 0, 0, 0, 0, _, _) ⟨by simp, by simp, List.replicate (cellsS p.mems).toNat 0, OnL.rep _ (0 : Int), by simp; omega, rfl⟩
  · have : ¬ l.length = (placesS p).length := by omega
    have e : c_rStart.ans (p, l) = rstab (zeroSta 0, false) := by simp only [c_rStart, startS, if_neg this]
    rw [e]
    exact zero_le false
end Go.Proofs.Ytclabjihjopclaa.Ax
