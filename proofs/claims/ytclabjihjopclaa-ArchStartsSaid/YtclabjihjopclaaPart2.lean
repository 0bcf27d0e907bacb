/- Several texts in one, in their order. -/
import Derived.Test.YtclabjihjopclaaPart1
section
/- The trees of ArchStarts. -/
namespace Go.Proofs.Ytclabjihjopclaa.Ax
open Go.RowKit
set_option linter.unusedVariables false
set_option linter.unusedSimpArgs false
noncomputable def v_aStart : Prg × List Int → Sta × Bool := fun x => startS x.1 x.2
noncomputable def sh_aStart : Sta × Bool → RR := fun y => rstab y
theorem e_aStart (x : Prg × List Int) : sh_aStart (v_aStart x) = c_aStart.ans x := rfl
def rdLLLI : List A → List Int × List Int × List Int × Int
  | [.c (.sl l), .c (.sl m), .c (.sl k), .c (.int _ j)] => (listOf Int l, listOf Int m, listOf Int k, j)
  | _ => default
def c_lStarts : FT (List Int × List Int × List Int × Int) := ⟨10, fun x => [al x.1, al x.2.1, al x.2.2.1, ai x.2.2.2], rdLLLI, fun _ => True, fun x => rb true, false, fun x => by simp [al, ai, rdLLLI]⟩
noncomputable def a_lStarts : FnA := (fnA Try.prog Try.f10 4 [(6, [1, 2, 3, 9, 10, 11, 12, 13, 1000010000000900112003, 3000704004000900101001, 3000704005000900102001, 3000704011000900103001, 3000704012000900104001, 3000704018000900105001, 3000704019000900106001, 3000768000000900107001, 3000768001000900108001, 3000768002000900109001]), (9, [1, 2, 3, 9, 10, 11, 12, 13, 34, 35, 1000010000000900112003, 3000704004000900101001, 3000704005000900102001, 3000704011000900103001, 3000704012000900104001, 3000704018000900105001, 3000704019000900106001, 3000768000000900107001, 3000768001000900108001, 3000768002000900109001]), (24, [1, 2, 3, 9, 10, 11, 12, 13, 16, 18, 92, 93, 1000010000000900112003, 3000704004000900101001, 3000704005000900102001, 3000704011000900103001, 3000704012000900104001, 3000704018000900105001, 3000704019000900106001, 3000768000000900107001, 3000768001000900108001, 3000768002000900109001]), (30, [1, 2, 3, 9, 10, 11, 12, 13, 16, 18, 20, 1000010000000900112003, 3000704004000900101001, 3000704005000900102001, 3000704011000900103001, 3000704012000900104001, 3000704018000900105001, 3000704019000900106001, 3000768000000900107001, 3000768001000900108001, 3000768002000900109001]), (37, [9, 10, 11, 12, 21, 1000010000000900112003, 3000704004000900101001, 3000704005000900102001, 3000704011000900103001, 3000704012000900104001, 3000704018000900105001, 3000704019000900106001, 3000768000000900107001, 3000768001000900108001, 3000768002000900109001]), (40, [9, 10, 11, 12, 21, 22, 1000010000000900112003, 3000704004000900101001, 3000704005000900102001, 3000704011000900103001, 3000704012000900104001, 3000704018000900105001, 3000704019000900106001, 3000768000000900107001, 3000768001000900108001, 3000768002000900109001]), (44, [9, 10, 11, 12, 21, 22, 23, 201, 202, 1000010000000900112003, 3000704004000900101001, 3000704005000900102001, 3000704011000900103001, 3000704012000900104001, 3000704018000900105001, 3000704019000900106001, 3000768000000900107001, 3000768001000900108001, 3000768002000900109001]), (1000000023, [1, 2, 3, 9, 10, 11, 12, 13, 15, 34, 35, 1000010000000900112003, 3000704004000900101001, 3000704005000900102001, 3000704011000900103001, 3000704012000900104001, 3000704018000900105001, 3000704019000900106001, 3000768000000900107001, 3000768001000900108001, 3000768002000900109001]), (1000000038, [1, 2, 3, 9, 10, 11, 12, 13, 16, 18, 20, 1000010000000900112003, 3000704004000900101001, 3000704005000900102001, 3000704011000900103001, 3000704012000900104001, 3000704018000900105001, 3000704019000900106001, 3000768000000900107001, 3000768001000900108001, 3000768002000900109001])]).getD ⟨0, .skip, [], []⟩
noncomputable def s_lStarts : Sp := spT [c_make.gfe v_make sh_make e_make, c_rPlaces.gfe v_rPlaces sh_rPlaces e_rPlaces, c_rMask.fe, c_aStart.gfe v_aStart sh_aStart e_aStart, c_aLow.gfe v_aLow sh_aLow e_aLow, c_aCells.fe, c_awake7.fe]
theorem s_lStarts_sound : s_lStarts.sound Try.prog := spT_sound fun e he => by
  simp only [List.mem_cons, List.not_mem_nil, or_false] at he
  rcases he with rfl | rfl | rfl | rfl | rfl | rfl | rfl
  · exact FT.gfe_good c_make_good
  · exact FT.gfe_good c_rPlaces_good
  · exact c_rMask_good
  · exact FT.gfe_good c_aStart_good
  · exact FT.gfe_good c_aLow_good
  · exact c_aCells_good
  · exact c_awake7_good
def F_s0 (l k : List Int) (how j : Int) (nq : Nat) (p : Prg) (q : List (List D)) (a0 b0 c0 d0 e0 : Int) (m0 k0 : Nat) (a1 b1 c1 d1 e1 : Int) (m1 k1 : Nat) (a2 b2 c2 d2 e2 : Int) (m2 k2 : Nat) (n0 n1 n2 : Nat) (M0 K0 M1 K1 M2 K2 R0 R1 R2 : List (List D)) : St := ⟨mkS 240 [(1, vr (rowsOn l)), (2, vr (rowsOn k)), (3, vi how), (9, vp 576), (10, vo 900112 nq), (11, vp 704), (12, vp 768), (13, vi j)], [(576, bc [.d (.int .i64 p.w), .d (.int .i64 p.window), .d (.int .i64 p.fuel), .d (.int .i64 p.r0), .d (.int .i64 p.r1), .d (.int .i64 p.r2), .d (.int .i64 p.r3), .d (.sl (rowsOn p.mems)), .d (.sl (rowsOn p.labels)), .d (.sl (rowsOn p.ins))]), (704, bc [.d (.int .i64 a0), .d (.int .i64 b0), .d (.int .i64 c0), .d (.int .i64 d0), .own 900101 1 m0, .own 900102 1 k0, .d (.int .i64 e0), .d (.int .i64 a1), .d (.int .i64 b1), .d (.int .i64 c1), .d (.int .i64 d1), .own 900103 1 m1, .own 900104 1 k1, .d (.int .i64 e1), .d (.int .i64 a2), .d (.int .i64 b2), .d (.int .i64 c2), .d (.int .i64 d2), .own 900105 1 m2, .own 900106 1 k2, .d (.int .i64 e2)]), (768, bc [.own 900107 1 n0, .own 900108 1 n1, .own 900109 1 n2]), (900101, ba 1 M0), (900102, ba 1 K0), (900103, ba 1 M1), (900104, ba 1 K1), (900105, ba 1 M2), (900106, ba 1 K2), (900107, ba 1 R0), (900108, ba 1 R1), (900109, ba 1 R2), (900112, ba 3 q)]⟩
def F_s1 (l k : List Int) (how j : Int) (nq : Nat) (p : Prg) (q : List (List D)) (a0 b0 c0 d0 e0 : Int) (m0 k0 : Nat) (a1 b1 c1 d1 e1 : Int) (m1 k1 : Nat) (a2 b2 c2 d2 e2 : Int) (m2 k2 : Nat) (n0 n1 n2 : Nat) (M0 K0 M1 K1 M2 K2 R0 R1 R2 : List (List D)) (nn i : Int) : St := ⟨mkS 240 [(1, vr (rowsOn l)), (2, vr (rowsOn k)), (3, vi how), (9, vp 576), (10, vo 900112 nq), (11, vp 704), (12, vp 768), (13, vi j), (34, vi nn), (35, vi i)], [(576, bc [.d (.int .i64 p.w), .d (.int .i64 p.window), .d (.int .i64 p.fuel), .d (.int .i64 p.r0), .d (.int .i64 p.r1), .d (.int .i64 p.r2), .d (.int .i64 p.r3), .d (.sl (rowsOn p.mems)), .d (.sl (rowsOn p.labels)), .d (.sl (rowsOn p.ins))]), (704, bc [.d (.int .i64 a0), .d (.int .i64 b0), .d (.int .i64 c0), .d (.int .i64 d0), .own 900101 1 m0, .own 900102 1 k0, .d (.int .i64 e0), .d (.int .i64 a1), .d (.int .i64 b1), .d (.int .i64 c1), .d (.int .i64 d1), .own 900103 1 m1, .own 900104 1 k1, .d (.int .i64 e1), .d (.int .i64 a2), .d (.int .i64 b2), .d (.int .i64 c2), .d (.int .i64 d2), .own 900105 1 m2, .own 900106 1 k2, .d (.int .i64 e2)]), (768, bc [.own 900107 1 n0, .own 900108 1 n1, .own 900109 1 n2]), (900101, ba 1 M0), (900102, ba 1 K0), (900103, ba 1 M1), (900104, ba 1 K1), (900105, ba 1 M2), (900106, ba 1 K2), (900107, ba 1 R0), (900108, ba 1 R1), (900109, ba 1 R2), (900112, ba 3 q)]⟩
def F_sc (l k : List Int) (how j : Int) (nq : Nat) (p : Prg) (q : List (List D)) (a0 b0 c0 d0 e0 : Int) (m0 k0 : Nat) (a1 b1 c1 d1 e1 : Int) (m1 k1 : Nat) (a2 b2 c2 d2 e2 : Int) (m2 k2 : Nat) (n0 n1 n2 : Nat) (M0 K0 M1 K1 M2 K2 R0 R1 R2 : List (List D)) (nn i v : Int) : St := ⟨mkS 240 [(1, vr (rowsOn l)), (2, vr (rowsOn k)), (3, vi how), (9, vp 576), (10, vo 900112 nq), (11, vp 704), (12, vp 768), (13, vi j), (15, vi v), (34, vi nn), (35, vi i)], [(576, bc [.d (.int .i64 p.w), .d (.int .i64 p.window), .d (.int .i64 p.fuel), .d (.int .i64 p.r0), .d (.int .i64 p.r1), .d (.int .i64 p.r2), .d (.int .i64 p.r3), .d (.sl (rowsOn p.mems)), .d (.sl (rowsOn p.labels)), .d (.sl (rowsOn p.ins))]), (704, bc [.d (.int .i64 a0), .d (.int .i64 b0), .d (.int .i64 c0), .d (.int .i64 d0), .own 900101 1 m0, .own 900102 1 k0, .d (.int .i64 e0), .d (.int .i64 a1), .d (.int .i64 b1), .d (.int .i64 c1), .d (.int .i64 d1), .own 900103 1 m1, .own 900104 1 k1, .d (.int .i64 e1), .d (.int .i64 a2), .d (.int .i64 b2), .d (.int .i64 c2), .d (.int .i64 d2), .own 900105 1 m2, .own 900106 1 k2, .d (.int .i64 e2)]), (768, bc [.own 900107 1 n0, .own 900108 1 n1, .own 900109 1 n2]), (900101, ba 1 M0), (900102, ba 1 K0), (900103, ba 1 M1), (900104, ba 1 K1), (900105, ba 1 M2), (900106, ba 1 K2), (900107, ba 1 R0), (900108, ba 1 R1), (900109, ba 1 R2), (900112, ba 3 q)]⟩
def F_s2_0 (l k : List Int) (how j : Int) (nq : Nat) (p : Prg) (q : List (List D)) (a0 b0 c0 d0 e0 : Int) (m0 k0 : Nat) (a1 b1 c1 d1 e1 : Int) (m1 k1 : Nat) (a2 b2 c2 d2 e2 : Int) (m2 k2 : Nat) (n0 n1 n2 : Nat) (M0 K0 M1 K1 M2 K2 R0 R1 R2 : List (List D)) (sum nn i : Int) : St := ⟨mkS 240 [(1, vr (rowsOn l)), (2, vr (rowsOn k)), (3, vi how), (9, vp 576), (10, vo 900112 nq), (11, vp 704), (12, vp 768), (13, vi j), (16, vp 1024), (18, vi sum), (92, vi nn), (93, vi i)], [(576, bc [.d (.int .i64 p.w), .d (.int .i64 p.window), .d (.int .i64 p.fuel), .d (.int .i64 p.r0), .d (.int .i64 p.r1), .d (.int .i64 p.r2), .d (.int .i64 p.r3), .d (.sl (rowsOn p.mems)), .d (.sl (rowsOn p.labels)), .d (.sl (rowsOn p.ins))]), (704, bc [.d (.int .i64 a0), .d (.int .i64 b0), .d (.int .i64 c0), .d (.int .i64 d0), .own 900101 1 m0, .own 900102 1 k0, .d (.int .i64 e0), .d (.int .i64 a1), .d (.int .i64 b1), .d (.int .i64 c1), .d (.int .i64 d1), .own 900103 1 m1, .own 900104 1 k1, .d (.int .i64 e1), .d (.int .i64 a2), .d (.int .i64 b2), .d (.int .i64 c2), .d (.int .i64 d2), .own 900105 1 m2, .own 900106 1 k2, .d (.int .i64 e2)]), (768, bc [.own 900107 1 n0, .own 900108 1 n1, .own 900109 1 n2]), (1024, bc [.d (.int .i64 a0), .d (.int .i64 b0), .d (.int .i64 c0), .d (.int .i64 d0), .own 900101 1 m0, .own 900102 1 k0, .d (.int .i64 e0)]), (900101, ba 1 M0), (900102, ba 1 K0), (900103, ba 1 M1), (900104, ba 1 K1), (900105, ba 1 M2), (900106, ba 1 K2), (900107, ba 1 R0), (900108, ba 1 R1), (900109, ba 1 R2), (900112, ba 3 q)]⟩
def F_s3_0 (l k : List Int) (how j : Int) (nq : Nat) (p : Prg) (q : List (List D)) (a0 b0 c0 d0 e0 : Int) (m0 k0 : Nat) (a1 b1 c1 d1 e1 : Int) (m1 k1 : Nat) (a2 b2 c2 d2 e2 : Int) (m2 k2 : Nat) (n0 n1 n2 : Nat) (M0 K0 M1 K1 M2 K2 R0 R1 R2 : List (List D)) (sum i : Int) : St := ⟨mkS 240 [(1, vr (rowsOn l)), (2, vr (rowsOn k)), (3, vi how), (9, vp 576), (10, vo 900112 nq), (11, vp 704), (12, vp 768), (13, vi j), (16, vp 1024), (18, vi sum), (20, vi i)], [(576, bc [.d (.int .i64 p.w), .d (.int .i64 p.window), .d (.int .i64 p.fuel), .d (.int .i64 p.r0), .d (.int .i64 p.r1), .d (.int .i64 p.r2), .d (.int .i64 p.r3), .d (.sl (rowsOn p.mems)), .d (.sl (rowsOn p.labels)), .d (.sl (rowsOn p.ins))]), (704, bc [.d (.int .i64 a0), .d (.int .i64 b0), .d (.int .i64 c0), .d (.int .i64 d0), .own 900101 1 m0, .own 900102 1 k0, .d (.int .i64 e0), .d (.int .i64 a1), .d (.int .i64 b1), .d (.int .i64 c1), .d (.int .i64 d1), .own 900103 1 m1, .own 900104 1 k1, .d (.int .i64 e1), .d (.int .i64 a2), .d (.int .i64 b2), .d (.int .i64 c2), .d (.int .i64 d2), .own 900105 1 m2, .own 900106 1 k2, .d (.int .i64 e2)]), (768, bc [.own 900107 1 n0, .own 900108 1 n1, .own 900109 1 n2]), (1024, bc [.d (.int .i64 a0), .d (.int .i64 b0), .d (.int .i64 c0), .d (.int .i64 d0), .own 900101 1 m0, .own 900102 1 k0, .d (.int .i64 e0)]), (900101, ba 1 M0), (900102, ba 1 K0), (900103, ba 1 M1), (900104, ba 1 K1), (900105, ba 1 M2), (900106, ba 1 K2), (900107, ba 1 R0), (900108, ba 1 R1), (900109, ba 1 R2), (900112, ba 3 q)]⟩
def F_s2_1 (l k : List Int) (how j : Int) (nq : Nat) (p : Prg) (q : List (List D)) (a0 b0 c0 d0 e0 : Int) (m0 k0 : Nat) (a1 b1 c1 d1 e1 : Int) (m1 k1 : Nat) (a2 b2 c2 d2 e2 : Int) (m2 k2 : Nat) (n0 n1 n2 : Nat) (M0 K0 M1 K1 M2 K2 R0 R1 R2 : List (List D)) (sum nn i : Int) : St := ⟨mkS 240 [(1, vr (rowsOn l)), (2, vr (rowsOn k)), (3, vi how), (9, vp 576), (10, vo 900112 nq), (11, vp 704), (12, vp 768), (13, vi j), (16, vp 1024), (18, vi sum), (92, vi nn), (93, vi i)], [(576, bc [.d (.int .i64 p.w), .d (.int .i64 p.window), .d (.int .i64 p.fuel), .d (.int .i64 p.r0), .d (.int .i64 p.r1), .d (.int .i64 p.r2), .d (.int .i64 p.r3), .d (.sl (rowsOn p.mems)), .d (.sl (rowsOn p.labels)), .d (.sl (rowsOn p.ins))]), (704, bc [.d (.int .i64 a0), .d (.int .i64 b0), .d (.int .i64 c0), .d (.int .i64 d0), .own 900101 1 m0, .own 900102 1 k0, .d (.int .i64 e0), .d (.int .i64 a1), .d (.int .i64 b1), .d (.int .i64 c1), .d (.int .i64 d1), .own 900103 1 m1, .own 900104 1 k1, .d (.int .i64 e1), .d (.int .i64 a2), .d (.int .i64 b2), .d (.int .i64 c2), .d (.int .i64 d2), .own 900105 1 m2, .own 900106 1 k2, .d (.int .i64 e2)]), (768, bc [.own 900107 1 n0, .own 900108 1 n1, .own 900109 1 n2]), (1024, bc [.d (.int .i64 a1), .d (.int .i64 b1), .d (.int .i64 c1), .d (.int .i64 d1), .own 900103 1 m1, .own 900104 1 k1, .d (.int .i64 e1)]), (900101, ba 1 M0), (900102, ba 1 K0), (900103, ba 1 M1), (900104, ba 1 K1), (900105, ba 1 M2), (900106, ba 1 K2), (900107, ba 1 R0), (900108, ba 1 R1), (900109, ba 1 R2), (900112, ba 3 q)]⟩
def F_s3_1 (l k : List Int) (how j : Int) (nq : Nat) (p : Prg) (q : List (List D)) (a0 b0 c0 d0 e0 : Int) (m0 k0 : Nat) (a1 b1 c1 d1 e1 : Int) (m1 k1 : Nat) (a2 b2 c2 d2 e2 : Int) (m2 k2 : Nat) (n0 n1 n2 : Nat) (M0 K0 M1 K1 M2 K2 R0 R1 R2 : List (List D)) (sum i : Int) : St := ⟨mkS 240 [(1, vr (rowsOn l)), (2, vr (rowsOn k)), (3, vi how), (9, vp 576), (10, vo 900112 nq), (11, vp 704), (12, vp 768), (13, vi j), (16, vp 1024), (18, vi sum), (20, vi i)], [(576, bc [.d (.int .i64 p.w), .d (.int .i64 p.window), .d (.int .i64 p.fuel), .d (.int .i64 p.r0), .d (.int .i64 p.r1), .d (.int .i64 p.r2), .d (.int .i64 p.r3), .d (.sl (rowsOn p.mems)), .d (.sl (rowsOn p.labels)), .d (.sl (rowsOn p.ins))]), (704, bc [.d (.int .i64 a0), .d (.int .i64 b0), .d (.int .i64 c0), .d (.int .i64 d0), .own 900101 1 m0, .own 900102 1 k0, .d (.int .i64 e0), .d (.int .i64 a1), .d (.int .i64 b1), .d (.int .i64 c1), .d (.int .i64 d1), .own 900103 1 m1, .own 900104 1 k1, .d (.int .i64 e1), .d (.int .i64 a2), .d (.int .i64 b2), .d (.int .i64 c2), .d (.int .i64 d2), .own 900105 1 m2, .own 900106 1 k2, .d (.int .i64 e2)]), (768, bc [.own 900107 1 n0, .own 900108 1 n1, .own 900109 1 n2]), (1024, bc [.d (.int .i64 a1), .d (.int .i64 b1), .d (.int .i64 c1), .d (.int .i64 d1), .own 900103 1 m1, .own 900104 1 k1, .d (.int .i64 e1)]), (900101, ba 1 M0), (900102, ba 1 K0), (900103, ba 1 M1), (900104, ba 1 K1), (900105, ba 1 M2), (900106, ba 1 K2), (900107, ba 1 R0), (900108, ba 1 R1), (900109, ba 1 R2), (900112, ba 3 q)]⟩
def F_s2_2 (l k : List Int) (how j : Int) (nq : Nat) (p : Prg) (q : List (List D)) (a0 b0 c0 d0 e0 : Int) (m0 k0 : Nat) (a1 b1 c1 d1 e1 : Int) (m1 k1 : Nat) (a2 b2 c2 d2 e2 : Int) (m2 k2 : Nat) (n0 n1 n2 : Nat) (M0 K0 M1 K1 M2 K2 R0 R1 R2 : List (List D)) (sum nn i : Int) : St := ⟨mkS 240 [(1, vr (rowsOn l)), (2, vr (rowsOn k)), (3, vi how), (9, vp 576), (10, vo 900112 nq), (11, vp 704), (12, vp 768), (13, vi j), (16, vp 1024), (18, vi sum), (92, vi nn), (93, vi i)], [(576, bc [.d (.int .i64 p.w), .d (.int .i64 p.window), .d (.int .i64 p.fuel), .d (.int .i64 p.r0), .d (.int .i64 p.r1), .d (.int .i64 p.r2), .d (.int .i64 p.r3), .d (.sl (rowsOn p.mems)), .d (.sl (rowsOn p.labels)), .d (.sl (rowsOn p.ins))]), (704, bc [.d (.int .i64 a0), .d (.int .i64 b0), .d (.int .i64 c0), .d (.int .i64 d0), .own 900101 1 m0, .own 900102 1 k0, .d (.int .i64 e0), .d (.int .i64 a1), .d (.int .i64 b1), .d (.int .i64 c1), .d (.int .i64 d1), .own 900103 1 m1, .own 900104 1 k1, .d (.int .i64 e1), .d (.int .i64 a2), .d (.int .i64 b2), .d (.int .i64 c2), .d (.int .i64 d2), .own 900105 1 m2, .own 900106 1 k2, .d (.int .i64 e2)]), (768, bc [.own 900107 1 n0, .own 900108 1 n1, .own 900109 1 n2]), (1024, bc [.d (.int .i64 a2), .d (.int .i64 b2), .d (.int .i64 c2), .d (.int .i64 d2), .own 900105 1 m2, .own 900106 1 k2, .d (.int .i64 e2)]), (900101, ba 1 M0), (900102, ba 1 K0), (900103, ba 1 M1), (900104, ba 1 K1), (900105, ba 1 M2), (900106, ba 1 K2), (900107, ba 1 R0), (900108, ba 1 R1), (900109, ba 1 R2), (900112, ba 3 q)]⟩
def F_s3_2 (l k : List Int) (how j : Int) (nq : Nat) (p : Prg) (q : List (List D)) (a0 b0 c0 d0 e0 : Int) (m0 k0 : Nat) (a1 b1 c1 d1 e1 : Int) (m1 k1 : Nat) (a2 b2 c2 d2 e2 : Int) (m2 k2 : Nat) (n0 n1 n2 : Nat) (M0 K0 M1 K1 M2 K2 R0 R1 R2 : List (List D)) (sum i : Int) : St := ⟨mkS 240 [(1, vr (rowsOn l)), (2, vr (rowsOn k)), (3, vi how), (9, vp 576), (10, vo 900112 nq), (11, vp 704), (12, vp 768), (13, vi j), (16, vp 1024), (18, vi sum), (20, vi i)], [(576, bc [.d (.int .i64 p.w), .d (.int .i64 p.window), .d (.int .i64 p.fuel), .d (.int .i64 p.r0), .d (.int .i64 p.r1), .d (.int .i64 p.r2), .d (.int .i64 p.r3), .d (.sl (rowsOn p.mems)), .d (.sl (rowsOn p.labels)), .d (.sl (rowsOn p.ins))]), (704, bc [.d (.int .i64 a0), .d (.int .i64 b0), .d (.int .i64 c0), .d (.int .i64 d0), .own 900101 1 m0, .own 900102 1 k0, .d (.int .i64 e0), .d (.int .i64 a1), .d (.int .i64 b1), .d (.int .i64 c1), .d (.int .i64 d1), .own 900103 1 m1, .own 900104 1 k1, .d (.int .i64 e1), .d (.int .i64 a2), .d (.int .i64 b2), .d (.int .i64 c2), .d (.int .i64 d2), .own 900105 1 m2, .own 900106 1 k2, .d (.int .i64 e2)]), (768, bc [.own 900107 1 n0, .own 900108 1 n1, .own 900109 1 n2]), (1024, bc [.d (.int .i64 a2), .d (.int .i64 b2), .d (.int .i64 c2), .d (.int .i64 d2), .own 900105 1 m2, .own 900106 1 k2, .d (.int .i64 e2)]), (900101, ba 1 M0), (900102, ba 1 K0), (900103, ba 1 M1), (900104, ba 1 K1), (900105, ba 1 M2), (900106, ba 1 K2), (900107, ba 1 R0), (900108, ba 1 R1), (900109, ba 1 R2), (900112, ba 3 q)]⟩
set_option maxRecDepth 100000 in
theorem t_lStarts (m l k : List Int) (how : Int) : a_lStarts.start s_lStarts 400 [al m, al l, al k, ai how] =
(VC.need (PreOk c_make (m, ()) [A.c (D.sl (rowsOn m))])
(VC.all (v_make (listOf Int (rowsOn m), ())) fun (y4 : Prg) =>
(VC.need (PreOk c_rPlaces y4 [A.agg (Prg.cells y4)])
(VC.all (v_rPlaces { w := y4.w, window := y4.window, fuel := y4.fuel, r0 := y4.r0, r1 := y4.r1, r2 := y4.r2, r3 := y4.r3, mems := listOf PMem (rowsOn y4.mems), labels := listOf PLabel (rowsOn y4.labels), ins := listOf Ins (rowsOn y4.ins) }) fun (y5 : List Place) =>
(FnA.at_ a_lStarts 0 (F_s0 l k how (0 : Int) (List.length (rowsOn y5)) y4 (rowsOn y5) (0 : Int) (0 : Int) (0 : Int) (0 : Int) (0 : Int) (0 : Nat) (0 : Nat) (0 : Int) (0 : Int) (0 : Int) (0 : Int) (0 : Int) (0 : Nat) (0 : Nat) (0 : Int) (0 : Int) (0 : Int) (0 : Int) (0 : Int) (0 : Nat) (0 : Nat) (0 : Nat) (0 : Nat) (0 : Nat) [] [] [] [] [] [] [] [] [])))))) := by kernel_rfl
set_option maxRecDepth 100000 in
theorem t_st0_0 (l k : List Int) (how : Int) (nq : Nat) (p : Prg) (q : List (List D)) (a0 b0 c0 d0 e0 : Int) (m0 k0 : Nat) (a1 b1 c1 d1 e1 : Int) (m1 k1 : Nat) (a2 b2 c2 d2 e2 : Int) (m2 k2 : Nat) (n0 n1 n2 : Nat) (M0 K0 M1 K1 M2 K2 R0 R1 R2 : List (List D)) : a_lStarts.round s_lStarts 400 0 (F_s0 l k how 0 nq p q a0 b0 c0 d0 e0 m0 k0 a1 b1 c1 d1 e1 m1 k1 a2 b2 c2 d2 e2 m2 k2 n0 n1 n2 M0 K0 M1 K1 M2 K2 R0 R1 R2) =
(FnA.at_ a_lStarts 1 (F_s1 l k how (0 : Int) nq p q a0 b0 c0 d0 e0 m0 k0 a1 b1 c1 d1 e1 m1 k1 a2 b2 c2 d2 e2 m2 k2 n0 n1 n2 M0 K0 M1 K1 M2 K2 R0 R1 R2 (↑nq : Int) (0 : Int))) := by kernel_rfl
set_option maxRecDepth 100000 in
theorem t_st0_1 (l k : List Int) (how : Int) (nq : Nat) (p : Prg) (q : List (List D)) (a0 b0 c0 d0 e0 : Int) (m0 k0 : Nat) (a1 b1 c1 d1 e1 : Int) (m1 k1 : Nat) (a2 b2 c2 d2 e2 : Int) (m2 k2 : Nat) (n0 n1 n2 : Nat) (M0 K0 M1 K1 M2 K2 R0 R1 R2 : List (List D)) : a_lStarts.round s_lStarts 400 0 (F_s0 l k how 1 nq p q a0 b0 c0 d0 e0 m0 k0 a1 b1 c1 d1 e1 m1 k1 a2 b2 c2 d2 e2 m2 k2 n0 n1 n2 M0 K0 M1 K1 M2 K2 R0 R1 R2) =
(FnA.at_ a_lStarts 1 (F_s1 l k how (1 : Int) nq p q a0 b0 c0 d0 e0 m0 k0 a1 b1 c1 d1 e1 m1 k1 a2 b2 c2 d2 e2 m2 k2 n0 n1 n2 M0 K0 M1 K1 M2 K2 R0 R1 R2 (↑nq : Int) (0 : Int))) := by kernel_rfl
set_option maxRecDepth 100000 in
theorem t_st0_2 (l k : List Int) (how : Int) (nq : Nat) (p : Prg) (q : List (List D)) (a0 b0 c0 d0 e0 : Int) (m0 k0 : Nat) (a1 b1 c1 d1 e1 : Int) (m1 k1 : Nat) (a2 b2 c2 d2 e2 : Int) (m2 k2 : Nat) (n0 n1 n2 : Nat) (M0 K0 M1 K1 M2 K2 R0 R1 R2 : List (List D)) : a_lStarts.round s_lStarts 400 0 (F_s0 l k how 2 nq p q a0 b0 c0 d0 e0 m0 k0 a1 b1 c1 d1 e1 m1 k1 a2 b2 c2 d2 e2 m2 k2 n0 n1 n2 M0 K0 M1 K1 M2 K2 R0 R1 R2) =
(FnA.at_ a_lStarts 1 (F_s1 l k how (2 : Int) nq p q a0 b0 c0 d0 e0 m0 k0 a1 b1 c1 d1 e1 m1 k1 a2 b2 c2 d2 e2 m2 k2 n0 n1 n2 M0 K0 M1 K1 M2 K2 R0 R1 R2 (↑nq : Int) (0 : Int))) := by kernel_rfl
set_option maxRecDepth 100000 in
theorem t_s1_0 (l k : List Int) (how : Int) (nq : Nat) (p : Prg) (q : List (List D)) (a0 b0 c0 d0 e0 : Int) (m0 k0 : Nat) (a1 b1 c1 d1 e1 : Int) (m1 k1 : Nat) (a2 b2 c2 d2 e2 : Int) (m2 k2 : Nat) (n0 n1 n2 : Nat) (M0 K0 M1 K1 M2 K2 R0 R1 R2 : List (List D)) (nn i : Int) : a_lStarts.round s_lStarts 400 1 (F_s1 l k how 0 nq p q a0 b0 c0 d0 e0 m0 k0 a1 b1 c1 d1 e1 m1 k1 a2 b2 c2 d2 e2 m2 k2 n0 n1 n2 M0 K0 M1 K1 M2 K2 R0 R1 R2 nn i) =
(VC.br (decide (i < nn))
 (VC.br (decide (i < (↑(List.length (rowsOn l)) : Int)))
  (VC.need ((0 : Int) ≤ i ∧ i < (↑(List.length (rowsOn l)) : Int) ∧ List.length (rowAt (rowsOn l) (Int.toNat i)) = (1 : Nat))
  (VC.need (okSh [Kd.int IntKind.i64] (rowAt (rowsOn l) (Int.toNat i)))
  (VC.br (decide (i < (↑(List.length (rowsOn k)) : Int)))
   (VC.need ((0 : Int) ≤ IntKind.wrap IntKind.u64 (IntKind.wrap IntKind.i64 (i + (0 : Int))))
   (VC.br (bits BinOp.and IntKind.i64 (Int.fdiv how ((2 : Int) ^ min (Int.toNat (IntKind.wrap IntKind.u64 (IntKind.wrap IntKind.i64 (i + (0 : Int))))) (64 : Nat))) (1 : Int) == (1 : Int))
    (VC.need ((0 : Int) ≤ i ∧ i < (↑(List.length (rowsOn k)) : Int) ∧ List.length (rowAt (rowsOn k) (Int.toNat i)) = (1 : Nat))
    (VC.need (okSh [Kd.int IntKind.i64] (rowAt (rowsOn k) (Int.toNat i)))
    (FnA.at_ a_lStarts 2 (F_sc l k how (0 : Int) nq p q a0 b0 c0 d0 e0 m0 k0 a1 b1 c1 d1 e1 m1 k1 a2 b2 c2 d2 e2 m2 k2 n0 n1 n2 M0 K0 M1 K1 M2 K2 R0 R1 R2 nn i (asInt (List.getD (rowAt (rowsOn k) (Int.toNat i)) (0 : Nat) D.nilp))))))
    (FnA.at_ a_lStarts 2 (F_sc l k how (0 : Int) nq p q a0 b0 c0 d0 e0 m0 k0 a1 b1 c1 d1 e1 m1 k1 a2 b2 c2 d2 e2 m2 k2 n0 n1 n2 M0 K0 M1 K1 M2 K2 R0 R1 R2 nn i (asInt (List.getD (rowAt (rowsOn l) (Int.toNat i)) (0 : Nat) D.nilp))))))
   (FnA.at_ a_lStarts 2 (F_sc l k how (0 : Int) nq p q a0 b0 c0 d0 e0 m0 k0 a1 b1 c1 d1 e1 m1 k1 a2 b2 c2 d2 e2 m2 k2 n0 n1 n2 M0 K0 M1 K1 M2 K2 R0 R1 R2 nn i (asInt (List.getD (rowAt (rowsOn l) (Int.toNat i)) (0 : Nat) D.nilp)))))))
  (VC.br (decide (i < (↑(List.length (rowsOn k)) : Int)))
   (VC.need ((0 : Int) ≤ IntKind.wrap IntKind.u64 (IntKind.wrap IntKind.i64 (i + (0 : Int))))
   (VC.br (bits BinOp.and IntKind.i64 (Int.fdiv how ((2 : Int) ^ min (Int.toNat (IntKind.wrap IntKind.u64 (IntKind.wrap IntKind.i64 (i + (0 : Int))))) (64 : Nat))) (1 : Int) == (1 : Int))
    (VC.need ((0 : Int) ≤ i ∧ i < (↑(List.length (rowsOn k)) : Int) ∧ List.length (rowAt (rowsOn k) (Int.toNat i)) = (1 : Nat))
    (VC.need (okSh [Kd.int IntKind.i64] (rowAt (rowsOn k) (Int.toNat i)))
    (FnA.at_ a_lStarts 2 (F_sc l k how (0 : Int) nq p q a0 b0 c0 d0 e0 m0 k0 a1 b1 c1 d1 e1 m1 k1 a2 b2 c2 d2 e2 m2 k2 n0 n1 n2 M0 K0 M1 K1 M2 K2 R0 R1 R2 nn i (asInt (List.getD (rowAt (rowsOn k) (Int.toNat i)) (0 : Nat) D.nilp))))))
    (FnA.at_ a_lStarts 2 (F_sc l k how (0 : Int) nq p q a0 b0 c0 d0 e0 m0 k0 a1 b1 c1 d1 e1 m1 k1 a2 b2 c2 d2 e2 m2 k2 n0 n1 n2 M0 K0 M1 K1 M2 K2 R0 R1 R2 nn i (0 : Int)))))
   (FnA.at_ a_lStarts 2 (F_sc l k how (0 : Int) nq p q a0 b0 c0 d0 e0 m0 k0 a1 b1 c1 d1 e1 m1 k1 a2 b2 c2 d2 e2 m2 k2 n0 n1 n2 M0 K0 M1 K1 M2 K2 R0 R1 R2 nn i (0 : Int)))))
 (VC.need (PreOk c_aStart (Prg.of (Prg.cells p), listOf Int R0) [A.agg (Prg.cells p), A.c (D.sl R0)])
 (VC.all (v_aStart (Prg.of (Prg.cells p), listOf Int R0)) fun (y41 : Sta × Bool) =>
 (VC.br (!y41.snd)
  (VC.ret (some (RR.c (Rc.d (D.bool false)))))
  (FnA.at_ a_lStarts 3 (F_s2_0 l k how (0 : Int) nq p q y41.fst.r0 y41.fst.r1 y41.fst.r2 y41.fst.r3 y41.fst.pc (List.length (rowsOn y41.fst.mem)) (List.length (rowsOn y41.fst.stack)) a1 b1 c1 d1 e1 m1 k1 a2 b2 c2 d2 e2 m2 k2 n0 n1 n2 (rowsOn y41.fst.mem) (rowsOn y41.fst.stack) M1 K1 M2 K2 R0 R1 R2 (0 : Int) (↑nq : Int) (0 : Int))))))) := by kernel_rfl
set_option maxRecDepth 100000 in
theorem t_sc_0 (l k : List Int) (how : Int) (nq : Nat) (p : Prg) (q : List (List D)) (a0 b0 c0 d0 e0 : Int) (m0 k0 : Nat) (a1 b1 c1 d1 e1 : Int) (m1 k1 : Nat) (a2 b2 c2 d2 e2 : Int) (m2 k2 : Nat) (n0 n1 n2 : Nat) (M0 K0 M1 K1 M2 K2 R0 R1 R2 : List (List D)) (nn i v : Int) : a_lStarts.round s_lStarts 400 2 (F_sc l k how 0 nq p q a0 b0 c0 d0 e0 m0 k0 a1 b1 c1 d1 e1 m1 k1 a2 b2 c2 d2 e2 m2 k2 n0 n1 n2 M0 K0 M1 K1 M2 K2 R0 R1 R2 nn i v) =
(VC.need (PreOk c_rMask (p.w, v) [A.c (D.int IntKind.i64 p.w), A.c (D.int IntKind.i64 v)])
(VC.need ((List.all [[D.int IntKind.i64 (maskS p.w v)]] fun r ↦ List.length r == (1 : Nat)) = true ∧ (List.all R0 fun r ↦ List.length r == (1 : Nat)) = true ∧ (List.length R0 + List.length [[D.int IntKind.i64 (maskS p.w v)]] + (100 : Nat)) * (9 : Nat) ≤ (70368744177664 : Nat))
(FnA.at_ a_lStarts 1 (F_s1 l k how (0 : Int) nq p q a0 b0 c0 d0 e0 m0 k0 a1 b1 c1 d1 e1 m1 k1 a2 b2 c2 d2 e2 m2 k2 (List.length R0 + List.length [[D.int IntKind.i64 (maskS p.w v)]]) n1 n2 M0 K0 M1 K1 M2 K2 (R0 ++ [[D.int IntKind.i64 (maskS p.w v)]]) R1 R2 nn (IntKind.wrap IntKind.i64 (i + (1 : Int))))))) := by kernel_rfl
set_option maxRecDepth 100000 in
theorem t_s2_0 (l k : List Int) (how : Int) (nq : Nat) (p : Prg) (q : List (List D)) (a0 b0 c0 d0 e0 : Int) (m0 k0 : Nat) (a1 b1 c1 d1 e1 : Int) (m1 k1 : Nat) (a2 b2 c2 d2 e2 : Int) (m2 k2 : Nat) (n0 n1 n2 : Nat) (M0 K0 M1 K1 M2 K2 R0 R1 R2 : List (List D)) (sum nn i : Int) : a_lStarts.round s_lStarts 400 3 (F_s2_0 l k how 0 nq p q a0 b0 c0 d0 e0 m0 k0 a1 b1 c1 d1 e1 m1 k1 a2 b2 c2 d2 e2 m2 k2 n0 n1 n2 M0 K0 M1 K1 M2 K2 R0 R1 R2 sum nn i) =
(VC.br (decide (i < nn))
 (VC.need ((0 : Int) ≤ i ∧ i < (↑nq : Int))
 (VC.need (Int.toNat i < List.length q ∧ List.length (rowAt q (Int.toNat i)) = (3 : Nat) ∧ okSh [Kd.bool] (List.drop (0 : Nat) (rowAt q (Int.toNat i))))
 (VC.br (asBool (List.getD (List.drop (0 : Nat) (rowAt q (Int.toNat i))) (0 : Nat) D.nilp))
  (VC.need ((0 : Int) ≤ i ∧ i < (↑nq : Int))
  (VC.need (Int.toNat i < List.length q ∧ List.length (rowAt q (Int.toNat i)) = (3 : Nat) ∧ okSh [Kd.int IntKind.i64] (List.drop (1 : Nat) (rowAt q (Int.toNat i))))
  (VC.br (decide (asInt (List.getD (List.drop (1 : Nat) (rowAt q (Int.toNat i))) (0 : Nat) D.nilp) = (0 : Int)))
   (VC.need ((0 : Int) ≤ i ∧ i < (↑n0 : Int))
   (VC.need (Int.toNat i < List.length R0 ∧ List.length (rowAt R0 (Int.toNat i)) = (1 : Nat) ∧ okSh [Kd.int IntKind.i64] (List.drop (0 : Nat) (rowAt R0 (Int.toNat i))))
   (VC.br (a0 != asInt (List.getD (List.drop (0 : Nat) (rowAt R0 (Int.toNat i))) (0 : Nat) D.nilp))
    (VC.ret (some (RR.c (Rc.d (D.bool false)))))
    (VC.need ((0 : Int) ≤ i ∧ i < (↑nq : Int))
    (VC.need (Int.toNat i < List.length q ∧ List.length (rowAt q (Int.toNat i)) = (3 : Nat) ∧ okSh [Kd.bool] (List.drop (0 : Nat) (rowAt q (Int.toNat i))))
    (VC.br (!asBool (List.getD (List.drop (0 : Nat) (rowAt q (Int.toNat i))) (0 : Nat) D.nilp))
     (VC.need ((0 : Int) ≤ i ∧ i < (↑nq : Int))
     (VC.need (Int.toNat i < List.length q ∧ List.length (rowAt q (Int.toNat i)) = (3 : Nat) ∧ okSh [Kd.int IntKind.i64] (List.drop (1 : Nat) (rowAt q (Int.toNat i))))
     (VC.br (decide ((↑m0 : Int) ≤ asInt (List.getD (List.drop (1 : Nat) (rowAt q (Int.toNat i))) (0 : Nat) D.nilp)))
      (VC.ret (some (RR.c (Rc.d (D.bool false)))))
      (VC.need ((0 : Int) ≤ i ∧ i < (↑nq : Int))
      (VC.need (Int.toNat i < List.length q ∧ List.length (rowAt q (Int.toNat i)) = (3 : Nat) ∧ okSh [Kd.int IntKind.i64] (List.drop (1 : Nat) (rowAt q (Int.toNat i))))
      (VC.need ((0 : Int) ≤ asInt (List.getD (List.drop (1 : Nat) (rowAt q (Int.toNat i))) (0 : Nat) D.nilp) ∧ asInt (List.getD (List.drop (1 : Nat) (rowAt q (Int.toNat i))) (0 : Nat) D.nilp) < (↑m0 : Int))
      (VC.need (Int.toNat (asInt (List.getD (List.drop (1 : Nat) (rowAt q (Int.toNat i))) (0 : Nat) D.nilp)) < List.length M0 ∧ List.length (rowAt M0 (Int.toNat (asInt (List.getD (List.drop (1 : Nat) (rowAt q (Int.toNat i))) (0 : Nat) D.nilp)))) = (1 : Nat) ∧ okSh [Kd.int IntKind.i64] (List.drop (0 : Nat) (rowAt M0 (Int.toNat (asInt (List.getD (List.drop (1 : Nat) (rowAt q (Int.toNat i))) (0 : Nat) D.nilp))))))
      (VC.need ((0 : Int) ≤ i ∧ i < (↑n0 : Int))
      (VC.need (Int.toNat i < List.length R0 ∧ List.length (rowAt R0 (Int.toNat i)) = (1 : Nat) ∧ okSh [Kd.int IntKind.i64] (List.drop (0 : Nat) (rowAt R0 (Int.toNat i))))
      (VC.br (asInt (List.getD (List.drop (0 : Nat) (rowAt M0 (Int.toNat (asInt (List.getD (List.drop (1 : Nat) (rowAt q (Int.toNat i))) (0 : Nat) D.nilp))))) (0 : Nat) D.nilp) != asInt (List.getD (List.drop (0 : Nat) (rowAt R0 (Int.toNat i))) (0 : Nat) D.nilp))
       (VC.ret (some (RR.c (Rc.d (D.bool false)))))
       (FnA.at_ a_lStarts 3 (F_s2_0 l k how (0 : Int) nq p q a0 b0 c0 d0 e0 m0 k0 a1 b1 c1 d1 e1 m1 k1 a2 b2 c2 d2 e2 m2 k2 n0 n1 n2 M0 K0 M1 K1 M2 K2 R0 R1 R2 sum nn (IntKind.wrap IntKind.i64 (i + (1 : Int)))))))))))))))
     (FnA.at_ a_lStarts 3 (F_s2_0 l k how (0 : Int) nq p q a0 b0 c0 d0 e0 m0 k0 a1 b1 c1 d1 e1 m1 k1 a2 b2 c2 d2 e2 m2 k2 n0 n1 n2 M0 K0 M1 K1 M2 K2 R0 R1 R2 sum nn (IntKind.wrap IntKind.i64 (i + (1 : Int)))))))))))
   (VC.br (decide (asInt (List.getD (List.drop (1 : Nat) (rowAt q (Int.toNat i))) (0 : Nat) D.nilp) = (1 : Int)))
    (VC.need ((0 : Int) ≤ i ∧ i < (↑n0 : Int))
    (VC.need (Int.toNat i < List.length R0 ∧ List.length (rowAt R0 (Int.toNat i)) = (1 : Nat) ∧ okSh [Kd.int IntKind.i64] (List.drop (0 : Nat) (rowAt R0 (Int.toNat i))))
    (VC.br (b0 != asInt (List.getD (List.drop (0 : Nat) (rowAt R0 (Int.toNat i))) (0 : Nat) D.nilp))
     (VC.ret (some (RR.c (Rc.d (D.bool false)))))
     (VC.need ((0 : Int) ≤ i ∧ i < (↑nq : Int))
     (VC.need (Int.toNat i < List.length q ∧ List.length (rowAt q (Int.toNat i)) = (3 : Nat) ∧ okSh [Kd.bool] (List.drop (0 : Nat) (rowAt q (Int.toNat i))))
     (VC.br (!asBool (List.getD (List.drop (0 : Nat) (rowAt q (Int.toNat i))) (0 : Nat) D.nilp))
      (VC.need ((0 : Int) ≤ i ∧ i < (↑nq : Int))
      (VC.need (Int.toNat i < List.length q ∧ List.length (rowAt q (Int.toNat i)) = (3 : Nat) ∧ okSh [Kd.int IntKind.i64] (List.drop (1 : Nat) (rowAt q (Int.toNat i))))
      (VC.br (decide ((↑m0 : Int) ≤ asInt (List.getD (List.drop (1 : Nat) (rowAt q (Int.toNat i))) (0 : Nat) D.nilp)))
       (VC.ret (some (RR.c (Rc.d (D.bool false)))))
       (VC.need ((0 : Int) ≤ i ∧ i < (↑nq : Int))
       (VC.need (Int.toNat i < List.length q ∧ List.length (rowAt q (Int.toNat i)) = (3 : Nat) ∧ okSh [Kd.int IntKind.i64] (List.drop (1 : Nat) (rowAt q (Int.toNat i))))
       (VC.need ((0 : Int) ≤ asInt (List.getD (List.drop (1 : Nat) (rowAt q (Int.toNat i))) (0 : Nat) D.nilp) ∧ asInt (List.getD (List.drop (1 : Nat) (rowAt q (Int.toNat i))) (0 : Nat) D.nilp) < (↑m0 : Int))
       (VC.need (Int.toNat (asInt (List.getD (List.drop (1 : Nat) (rowAt q (Int.toNat i))) (0 : Nat) D.nilp)) < List.length M0 ∧ List.length (rowAt M0 (Int.toNat (asInt (List.getD (List.drop (1 : Nat) (rowAt q (Int.toNat i))) (0 : Nat) D.nilp)))) = (1 : Nat) ∧ okSh [Kd.int IntKind.i64] (List.drop (0 : Nat) (rowAt M0 (Int.toNat (asInt (List.getD (List.drop (1 : Nat) (rowAt q (Int.toNat i))) (0 : Nat) D.nilp))))))
       (VC.need ((0 : Int) ≤ i ∧ i < (↑n0 : Int))
       (VC.need (Int.toNat i < List.length R0 ∧ List.length (rowAt R0 (Int.toNat i)) = (1 : Nat) ∧ okSh [Kd.int IntKind.i64] (List.drop (0 : Nat) (rowAt R0 (Int.toNat i))))
       (VC.br (asInt (List.getD (List.drop (0 : Nat) (rowAt M0 (Int.toNat (asInt (List.getD (List.drop (1 : Nat) (rowAt q (Int.toNat i))) (0 : Nat) D.nilp))))) (0 : Nat) D.nilp) != asInt (List.getD (List.drop (0 : Nat) (rowAt R0 (Int.toNat i))) (0 : Nat) D.nilp))
        (VC.ret (some (RR.c (Rc.d (D.bool false)))))
        (FnA.at_ a_lStarts 3 (F_s2_0 l k how (0 : Int) nq p q a0 b0 c0 d0 e0 m0 k0 a1 b1 c1 d1 e1 m1 k1 a2 b2 c2 d2 e2 m2 k2 n0 n1 n2 M0 K0 M1 K1 M2 K2 R0 R1 R2 sum nn (IntKind.wrap IntKind.i64 (i + (1 : Int)))))))))))))))
      (FnA.at_ a_lStarts 3 (F_s2_0 l k how (0 : Int) nq p q a0 b0 c0 d0 e0 m0 k0 a1 b1 c1 d1 e1 m1 k1 a2 b2 c2 d2 e2 m2 k2 n0 n1 n2 M0 K0 M1 K1 M2 K2 R0 R1 R2 sum nn (IntKind.wrap IntKind.i64 (i + (1 : Int)))))))))))
    (VC.br (decide (asInt (List.getD (List.drop (1 : Nat) (rowAt q (Int.toNat i))) (0 : Nat) D.nilp) = (2 : Int)))
     (VC.need ((0 : Int) ≤ i ∧ i < (↑n0 : Int))
     (VC.need (Int.toNat i < List.length R0 ∧ List.length (rowAt R0 (Int.toNat i)) = (1 : Nat) ∧ okSh [Kd.int IntKind.i64] (List.drop (0 : Nat) (rowAt R0 (Int.toNat i))))
     (VC.br (c0 != asInt (List.getD (List.drop (0 : Nat) (rowAt R0 (Int.toNat i))) (0 : Nat) D.nilp))
      (VC.ret (some (RR.c (Rc.d (D.bool false)))))
      (VC.need ((0 : Int) ≤ i ∧ i < (↑nq : Int))
      (VC.need (Int.toNat i < List.length q ∧ List.length (rowAt q (Int.toNat i)) = (3 : Nat) ∧ okSh [Kd.bool] (List.drop (0 : Nat) (rowAt q (Int.toNat i))))
      (VC.br (!asBool (List.getD (List.drop (0 : Nat) (rowAt q (Int.toNat i))) (0 : Nat) D.nilp))
       (VC.need ((0 : Int) ≤ i ∧ i < (↑nq : Int))
       (VC.need (Int.toNat i < List.length q ∧ List.length (rowAt q (Int.toNat i)) = (3 : Nat) ∧ okSh [Kd.int IntKind.i64] (List.drop (1 : Nat) (rowAt q (Int.toNat i))))
       (VC.br (decide ((↑m0 : Int) ≤ asInt (List.getD (List.drop (1 : Nat) (rowAt q (Int.toNat i))) (0 : Nat) D.nilp)))
        (VC.ret (some (RR.c (Rc.d (D.bool false)))))
        (VC.need ((0 : Int) ≤ i ∧ i < (↑nq : Int))
        (VC.need (Int.toNat i < List.length q ∧ List.length (rowAt q (Int.toNat i)) = (3 : Nat) ∧ okSh [Kd.int IntKind.i64] (List.drop (1 : Nat) (rowAt q (Int.toNat i))))
        (VC.need ((0 : Int) ≤ asInt (List.getD (List.drop (1 : Nat) (rowAt q (Int.toNat i))) (0 : Nat) D.nilp) ∧ asInt (List.getD (List.drop (1 : Nat) (rowAt q (Int.toNat i))) (0 : Nat) D.nilp) < (↑m0 : Int))
        (VC.need (Int.toNat (asInt (List.getD (List.drop (1 : Nat) (rowAt q (Int.toNat i))) (0 : Nat) D.nilp)) < List.length M0 ∧ List.length (rowAt M0 (Int.toNat (asInt (List.getD (List.drop (1 : Nat) (rowAt q (Int.toNat i))) (0 : Nat) D.nilp)))) = (1 : Nat) ∧ okSh [Kd.int IntKind.i64] (List.drop (0 : Nat) (rowAt M0 (Int.toNat (asInt (List.getD (List.drop (1 : Nat) (rowAt q (Int.toNat i))) (0 : Nat) D.nilp))))))
        (VC.need ((0 : Int) ≤ i ∧ i < (↑n0 : Int))
        (VC.need (Int.toNat i < List.length R0 ∧ List.length (rowAt R0 (Int.toNat i)) = (1 : Nat) ∧ okSh [Kd.int IntKind.i64] (List.drop (0 : Nat) (rowAt R0 (Int.toNat i))))
        (VC.br (asInt (List.getD (List.drop (0 : Nat) (rowAt M0 (Int.toNat (asInt (List.getD (List.drop (1 : Nat) (rowAt q (Int.toNat i))) (0 : Nat) D.nilp))))) (0 : Nat) D.nilp) != asInt (List.getD (List.drop (0 : Nat) (rowAt R0 (Int.toNat i))) (0 : Nat) D.nilp))
         (VC.ret (some (RR.c (Rc.d (D.bool false)))))
         (FnA.at_ a_lStarts 3 (F_s2_0 l k how (0 : Int) nq p q a0 b0 c0 d0 e0 m0 k0 a1 b1 c1 d1 e1 m1 k1 a2 b2 c2 d2 e2 m2 k2 n0 n1 n2 M0 K0 M1 K1 M2 K2 R0 R1 R2 sum nn (IntKind.wrap IntKind.i64 (i + (1 : Int)))))))))))))))
       (FnA.at_ a_lStarts 3 (F_s2_0 l k how (0 : Int) nq p q a0 b0 c0 d0 e0 m0 k0 a1 b1 c1 d1 e1 m1 k1 a2 b2 c2 d2 e2 m2 k2 n0 n1 n2 M0 K0 M1 K1 M2 K2 R0 R1 R2 sum nn (IntKind.wrap IntKind.i64 (i + (1 : Int)))))))))))
     (VC.br (decide (asInt (List.getD (List.drop (1 : Nat) (rowAt q (Int.toNat i))) (0 : Nat) D.nilp) = (3 : Int)))
      (VC.need ((0 : Int) ≤ i ∧ i < (↑n0 : Int))
      (VC.need (Int.toNat i < List.length R0 ∧ List.length (rowAt R0 (Int.toNat i)) = (1 : Nat) ∧ okSh [Kd.int IntKind.i64] (List.drop (0 : Nat) (rowAt R0 (Int.toNat i))))
      (VC.br (d0 != asInt (List.getD (List.drop (0 : Nat) (rowAt R0 (Int.toNat i))) (0 : Nat) D.nilp))
       (VC.ret (some (RR.c (Rc.d (D.bool false)))))
       (VC.need ((0 : Int) ≤ i ∧ i < (↑nq : Int))
       (VC.need (Int.toNat i < List.length q ∧ List.length (rowAt q (Int.toNat i)) = (3 : Nat) ∧ okSh [Kd.bool] (List.drop (0 : Nat) (rowAt q (Int.toNat i))))
       (VC.br (!asBool (List.getD (List.drop (0 : Nat) (rowAt q (Int.toNat i))) (0 : Nat) D.nilp))
        (VC.need ((0 : Int) ≤ i ∧ i < (↑nq : Int))
        (VC.need (Int.toNat i < List.length q ∧ List.length (rowAt q (Int.toNat i)) = (3 : Nat) ∧ okSh [Kd.int IntKind.i64] (List.drop (1 : Nat) (rowAt q (Int.toNat i))))
        (VC.br (decide ((↑m0 : Int) ≤ asInt (List.getD (List.drop (1 : Nat) (rowAt q (Int.toNat i))) (0 : Nat) D.nilp)))
         (VC.ret (some (RR.c (Rc.d (D.bool false)))))
         (VC.need ((0 : Int) ≤ i ∧ i < (↑nq : Int))
         (VC.need (Int.toNat i < List.length q ∧ List.length (rowAt q (Int.toNat i)) = (3 : Nat) ∧ okSh [Kd.int IntKind.i64] (List.drop (1 : Nat) (rowAt q (Int.toNat i))))
         (VC.need ((0 : Int) ≤ asInt (List.getD (List.drop (1 : Nat) (rowAt q (Int.toNat i))) (0 : Nat) D.nilp) ∧ asInt (List.getD (List.drop (1 : Nat) (rowAt q (Int.toNat i))) (0 : Nat) D.nilp) < (↑m0 : Int))
         (VC.need (Int.toNat (asInt (List.getD (List.drop (1 : Nat) (rowAt q (Int.toNat i))) (0 : Nat) D.nilp)) < List.length M0 ∧ List.length (rowAt M0 (Int.toNat (asInt (List.getD (List.drop (1 : Nat) (rowAt q (Int.toNat i))) (0 : Nat) D.nilp)))) = (1 : Nat) ∧ okSh [Kd.int IntKind.i64] (List.drop (0 : Nat) (rowAt M0 (Int.toNat (asInt (List.getD (List.drop (1 : Nat) (rowAt q (Int.toNat i))) (0 : Nat) D.nilp))))))
         (VC.need ((0 : Int) ≤ i ∧ i < (↑n0 : Int))
         (VC.need (Int.toNat i < List.length R0 ∧ List.length (rowAt R0 (Int.toNat i)) = (1 : Nat) ∧ okSh [Kd.int IntKind.i64] (List.drop (0 : Nat) (rowAt R0 (Int.toNat i))))
         (VC.br (asInt (List.getD (List.drop (0 : Nat) (rowAt M0 (Int.toNat (asInt (List.getD (List.drop (1 : Nat) (rowAt q (Int.toNat i))) (0 : Nat) D.nilp))))) (0 : Nat) D.nilp) != asInt (List.getD (List.drop (0 : Nat) (rowAt R0 (Int.toNat i))) (0 : Nat) D.nilp))
          (VC.ret (some (RR.c (Rc.d (D.bool false)))))
          (FnA.at_ a_lStarts 3 (F_s2_0 l k how (0 : Int) nq p q a0 b0 c0 d0 e0 m0 k0 a1 b1 c1 d1 e1 m1 k1 a2 b2 c2 d2 e2 m2 k2 n0 n1 n2 M0 K0 M1 K1 M2 K2 R0 R1 R2 sum nn (IntKind.wrap IntKind.i64 (i + (1 : Int)))))))))))))))
        (FnA.at_ a_lStarts 3 (F_s2_0 l k how (0 : Int) nq p q a0 b0 c0 d0 e0 m0 k0 a1 b1 c1 d1 e1 m1 k1 a2 b2 c2 d2 e2 m2 k2 n0 n1 n2 M0 K0 M1 K1 M2 K2 R0 R1 R2 sum nn (IntKind.wrap IntKind.i64 (i + (1 : Int)))))))))))
      VC.ff))))))
  (VC.need ((0 : Int) ≤ i ∧ i < (↑nq : Int))
  (VC.need (Int.toNat i < List.length q ∧ List.length (rowAt q (Int.toNat i)) = (3 : Nat) ∧ okSh [Kd.bool] (List.drop (0 : Nat) (rowAt q (Int.toNat i))))
  (VC.br (!asBool (List.getD (List.drop (0 : Nat) (rowAt q (Int.toNat i))) (0 : Nat) D.nilp))
   (VC.need ((0 : Int) ≤ i ∧ i < (↑nq : Int))
   (VC.need (Int.toNat i < List.length q ∧ List.length (rowAt q (Int.toNat i)) = (3 : Nat) ∧ okSh [Kd.int IntKind.i64] (List.drop (1 : Nat) (rowAt q (Int.toNat i))))
   (VC.br (decide ((↑m0 : Int) ≤ asInt (List.getD (List.drop (1 : Nat) (rowAt q (Int.toNat i))) (0 : Nat) D.nilp)))
    (VC.ret (some (RR.c (Rc.d (D.bool false)))))
    (VC.need ((0 : Int) ≤ i ∧ i < (↑nq : Int))
    (VC.need (Int.toNat i < List.length q ∧ List.length (rowAt q (Int.toNat i)) = (3 : Nat) ∧ okSh [Kd.int IntKind.i64] (List.drop (1 : Nat) (rowAt q (Int.toNat i))))
    (VC.need ((0 : Int) ≤ asInt (List.getD (List.drop (1 : Nat) (rowAt q (Int.toNat i))) (0 : Nat) D.nilp) ∧ asInt (List.getD (List.drop (1 : Nat) (rowAt q (Int.toNat i))) (0 : Nat) D.nilp) < (↑m0 : Int))
    (VC.need (Int.toNat (asInt (List.getD (List.drop (1 : Nat) (rowAt q (Int.toNat i))) (0 : Nat) D.nilp)) < List.length M0 ∧ List.length (rowAt M0 (Int.toNat (asInt (List.getD (List.drop (1 : Nat) (rowAt q (Int.toNat i))) (0 : Nat) D.nilp)))) = (1 : Nat) ∧ okSh [Kd.int IntKind.i64] (List.drop (0 : Nat) (rowAt M0 (Int.toNat (asInt (List.getD (List.drop (1 : Nat) (rowAt q (Int.toNat i))) (0 : Nat) D.nilp))))))
    (VC.need ((0 : Int) ≤ i ∧ i < (↑n0 : Int))
    (VC.need (Int.toNat i < List.length R0 ∧ List.length (rowAt R0 (Int.toNat i)) = (1 : Nat) ∧ okSh [Kd.int IntKind.i64] (List.drop (0 : Nat) (rowAt R0 (Int.toNat i))))
    (VC.br (asInt (List.getD (List.drop (0 : Nat) (rowAt M0 (Int.toNat (asInt (List.getD (List.drop (1 : Nat) (rowAt q (Int.toNat i))) (0 : Nat) D.nilp))))) (0 : Nat) D.nilp) != asInt (List.getD (List.drop (0 : Nat) (rowAt R0 (Int.toNat i))) (0 : Nat) D.nilp))
     (VC.ret (some (RR.c (Rc.d (D.bool false)))))
     (FnA.at_ a_lStarts 3 (F_s2_0 l k how (0 : Int) nq p q a0 b0 c0 d0 e0 m0 k0 a1 b1 c1 d1 e1 m1 k1 a2 b2 c2 d2 e2 m2 k2 n0 n1 n2 M0 K0 M1 K1 M2 K2 R0 R1 R2 sum nn (IntKind.wrap IntKind.i64 (i + (1 : Int)))))))))))))))
   (FnA.at_ a_lStarts 3 (F_s2_0 l k how (0 : Int) nq p q a0 b0 c0 d0 e0 m0 k0 a1 b1 c1 d1 e1 m1 k1 a2 b2 c2 d2 e2 m2 k2 n0 n1 n2 M0 K0 M1 K1 M2 K2 R0 R1 R2 sum nn (IntKind.wrap IntKind.i64 (i + (1 : Int)))))))))))
 (FnA.at_ a_lStarts 4 (F_s3_0 l k how (0 : Int) nq p q a0 b0 c0 d0 e0 m0 k0 a1 b1 c1 d1 e1 m1 k1 a2 b2 c2 d2 e2 m2 k2 n0 n1 n2 M0 K0 M1 K1 M2 K2 R0 R1 R2 sum (0 : Int)))) := by kernel_rfl
set_option maxRecDepth 100000 in
theorem t_s3_0 (l k : List Int) (how : Int) (nq : Nat) (p : Prg) (q : List (List D)) (a0 b0 c0 d0 e0 : Int) (m0 k0 : Nat) (a1 b1 c1 d1 e1 : Int) (m1 k1 : Nat) (a2 b2 c2 d2 e2 : Int) (m2 k2 : Nat) (n0 n1 n2 : Nat) (M0 K0 M1 K1 M2 K2 R0 R1 R2 : List (List D)) (sum i : Int) : a_lStarts.round s_lStarts 400 4 (F_s3_0 l k how 0 nq p q a0 b0 c0 d0 e0 m0 k0 a1 b1 c1 d1 e1 m1 k1 a2 b2 c2 d2 e2 m2 k2 n0 n1 n2 M0 K0 M1 K1 M2 K2 R0 R1 R2 sum i) =
(VC.br (decide (i < (4 : Int)))
 (VC.br (decide (i = (0 : Int)))
  (VC.br (p.r0 == (0 : Int))
   (VC.br (decide (i = (0 : Int)))
    (FnA.at_ a_lStarts 5 (F_s3_0 l k how (0 : Int) nq p q a0 b0 c0 d0 e0 m0 k0 a1 b1 c1 d1 e1 m1 k1 a2 b2 c2 d2 e2 m2 k2 n0 n1 n2 M0 K0 M1 K1 M2 K2 R0 R1 R2 (IntKind.wrap IntKind.i64 (sum + a0)) i))
    (VC.br (decide (i = (1 : Int)))
     (FnA.at_ a_lStarts 5 (F_s3_0 l k how (0 : Int) nq p q a0 b0 c0 d0 e0 m0 k0 a1 b1 c1 d1 e1 m1 k1 a2 b2 c2 d2 e2 m2 k2 n0 n1 n2 M0 K0 M1 K1 M2 K2 R0 R1 R2 (IntKind.wrap IntKind.i64 (sum + b0)) i))
     (VC.br (decide (i = (2 : Int)))
      (FnA.at_ a_lStarts 5 (F_s3_0 l k how (0 : Int) nq p q a0 b0 c0 d0 e0 m0 k0 a1 b1 c1 d1 e1 m1 k1 a2 b2 c2 d2 e2 m2 k2 n0 n1 n2 M0 K0 M1 K1 M2 K2 R0 R1 R2 (IntKind.wrap IntKind.i64 (sum + c0)) i))
      (VC.br (decide (i = (3 : Int)))
       (FnA.at_ a_lStarts 5 (F_s3_0 l k how (0 : Int) nq p q a0 b0 c0 d0 e0 m0 k0 a1 b1 c1 d1 e1 m1 k1 a2 b2 c2 d2 e2 m2 k2 n0 n1 n2 M0 K0 M1 K1 M2 K2 R0 R1 R2 (IntKind.wrap IntKind.i64 (sum + d0)) i))
       VC.ff))))
   (FnA.at_ a_lStarts 5 (F_s3_0 l k how (0 : Int) nq p q a0 b0 c0 d0 e0 m0 k0 a1 b1 c1 d1 e1 m1 k1 a2 b2 c2 d2 e2 m2 k2 n0 n1 n2 M0 K0 M1 K1 M2 K2 R0 R1 R2 sum i)))
  (VC.br (decide (i = (1 : Int)))
   (VC.br (p.r1 == (0 : Int))
    (VC.br (decide (i = (0 : Int)))
     (FnA.at_ a_lStarts 5 (F_s3_0 l k how (0 : Int) nq p q a0 b0 c0 d0 e0 m0 k0 a1 b1 c1 d1 e1 m1 k1 a2 b2 c2 d2 e2 m2 k2 n0 n1 n2 M0 K0 M1 K1 M2 K2 R0 R1 R2 (IntKind.wrap IntKind.i64 (sum + a0)) i))
     (VC.br (decide (i = (1 : Int)))
      (FnA.at_ a_lStarts 5 (F_s3_0 l k how (0 : Int) nq p q a0 b0 c0 d0 e0 m0 k0 a1 b1 c1 d1 e1 m1 k1 a2 b2 c2 d2 e2 m2 k2 n0 n1 n2 M0 K0 M1 K1 M2 K2 R0 R1 R2 (IntKind.wrap IntKind.i64 (sum + b0)) i))
      (VC.br (decide (i = (2 : Int)))
       (FnA.at_ a_lStarts 5 (F_s3_0 l k how (0 : Int) nq p q a0 b0 c0 d0 e0 m0 k0 a1 b1 c1 d1 e1 m1 k1 a2 b2 c2 d2 e2 m2 k2 n0 n1 n2 M0 K0 M1 K1 M2 K2 R0 R1 R2 (IntKind.wrap IntKind.i64 (sum + c0)) i))
       (VC.br (decide (i = (3 : Int)))
        (FnA.at_ a_lStarts 5 (F_s3_0 l k how (0 : Int) nq p q a0 b0 c0 d0 e0 m0 k0 a1 b1 c1 d1 e1 m1 k1 a2 b2 c2 d2 e2 m2 k2 n0 n1 n2 M0 K0 M1 K1 M2 K2 R0 R1 R2 (IntKind.wrap IntKind.i64 (sum + d0)) i))
        VC.ff))))
    (FnA.at_ a_lStarts 5 (F_s3_0 l k how (0 : Int) nq p q a0 b0 c0 d0 e0 m0 k0 a1 b1 c1 d1 e1 m1 k1 a2 b2 c2 d2 e2 m2 k2 n0 n1 n2 M0 K0 M1 K1 M2 K2 R0 R1 R2 sum i)))
   (VC.br (decide (i = (2 : Int)))
    (VC.br (p.r2 == (0 : Int))
     (VC.br (decide (i = (0 : Int)))
      (FnA.at_ a_lStarts 5 (F_s3_0 l k how (0 : Int) nq p q a0 b0 c0 d0 e0 m0 k0 a1 b1 c1 d1 e1 m1 k1 a2 b2 c2 d2 e2 m2 k2 n0 n1 n2 M0 K0 M1 K1 M2 K2 R0 R1 R2 (IntKind.wrap IntKind.i64 (sum + a0)) i))
      (VC.br (decide (i = (1 : Int)))
       (FnA.at_ a_lStarts 5 (F_s3_0 l k how (0 : Int) nq p q a0 b0 c0 d0 e0 m0 k0 a1 b1 c1 d1 e1 m1 k1 a2 b2 c2 d2 e2 m2 k2 n0 n1 n2 M0 K0 M1 K1 M2 K2 R0 R1 R2 (IntKind.wrap IntKind.i64 (sum + b0)) i))
       (VC.br (decide (i = (2 : Int)))
        (FnA.at_ a_lStarts 5 (F_s3_0 l k how (0 : Int) nq p q a0 b0 c0 d0 e0 m0 k0 a1 b1 c1 d1 e1 m1 k1 a2 b2 c2 d2 e2 m2 k2 n0 n1 n2 M0 K0 M1 K1 M2 K2 R0 R1 R2 (IntKind.wrap IntKind.i64 (sum + c0)) i))
        (VC.br (decide (i = (3 : Int)))
         (FnA.at_ a_lStarts 5 (F_s3_0 l k how (0 : Int) nq p q a0 b0 c0 d0 e0 m0 k0 a1 b1 c1 d1 e1 m1 k1 a2 b2 c2 d2 e2 m2 k2 n0 n1 n2 M0 K0 M1 K1 M2 K2 R0 R1 R2 (IntKind.wrap IntKind.i64 (sum + d0)) i))
         VC.ff))))
     (FnA.at_ a_lStarts 5 (F_s3_0 l k how (0 : Int) nq p q a0 b0 c0 d0 e0 m0 k0 a1 b1 c1 d1 e1 m1 k1 a2 b2 c2 d2 e2 m2 k2 n0 n1 n2 M0 K0 M1 K1 M2 K2 R0 R1 R2 sum i)))
    (VC.br (decide (i = (3 : Int)))
     (VC.br (p.r3 == (0 : Int))
      (VC.br (decide (i = (0 : Int)))
       (FnA.at_ a_lStarts 5 (F_s3_0 l k how (0 : Int) nq p q a0 b0 c0 d0 e0 m0 k0 a1 b1 c1 d1 e1 m1 k1 a2 b2 c2 d2 e2 m2 k2 n0 n1 n2 M0 K0 M1 K1 M2 K2 R0 R1 R2 (IntKind.wrap IntKind.i64 (sum + a0)) i))
       (VC.br (decide (i = (1 : Int)))
        (FnA.at_ a_lStarts 5 (F_s3_0 l k how (0 : Int) nq p q a0 b0 c0 d0 e0 m0 k0 a1 b1 c1 d1 e1 m1 k1 a2 b2 c2 d2 e2 m2 k2 n0 n1 n2 M0 K0 M1 K1 M2 K2 R0 R1 R2 (IntKind.wrap IntKind.i64 (sum + b0)) i))
        (VC.br (decide (i = (2 : Int)))
         (FnA.at_ a_lStarts 5 (F_s3_0 l k how (0 : Int) nq p q a0 b0 c0 d0 e0 m0 k0 a1 b1 c1 d1 e1 m1 k1 a2 b2 c2 d2 e2 m2 k2 n0 n1 n2 M0 K0 M1 K1 M2 K2 R0 R1 R2 (IntKind.wrap IntKind.i64 (sum + c0)) i))
         (VC.br (decide (i = (3 : Int)))
          (FnA.at_ a_lStarts 5 (F_s3_0 l k how (0 : Int) nq p q a0 b0 c0 d0 e0 m0 k0 a1 b1 c1 d1 e1 m1 k1 a2 b2 c2 d2 e2 m2 k2 n0 n1 n2 M0 K0 M1 K1 M2 K2 R0 R1 R2 (IntKind.wrap IntKind.i64 (sum + d0)) i))
          VC.ff))))
      (FnA.at_ a_lStarts 5 (F_s3_0 l k how (0 : Int) nq p q a0 b0 c0 d0 e0 m0 k0 a1 b1 c1 d1 e1 m1 k1 a2 b2 c2 d2 e2 m2 k2 n0 n1 n2 M0 K0 M1 K1 M2 K2 R0 R1 R2 sum i)))
     VC.ff))))
 (VC.br (sum != (0 : Int))
  (VC.ret (some (RR.c (Rc.d (D.bool false)))))
  (VC.br (e0 != (0 : Int))
   (VC.ret (some (RR.c (Rc.d (D.bool false)))))
   (VC.br ((↑k0 : Int) != (0 : Int))
    (VC.ret (some (RR.c (Rc.d (D.bool false)))))
    (VC.need (PreOk c_aCells p [A.agg (Prg.cells p)])
    (VC.br ((↑m0 : Int) != cellsS (listOf PMem (rowsOn p.mems)))
     (VC.ret (some (RR.c (Rc.d (D.bool false)))))
     (FnA.at_ a_lStarts 0 (F_s0 l k how (1 : Int) nq p q a0 b0 c0 d0 e0 m0 k0 a1 b1 c1 d1 e1 m1 k1 a2 b2 c2 d2 e2 m2 k2 n0 n1 n2 M0 K0 M1 K1 M2 K2 R0 R1 R2)))))))) := by kernel_rfl
set_option maxRecDepth 100000 in
theorem t_s5_0 (l k : List Int) (how : Int) (nq : Nat) (p : Prg) (q : List (List D)) (a0 b0 c0 d0 e0 : Int) (m0 k0 : Nat) (a1 b1 c1 d1 e1 : Int) (m1 k1 : Nat) (a2 b2 c2 d2 e2 : Int) (m2 k2 : Nat) (n0 n1 n2 : Nat) (M0 K0 M1 K1 M2 K2 R0 R1 R2 : List (List D)) (sum i : Int) : a_lStarts.round s_lStarts 400 5 (F_s3_0 l k how 0 nq p q a0 b0 c0 d0 e0 m0 k0 a1 b1 c1 d1 e1 m1 k1 a2 b2 c2 d2 e2 m2 k2 n0 n1 n2 M0 K0 M1 K1 M2 K2 R0 R1 R2 sum i) =
(FnA.at_ a_lStarts 4 (F_s3_0 l k how (0 : Int) nq p q a0 b0 c0 d0 e0 m0 k0 a1 b1 c1 d1 e1 m1 k1 a2 b2 c2 d2 e2 m2 k2 n0 n1 n2 M0 K0 M1 K1 M2 K2 R0 R1 R2 sum (IntKind.wrap IntKind.i64 (i + (1 : Int))))) := by kernel_rfl
set_option maxRecDepth 100000 in
theorem t_s1_1 (l k : List Int) (how : Int) (nq : Nat) (p : Prg) (q : List (List D)) (a0 b0 c0 d0 e0 : Int) (m0 k0 : Nat) (a1 b1 c1 d1 e1 : Int) (m1 k1 : Nat) (a2 b2 c2 d2 e2 : Int) (m2 k2 : Nat) (n0 n1 n2 : Nat) (M0 K0 M1 K1 M2 K2 R0 R1 R2 : List (List D)) (nn i : Int) : a_lStarts.round s_lStarts 400 1 (F_s1 l k how 1 nq p q a0 b0 c0 d0 e0 m0 k0 a1 b1 c1 d1 e1 m1 k1 a2 b2 c2 d2 e2 m2 k2 n0 n1 n2 M0 K0 M1 K1 M2 K2 R0 R1 R2 nn i) =
(VC.br (decide (i < nn))
 (VC.br (decide (i < (↑(List.length (rowsOn l)) : Int)))
  (VC.need ((0 : Int) ≤ i ∧ i < (↑(List.length (rowsOn l)) : Int) ∧ List.length (rowAt (rowsOn l) (Int.toNat i)) = (1 : Nat))
  (VC.need (okSh [Kd.int IntKind.i64] (rowAt (rowsOn l) (Int.toNat i)))
  (VC.br (decide (i < (↑(List.length (rowsOn k)) : Int)))
   (VC.need ((0 : Int) ≤ IntKind.wrap IntKind.u64 (IntKind.wrap IntKind.i64 (i + (8 : Int))))
   (VC.br (bits BinOp.and IntKind.i64 (Int.fdiv how ((2 : Int) ^ min (Int.toNat (IntKind.wrap IntKind.u64 (IntKind.wrap IntKind.i64 (i + (8 : Int))))) (64 : Nat))) (1 : Int) == (1 : Int))
    (VC.need ((0 : Int) ≤ i ∧ i < (↑(List.length (rowsOn k)) : Int) ∧ List.length (rowAt (rowsOn k) (Int.toNat i)) = (1 : Nat))
    (VC.need (okSh [Kd.int IntKind.i64] (rowAt (rowsOn k) (Int.toNat i)))
    (FnA.at_ a_lStarts 2 (F_sc l k how (1 : Int) nq p q a0 b0 c0 d0 e0 m0 k0 a1 b1 c1 d1 e1 m1 k1 a2 b2 c2 d2 e2 m2 k2 n0 n1 n2 M0 K0 M1 K1 M2 K2 R0 R1 R2 nn i (asInt (List.getD (rowAt (rowsOn k) (Int.toNat i)) (0 : Nat) D.nilp))))))
    (FnA.at_ a_lStarts 2 (F_sc l k how (1 : Int) nq p q a0 b0 c0 d0 e0 m0 k0 a1 b1 c1 d1 e1 m1 k1 a2 b2 c2 d2 e2 m2 k2 n0 n1 n2 M0 K0 M1 K1 M2 K2 R0 R1 R2 nn i (asInt (List.getD (rowAt (rowsOn l) (Int.toNat i)) (0 : Nat) D.nilp))))))
   (FnA.at_ a_lStarts 2 (F_sc l k how (1 : Int) nq p q a0 b0 c0 d0 e0 m0 k0 a1 b1 c1 d1 e1 m1 k1 a2 b2 c2 d2 e2 m2 k2 n0 n1 n2 M0 K0 M1 K1 M2 K2 R0 R1 R2 nn i (asInt (List.getD (rowAt (rowsOn l) (Int.toNat i)) (0 : Nat) D.nilp)))))))
  (VC.br (decide (i < (↑(List.length (rowsOn k)) : Int)))
   (VC.need ((0 : Int) ≤ IntKind.wrap IntKind.u64 (IntKind.wrap IntKind.i64 (i + (8 : Int))))
   (VC.br (bits BinOp.and IntKind.i64 (Int.fdiv how ((2 : Int) ^ min (Int.toNat (IntKind.wrap IntKind.u64 (IntKind.wrap IntKind.i64 (i + (8 : Int))))) (64 : Nat))) (1 : Int) == (1 : Int))
    (VC.need ((0 : Int) ≤ i ∧ i < (↑(List.length (rowsOn k)) : Int) ∧ List.length (rowAt (rowsOn k) (Int.toNat i)) = (1 : Nat))
    (VC.need (okSh [Kd.int IntKind.i64] (rowAt (rowsOn k) (Int.toNat i)))
    (FnA.at_ a_lStarts 2 (F_sc l k how (1 : Int) nq p q a0 b0 c0 d0 e0 m0 k0 a1 b1 c1 d1 e1 m1 k1 a2 b2 c2 d2 e2 m2 k2 n0 n1 n2 M0 K0 M1 K1 M2 K2 R0 R1 R2 nn i (asInt (List.getD (rowAt (rowsOn k) (Int.toNat i)) (0 : Nat) D.nilp))))))
    (FnA.at_ a_lStarts 2 (F_sc l k how (1 : Int) nq p q a0 b0 c0 d0 e0 m0 k0 a1 b1 c1 d1 e1 m1 k1 a2 b2 c2 d2 e2 m2 k2 n0 n1 n2 M0 K0 M1 K1 M2 K2 R0 R1 R2 nn i (0 : Int)))))
   (FnA.at_ a_lStarts 2 (F_sc l k how (1 : Int) nq p q a0 b0 c0 d0 e0 m0 k0 a1 b1 c1 d1 e1 m1 k1 a2 b2 c2 d2 e2 m2 k2 n0 n1 n2 M0 K0 M1 K1 M2 K2 R0 R1 R2 nn i (0 : Int)))))
 (VC.need (PreOk c_aStart (Prg.of (Prg.cells p), listOf Int R1) [A.agg (Prg.cells p), A.c (D.sl R1)])
 (VC.all (v_aStart (Prg.of (Prg.cells p), listOf Int R1)) fun (y41 : Sta × Bool) =>
 (VC.br (!y41.snd)
  (VC.ret (some (RR.c (Rc.d (D.bool false)))))
  (FnA.at_ a_lStarts 3 (F_s2_1 l k how (1 : Int) nq p q a0 b0 c0 d0 e0 m0 k0 y41.fst.r0 y41.fst.r1 y41.fst.r2 y41.fst.r3 y41.fst.pc (List.length (rowsOn y41.fst.mem)) (List.length (rowsOn y41.fst.stack)) a2 b2 c2 d2 e2 m2 k2 n0 n1 n2 M0 K0 (rowsOn y41.fst.mem) (rowsOn y41.fst.stack) M2 K2 R0 R1 R2 (0 : Int) (↑nq : Int) (0 : Int))))))) := by kernel_rfl
set_option maxRecDepth 100000 in
theorem t_sc_1 (l k : List Int) (how : Int) (nq : Nat) (p : Prg) (q : List (List D)) (a0 b0 c0 d0 e0 : Int) (m0 k0 : Nat) (a1 b1 c1 d1 e1 : Int) (m1 k1 : Nat) (a2 b2 c2 d2 e2 : Int) (m2 k2 : Nat) (n0 n1 n2 : Nat) (M0 K0 M1 K1 M2 K2 R0 R1 R2 : List (List D)) (nn i v : Int) : a_lStarts.round s_lStarts 400 2 (F_sc l k how 1 nq p q a0 b0 c0 d0 e0 m0 k0 a1 b1 c1 d1 e1 m1 k1 a2 b2 c2 d2 e2 m2 k2 n0 n1 n2 M0 K0 M1 K1 M2 K2 R0 R1 R2 nn i v) =
(VC.need (PreOk c_rMask (p.w, v) [A.c (D.int IntKind.i64 p.w), A.c (D.int IntKind.i64 v)])
(VC.need ((List.all [[D.int IntKind.i64 (maskS p.w v)]] fun r ↦ List.length r == (1 : Nat)) = true ∧ (List.all R1 fun r ↦ List.length r == (1 : Nat)) = true ∧ (List.length R1 + List.length [[D.int IntKind.i64 (maskS p.w v)]] + (100 : Nat)) * (9 : Nat) ≤ (70368744177664 : Nat))
(FnA.at_ a_lStarts 1 (F_s1 l k how (1 : Int) nq p q a0 b0 c0 d0 e0 m0 k0 a1 b1 c1 d1 e1 m1 k1 a2 b2 c2 d2 e2 m2 k2 n0 (List.length R1 + List.length [[D.int IntKind.i64 (maskS p.w v)]]) n2 M0 K0 M1 K1 M2 K2 R0 (R1 ++ [[D.int IntKind.i64 (maskS p.w v)]]) R2 nn (IntKind.wrap IntKind.i64 (i + (1 : Int))))))) := by kernel_rfl
set_option maxRecDepth 100000 in
theorem t_s2_1 (l k : List Int) (how : Int) (nq : Nat) (p : Prg) (q : List (List D)) (a0 b0 c0 d0 e0 : Int) (m0 k0 : Nat) (a1 b1 c1 d1 e1 : Int) (m1 k1 : Nat) (a2 b2 c2 d2 e2 : Int) (m2 k2 : Nat) (n0 n1 n2 : Nat) (M0 K0 M1 K1 M2 K2 R0 R1 R2 : List (List D)) (sum nn i : Int) : a_lStarts.round s_lStarts 400 3 (F_s2_1 l k how 1 nq p q a0 b0 c0 d0 e0 m0 k0 a1 b1 c1 d1 e1 m1 k1 a2 b2 c2 d2 e2 m2 k2 n0 n1 n2 M0 K0 M1 K1 M2 K2 R0 R1 R2 sum nn i) =
(VC.br (decide (i < nn))
 (VC.need ((0 : Int) ≤ i ∧ i < (↑nq : Int))
 (VC.need (Int.toNat i < List.length q ∧ List.length (rowAt q (Int.toNat i)) = (3 : Nat) ∧ okSh [Kd.bool] (List.drop (0 : Nat) (rowAt q (Int.toNat i))))
 (VC.br (asBool (List.getD (List.drop (0 : Nat) (rowAt q (Int.toNat i))) (0 : Nat) D.nilp))
  (VC.need ((0 : Int) ≤ i ∧ i < (↑nq : Int))
  (VC.need (Int.toNat i < List.length q ∧ List.length (rowAt q (Int.toNat i)) = (3 : Nat) ∧ okSh [Kd.int IntKind.i64] (List.drop (1 : Nat) (rowAt q (Int.toNat i))))
  (VC.br (decide (asInt (List.getD (List.drop (1 : Nat) (rowAt q (Int.toNat i))) (0 : Nat) D.nilp) = (0 : Int)))
   (VC.need ((0 : Int) ≤ i ∧ i < (↑n1 : Int))
   (VC.need (Int.toNat i < List.length R1 ∧ List.length (rowAt R1 (Int.toNat i)) = (1 : Nat) ∧ okSh [Kd.int IntKind.i64] (List.drop (0 : Nat) (rowAt R1 (Int.toNat i))))
   (VC.br (a1 != asInt (List.getD (List.drop (0 : Nat) (rowAt R1 (Int.toNat i))) (0 : Nat) D.nilp))
    (VC.ret (some (RR.c (Rc.d (D.bool false)))))
    (VC.need ((0 : Int) ≤ i ∧ i < (↑nq : Int))
    (VC.need (Int.toNat i < List.length q ∧ List.length (rowAt q (Int.toNat i)) = (3 : Nat) ∧ okSh [Kd.bool] (List.drop (0 : Nat) (rowAt q (Int.toNat i))))
    (VC.br (!asBool (List.getD (List.drop (0 : Nat) (rowAt q (Int.toNat i))) (0 : Nat) D.nilp))
     (VC.need ((0 : Int) ≤ i ∧ i < (↑nq : Int))
     (VC.need (Int.toNat i < List.length q ∧ List.length (rowAt q (Int.toNat i)) = (3 : Nat) ∧ okSh [Kd.int IntKind.i64] (List.drop (1 : Nat) (rowAt q (Int.toNat i))))
     (VC.br (decide ((↑m1 : Int) ≤ asInt (List.getD (List.drop (1 : Nat) (rowAt q (Int.toNat i))) (0 : Nat) D.nilp)))
      (VC.ret (some (RR.c (Rc.d (D.bool false)))))
      (VC.need ((0 : Int) ≤ i ∧ i < (↑nq : Int))
      (VC.need (Int.toNat i < List.length q ∧ List.length (rowAt q (Int.toNat i)) = (3 : Nat) ∧ okSh [Kd.int IntKind.i64] (List.drop (1 : Nat) (rowAt q (Int.toNat i))))
      (VC.need ((0 : Int) ≤ asInt (List.getD (List.drop (1 : Nat) (rowAt q (Int.toNat i))) (0 : Nat) D.nilp) ∧ asInt (List.getD (List.drop (1 : Nat) (rowAt q (Int.toNat i))) (0 : Nat) D.nilp) < (↑m1 : Int))
      (VC.need (Int.toNat (asInt (List.getD (List.drop (1 : Nat) (rowAt q (Int.toNat i))) (0 : Nat) D.nilp)) < List.length M1 ∧ List.length (rowAt M1 (Int.toNat (asInt (List.getD (List.drop (1 : Nat) (rowAt q (Int.toNat i))) (0 : Nat) D.nilp)))) = (1 : Nat) ∧ okSh [Kd.int IntKind.i64] (List.drop (0 : Nat) (rowAt M1 (Int.toNat (asInt (List.getD (List.drop (1 : Nat) (rowAt q (Int.toNat i))) (0 : Nat) D.nilp))))))
      (VC.need ((0 : Int) ≤ i ∧ i < (↑n1 : Int))
      (VC.need (Int.toNat i < List.length R1 ∧ List.length (rowAt R1 (Int.toNat i)) = (1 : Nat) ∧ okSh [Kd.int IntKind.i64] (List.drop (0 : Nat) (rowAt R1 (Int.toNat i))))
      (VC.br (asInt (List.getD (List.drop (0 : Nat) (rowAt M1 (Int.toNat (asInt (List.getD (List.drop (1 : Nat) (rowAt q (Int.toNat i))) (0 : Nat) D.nilp))))) (0 : Nat) D.nilp) != asInt (List.getD (List.drop (0 : Nat) (rowAt R1 (Int.toNat i))) (0 : Nat) D.nilp))
       (VC.ret (some (RR.c (Rc.d (D.bool false)))))
       (FnA.at_ a_lStarts 3 (F_s2_1 l k how (1 : Int) nq p q a0 b0 c0 d0 e0 m0 k0 a1 b1 c1 d1 e1 m1 k1 a2 b2 c2 d2 e2 m2 k2 n0 n1 n2 M0 K0 M1 K1 M2 K2 R0 R1 R2 sum nn (IntKind.wrap IntKind.i64 (i + (1 : Int)))))))))))))))
     (FnA.at_ a_lStarts 3 (F_s2_1 l k how (1 : Int) nq p q a0 b0 c0 d0 e0 m0 k0 a1 b1 c1 d1 e1 m1 k1 a2 b2 c2 d2 e2 m2 k2 n0 n1 n2 M0 K0 M1 K1 M2 K2 R0 R1 R2 sum nn (IntKind.wrap IntKind.i64 (i + (1 : Int)))))))))))
   (VC.br (decide (asInt (List.getD (List.drop (1 : Nat) (rowAt q (Int.toNat i))) (0 : Nat) D.nilp) = (1 : Int)))
    (VC.need ((0 : Int) ≤ i ∧ i < (↑n1 : Int))
    (VC.need (Int.toNat i < List.length R1 ∧ List.length (rowAt R1 (Int.toNat i)) = (1 : Nat) ∧ okSh [Kd.int IntKind.i64] (List.drop (0 : Nat) (rowAt R1 (Int.toNat i))))
    (VC.br (b1 != asInt (List.getD (List.drop (0 : Nat) (rowAt R1 (Int.toNat i))) (0 : Nat) D.nilp))
     (VC.ret (some (RR.c (Rc.d (D.bool false)))))
     (VC.need ((0 : Int) ≤ i ∧ i < (↑nq : Int))
     (VC.need (Int.toNat i < List.length q ∧ List.length (rowAt q (Int.toNat i)) = (3 : Nat) ∧ okSh [Kd.bool] (List.drop (0 : Nat) (rowAt q (Int.toNat i))))
     (VC.br (!asBool (List.getD (List.drop (0 : Nat) (rowAt q (Int.toNat i))) (0 : Nat) D.nilp))
      (VC.need ((0 : Int) ≤ i ∧ i < (↑nq : Int))
      (VC.need (Int.toNat i < List.length q ∧ List.length (rowAt q (Int.toNat i)) = (3 : Nat) ∧ okSh [Kd.int IntKind.i64] (List.drop (1 : Nat) (rowAt q (Int.toNat i))))
      (VC.br (decide ((↑m1 : Int) ≤ asInt (List.getD (List.drop (1 : Nat) (rowAt q (Int.toNat i))) (0 : Nat) D.nilp)))
       (VC.ret (some (RR.c (Rc.d (D.bool false)))))
       (VC.need ((0 : Int) ≤ i ∧ i < (↑nq : Int))
       (VC.need (Int.toNat i < List.length q ∧ List.length (rowAt q (Int.toNat i)) = (3 : Nat) ∧ okSh [Kd.int IntKind.i64] (List.drop (1 : Nat) (rowAt q (Int.toNat i))))
       (VC.need ((0 : Int) ≤ asInt (List.getD (List.drop (1 : Nat) (rowAt q (Int.toNat i))) (0 : Nat) D.nilp) ∧ asInt (List.getD (List.drop (1 : Nat) (rowAt q (Int.toNat i))) (0 : Nat) D.nilp) < (↑m1 : Int))
       (VC.need (Int.toNat (asInt (List.getD (List.drop (1 : Nat) (rowAt q (Int.toNat i))) (0 : Nat) D.nilp)) < List.length M1 ∧ List.length (rowAt M1 (Int.toNat (asInt (List.getD (List.drop (1 : Nat) (rowAt q (Int.toNat i))) (0 : Nat) D.nilp)))) = (1 : Nat) ∧ okSh [Kd.int IntKind.i64] (List.drop (0 : Nat) (rowAt M1 (Int.toNat (asInt (List.getD (List.drop (1 : Nat) (rowAt q (Int.toNat i))) (0 : Nat) D.nilp))))))
       (VC.need ((0 : Int) ≤ i ∧ i < (↑n1 : Int))
       (VC.need (Int.toNat i < List.length R1 ∧ List.length (rowAt R1 (Int.toNat i)) = (1 : Nat) ∧ okSh [Kd.int IntKind.i64] (List.drop (0 : Nat) (rowAt R1 (Int.toNat i))))
       (VC.br (asInt (List.getD (List.drop (0 : Nat) (rowAt M1 (Int.toNat (asInt (List.getD (List.drop (1 : Nat) (rowAt q (Int.toNat i))) (0 : Nat) D.nilp))))) (0 : Nat) D.nilp) != asInt (List.getD (List.drop (0 : Nat) (rowAt R1 (Int.toNat i))) (0 : Nat) D.nilp))
        (VC.ret (some (RR.c (Rc.d (D.bool false)))))
        (FnA.at_ a_lStarts 3 (F_s2_1 l k how (1 : Int) nq p q a0 b0 c0 d0 e0 m0 k0 a1 b1 c1 d1 e1 m1 k1 a2 b2 c2 d2 e2 m2 k2 n0 n1 n2 M0 K0 M1 K1 M2 K2 R0 R1 R2 sum nn (IntKind.wrap IntKind.i64 (i + (1 : Int)))))))))))))))
      (FnA.at_ a_lStarts 3 (F_s2_1 l k how (1 : Int) nq p q a0 b0 c0 d0 e0 m0 k0 a1 b1 c1 d1 e1 m1 k1 a2 b2 c2 d2 e2 m2 k2 n0 n1 n2 M0 K0 M1 K1 M2 K2 R0 R1 R2 sum nn (IntKind.wrap IntKind.i64 (i + (1 : Int)))))))))))
    (VC.br (decide (asInt (List.getD (List.drop (1 : Nat) (rowAt q (Int.toNat i))) (0 : Nat) D.nilp) = (2 : Int)))
     (VC.need ((0 : Int) ≤ i ∧ i < (↑n1 : Int))
     (VC.need (Int.toNat i < List.length R1 ∧ List.length (rowAt R1 (Int.toNat i)) = (1 : Nat) ∧ okSh [Kd.int IntKind.i64] (List.drop (0 : Nat) (rowAt R1 (Int.toNat i))))
     (VC.br (c1 != asInt (List.getD (List.drop (0 : Nat) (rowAt R1 (Int.toNat i))) (0 : Nat) D.nilp))
      (VC.ret (some (RR.c (Rc.d (D.bool false)))))
      (VC.need ((0 : Int) ≤ i ∧ i < (↑nq : Int))
      (VC.need (Int.toNat i < List.length q ∧ List.length (rowAt q (Int.toNat i)) = (3 : Nat) ∧ okSh [Kd.bool] (List.drop (0 : Nat) (rowAt q (Int.toNat i))))
      (VC.br (!asBool (List.getD (List.drop (0 : Nat) (rowAt q (Int.toNat i))) (0 : Nat) D.nilp))
       (VC.need ((0 : Int) ≤ i ∧ i < (↑nq : Int))
       (VC.need (Int.toNat i < List.length q ∧ List.length (rowAt q (Int.toNat i)) = (3 : Nat) ∧ okSh [Kd.int IntKind.i64] (List.drop (1 : Nat) (rowAt q (Int.toNat i))))
       (VC.br (decide ((↑m1 : Int) ≤ asInt (List.getD (List.drop (1 : Nat) (rowAt q (Int.toNat i))) (0 : Nat) D.nilp)))
        (VC.ret (some (RR.c (Rc.d (D.bool false)))))
        (VC.need ((0 : Int) ≤ i ∧ i < (↑nq : Int))
        (VC.need (Int.toNat i < List.length q ∧ List.length (rowAt q (Int.toNat i)) = (3 : Nat) ∧ okSh [Kd.int IntKind.i64] (List.drop (1 : Nat) (rowAt q (Int.toNat i))))
        (VC.need ((0 : Int) ≤ asInt (List.getD (List.drop (1 : Nat) (rowAt q (Int.toNat i))) (0 : Nat) D.nilp) ∧ asInt (List.getD (List.drop (1 : Nat) (rowAt q (Int.toNat i))) (0 : Nat) D.nilp) < (↑m1 : Int))
        (VC.need (Int.toNat (asInt (List.getD (List.drop (1 : Nat) (rowAt q (Int.toNat i))) (0 : Nat) D.nilp)) < List.length M1 ∧ List.length (rowAt M1 (Int.toNat (asInt (List.getD (List.drop (1 : Nat) (rowAt q (Int.toNat i))) (0 : Nat) D.nilp)))) = (1 : Nat) ∧ okSh [Kd.int IntKind.i64] (List.drop (0 : Nat) (rowAt M1 (Int.toNat (asInt (List.getD (List.drop (1 : Nat) (rowAt q (Int.toNat i))) (0 : Nat) D.nilp))))))
        (VC.need ((0 : Int) ≤ i ∧ i < (↑n1 : Int))
        (VC.need (Int.toNat i < List.length R1 ∧ List.length (rowAt R1 (Int.toNat i)) = (1 : Nat) ∧ okSh [Kd.int IntKind.i64] (List.drop (0 : Nat) (rowAt R1 (Int.toNat i))))
        (VC.br (asInt (List.getD (List.drop (0 : Nat) (rowAt M1 (Int.toNat (asInt (List.getD (List.drop (1 : Nat) (rowAt q (Int.toNat i))) (0 : Nat) D.nilp))))) (0 : Nat) D.nilp) != asInt (List.getD (List.drop (0 : Nat) (rowAt R1 (Int.toNat i))) (0 : Nat) D.nilp))
         (VC.ret (some (RR.c (Rc.d (D.bool false)))))
         (FnA.at_ a_lStarts 3 (F_s2_1 l k how (1 : Int) nq p q a0 b0 c0 d0 e0 m0 k0 a1 b1 c1 d1 e1 m1 k1 a2 b2 c2 d2 e2 m2 k2 n0 n1 n2 M0 K0 M1 K1 M2 K2 R0 R1 R2 sum nn (IntKind.wrap IntKind.i64 (i + (1 : Int)))))))))))))))
       (FnA.at_ a_lStarts 3 (F_s2_1 l k how (1 : Int) nq p q a0 b0 c0 d0 e0 m0 k0 a1 b1 c1 d1 e1 m1 k1 a2 b2 c2 d2 e2 m2 k2 n0 n1 n2 M0 K0 M1 K1 M2 K2 R0 R1 R2 sum nn (IntKind.wrap IntKind.i64 (i + (1 : Int)))))))))))
     (VC.br (decide (asInt (List.getD (List.drop (1 : Nat) (rowAt q (Int.toNat i))) (0 : Nat) D.nilp) = (3 : Int)))
      (VC.need ((0 : Int) ≤ i ∧ i < (↑n1 : Int))
      (VC.need (Int.toNat i < List.length R1 ∧ List.length (rowAt R1 (Int.toNat i)) = (1 : Nat) ∧ okSh [Kd.int IntKind.i64] (List.drop (0 : Nat) (rowAt R1 (Int.toNat i))))
      (VC.br (d1 != asInt (List.getD (List.drop (0 : Nat) (rowAt R1 (Int.toNat i))) (0 : Nat) D.nilp))
       (VC.ret (some (RR.c (Rc.d (D.bool false)))))
       (VC.need ((0 : Int) ≤ i ∧ i < (↑nq : Int))
       (VC.need (Int.toNat i < List.length q ∧ List.length (rowAt q (Int.toNat i)) = (3 : Nat) ∧ okSh [Kd.bool] (List.drop (0 : Nat) (rowAt q (Int.toNat i))))
       (VC.br (!asBool (List.getD (List.drop (0 : Nat) (rowAt q (Int.toNat i))) (0 : Nat) D.nilp))
        (VC.need ((0 : Int) ≤ i ∧ i < (↑nq : Int))
        (VC.need (Int.toNat i < List.length q ∧ List.length (rowAt q (Int.toNat i)) = (3 : Nat) ∧ okSh [Kd.int IntKind.i64] (List.drop (1 : Nat) (rowAt q (Int.toNat i))))
        (VC.br (decide ((↑m1 : Int) ≤ asInt (List.getD (List.drop (1 : Nat) (rowAt q (Int.toNat i))) (0 : Nat) D.nilp)))
         (VC.ret (some (RR.c (Rc.d (D.bool false)))))
         (VC.need ((0 : Int) ≤ i ∧ i < (↑nq : Int))
         (VC.need (Int.toNat i < List.length q ∧ List.length (rowAt q (Int.toNat i)) = (3 : Nat) ∧ okSh [Kd.int IntKind.i64] (List.drop (1 : Nat) (rowAt q (Int.toNat i))))
         (VC.need ((0 : Int) ≤ asInt (List.getD (List.drop (1 : Nat) (rowAt q (Int.toNat i))) (0 : Nat) D.nilp) ∧ asInt (List.getD (List.drop (1 : Nat) (rowAt q (Int.toNat i))) (0 : Nat) D.nilp) < (↑m1 : Int))
         (VC.need (Int.toNat (asInt (List.getD (List.drop (1 : Nat) (rowAt q (Int.toNat i))) (0 : Nat) D.nilp)) < List.length M1 ∧ List.length (rowAt M1 (Int.toNat (asInt (List.getD (List.drop (1 : Nat) (rowAt q (Int.toNat i))) (0 : Nat) D.nilp)))) = (1 : Nat) ∧ okSh [Kd.int IntKind.i64] (List.drop (0 : Nat) (rowAt M1 (Int.toNat (asInt (List.getD (List.drop (1 : Nat) (rowAt q (Int.toNat i))) (0 : Nat) D.nilp))))))
         (VC.need ((0 : Int) ≤ i ∧ i < (↑n1 : Int))
         (VC.need (Int.toNat i < List.length R1 ∧ List.length (rowAt R1 (Int.toNat i)) = (1 : Nat) ∧ okSh [Kd.int IntKind.i64] (List.drop (0 : Nat) (rowAt R1 (Int.toNat i))))
         (VC.br (asInt (List.getD (List.drop (0 : Nat) (rowAt M1 (Int.toNat (asInt (List.getD (List.drop (1 : Nat) (rowAt q (Int.toNat i))) (0 : Nat) D.nilp))))) (0 : Nat) D.nilp) != asInt (List.getD (List.drop (0 : Nat) (rowAt R1 (Int.toNat i))) (0 : Nat) D.nilp))
          (VC.ret (some (RR.c (Rc.d (D.bool false)))))
          (FnA.at_ a_lStarts 3 (F_s2_1 l k how (1 : Int) nq p q a0 b0 c0 d0 e0 m0 k0 a1 b1 c1 d1 e1 m1 k1 a2 b2 c2 d2 e2 m2 k2 n0 n1 n2 M0 K0 M1 K1 M2 K2 R0 R1 R2 sum nn (IntKind.wrap IntKind.i64 (i + (1 : Int)))))))))))))))
        (FnA.at_ a_lStarts 3 (F_s2_1 l k how (1 : Int) nq p q a0 b0 c0 d0 e0 m0 k0 a1 b1 c1 d1 e1 m1 k1 a2 b2 c2 d2 e2 m2 k2 n0 n1 n2 M0 K0 M1 K1 M2 K2 R0 R1 R2 sum nn (IntKind.wrap IntKind.i64 (i + (1 : Int)))))))))))
      VC.ff))))))
  (VC.need ((0 : Int) ≤ i ∧ i < (↑nq : Int))
  (VC.need (Int.toNat i < List.length q ∧ List.length (rowAt q (Int.toNat i)) = (3 : Nat) ∧ okSh [Kd.bool] (List.drop (0 : Nat) (rowAt q (Int.toNat i))))
  (VC.br (!asBool (List.getD (List.drop (0 : Nat) (rowAt q (Int.toNat i))) (0 : Nat) D.nilp))
   (VC.need ((0 : Int) ≤ i ∧ i < (↑nq : Int))
   (VC.need (Int.toNat i < List.length q ∧ List.length (rowAt q (Int.toNat i)) = (3 : Nat) ∧ okSh [Kd.int IntKind.i64] (List.drop (1 : Nat) (rowAt q (Int.toNat i))))
   (VC.br (decide ((↑m1 : Int) ≤ asInt (List.getD (List.drop (1 : Nat) (rowAt q (Int.toNat i))) (0 : Nat) D.nilp)))
    (VC.ret (some (RR.c (Rc.d (D.bool false)))))
    (VC.need ((0 : Int) ≤ i ∧ i < (↑nq : Int))
    (VC.need (Int.toNat i < List.length q ∧ List.length (rowAt q (Int.toNat i)) = (3 : Nat) ∧ okSh [Kd.int IntKind.i64] (List.drop (1 : Nat) (rowAt q (Int.toNat i))))
    (VC.need ((0 : Int) ≤ asInt (List.getD (List.drop (1 : Nat) (rowAt q (Int.toNat i))) (0 : Nat) D.nilp) ∧ asInt (List.getD (List.drop (1 : Nat) (rowAt q (Int.toNat i))) (0 : Nat) D.nilp) < (↑m1 : Int))
    (VC.need (Int.toNat (asInt (List.getD (List.drop (1 : Nat) (rowAt q (Int.toNat i))) (0 : Nat) D.nilp)) < List.length M1 ∧ List.length (rowAt M1 (Int.toNat (asInt (List.getD (List.drop (1 : Nat) (rowAt q (Int.toNat i))) (0 : Nat) D.nilp)))) = (1 : Nat) ∧ okSh [Kd.int IntKind.i64] (List.drop (0 : Nat) (rowAt M1 (Int.toNat (asInt (List.getD (List.drop (1 : Nat) (rowAt q (Int.toNat i))) (0 : Nat) D.nilp))))))
    (VC.need ((0 : Int) ≤ i ∧ i < (↑n1 : Int))
    (VC.need (Int.toNat i < List.length R1 ∧ List.length (rowAt R1 (Int.toNat i)) = (1 : Nat) ∧ okSh [Kd.int IntKind.i64] (List.drop (0 : Nat) (rowAt R1 (Int.toNat i))))
    (VC.br (asInt (List.getD (List.drop (0 : Nat) (rowAt M1 (Int.toNat (asInt (List.getD (List.drop (1 : Nat) (rowAt q (Int.toNat i))) (0 : Nat) D.nilp))))) (0 : Nat) D.nilp) != asInt (List.getD (List.drop (0 : Nat) (rowAt R1 (Int.toNat i))) (0 : Nat) D.nilp))
     (VC.ret (some (RR.c (Rc.d (D.bool false)))))
     (FnA.at_ a_lStarts 3 (F_s2_1 l k how (1 : Int) nq p q a0 b0 c0 d0 e0 m0 k0 a1 b1 c1 d1 e1 m1 k1 a2 b2 c2 d2 e2 m2 k2 n0 n1 n2 M0 K0 M1 K1 M2 K2 R0 R1 R2 sum nn (IntKind.wrap IntKind.i64 (i + (1 : Int)))))))))))))))
   (FnA.at_ a_lStarts 3 (F_s2_1 l k how (1 : Int) nq p q a0 b0 c0 d0 e0 m0 k0 a1 b1 c1 d1 e1 m1 k1 a2 b2 c2 d2 e2 m2 k2 n0 n1 n2 M0 K0 M1 K1 M2 K2 R0 R1 R2 sum nn (IntKind.wrap IntKind.i64 (i + (1 : Int)))))))))))
 (FnA.at_ a_lStarts 4 (F_s3_1 l k how (1 : Int) nq p q a0 b0 c0 d0 e0 m0 k0 a1 b1 c1 d1 e1 m1 k1 a2 b2 c2 d2 e2 m2 k2 n0 n1 n2 M0 K0 M1 K1 M2 K2 R0 R1 R2 sum (0 : Int)))) := by kernel_rfl
set_option maxRecDepth 100000 in
theorem t_s3_1 (l k : List Int) (how : Int) (nq : Nat) (p : Prg) (q : List (List D)) (a0 b0 c0 d0 e0 : Int) (m0 k0 : Nat) (a1 b1 c1 d1 e1 : Int) (m1 k1 : Nat) (a2 b2 c2 d2 e2 : Int) (m2 k2 : Nat) (n0 n1 n2 : Nat) (M0 K0 M1 K1 M2 K2 R0 R1 R2 : List (List D)) (sum i : Int) : a_lStarts.round s_lStarts 400 4 (F_s3_1 l k how 1 nq p q a0 b0 c0 d0 e0 m0 k0 a1 b1 c1 d1 e1 m1 k1 a2 b2 c2 d2 e2 m2 k2 n0 n1 n2 M0 K0 M1 K1 M2 K2 R0 R1 R2 sum i) =
(VC.br (decide (i < (4 : Int)))
 (VC.br (decide (i = (0 : Int)))
  (VC.br (p.r0 == (0 : Int))
   (VC.br (decide (i = (0 : Int)))
    (FnA.at_ a_lStarts 5 (F_s3_1 l k how (1 : Int) nq p q a0 b0 c0 d0 e0 m0 k0 a1 b1 c1 d1 e1 m1 k1 a2 b2 c2 d2 e2 m2 k2 n0 n1 n2 M0 K0 M1 K1 M2 K2 R0 R1 R2 (IntKind.wrap IntKind.i64 (sum + a1)) i))
    (VC.br (decide (i = (1 : Int)))
     (FnA.at_ a_lStarts 5 (F_s3_1 l k how (1 : Int) nq p q a0 b0 c0 d0 e0 m0 k0 a1 b1 c1 d1 e1 m1 k1 a2 b2 c2 d2 e2 m2 k2 n0 n1 n2 M0 K0 M1 K1 M2 K2 R0 R1 R2 (IntKind.wrap IntKind.i64 (sum + b1)) i))
     (VC.br (decide (i = (2 : Int)))
      (FnA.at_ a_lStarts 5 (F_s3_1 l k how (1 : Int) nq p q a0 b0 c0 d0 e0 m0 k0 a1 b1 c1 d1 e1 m1 k1 a2 b2 c2 d2 e2 m2 k2 n0 n1 n2 M0 K0 M1 K1 M2 K2 R0 R1 R2 (IntKind.wrap IntKind.i64 (sum + c1)) i))
      (VC.br (decide (i = (3 : Int)))
       (FnA.at_ a_lStarts 5 (F_s3_1 l k how (1 : Int) nq p q a0 b0 c0 d0 e0 m0 k0 a1 b1 c1 d1 e1 m1 k1 a2 b2 c2 d2 e2 m2 k2 n0 n1 n2 M0 K0 M1 K1 M2 K2 R0 R1 R2 (IntKind.wrap IntKind.i64 (sum + d1)) i))
       VC.ff))))
   (FnA.at_ a_lStarts 5 (F_s3_1 l k how (1 : Int) nq p q a0 b0 c0 d0 e0 m0 k0 a1 b1 c1 d1 e1 m1 k1 a2 b2 c2 d2 e2 m2 k2 n0 n1 n2 M0 K0 M1 K1 M2 K2 R0 R1 R2 sum i)))
  (VC.br (decide (i = (1 : Int)))
   (VC.br (p.r1 == (0 : Int))
    (VC.br (decide (i = (0 : Int)))
     (FnA.at_ a_lStarts 5 (F_s3_1 l k how (1 : Int) nq p q a0 b0 c0 d0 e0 m0 k0 a1 b1 c1 d1 e1 m1 k1 a2 b2 c2 d2 e2 m2 k2 n0 n1 n2 M0 K0 M1 K1 M2 K2 R0 R1 R2 (IntKind.wrap IntKind.i64 (sum + a1)) i))
     (VC.br (decide (i = (1 : Int)))
      (FnA.at_ a_lStarts 5 (F_s3_1 l k how (1 : Int) nq p q a0 b0 c0 d0 e0 m0 k0 a1 b1 c1 d1 e1 m1 k1 a2 b2 c2 d2 e2 m2 k2 n0 n1 n2 M0 K0 M1 K1 M2 K2 R0 R1 R2 (IntKind.wrap IntKind.i64 (sum + b1)) i))
      (VC.br (decide (i = (2 : Int)))
       (FnA.at_ a_lStarts 5 (F_s3_1 l k how (1 : Int) nq p q a0 b0 c0 d0 e0 m0 k0 a1 b1 c1 d1 e1 m1 k1 a2 b2 c2 d2 e2 m2 k2 n0 n1 n2 M0 K0 M1 K1 M2 K2 R0 R1 R2 (IntKind.wrap IntKind.i64 (sum + c1)) i))
       (VC.br (decide (i = (3 : Int)))
        (FnA.at_ a_lStarts 5 (F_s3_1 l k how (1 : Int) nq p q a0 b0 c0 d0 e0 m0 k0 a1 b1 c1 d1 e1 m1 k1 a2 b2 c2 d2 e2 m2 k2 n0 n1 n2 M0 K0 M1 K1 M2 K2 R0 R1 R2 (IntKind.wrap IntKind.i64 (sum + d1)) i))
        VC.ff))))
    (FnA.at_ a_lStarts 5 (F_s3_1 l k how (1 : Int) nq p q a0 b0 c0 d0 e0 m0 k0 a1 b1 c1 d1 e1 m1 k1 a2 b2 c2 d2 e2 m2 k2 n0 n1 n2 M0 K0 M1 K1 M2 K2 R0 R1 R2 sum i)))
   (VC.br (decide (i = (2 : Int)))
    (VC.br (p.r2 == (0 : Int))
     (VC.br (decide (i = (0 : Int)))
      (FnA.at_ a_lStarts 5 (F_s3_1 l k how (1 : Int) nq p q a0 b0 c0 d0 e0 m0 k0 a1 b1 c1 d1 e1 m1 k1 a2 b2 c2 d2 e2 m2 k2 n0 n1 n2 M0 K0 M1 K1 M2 K2 R0 R1 R2 (IntKind.wrap IntKind.i64 (sum + a1)) i))
      (VC.br (decide (i = (1 : Int)))
       (FnA.at_ a_lStarts 5 (F_s3_1 l k how (1 : Int) nq p q a0 b0 c0 d0 e0 m0 k0 a1 b1 c1 d1 e1 m1 k1 a2 b2 c2 d2 e2 m2 k2 n0 n1 n2 M0 K0 M1 K1 M2 K2 R0 R1 R2 (IntKind.wrap IntKind.i64 (sum + b1)) i))
       (VC.br (decide (i = (2 : Int)))
        (FnA.at_ a_lStarts 5 (F_s3_1 l k how (1 : Int) nq p q a0 b0 c0 d0 e0 m0 k0 a1 b1 c1 d1 e1 m1 k1 a2 b2 c2 d2 e2 m2 k2 n0 n1 n2 M0 K0 M1 K1 M2 K2 R0 R1 R2 (IntKind.wrap IntKind.i64 (sum + c1)) i))
        (VC.br (decide (i = (3 : Int)))
         (FnA.at_ a_lStarts 5 (F_s3_1 l k how (1 : Int) nq p q a0 b0 c0 d0 e0 m0 k0 a1 b1 c1 d1 e1 m1 k1 a2 b2 c2 d2 e2 m2 k2 n0 n1 n2 M0 K0 M1 K1 M2 K2 R0 R1 R2 (IntKind.wrap IntKind.i64 (sum + d1)) i))
         VC.ff))))
     (FnA.at_ a_lStarts 5 (F_s3_1 l k how (1 : Int) nq p q a0 b0 c0 d0 e0 m0 k0 a1 b1 c1 d1 e1 m1 k1 a2 b2 c2 d2 e2 m2 k2 n0 n1 n2 M0 K0 M1 K1 M2 K2 R0 R1 R2 sum i)))
    (VC.br (decide (i = (3 : Int)))
     (VC.br (p.r3 == (0 : Int))
      (VC.br (decide (i = (0 : Int)))
       (FnA.at_ a_lStarts 5 (F_s3_1 l k how (1 : Int) nq p q a0 b0 c0 d0 e0 m0 k0 a1 b1 c1 d1 e1 m1 k1 a2 b2 c2 d2 e2 m2 k2 n0 n1 n2 M0 K0 M1 K1 M2 K2 R0 R1 R2 (IntKind.wrap IntKind.i64 (sum + a1)) i))
       (VC.br (decide (i = (1 : Int)))
        (FnA.at_ a_lStarts 5 (F_s3_1 l k how (1 : Int) nq p q a0 b0 c0 d0 e0 m0 k0 a1 b1 c1 d1 e1 m1 k1 a2 b2 c2 d2 e2 m2 k2 n0 n1 n2 M0 K0 M1 K1 M2 K2 R0 R1 R2 (IntKind.wrap IntKind.i64 (sum + b1)) i))
        (VC.br (decide (i = (2 : Int)))
         (FnA.at_ a_lStarts 5 (F_s3_1 l k how (1 : Int) nq p q a0 b0 c0 d0 e0 m0 k0 a1 b1 c1 d1 e1 m1 k1 a2 b2 c2 d2 e2 m2 k2 n0 n1 n2 M0 K0 M1 K1 M2 K2 R0 R1 R2 (IntKind.wrap IntKind.i64 (sum + c1)) i))
         (VC.br (decide (i = (3 : Int)))
          (FnA.at_ a_lStarts 5 (F_s3_1 l k how (1 : Int) nq p q a0 b0 c0 d0 e0 m0 k0 a1 b1 c1 d1 e1 m1 k1 a2 b2 c2 d2 e2 m2 k2 n0 n1 n2 M0 K0 M1 K1 M2 K2 R0 R1 R2 (IntKind.wrap IntKind.i64 (sum + d1)) i))
          VC.ff))))
      (FnA.at_ a_lStarts 5 (F_s3_1 l k how (1 : Int) nq p q a0 b0 c0 d0 e0 m0 k0 a1 b1 c1 d1 e1 m1 k1 a2 b2 c2 d2 e2 m2 k2 n0 n1 n2 M0 K0 M1 K1 M2 K2 R0 R1 R2 sum i)))
     VC.ff))))
 (VC.br (sum != (0 : Int))
  (VC.ret (some (RR.c (Rc.d (D.bool false)))))
  (VC.br (e1 != (0 : Int))
   (VC.ret (some (RR.c (Rc.d (D.bool false)))))
   (VC.br ((↑k1 : Int) != (0 : Int))
    (VC.ret (some (RR.c (Rc.d (D.bool false)))))
    (VC.need (PreOk c_aCells p [A.agg (Prg.cells p)])
    (VC.br ((↑m1 : Int) != cellsS (listOf PMem (rowsOn p.mems)))
     (VC.ret (some (RR.c (Rc.d (D.bool false)))))
     (FnA.at_ a_lStarts 0 (F_s0 l k how (2 : Int) nq p q a0 b0 c0 d0 e0 m0 k0 a1 b1 c1 d1 e1 m1 k1 a2 b2 c2 d2 e2 m2 k2 n0 n1 n2 M0 K0 M1 K1 M2 K2 R0 R1 R2)))))))) := by kernel_rfl
set_option maxRecDepth 100000 in
theorem t_s5_1 (l k : List Int) (how : Int) (nq : Nat) (p : Prg) (q : List (List D)) (a0 b0 c0 d0 e0 : Int) (m0 k0 : Nat) (a1 b1 c1 d1 e1 : Int) (m1 k1 : Nat) (a2 b2 c2 d2 e2 : Int) (m2 k2 : Nat) (n0 n1 n2 : Nat) (M0 K0 M1 K1 M2 K2 R0 R1 R2 : List (List D)) (sum i : Int) : a_lStarts.round s_lStarts 400 5 (F_s3_1 l k how 1 nq p q a0 b0 c0 d0 e0 m0 k0 a1 b1 c1 d1 e1 m1 k1 a2 b2 c2 d2 e2 m2 k2 n0 n1 n2 M0 K0 M1 K1 M2 K2 R0 R1 R2 sum i) =
(FnA.at_ a_lStarts 4 (F_s3_1 l k how (1 : Int) nq p q a0 b0 c0 d0 e0 m0 k0 a1 b1 c1 d1 e1 m1 k1 a2 b2 c2 d2 e2 m2 k2 n0 n1 n2 M0 K0 M1 K1 M2 K2 R0 R1 R2 sum (IntKind.wrap IntKind.i64 (i + (1 : Int))))) := by kernel_rfl
set_option maxRecDepth 100000 in
theorem t_s1_2 (l k : List Int) (how : Int) (nq : Nat) (p : Prg) (q : List (List D)) (a0 b0 c0 d0 e0 : Int) (m0 k0 : Nat) (a1 b1 c1 d1 e1 : Int) (m1 k1 : Nat) (a2 b2 c2 d2 e2 : Int) (m2 k2 : Nat) (n0 n1 n2 : Nat) (M0 K0 M1 K1 M2 K2 R0 R1 R2 : List (List D)) (nn i : Int) : a_lStarts.round s_lStarts 400 1 (F_s1 l k how 2 nq p q a0 b0 c0 d0 e0 m0 k0 a1 b1 c1 d1 e1 m1 k1 a2 b2 c2 d2 e2 m2 k2 n0 n1 n2 M0 K0 M1 K1 M2 K2 R0 R1 R2 nn i) =
(VC.br (decide (i < nn))
 (VC.br (decide (i < (↑(List.length (rowsOn l)) : Int)))
  (VC.need ((0 : Int) ≤ i ∧ i < (↑(List.length (rowsOn l)) : Int) ∧ List.length (rowAt (rowsOn l) (Int.toNat i)) = (1 : Nat))
  (VC.need (okSh [Kd.int IntKind.i64] (rowAt (rowsOn l) (Int.toNat i)))
  (VC.br (decide (i < (↑(List.length (rowsOn k)) : Int)))
   (VC.need ((0 : Int) ≤ IntKind.wrap IntKind.u64 (IntKind.wrap IntKind.i64 (i + (16 : Int))))
   (VC.br (bits BinOp.and IntKind.i64 (Int.fdiv how ((2 : Int) ^ min (Int.toNat (IntKind.wrap IntKind.u64 (IntKind.wrap IntKind.i64 (i + (16 : Int))))) (64 : Nat))) (1 : Int) == (1 : Int))
    (VC.need ((0 : Int) ≤ i ∧ i < (↑(List.length (rowsOn k)) : Int) ∧ List.length (rowAt (rowsOn k) (Int.toNat i)) = (1 : Nat))
    (VC.need (okSh [Kd.int IntKind.i64] (rowAt (rowsOn k) (Int.toNat i)))
    (FnA.at_ a_lStarts 2 (F_sc l k how (2 : Int) nq p q a0 b0 c0 d0 e0 m0 k0 a1 b1 c1 d1 e1 m1 k1 a2 b2 c2 d2 e2 m2 k2 n0 n1 n2 M0 K0 M1 K1 M2 K2 R0 R1 R2 nn i (asInt (List.getD (rowAt (rowsOn k) (Int.toNat i)) (0 : Nat) D.nilp))))))
    (FnA.at_ a_lStarts 2 (F_sc l k how (2 : Int) nq p q a0 b0 c0 d0 e0 m0 k0 a1 b1 c1 d1 e1 m1 k1 a2 b2 c2 d2 e2 m2 k2 n0 n1 n2 M0 K0 M1 K1 M2 K2 R0 R1 R2 nn i (asInt (List.getD (rowAt (rowsOn l) (Int.toNat i)) (0 : Nat) D.nilp))))))
   (FnA.at_ a_lStarts 2 (F_sc l k how (2 : Int) nq p q a0 b0 c0 d0 e0 m0 k0 a1 b1 c1 d1 e1 m1 k1 a2 b2 c2 d2 e2 m2 k2 n0 n1 n2 M0 K0 M1 K1 M2 K2 R0 R1 R2 nn i (asInt (List.getD (rowAt (rowsOn l) (Int.toNat i)) (0 : Nat) D.nilp)))))))
  (VC.br (decide (i < (↑(List.length (rowsOn k)) : Int)))
   (VC.need ((0 : Int) ≤ IntKind.wrap IntKind.u64 (IntKind.wrap IntKind.i64 (i + (16 : Int))))
   (VC.br (bits BinOp.and IntKind.i64 (Int.fdiv how ((2 : Int) ^ min (Int.toNat (IntKind.wrap IntKind.u64 (IntKind.wrap IntKind.i64 (i + (16 : Int))))) (64 : Nat))) (1 : Int) == (1 : Int))
    (VC.need ((0 : Int) ≤ i ∧ i < (↑(List.length (rowsOn k)) : Int) ∧ List.length (rowAt (rowsOn k) (Int.toNat i)) = (1 : Nat))
    (VC.need (okSh [Kd.int IntKind.i64] (rowAt (rowsOn k) (Int.toNat i)))
    (FnA.at_ a_lStarts 2 (F_sc l k how (2 : Int) nq p q a0 b0 c0 d0 e0 m0 k0 a1 b1 c1 d1 e1 m1 k1 a2 b2 c2 d2 e2 m2 k2 n0 n1 n2 M0 K0 M1 K1 M2 K2 R0 R1 R2 nn i (asInt (List.getD (rowAt (rowsOn k) (Int.toNat i)) (0 : Nat) D.nilp))))))
    (FnA.at_ a_lStarts 2 (F_sc l k how (2 : Int) nq p q a0 b0 c0 d0 e0 m0 k0 a1 b1 c1 d1 e1 m1 k1 a2 b2 c2 d2 e2 m2 k2 n0 n1 n2 M0 K0 M1 K1 M2 K2 R0 R1 R2 nn i (0 : Int)))))
   (FnA.at_ a_lStarts 2 (F_sc l k how (2 : Int) nq p q a0 b0 c0 d0 e0 m0 k0 a1 b1 c1 d1 e1 m1 k1 a2 b2 c2 d2 e2 m2 k2 n0 n1 n2 M0 K0 M1 K1 M2 K2 R0 R1 R2 nn i (0 : Int)))))
 (VC.need (PreOk c_aStart (Prg.of (Prg.cells p), listOf Int R2) [A.agg (Prg.cells p), A.c (D.sl R2)])
 (VC.all (v_aStart (Prg.of (Prg.cells p), listOf Int R2)) fun (y41 : Sta × Bool) =>
 (VC.br (!y41.snd)
  (VC.ret (some (RR.c (Rc.d (D.bool false)))))
  (FnA.at_ a_lStarts 3 (F_s2_2 l k how (2 : Int) nq p q a0 b0 c0 d0 e0 m0 k0 a1 b1 c1 d1 e1 m1 k1 y41.fst.r0 y41.fst.r1 y41.fst.r2 y41.fst.r3 y41.fst.pc (List.length (rowsOn y41.fst.mem)) (List.length (rowsOn y41.fst.stack)) n0 n1 n2 M0 K0 M1 K1 (rowsOn y41.fst.mem) (rowsOn y41.fst.stack) R0 R1 R2 (0 : Int) (↑nq : Int) (0 : Int))))))) := by kernel_rfl
set_option maxRecDepth 100000 in
theorem t_sc_2 (l k : List Int) (how : Int) (nq : Nat) (p : Prg) (q : List (List D)) (a0 b0 c0 d0 e0 : Int) (m0 k0 : Nat) (a1 b1 c1 d1 e1 : Int) (m1 k1 : Nat) (a2 b2 c2 d2 e2 : Int) (m2 k2 : Nat) (n0 n1 n2 : Nat) (M0 K0 M1 K1 M2 K2 R0 R1 R2 : List (List D)) (nn i v : Int) : a_lStarts.round s_lStarts 400 2 (F_sc l k how 2 nq p q a0 b0 c0 d0 e0 m0 k0 a1 b1 c1 d1 e1 m1 k1 a2 b2 c2 d2 e2 m2 k2 n0 n1 n2 M0 K0 M1 K1 M2 K2 R0 R1 R2 nn i v) =
(VC.need (PreOk c_rMask (p.w, v) [A.c (D.int IntKind.i64 p.w), A.c (D.int IntKind.i64 v)])
(VC.need ((List.all [[D.int IntKind.i64 (maskS p.w v)]] fun r ↦ List.length r == (1 : Nat)) = true ∧ (List.all R2 fun r ↦ List.length r == (1 : Nat)) = true ∧ (List.length R2 + List.length [[D.int IntKind.i64 (maskS p.w v)]] + (100 : Nat)) * (9 : Nat) ≤ (70368744177664 : Nat))
(FnA.at_ a_lStarts 1 (F_s1 l k how (2 : Int) nq p q a0 b0 c0 d0 e0 m0 k0 a1 b1 c1 d1 e1 m1 k1 a2 b2 c2 d2 e2 m2 k2 n0 n1 (List.length R2 + List.length [[D.int IntKind.i64 (maskS p.w v)]]) M0 K0 M1 K1 M2 K2 R0 R1 (R2 ++ [[D.int IntKind.i64 (maskS p.w v)]]) nn (IntKind.wrap IntKind.i64 (i + (1 : Int))))))) := by kernel_rfl
set_option maxRecDepth 100000 in
theorem t_s2_2 (l k : List Int) (how : Int) (nq : Nat) (p : Prg) (q : List (List D)) (a0 b0 c0 d0 e0 : Int) (m0 k0 : Nat) (a1 b1 c1 d1 e1 : Int) (m1 k1 : Nat) (a2 b2 c2 d2 e2 : Int) (m2 k2 : Nat) (n0 n1 n2 : Nat) (M0 K0 M1 K1 M2 K2 R0 R1 R2 : List (List D)) (sum nn i : Int) : a_lStarts.round s_lStarts 400 3 (F_s2_2 l k how 2 nq p q a0 b0 c0 d0 e0 m0 k0 a1 b1 c1 d1 e1 m1 k1 a2 b2 c2 d2 e2 m2 k2 n0 n1 n2 M0 K0 M1 K1 M2 K2 R0 R1 R2 sum nn i) =
(VC.br (decide (i < nn))
 (VC.need ((0 : Int) ≤ i ∧ i < (↑nq : Int))
 (VC.need (Int.toNat i < List.length q ∧ List.length (rowAt q (Int.toNat i)) = (3 : Nat) ∧ okSh [Kd.bool] (List.drop (0 : Nat) (rowAt q (Int.toNat i))))
 (VC.br (asBool (List.getD (List.drop (0 : Nat) (rowAt q (Int.toNat i))) (0 : Nat) D.nilp))
  (VC.need ((0 : Int) ≤ i ∧ i < (↑nq : Int))
  (VC.need (Int.toNat i < List.length q ∧ List.length (rowAt q (Int.toNat i)) = (3 : Nat) ∧ okSh [Kd.int IntKind.i64] (List.drop (1 : Nat) (rowAt q (Int.toNat i))))
  (VC.br (decide (asInt (List.getD (List.drop (1 : Nat) (rowAt q (Int.toNat i))) (0 : Nat) D.nilp) = (0 : Int)))
   (VC.need ((0 : Int) ≤ i ∧ i < (↑n2 : Int))
   (VC.need (Int.toNat i < List.length R2 ∧ List.length (rowAt R2 (Int.toNat i)) = (1 : Nat) ∧ okSh [Kd.int IntKind.i64] (List.drop (0 : Nat) (rowAt R2 (Int.toNat i))))
   (VC.br (a2 != asInt (List.getD (List.drop (0 : Nat) (rowAt R2 (Int.toNat i))) (0 : Nat) D.nilp))
    (VC.ret (some (RR.c (Rc.d (D.bool false)))))
    (VC.need ((0 : Int) ≤ i ∧ i < (↑nq : Int))
    (VC.need (Int.toNat i < List.length q ∧ List.length (rowAt q (Int.toNat i)) = (3 : Nat) ∧ okSh [Kd.bool] (List.drop (0 : Nat) (rowAt q (Int.toNat i))))
    (VC.br (!asBool (List.getD (List.drop (0 : Nat) (rowAt q (Int.toNat i))) (0 : Nat) D.nilp))
     (VC.need ((0 : Int) ≤ i ∧ i < (↑nq : Int))
     (VC.need (Int.toNat i < List.length q ∧ List.length (rowAt q (Int.toNat i)) = (3 : Nat) ∧ okSh [Kd.int IntKind.i64] (List.drop (1 : Nat) (rowAt q (Int.toNat i))))
     (VC.br (decide ((↑m2 : Int) ≤ asInt (List.getD (List.drop (1 : Nat) (rowAt q (Int.toNat i))) (0 : Nat) D.nilp)))
      (VC.ret (some (RR.c (Rc.d (D.bool false)))))
      (VC.need ((0 : Int) ≤ i ∧ i < (↑nq : Int))
      (VC.need (Int.toNat i < List.length q ∧ List.length (rowAt q (Int.toNat i)) = (3 : Nat) ∧ okSh [Kd.int IntKind.i64] (List.drop (1 : Nat) (rowAt q (Int.toNat i))))
      (VC.need ((0 : Int) ≤ asInt (List.getD (List.drop (1 : Nat) (rowAt q (Int.toNat i))) (0 : Nat) D.nilp) ∧ asInt (List.getD (List.drop (1 : Nat) (rowAt q (Int.toNat i))) (0 : Nat) D.nilp) < (↑m2 : Int))
      (VC.need (Int.toNat (asInt (List.getD (List.drop (1 : Nat) (rowAt q (Int.toNat i))) (0 : Nat) D.nilp)) < List.length M2 ∧ List.length (rowAt M2 (Int.toNat (asInt (List.getD (List.drop (1 : Nat) (rowAt q (Int.toNat i))) (0 : Nat) D.nilp)))) = (1 : Nat) ∧ okSh [Kd.int IntKind.i64] (List.drop (0 : Nat) (rowAt M2 (Int.toNat (asInt (List.getD (List.drop (1 : Nat) (rowAt q (Int.toNat i))) (0 : Nat) D.nilp))))))
      (VC.need ((0 : Int) ≤ i ∧ i < (↑n2 : Int))
      (VC.need (Int.toNat i < List.length R2 ∧ List.length (rowAt R2 (Int.toNat i)) = (1 : Nat) ∧ okSh [Kd.int IntKind.i64] (List.drop (0 : Nat) (rowAt R2 (Int.toNat i))))
      (VC.br (asInt (List.getD (List.drop (0 : Nat) (rowAt M2 (Int.toNat (asInt (List.getD (List.drop (1 : Nat) (rowAt q (Int.toNat i))) (0 : Nat) D.nilp))))) (0 : Nat) D.nilp) != asInt (List.getD (List.drop (0 : Nat) (rowAt R2 (Int.toNat i))) (0 : Nat) D.nilp))
       (VC.ret (some (RR.c (Rc.d (D.bool false)))))
       (FnA.at_ a_lStarts 3 (F_s2_2 l k how (2 : Int) nq p q a0 b0 c0 d0 e0 m0 k0 a1 b1 c1 d1 e1 m1 k1 a2 b2 c2 d2 e2 m2 k2 n0 n1 n2 M0 K0 M1 K1 M2 K2 R0 R1 R2 sum nn (IntKind.wrap IntKind.i64 (i + (1 : Int)))))))))))))))
     (FnA.at_ a_lStarts 3 (F_s2_2 l k how (2 : Int) nq p q a0 b0 c0 d0 e0 m0 k0 a1 b1 c1 d1 e1 m1 k1 a2 b2 c2 d2 e2 m2 k2 n0 n1 n2 M0 K0 M1 K1 M2 K2 R0 R1 R2 sum nn (IntKind.wrap IntKind.i64 (i + (1 : Int)))))))))))
   (VC.br (decide (asInt (List.getD (List.drop (1 : Nat) (rowAt q (Int.toNat i))) (0 : Nat) D.nilp) = (1 : Int)))
    (VC.need ((0 : Int) ≤ i ∧ i < (↑n2 : Int))
    (VC.need (Int.toNat i < List.length R2 ∧ List.length (rowAt R2 (Int.toNat i)) = (1 : Nat) ∧ okSh [Kd.int IntKind.i64] (List.drop (0 : Nat) (rowAt R2 (Int.toNat i))))
    (VC.br (b2 != asInt (List.getD (List.drop (0 : Nat) (rowAt R2 (Int.toNat i))) (0 : Nat) D.nilp))
     (VC.ret (some (RR.c (Rc.d (D.bool false)))))
     (VC.need ((0 : Int) ≤ i ∧ i < (↑nq : Int))
     (VC.need (Int.toNat i < List.length q ∧ List.length (rowAt q (Int.toNat i)) = (3 : Nat) ∧ okSh [Kd.bool] (List.drop (0 : Nat) (rowAt q (Int.toNat i))))
     (VC.br (!asBool (List.getD (List.drop (0 : Nat) (rowAt q (Int.toNat i))) (0 : Nat) D.nilp))
      (VC.need ((0 : Int) ≤ i ∧ i < (↑nq : Int))
      (VC.need (Int.toNat i < List.length q ∧ List.length (rowAt q (Int.toNat i)) = (3 : Nat) ∧ okSh [Kd.int IntKind.i64] (List.drop (1 : Nat) (rowAt q (Int.toNat i))))
      (VC.br (decide ((↑m2 : Int) ≤ asInt (List.getD (List.drop (1 : Nat) (rowAt q (Int.toNat i))) (0 : Nat) D.nilp)))
       (VC.ret (some (RR.c (Rc.d (D.bool false)))))
       (VC.need ((0 : Int) ≤ i ∧ i < (↑nq : Int))
       (VC.need (Int.toNat i < List.length q ∧ List.length (rowAt q (Int.toNat i)) = (3 : Nat) ∧ okSh [Kd.int IntKind.i64] (List.drop (1 : Nat) (rowAt q (Int.toNat i))))
       (VC.need ((0 : Int) ≤ asInt (List.getD (List.drop (1 : Nat) (rowAt q (Int.toNat i))) (0 : Nat) D.nilp) ∧ asInt (List.getD (List.drop (1 : Nat) (rowAt q (Int.toNat i))) (0 : Nat) D.nilp) < (↑m2 : Int))
       (VC.need (Int.toNat (asInt (List.getD (List.drop (1 : Nat) (rowAt q (Int.toNat i))) (0 : Nat) D.nilp)) < List.length M2 ∧ List.length (rowAt M2 (Int.toNat (asInt (List.getD (List.drop (1 : Nat) (rowAt q (Int.toNat i))) (0 : Nat) D.nilp)))) = (1 : Nat) ∧ okSh [Kd.int IntKind.i64] (List.drop (0 : Nat) (rowAt M2 (Int.toNat (asInt (List.getD (List.drop (1 : Nat) (rowAt q (Int.toNat i))) (0 : Nat) D.nilp))))))
       (VC.need ((0 : Int) ≤ i ∧ i < (↑n2 : Int))
       (VC.need (Int.toNat i < List.length R2 ∧ List.length (rowAt R2 (Int.toNat i)) = (1 : Nat) ∧ okSh [Kd.int IntKind.i64] (List.drop (0 : Nat) (rowAt R2 (Int.toNat i))))
       (VC.br (asInt (List.getD (List.drop (0 : Nat) (rowAt M2 (Int.toNat (asInt (List.getD (List.drop (1 : Nat) (rowAt q (Int.toNat i))) (0 : Nat) D.nilp))))) (0 : Nat) D.nilp) != asInt (List.getD (List.drop (0 : Nat) (rowAt R2 (Int.toNat i))) (0 : Nat) D.nilp))
        (VC.ret (some (RR.c (Rc.d (D.bool false)))))
        (FnA.at_ a_lStarts 3 (F_s2_2 l k how (2 : Int) nq p q a0 b0 c0 d0 e0 m0 k0 a1 b1 c1 d1 e1 m1 k1 a2 b2 c2 d2 e2 m2 k2 n0 n1 n2 M0 K0 M1 K1 M2 K2 R0 R1 R2 sum nn (IntKind.wrap IntKind.i64 (i + (1 : Int)))))))))))))))
      (FnA.at_ a_lStarts 3 (F_s2_2 l k how (2 : Int) nq p q a0 b0 c0 d0 e0 m0 k0 a1 b1 c1 d1 e1 m1 k1 a2 b2 c2 d2 e2 m2 k2 n0 n1 n2 M0 K0 M1 K1 M2 K2 R0 R1 R2 sum nn (IntKind.wrap IntKind.i64 (i + (1 : Int)))))))))))
    (VC.br (decide (asInt (List.getD (List.drop (1 : Nat) (rowAt q (Int.toNat i))) (0 : Nat) D.nilp) = (2 : Int)))
     (VC.need ((0 : Int) ≤ i ∧ i < (↑n2 : Int))
     (VC.need (Int.toNat i < List.length R2 ∧ List.length (rowAt R2 (Int.toNat i)) = (1 : Nat) ∧ okSh [Kd.int IntKind.i64] (List.drop (0 : Nat) (rowAt R2 (Int.toNat i))))
     (VC.br (c2 != asInt (List.getD (List.drop (0 : Nat) (rowAt R2 (Int.toNat i))) (0 : Nat) D.nilp))
      (VC.ret (some (RR.c (Rc.d (D.bool false)))))
      (VC.need ((0 : Int) ≤ i ∧ i < (↑nq : Int))
      (VC.need (Int.toNat i < List.length q ∧ List.length (rowAt q (Int.toNat i)) = (3 : Nat) ∧ okSh [Kd.bool] (List.drop (0 : Nat) (rowAt q (Int.toNat i))))
      (VC.br (!asBool (List.getD (List.drop (0 : Nat) (rowAt q (Int.toNat i))) (0 : Nat) D.nilp))
       (VC.need ((0 : Int) ≤ i ∧ i < (↑nq : Int))
       (VC.need (Int.toNat i < List.length q ∧ List.length (rowAt q (Int.toNat i)) = (3 : Nat) ∧ okSh [Kd.int IntKind.i64] (List.drop (1 : Nat) (rowAt q (Int.toNat i))))
       (VC.br (decide ((↑m2 : Int) ≤ asInt (List.getD (List.drop (1 : Nat) (rowAt q (Int.toNat i))) (0 : Nat) D.nilp)))
        (VC.ret (some (RR.c (Rc.d (D.bool false)))))
        (VC.need ((0 : Int) ≤ i ∧ i < (↑nq : Int))
        (VC.need (Int.toNat i < List.length q ∧ List.length (rowAt q (Int.toNat i)) = (3 : Nat) ∧ okSh [Kd.int IntKind.i64] (List.drop (1 : Nat) (rowAt q (Int.toNat i))))
        (VC.need ((0 : Int) ≤ asInt (List.getD (List.drop (1 : Nat) (rowAt q (Int.toNat i))) (0 : Nat) D.nilp) ∧ asInt (List.getD (List.drop (1 : Nat) (rowAt q (Int.toNat i))) (0 : Nat) D.nilp) < (↑m2 : Int))
        (VC.need (Int.toNat (asInt (List.getD (List.drop (1 : Nat) (rowAt q (Int.toNat i))) (0 : Nat) D.nilp)) < List.length M2 ∧ List.length (rowAt M2 (Int.toNat (asInt (List.getD (List.drop (1 : Nat) (rowAt q (Int.toNat i))) (0 : Nat) D.nilp)))) = (1 : Nat) ∧ okSh [Kd.int IntKind.i64] (List.drop (0 : Nat) (rowAt M2 (Int.toNat (asInt (List.getD (List.drop (1 : Nat) (rowAt q (Int.toNat i))) (0 : Nat) D.nilp))))))
        (VC.need ((0 : Int) ≤ i ∧ i < (↑n2 : Int))
        (VC.need (Int.toNat i < List.length R2 ∧ List.length (rowAt R2 (Int.toNat i)) = (1 : Nat) ∧ okSh [Kd.int IntKind.i64] (List.drop (0 : Nat) (rowAt R2 (Int.toNat i))))
        (VC.br (asInt (List.getD (List.drop (0 : Nat) (rowAt M2 (Int.toNat (asInt (List.getD (List.drop (1 : Nat) (rowAt q (Int.toNat i))) (0 : Nat) D.nilp))))) (0 : Nat) D.nilp) != asInt (List.getD (List.drop (0 : Nat) (rowAt R2 (Int.toNat i))) (0 : Nat) D.nilp))
         (VC.ret (some (RR.c (Rc.d (D.bool false)))))
         (FnA.at_ a_lStarts 3 (F_s2_2 l k how (2 : Int) nq p q a0 b0 c0 d0 e0 m0 k0 a1 b1 c1 d1 e1 m1 k1 a2 b2 c2 d2 e2 m2 k2 n0 n1 n2 M0 K0 M1 K1 M2 K2 R0 R1 R2 sum nn (IntKind.wrap IntKind.i64 (i + (1 : Int)))))))))))))))
       (FnA.at_ a_lStarts 3 (F_s2_2 l k how (2 : Int) nq p q a0 b0 c0 d0 e0 m0 k0 a1 b1 c1 d1 e1 m1 k1 a2 b2 c2 d2 e2 m2 k2 n0 n1 n2 M0 K0 M1 K1 M2 K2 R0 R1 R2 sum nn (IntKind.wrap IntKind.i64 (i + (1 : Int)))))))))))
     (VC.br (decide (asInt (List.getD (List.drop (1 : Nat) (rowAt q (Int.toNat i))) (0 : Nat) D.nilp) = (3 : Int)))
      (VC.need ((0 : Int) ≤ i ∧ i < (↑n2 : Int))
      (VC.need (Int.toNat i < List.length R2 ∧ List.length (rowAt R2 (Int.toNat i)) = (1 : Nat) ∧ okSh [Kd.int IntKind.i64] (List.drop (0 : Nat) (rowAt R2 (Int.toNat i))))
      (VC.br (d2 != asInt (List.getD (List.drop (0 : Nat) (rowAt R2 (Int.toNat i))) (0 : Nat) D.nilp))
       (VC.ret (some (RR.c (Rc.d (D.bool false)))))
       (VC.need ((0 : Int) ≤ i ∧ i < (↑nq : Int))
       (VC.need (Int.toNat i < List.length q ∧ List.length (rowAt q (Int.toNat i)) = (3 : Nat) ∧ okSh [Kd.bool] (List.drop (0 : Nat) (rowAt q (Int.toNat i))))
       (VC.br (!asBool (List.getD (List.drop (0 : Nat) (rowAt q (Int.toNat i))) (0 : Nat) D.nilp))
        (VC.need ((0 : Int) ≤ i ∧ i < (↑nq : Int))
        (VC.need (Int.toNat i < List.length q ∧ List.length (rowAt q (Int.toNat i)) = (3 : Nat) ∧ okSh [Kd.int IntKind.i64] (List.drop (1 : Nat) (rowAt q (Int.toNat i))))
        (VC.br (decide ((↑m2 : Int) ≤ asInt (List.getD (List.drop (1 : Nat) (rowAt q (Int.toNat i))) (0 : Nat) D.nilp)))
         (VC.ret (some (RR.c (Rc.d (D.bool false)))))
         (VC.need ((0 : Int) ≤ i ∧ i < (↑nq : Int))
         (VC.need (Int.toNat i < List.length q ∧ List.length (rowAt q (Int.toNat i)) = (3 : Nat) ∧ okSh [Kd.int IntKind.i64] (List.drop (1 : Nat) (rowAt q (Int.toNat i))))
         (VC.need ((0 : Int) ≤ asInt (List.getD (List.drop (1 : Nat) (rowAt q (Int.toNat i))) (0 : Nat) D.nilp) ∧ asInt (List.getD (List.drop (1 : Nat) (rowAt q (Int.toNat i))) (0 : Nat) D.nilp) < (↑m2 : Int))
         (VC.need (Int.toNat (asInt (List.getD (List.drop (1 : Nat) (rowAt q (Int.toNat i))) (0 : Nat) D.nilp)) < List.length M2 ∧ List.length (rowAt M2 (Int.toNat (asInt (List.getD (List.drop (1 : Nat) (rowAt q (Int.toNat i))) (0 : Nat) D.nilp)))) = (1 : Nat) ∧ okSh [Kd.int IntKind.i64] (List.drop (0 : Nat) (rowAt M2 (Int.toNat (asInt (List.getD (List.drop (1 : Nat) (rowAt q (Int.toNat i))) (0 : Nat) D.nilp))))))
         (VC.need ((0 : Int) ≤ i ∧ i < (↑n2 : Int))
         (VC.need (Int.toNat i < List.length R2 ∧ List.length (rowAt R2 (Int.toNat i)) = (1 : Nat) ∧ okSh [Kd.int IntKind.i64] (List.drop (0 : Nat) (rowAt R2 (Int.toNat i))))
         (VC.br (asInt (List.getD (List.drop (0 : Nat) (rowAt M2 (Int.toNat (asInt (List.getD (List.drop (1 : Nat) (rowAt q (Int.toNat i))) (0 : Nat) D.nilp))))) (0 : Nat) D.nilp) != asInt (List.getD (List.drop (0 : Nat) (rowAt R2 (Int.toNat i))) (0 : Nat) D.nilp))
          (VC.ret (some (RR.c (Rc.d (D.bool false)))))
          (FnA.at_ a_lStarts 3 (F_s2_2 l k how (2 : Int) nq p q a0 b0 c0 d0 e0 m0 k0 a1 b1 c1 d1 e1 m1 k1 a2 b2 c2 d2 e2 m2 k2 n0 n1 n2 M0 K0 M1 K1 M2 K2 R0 R1 R2 sum nn (IntKind.wrap IntKind.i64 (i + (1 : Int)))))))))))))))
        (FnA.at_ a_lStarts 3 (F_s2_2 l k how (2 : Int) nq p q a0 b0 c0 d0 e0 m0 k0 a1 b1 c1 d1 e1 m1 k1 a2 b2 c2 d2 e2 m2 k2 n0 n1 n2 M0 K0 M1 K1 M2 K2 R0 R1 R2 sum nn (IntKind.wrap IntKind.i64 (i + (1 : Int)))))))))))
      VC.ff))))))
  (VC.need ((0 : Int) ≤ i ∧ i < (↑nq : Int))
  (VC.need (Int.toNat i < List.length q ∧ List.length (rowAt q (Int.toNat i)) = (3 : Nat) ∧ okSh [Kd.bool] (List.drop (0 : Nat) (rowAt q (Int.toNat i))))
  (VC.br (!asBool (List.getD (List.drop (0 : Nat) (rowAt q (Int.toNat i))) (0 : Nat) D.nilp))
   (VC.need ((0 : Int) ≤ i ∧ i < (↑nq : Int))
   (VC.need (Int.toNat i < List.length q ∧ List.length (rowAt q (Int.toNat i)) = (3 : Nat) ∧ okSh [Kd.int IntKind.i64] (List.drop (1 : Nat) (rowAt q (Int.toNat i))))
   (VC.br (decide ((↑m2 : Int) ≤ asInt (List.getD (List.drop (1 : Nat) (rowAt q (Int.toNat i))) (0 : Nat) D.nilp)))
    (VC.ret (some (RR.c (Rc.d (D.bool false)))))
    (VC.need ((0 : Int) ≤ i ∧ i < (↑nq : Int))
    (VC.need (Int.toNat i < List.length q ∧ List.length (rowAt q (Int.toNat i)) = (3 : Nat) ∧ okSh [Kd.int IntKind.i64] (List.drop (1 : Nat) (rowAt q (Int.toNat i))))
    (VC.need ((0 : Int) ≤ asInt (List.getD (List.drop (1 : Nat) (rowAt q (Int.toNat i))) (0 : Nat) D.nilp) ∧ asInt (List.getD (List.drop (1 : Nat) (rowAt q (Int.toNat i))) (0 : Nat) D.nilp) < (↑m2 : Int))
    (VC.need (Int.toNat (asInt (List.getD (List.drop (1 : Nat) (rowAt q (Int.toNat i))) (0 : Nat) D.nilp)) < List.length M2 ∧ List.length (rowAt M2 (Int.toNat (asInt (List.getD (List.drop (1 : Nat) (rowAt q (Int.toNat i))) (0 : Nat) D.nilp)))) = (1 : Nat) ∧ okSh [Kd.int IntKind.i64] (List.drop (0 : Nat) (rowAt M2 (Int.toNat (asInt (List.getD (List.drop (1 : Nat) (rowAt q (Int.toNat i))) (0 : Nat) D.nilp))))))
    (VC.need ((0 : Int) ≤ i ∧ i < (↑n2 : Int))
    (VC.need (Int.toNat i < List.length R2 ∧ List.length (rowAt R2 (Int.toNat i)) = (1 : Nat) ∧ okSh [Kd.int IntKind.i64] (List.drop (0 : Nat) (rowAt R2 (Int.toNat i))))
    (VC.br (asInt (List.getD (List.drop (0 : Nat) (rowAt M2 (Int.toNat (asInt (List.getD (List.drop (1 : Nat) (rowAt q (Int.toNat i))) (0 : Nat) D.nilp))))) (0 : Nat) D.nilp) != asInt (List.getD (List.drop (0 : Nat) (rowAt R2 (Int.toNat i))) (0 : Nat) D.nilp))
     (VC.ret (some (RR.c (Rc.d (D.bool false)))))
     (FnA.at_ a_lStarts 3 (F_s2_2 l k how (2 : Int) nq p q a0 b0 c0 d0 e0 m0 k0 a1 b1 c1 d1 e1 m1 k1 a2 b2 c2 d2 e2 m2 k2 n0 n1 n2 M0 K0 M1 K1 M2 K2 R0 R1 R2 sum nn (IntKind.wrap IntKind.i64 (i + (1 : Int)))))))))))))))
   (FnA.at_ a_lStarts 3 (F_s2_2 l k how (2 : Int) nq p q a0 b0 c0 d0 e0 m0 k0 a1 b1 c1 d1 e1 m1 k1 a2 b2 c2 d2 e2 m2 k2 n0 n1 n2 M0 K0 M1 K1 M2 K2 R0 R1 R2 sum nn (IntKind.wrap IntKind.i64 (i + (1 : Int)))))))))))
 (FnA.at_ a_lStarts 4 (F_s3_2 l k how (2 : Int) nq p q a0 b0 c0 d0 e0 m0 k0 a1 b1 c1 d1 e1 m1 k1 a2 b2 c2 d2 e2 m2 k2 n0 n1 n2 M0 K0 M1 K1 M2 K2 R0 R1 R2 sum (0 : Int)))) := by kernel_rfl
set_option maxRecDepth 100000 in
theorem t_s3_2 (l k : List Int) (how : Int) (nq : Nat) (p : Prg) (q : List (List D)) (a0 b0 c0 d0 e0 : Int) (m0 k0 : Nat) (a1 b1 c1 d1 e1 : Int) (m1 k1 : Nat) (a2 b2 c2 d2 e2 : Int) (m2 k2 : Nat) (n0 n1 n2 : Nat) (M0 K0 M1 K1 M2 K2 R0 R1 R2 : List (List D)) (sum i : Int) : a_lStarts.round s_lStarts 400 4 (F_s3_2 l k how 2 nq p q a0 b0 c0 d0 e0 m0 k0 a1 b1 c1 d1 e1 m1 k1 a2 b2 c2 d2 e2 m2 k2 n0 n1 n2 M0 K0 M1 K1 M2 K2 R0 R1 R2 sum i) =
(VC.br (decide (i < (4 : Int)))
 (VC.br (decide (i = (0 : Int)))
  (VC.br (p.r0 == (0 : Int))
   (VC.br (decide (i = (0 : Int)))
    (FnA.at_ a_lStarts 5 (F_s3_2 l k how (2 : Int) nq p q a0 b0 c0 d0 e0 m0 k0 a1 b1 c1 d1 e1 m1 k1 a2 b2 c2 d2 e2 m2 k2 n0 n1 n2 M0 K0 M1 K1 M2 K2 R0 R1 R2 (IntKind.wrap IntKind.i64 (sum + a2)) i))
    (VC.br (decide (i = (1 : Int)))
     (FnA.at_ a_lStarts 5 (F_s3_2 l k how (2 : Int) nq p q a0 b0 c0 d0 e0 m0 k0 a1 b1 c1 d1 e1 m1 k1 a2 b2 c2 d2 e2 m2 k2 n0 n1 n2 M0 K0 M1 K1 M2 K2 R0 R1 R2 (IntKind.wrap IntKind.i64 (sum + b2)) i))
     (VC.br (decide (i = (2 : Int)))
      (FnA.at_ a_lStarts 5 (F_s3_2 l k how (2 : Int) nq p q a0 b0 c0 d0 e0 m0 k0 a1 b1 c1 d1 e1 m1 k1 a2 b2 c2 d2 e2 m2 k2 n0 n1 n2 M0 K0 M1 K1 M2 K2 R0 R1 R2 (IntKind.wrap IntKind.i64 (sum + c2)) i))
      (VC.br (decide (i = (3 : Int)))
       (FnA.at_ a_lStarts 5 (F_s3_2 l k how (2 : Int) nq p q a0 b0 c0 d0 e0 m0 k0 a1 b1 c1 d1 e1 m1 k1 a2 b2 c2 d2 e2 m2 k2 n0 n1 n2 M0 K0 M1 K1 M2 K2 R0 R1 R2 (IntKind.wrap IntKind.i64 (sum + d2)) i))
       VC.ff))))
   (FnA.at_ a_lStarts 5 (F_s3_2 l k how (2 : Int) nq p q a0 b0 c0 d0 e0 m0 k0 a1 b1 c1 d1 e1 m1 k1 a2 b2 c2 d2 e2 m2 k2 n0 n1 n2 M0 K0 M1 K1 M2 K2 R0 R1 R2 sum i)))
  (VC.br (decide (i = (1 : Int)))
   (VC.br (p.r1 == (0 : Int))
    (VC.br (decide (i = (0 : Int)))
     (FnA.at_ a_lStarts 5 (F_s3_2 l k how (2 : Int) nq p q a0 b0 c0 d0 e0 m0 k0 a1 b1 c1 d1 e1 m1 k1 a2 b2 c2 d2 e2 m2 k2 n0 n1 n2 M0 K0 M1 K1 M2 K2 R0 R1 R2 (IntKind.wrap IntKind.i64 (sum + a2)) i))
     (VC.br (decide (i = (1 : Int)))
      (FnA.at_ a_lStarts 5 (F_s3_2 l k how (2 : Int) nq p q a0 b0 c0 d0 e0 m0 k0 a1 b1 c1 d1 e1 m1 k1 a2 b2 c2 d2 e2 m2 k2 n0 n1 n2 M0 K0 M1 K1 M2 K2 R0 R1 R2 (IntKind.wrap IntKind.i64 (sum + b2)) i))
      (VC.br (decide (i = (2 : Int)))
       (FnA.at_ a_lStarts 5 (F_s3_2 l k how (2 : Int) nq p q a0 b0 c0 d0 e0 m0 k0 a1 b1 c1 d1 e1 m1 k1 a2 b2 c2 d2 e2 m2 k2 n0 n1 n2 M0 K0 M1 K1 M2 K2 R0 R1 R2 (IntKind.wrap IntKind.i64 (sum + c2)) i))
       (VC.br (decide (i = (3 : Int)))
        (FnA.at_ a_lStarts 5 (F_s3_2 l k how (2 : Int) nq p q a0 b0 c0 d0 e0 m0 k0 a1 b1 c1 d1 e1 m1 k1 a2 b2 c2 d2 e2 m2 k2 n0 n1 n2 M0 K0 M1 K1 M2 K2 R0 R1 R2 (IntKind.wrap IntKind.i64 (sum + d2)) i))
        VC.ff))))
    (FnA.at_ a_lStarts 5 (F_s3_2 l k how (2 : Int) nq p q a0 b0 c0 d0 e0 m0 k0 a1 b1 c1 d1 e1 m1 k1 a2 b2 c2 d2 e2 m2 k2 n0 n1 n2 M0 K0 M1 K1 M2 K2 R0 R1 R2 sum i)))
   (VC.br (decide (i = (2 : Int)))
    (VC.br (p.r2 == (0 : Int))
     (VC.br (decide (i = (0 : Int)))
      (FnA.at_ a_lStarts 5 (F_s3_2 l k how (2 : Int) nq p q a0 b0 c0 d0 e0 m0 k0 a1 b1 c1 d1 e1 m1 k1 a2 b2 c2 d2 e2 m2 k2 n0 n1 n2 M0 K0 M1 K1 M2 K2 R0 R1 R2 (IntKind.wrap IntKind.i64 (sum + a2)) i))
      (VC.br (decide (i = (1 : Int)))
       (FnA.at_ a_lStarts 5 (F_s3_2 l k how (2 : Int) nq p q a0 b0 c0 d0 e0 m0 k0 a1 b1 c1 d1 e1 m1 k1 a2 b2 c2 d2 e2 m2 k2 n0 n1 n2 M0 K0 M1 K1 M2 K2 R0 R1 R2 (IntKind.wrap IntKind.i64 (sum + b2)) i))
       (VC.br (decide (i = (2 : Int)))
        (FnA.at_ a_lStarts 5 (F_s3_2 l k how (2 : Int) nq p q a0 b0 c0 d0 e0 m0 k0 a1 b1 c1 d1 e1 m1 k1 a2 b2 c2 d2 e2 m2 k2 n0 n1 n2 M0 K0 M1 K1 M2 K2 R0 R1 R2 (IntKind.wrap IntKind.i64 (sum + c2)) i))
        (VC.br (decide (i = (3 : Int)))
         (FnA.at_ a_lStarts 5 (F_s3_2 l k how (2 : Int) nq p q a0 b0 c0 d0 e0 m0 k0 a1 b1 c1 d1 e1 m1 k1 a2 b2 c2 d2 e2 m2 k2 n0 n1 n2 M0 K0 M1 K1 M2 K2 R0 R1 R2 (IntKind.wrap IntKind.i64 (sum + d2)) i))
         VC.ff))))
     (FnA.at_ a_lStarts 5 (F_s3_2 l k how (2 : Int) nq p q a0 b0 c0 d0 e0 m0 k0 a1 b1 c1 d1 e1 m1 k1 a2 b2 c2 d2 e2 m2 k2 n0 n1 n2 M0 K0 M1 K1 M2 K2 R0 R1 R2 sum i)))
    (VC.br (decide (i = (3 : Int)))
     (VC.br (p.r3 == (0 : Int))
      (VC.br (decide (i = (0 : Int)))
       (FnA.at_ a_lStarts 5 (F_s3_2 l k how (2 : Int) nq p q a0 b0 c0 d0 e0 m0 k0 a1 b1 c1 d1 e1 m1 k1 a2 b2 c2 d2 e2 m2 k2 n0 n1 n2 M0 K0 M1 K1 M2 K2 R0 R1 R2 (IntKind.wrap IntKind.i64 (sum + a2)) i))
       (VC.br (decide (i = (1 : Int)))
        (FnA.at_ a_lStarts 5 (F_s3_2 l k how (2 : Int) nq p q a0 b0 c0 d0 e0 m0 k0 a1 b1 c1 d1 e1 m1 k1 a2 b2 c2 d2 e2 m2 k2 n0 n1 n2 M0 K0 M1 K1 M2 K2 R0 R1 R2 (IntKind.wrap IntKind.i64 (sum + b2)) i))
        (VC.br (decide (i = (2 : Int)))
         (FnA.at_ a_lStarts 5 (F_s3_2 l k how (2 : Int) nq p q a0 b0 c0 d0 e0 m0 k0 a1 b1 c1 d1 e1 m1 k1 a2 b2 c2 d2 e2 m2 k2 n0 n1 n2 M0 K0 M1 K1 M2 K2 R0 R1 R2 (IntKind.wrap IntKind.i64 (sum + c2)) i))
         (VC.br (decide (i = (3 : Int)))
          (FnA.at_ a_lStarts 5 (F_s3_2 l k how (2 : Int) nq p q a0 b0 c0 d0 e0 m0 k0 a1 b1 c1 d1 e1 m1 k1 a2 b2 c2 d2 e2 m2 k2 n0 n1 n2 M0 K0 M1 K1 M2 K2 R0 R1 R2 (IntKind.wrap IntKind.i64 (sum + d2)) i))
          VC.ff))))
      (FnA.at_ a_lStarts 5 (F_s3_2 l k how (2 : Int) nq p q a0 b0 c0 d0 e0 m0 k0 a1 b1 c1 d1 e1 m1 k1 a2 b2 c2 d2 e2 m2 k2 n0 n1 n2 M0 K0 M1 K1 M2 K2 R0 R1 R2 sum i)))
     VC.ff))))
 (VC.br (sum != (0 : Int))
  (VC.ret (some (RR.c (Rc.d (D.bool false)))))
  (VC.br (e2 != (0 : Int))
   (VC.ret (some (RR.c (Rc.d (D.bool false)))))
   (VC.br ((↑k2 : Int) != (0 : Int))
    (VC.ret (some (RR.c (Rc.d (D.bool false)))))
    (VC.need (PreOk c_aCells p [A.agg (Prg.cells p)])
    (VC.br ((↑m2 : Int) != cellsS (listOf PMem (rowsOn p.mems)))
     (VC.ret (some (RR.c (Rc.d (D.bool false)))))
     (FnA.at_ a_lStarts 0 (F_s0 l k how (3 : Int) nq p q a0 b0 c0 d0 e0 m0 k0 a1 b1 c1 d1 e1 m1 k1 a2 b2 c2 d2 e2 m2 k2 n0 n1 n2 M0 K0 M1 K1 M2 K2 R0 R1 R2)))))))) := by kernel_rfl
set_option maxRecDepth 100000 in
theorem t_s5_2 (l k : List Int) (how : Int) (nq : Nat) (p : Prg) (q : List (List D)) (a0 b0 c0 d0 e0 : Int) (m0 k0 : Nat) (a1 b1 c1 d1 e1 : Int) (m1 k1 : Nat) (a2 b2 c2 d2 e2 : Int) (m2 k2 : Nat) (n0 n1 n2 : Nat) (M0 K0 M1 K1 M2 K2 R0 R1 R2 : List (List D)) (sum i : Int) : a_lStarts.round s_lStarts 400 5 (F_s3_2 l k how 2 nq p q a0 b0 c0 d0 e0 m0 k0 a1 b1 c1 d1 e1 m1 k1 a2 b2 c2 d2 e2 m2 k2 n0 n1 n2 M0 K0 M1 K1 M2 K2 R0 R1 R2 sum i) =
(FnA.at_ a_lStarts 4 (F_s3_2 l k how (2 : Int) nq p q a0 b0 c0 d0 e0 m0 k0 a1 b1 c1 d1 e1 m1 k1 a2 b2 c2 d2 e2 m2 k2 n0 n1 n2 M0 K0 M1 K1 M2 K2 R0 R1 R2 sum (IntKind.wrap IntKind.i64 (i + (1 : Int))))) := by kernel_rfl
def F_s6 (nq : Nat) (p : Prg) (q : List (List D)) (a0 b0 c0 d0 e0 : Int) (m0 k0 : Nat) (a1 b1 c1 d1 e1 : Int) (m1 k1 : Nat) (a2 b2 c2 d2 e2 : Int) (m2 k2 : Nat) (n0 n1 n2 : Nat) (M0 K0 M1 K1 M2 K2 R0 R1 R2 : List (List D)) (i : Int) : St := ⟨mkS 240 [(9, vp 576), (10, vo 900112 nq), (11, vp 704), (12, vp 768), (21, vi i)], [(576, bc [.d (.int .i64 p.w), .d (.int .i64 p.window), .d (.int .i64 p.fuel), .d (.int .i64 p.r0), .d (.int .i64 p.r1), .d (.int .i64 p.r2), .d (.int .i64 p.r3), .d (.sl (rowsOn p.mems)), .d (.sl (rowsOn p.labels)), .d (.sl (rowsOn p.ins))]), (704, bc [.d (.int .i64 a0), .d (.int .i64 b0), .d (.int .i64 c0), .d (.int .i64 d0), .own 900101 1 m0, .own 900102 1 k0, .d (.int .i64 e0), .d (.int .i64 a1), .d (.int .i64 b1), .d (.int .i64 c1), .d (.int .i64 d1), .own 900103 1 m1, .own 900104 1 k1, .d (.int .i64 e1), .d (.int .i64 a2), .d (.int .i64 b2), .d (.int .i64 c2), .d (.int .i64 d2), .own 900105 1 m2, .own 900106 1 k2, .d (.int .i64 e2)]), (768, bc [.own 900107 1 n0, .own 900108 1 n1, .own 900109 1 n2]), (900101, ba 1 M0), (900102, ba 1 K0), (900103, ba 1 M1), (900104, ba 1 K1), (900105, ba 1 M2), (900106, ba 1 K2), (900107, ba 1 R0), (900108, ba 1 R1), (900109, ba 1 R2), (900112, ba 3 q)]⟩
def F_s7 (nq : Nat) (p : Prg) (q : List (List D)) (a0 b0 c0 d0 e0 : Int) (m0 k0 : Nat) (a1 b1 c1 d1 e1 : Int) (m1 k1 : Nat) (a2 b2 c2 d2 e2 : Int) (m2 k2 : Nat) (n0 n1 n2 : Nat) (M0 K0 M1 K1 M2 K2 R0 R1 R2 : List (List D)) (i j : Int) : St := ⟨mkS 240 [(9, vp 576), (10, vo 900112 nq), (11, vp 704), (12, vp 768), (21, vi i), (22, vi j)], [(576, bc [.d (.int .i64 p.w), .d (.int .i64 p.window), .d (.int .i64 p.fuel), .d (.int .i64 p.r0), .d (.int .i64 p.r1), .d (.int .i64 p.r2), .d (.int .i64 p.r3), .d (.sl (rowsOn p.mems)), .d (.sl (rowsOn p.labels)), .d (.sl (rowsOn p.ins))]), (704, bc [.d (.int .i64 a0), .d (.int .i64 b0), .d (.int .i64 c0), .d (.int .i64 d0), .own 900101 1 m0, .own 900102 1 k0, .d (.int .i64 e0), .d (.int .i64 a1), .d (.int .i64 b1), .d (.int .i64 c1), .d (.int .i64 d1), .own 900103 1 m1, .own 900104 1 k1, .d (.int .i64 e1), .d (.int .i64 a2), .d (.int .i64 b2), .d (.int .i64 c2), .d (.int .i64 d2), .own 900105 1 m2, .own 900106 1 k2, .d (.int .i64 e2)]), (768, bc [.own 900107 1 n0, .own 900108 1 n1, .own 900109 1 n2]), (900101, ba 1 M0), (900102, ba 1 K0), (900103, ba 1 M1), (900104, ba 1 K1), (900105, ba 1 M2), (900106, ba 1 K2), (900107, ba 1 R0), (900108, ba 1 R1), (900109, ba 1 R2), (900112, ba 3 q)]⟩
def F_s8 (nq : Nat) (p : Prg) (q : List (List D)) (a0 b0 c0 d0 e0 : Int) (m0 k0 : Nat) (a1 b1 c1 d1 e1 : Int) (m1 k1 : Nat) (a2 b2 c2 d2 e2 : Int) (m2 k2 : Nat) (n0 n1 n2 : Nat) (M0 K0 M1 K1 M2 K2 R0 R1 R2 : List (List D)) (i j : Int) (same : Bool) (nn n : Int) : St := ⟨mkS 240 [(9, vp 576), (10, vo 900112 nq), (11, vp 704), (12, vp 768), (21, vi i), (22, vi j), (23, .c (.d (.bool same))), (201, vi nn), (202, vi n)], [(576, bc [.d (.int .i64 p.w), .d (.int .i64 p.window), .d (.int .i64 p.fuel), .d (.int .i64 p.r0), .d (.int .i64 p.r1), .d (.int .i64 p.r2), .d (.int .i64 p.r3), .d (.sl (rowsOn p.mems)), .d (.sl (rowsOn p.labels)), .d (.sl (rowsOn p.ins))]), (704, bc [.d (.int .i64 a0), .d (.int .i64 b0), .d (.int .i64 c0), .d (.int .i64 d0), .own 900101 1 m0, .own 900102 1 k0, .d (.int .i64 e0), .d (.int .i64 a1), .d (.int .i64 b1), .d (.int .i64 c1), .d (.int .i64 d1), .own 900103 1 m1, .own 900104 1 k1, .d (.int .i64 e1), .d (.int .i64 a2), .d (.int .i64 b2), .d (.int .i64 c2), .d (.int .i64 d2), .own 900105 1 m2, .own 900106 1 k2, .d (.int .i64 e2)]), (768, bc [.own 900107 1 n0, .own 900108 1 n1, .own 900109 1 n2]), (900101, ba 1 M0), (900102, ba 1 K0), (900103, ba 1 M1), (900104, ba 1 K1), (900105, ba 1 M2), (900106, ba 1 K2), (900107, ba 1 R0), (900108, ba 1 R1), (900109, ba 1 R2), (900112, ba 3 q)]⟩
set_option maxRecDepth 100000 in
theorem t_st0_3 (l k : List Int) (how : Int) (nq : Nat) (p : Prg) (q : List (List D)) (a0 b0 c0 d0 e0 : Int) (m0 k0 : Nat) (a1 b1 c1 d1 e1 : Int) (m1 k1 : Nat) (a2 b2 c2 d2 e2 : Int) (m2 k2 : Nat) (n0 n1 n2 : Nat) (M0 K0 M1 K1 M2 K2 R0 R1 R2 : List (List D)) : a_lStarts.round s_lStarts 400 0 (F_s0 l k how 3 nq p q a0 b0 c0 d0 e0 m0 k0 a1 b1 c1 d1 e1 m1 k1 a2 b2 c2 d2 e2 m2 k2 n0 n1 n2 M0 K0 M1 K1 M2 K2 R0 R1 R2) =
(FnA.at_ a_lStarts 6 (F_s6 nq p q a0 b0 c0 d0 e0 m0 k0 a1 b1 c1 d1 e1 m1 k1 a2 b2 c2 d2 e2 m2 k2 n0 n1 n2 M0 K0 M1 K1 M2 K2 R0 R1 R2 (0 : Int))) := by kernel_rfl
set_option maxRecDepth 100000 in
theorem t_s6 (nq : Nat) (p : Prg) (q : List (List D)) (a0 b0 c0 d0 e0 : Int) (m0 k0 : Nat) (a1 b1 c1 d1 e1 : Int) (m1 k1 : Nat) (a2 b2 c2 d2 e2 : Int) (m2 k2 : Nat) (n0 n1 n2 : Nat) (M0 K0 M1 K1 M2 K2 R0 R1 R2 : List (List D)) (i : Int) : a_lStarts.round s_lStarts 400 6 (F_s6 nq p q a0 b0 c0 d0 e0 m0 k0 a1 b1 c1 d1 e1 m1 k1 a2 b2 c2 d2 e2 m2 k2 n0 n1 n2 M0 K0 M1 K1 M2 K2 R0 R1 R2 i) =
(VC.br (decide (i < (3 : Int)))
 (FnA.at_ a_lStarts 7 (F_s7 nq p q a0 b0 c0 d0 e0 m0 k0 a1 b1 c1 d1 e1 m1 k1 a2 b2 c2 d2 e2 m2 k2 n0 n1 n2 M0 K0 M1 K1 M2 K2 R0 R1 R2 i (0 : Int)))
 (VC.need (PreOk c_awake7 PUnit.unit [])
 (VC.ret (some (RR.c (Rc.d (D.bool true))))))) := by kernel_rfl
set_option maxRecDepth 100000 in
theorem t_s7 (nq : Nat) (p : Prg) (q : List (List D)) (a0 b0 c0 d0 e0 : Int) (m0 k0 : Nat) (a1 b1 c1 d1 e1 : Int) (m1 k1 : Nat) (a2 b2 c2 d2 e2 : Int) (m2 k2 : Nat) (n0 n1 n2 : Nat) (M0 K0 M1 K1 M2 K2 R0 R1 R2 : List (List D)) (i j : Int) : a_lStarts.round s_lStarts 400 7 (F_s7 nq p q a0 b0 c0 d0 e0 m0 k0 a1 b1 c1 d1 e1 m1 k1 a2 b2 c2 d2 e2 m2 k2 n0 n1 n2 M0 K0 M1 K1 M2 K2 R0 R1 R2 i j) =
(VC.br (decide (j < (3 : Int)))
 (FnA.at_ a_lStarts 8 (F_s8 nq p q a0 b0 c0 d0 e0 m0 k0 a1 b1 c1 d1 e1 m1 k1 a2 b2 c2 d2 e2 m2 k2 n0 n1 n2 M0 K0 M1 K1 M2 K2 R0 R1 R2 i j true (↑nq : Int) (0 : Int)))
 (FnA.at_ a_lStarts 6 (F_s6 nq p q a0 b0 c0 d0 e0 m0 k0 a1 b1 c1 d1 e1 m1 k1 a2 b2 c2 d2 e2 m2 k2 n0 n1 n2 M0 K0 M1 K1 M2 K2 R0 R1 R2 (IntKind.wrap IntKind.i64 (i + (1 : Int)))))) := by kernel_rfl
set_option maxRecDepth 100000 in
theorem t_s8 (nq : Nat) (p : Prg) (q : List (List D)) (a0 b0 c0 d0 e0 : Int) (m0 k0 : Nat) (a1 b1 c1 d1 e1 : Int) (m1 k1 : Nat) (a2 b2 c2 d2 e2 : Int) (m2 k2 : Nat) (n0 n1 n2 : Nat) (M0 K0 M1 K1 M2 K2 R0 R1 R2 : List (List D)) (i j : Int) (same : Bool) (nn n : Int) : a_lStarts.round s_lStarts 400 8 (F_s8 nq p q a0 b0 c0 d0 e0 m0 k0 a1 b1 c1 d1 e1 m1 k1 a2 b2 c2 d2 e2 m2 k2 n0 n1 n2 M0 K0 M1 K1 M2 K2 R0 R1 R2 i j same nn n) =
(VC.br (decide (n < nn))
 (VC.br (same)
  (VC.need ((0 : Int) ≤ n ∧ n < (↑nq : Int))
  (VC.need (Int.toNat n < List.length q ∧ List.length (rowAt q (Int.toNat n)) = (3 : Nat) ∧ okSh [Kd.bool] (List.drop (2 : Nat) (rowAt q (Int.toNat n))))
  (VC.br (asBool (List.getD (List.drop (2 : Nat) (rowAt q (Int.toNat n))) (0 : Nat) D.nilp))
   (FnA.at_ a_lStarts 8 (F_s8 nq p q a0 b0 c0 d0 e0 m0 k0 a1 b1 c1 d1 e1 m1 k1 a2 b2 c2 d2 e2 m2 k2 n0 n1 n2 M0 K0 M1 K1 M2 K2 R0 R1 R2 i j true nn (IntKind.wrap IntKind.i64 (n + (1 : Int)))))
   (VC.br (decide (i = (0 : Int)))
    (VC.need ((0 : Int) ≤ n ∧ n < (↑n0 : Int))
    (VC.need (Int.toNat n < List.length R0 ∧ List.length (rowAt R0 (Int.toNat n)) = (1 : Nat) ∧ okSh [Kd.int IntKind.i64] (List.drop (0 : Nat) (rowAt R0 (Int.toNat n))))
    (VC.br (decide (j = (0 : Int)))
     (VC.need ((0 : Int) ≤ n ∧ n < (↑n0 : Int))
     (VC.need (Int.toNat n < List.length R0 ∧ List.length (rowAt R0 (Int.toNat n)) = (1 : Nat) ∧ okSh [Kd.int IntKind.i64] (List.drop (0 : Nat) (rowAt R0 (Int.toNat n))))
     (FnA.at_ a_lStarts 8 (F_s8 nq p q a0 b0 c0 d0 e0 m0 k0 a1 b1 c1 d1 e1 m1 k1 a2 b2 c2 d2 e2 m2 k2 n0 n1 n2 M0 K0 M1 K1 M2 K2 R0 R1 R2 i j (asInt (List.getD (List.drop (0 : Nat) (rowAt R0 (Int.toNat n))) (0 : Nat) D.nilp) == asInt (List.getD (List.drop (0 : Nat) (rowAt R0 (Int.toNat n))) (0 : Nat) D.nilp)) nn (IntKind.wrap IntKind.i64 (n + (1 : Int)))))))
     (VC.br (decide (j = (1 : Int)))
      (VC.need ((0 : Int) ≤ n ∧ n < (↑n1 : Int))
      (VC.need (Int.toNat n < List.length R1 ∧ List.length (rowAt R1 (Int.toNat n)) = (1 : Nat) ∧ okSh [Kd.int IntKind.i64] (List.drop (0 : Nat) (rowAt R1 (Int.toNat n))))
      (FnA.at_ a_lStarts 8 (F_s8 nq p q a0 b0 c0 d0 e0 m0 k0 a1 b1 c1 d1 e1 m1 k1 a2 b2 c2 d2 e2 m2 k2 n0 n1 n2 M0 K0 M1 K1 M2 K2 R0 R1 R2 i j (asInt (List.getD (List.drop (0 : Nat) (rowAt R0 (Int.toNat n))) (0 : Nat) D.nilp) == asInt (List.getD (List.drop (0 : Nat) (rowAt R1 (Int.toNat n))) (0 : Nat) D.nilp)) nn (IntKind.wrap IntKind.i64 (n + (1 : Int)))))))
      (VC.br (decide (j = (2 : Int)))
       (VC.need ((0 : Int) ≤ n ∧ n < (↑n2 : Int))
       (VC.need (Int.toNat n < List.length R2 ∧ List.length (rowAt R2 (Int.toNat n)) = (1 : Nat) ∧ okSh [Kd.int IntKind.i64] (List.drop (0 : Nat) (rowAt R2 (Int.toNat n))))
       (FnA.at_ a_lStarts 8 (F_s8 nq p q a0 b0 c0 d0 e0 m0 k0 a1 b1 c1 d1 e1 m1 k1 a2 b2 c2 d2 e2 m2 k2 n0 n1 n2 M0 K0 M1 K1 M2 K2 R0 R1 R2 i j (asInt (List.getD (List.drop (0 : Nat) (rowAt R0 (Int.toNat n))) (0 : Nat) D.nilp) == asInt (List.getD (List.drop (0 : Nat) (rowAt R2 (Int.toNat n))) (0 : Nat) D.nilp)) nn (IntKind.wrap IntKind.i64 (n + (1 : Int)))))))
       VC.ff)))))
    (VC.br (decide (i = (1 : Int)))
     (VC.need ((0 : Int) ≤ n ∧ n < (↑n1 : Int))
     (VC.need (Int.toNat n < List.length R1 ∧ List.length (rowAt R1 (Int.toNat n)) = (1 : Nat) ∧ okSh [Kd.int IntKind.i64] (List.drop (0 : Nat) (rowAt R1 (Int.toNat n))))
     (VC.br (decide (j = (0 : Int)))
      (VC.need ((0 : Int) ≤ n ∧ n < (↑n0 : Int))
      (VC.need (Int.toNat n < List.length R0 ∧ List.length (rowAt R0 (Int.toNat n)) = (1 : Nat) ∧ okSh [Kd.int IntKind.i64] (List.drop (0 : Nat) (rowAt R0 (Int.toNat n))))
      (FnA.at_ a_lStarts 8 (F_s8 nq p q a0 b0 c0 d0 e0 m0 k0 a1 b1 c1 d1 e1 m1 k1 a2 b2 c2 d2 e2 m2 k2 n0 n1 n2 M0 K0 M1 K1 M2 K2 R0 R1 R2 i j (asInt (List.getD (List.drop (0 : Nat) (rowAt R1 (Int.toNat n))) (0 : Nat) D.nilp) == asInt (List.getD (List.drop (0 : Nat) (rowAt R0 (Int.toNat n))) (0 : Nat) D.nilp)) nn (IntKind.wrap IntKind.i64 (n + (1 : Int)))))))
      (VC.br (decide (j = (1 : Int)))
       (VC.need ((0 : Int) ≤ n ∧ n < (↑n1 : Int))
       (VC.need (Int.toNat n < List.length R1 ∧ List.length (rowAt R1 (Int.toNat n)) = (1 : Nat) ∧ okSh [Kd.int IntKind.i64] (List.drop (0 : Nat) (rowAt R1 (Int.toNat n))))
       (FnA.at_ a_lStarts 8 (F_s8 nq p q a0 b0 c0 d0 e0 m0 k0 a1 b1 c1 d1 e1 m1 k1 a2 b2 c2 d2 e2 m2 k2 n0 n1 n2 M0 K0 M1 K1 M2 K2 R0 R1 R2 i j (asInt (List.getD (List.drop (0 : Nat) (rowAt R1 (Int.toNat n))) (0 : Nat) D.nilp) == asInt (List.getD (List.drop (0 : Nat) (rowAt R1 (Int.toNat n))) (0 : Nat) D.nilp)) nn (IntKind.wrap IntKind.i64 (n + (1 : Int)))))))
       (VC.br (decide (j = (2 : Int)))
        (VC.need ((0 : Int) ≤ n ∧ n < (↑n2 : Int))
        (VC.need (Int.toNat n < List.length R2 ∧ List.length (rowAt R2 (Int.toNat n)) = (1 : Nat) ∧ okSh [Kd.int IntKind.i64] (List.drop (0 : Nat) (rowAt R2 (Int.toNat n))))
        (FnA.at_ a_lStarts 8 (F_s8 nq p q a0 b0 c0 d0 e0 m0 k0 a1 b1 c1 d1 e1 m1 k1 a2 b2 c2 d2 e2 m2 k2 n0 n1 n2 M0 K0 M1 K1 M2 K2 R0 R1 R2 i j (asInt (List.getD (List.drop (0 : Nat) (rowAt R1 (Int.toNat n))) (0 : Nat) D.nilp) == asInt (List.getD (List.drop (0 : Nat) (rowAt R2 (Int.toNat n))) (0 : Nat) D.nilp)) nn (IntKind.wrap IntKind.i64 (n + (1 : Int)))))))
        VC.ff)))))
     (VC.br (decide (i = (2 : Int)))
      (VC.need ((0 : Int) ≤ n ∧ n < (↑n2 : Int))
      (VC.need (Int.toNat n < List.length R2 ∧ List.length (rowAt R2 (Int.toNat n)) = (1 : Nat) ∧ okSh [Kd.int IntKind.i64] (List.drop (0 : Nat) (rowAt R2 (Int.toNat n))))
      (VC.br (decide (j = (0 : Int)))
       (VC.need ((0 : Int) ≤ n ∧ n < (↑n0 : Int))
       (VC.need (Int.toNat n < List.length R0 ∧ List.length (rowAt R0 (Int.toNat n)) = (1 : Nat) ∧ okSh [Kd.int IntKind.i64] (List.drop (0 : Nat) (rowAt R0 (Int.toNat n))))
       (FnA.at_ a_lStarts 8 (F_s8 nq p q a0 b0 c0 d0 e0 m0 k0 a1 b1 c1 d1 e1 m1 k1 a2 b2 c2 d2 e2 m2 k2 n0 n1 n2 M0 K0 M1 K1 M2 K2 R0 R1 R2 i j (asInt (List.getD (List.drop (0 : Nat) (rowAt R2 (Int.toNat n))) (0 : Nat) D.nilp) == asInt (List.getD (List.drop (0 : Nat) (rowAt R0 (Int.toNat n))) (0 : Nat) D.nilp)) nn (IntKind.wrap IntKind.i64 (n + (1 : Int)))))))
       (VC.br (decide (j = (1 : Int)))
        (VC.need ((0 : Int) ≤ n ∧ n < (↑n1 : Int))
        (VC.need (Int.toNat n < List.length R1 ∧ List.length (rowAt R1 (Int.toNat n)) = (1 : Nat) ∧ okSh [Kd.int IntKind.i64] (List.drop (0 : Nat) (rowAt R1 (Int.toNat n))))
        (FnA.at_ a_lStarts 8 (F_s8 nq p q a0 b0 c0 d0 e0 m0 k0 a1 b1 c1 d1 e1 m1 k1 a2 b2 c2 d2 e2 m2 k2 n0 n1 n2 M0 K0 M1 K1 M2 K2 R0 R1 R2 i j (asInt (List.getD (List.drop (0 : Nat) (rowAt R2 (Int.toNat n))) (0 : Nat) D.nilp) == asInt (List.getD (List.drop (0 : Nat) (rowAt R1 (Int.toNat n))) (0 : Nat) D.nilp)) nn (IntKind.wrap IntKind.i64 (n + (1 : Int)))))))
        (VC.br (decide (j = (2 : Int)))
         (VC.need ((0 : Int) ≤ n ∧ n < (↑n2 : Int))
         (VC.need (Int.toNat n < List.length R2 ∧ List.length (rowAt R2 (Int.toNat n)) = (1 : Nat) ∧ okSh [Kd.int IntKind.i64] (List.drop (0 : Nat) (rowAt R2 (Int.toNat n))))
         (FnA.at_ a_lStarts 8 (F_s8 nq p q a0 b0 c0 d0 e0 m0 k0 a1 b1 c1 d1 e1 m1 k1 a2 b2 c2 d2 e2 m2 k2 n0 n1 n2 M0 K0 M1 K1 M2 K2 R0 R1 R2 i j (asInt (List.getD (List.drop (0 : Nat) (rowAt R2 (Int.toNat n))) (0 : Nat) D.nilp) == asInt (List.getD (List.drop (0 : Nat) (rowAt R2 (Int.toNat n))) (0 : Nat) D.nilp)) nn (IntKind.wrap IntKind.i64 (n + (1 : Int)))))))
         VC.ff)))))
      VC.ff))))))
  (FnA.at_ a_lStarts 8 (F_s8 nq p q a0 b0 c0 d0 e0 m0 k0 a1 b1 c1 d1 e1 m1 k1 a2 b2 c2 d2 e2 m2 k2 n0 n1 n2 M0 K0 M1 K1 M2 K2 R0 R1 R2 i j false nn (IntKind.wrap IntKind.i64 (n + (1 : Int))))))
 (VC.br (decide (i = (0 : Int)))
  (VC.br (decide (j = (0 : Int)))
   (VC.need (PreOk c_aLow (Prg.of (Prg.cells p), Sta.of [D.int IntKind.i64 a0, D.int IntKind.i64 b0, D.int IntKind.i64 c0, D.int IntKind.i64 d0, D.sl M0, D.sl K0, D.int IntKind.i64 e0], Sta.of [D.int IntKind.i64 a0, D.int IntKind.i64 b0, D.int IntKind.i64 c0, D.int IntKind.i64 d0, D.sl M0, D.sl K0, D.int IntKind.i64 e0]) [A.agg (Prg.cells p), A.agg [D.int IntKind.i64 a0, D.int IntKind.i64 b0, D.int IntKind.i64 c0, D.int IntKind.i64 d0, D.sl M0, D.sl K0, D.int IntKind.i64 e0], A.agg [D.int IntKind.i64 a0, D.int IntKind.i64 b0, D.int IntKind.i64 c0, D.int IntKind.i64 d0, D.sl M0, D.sl K0, D.int IntKind.i64 e0]])
   (VC.all (v_aLow (Prg.of (Prg.cells p), Sta.of [D.int IntKind.i64 a0, D.int IntKind.i64 b0, D.int IntKind.i64 c0, D.int IntKind.i64 d0, D.sl M0, D.sl K0, D.int IntKind.i64 e0], Sta.of [D.int IntKind.i64 a0, D.int IntKind.i64 b0, D.int IntKind.i64 c0, D.int IntKind.i64 d0, D.sl M0, D.sl K0, D.int IntKind.i64 e0])) fun (y41 : Bool) =>
   (VC.br (if true = true then !y41 == same else y41 == same)
    (VC.ret (some (RR.c (Rc.d (D.bool false)))))
    (FnA.at_ a_lStarts 7 (F_s7 nq p q a0 b0 c0 d0 e0 m0 k0 a1 b1 c1 d1 e1 m1 k1 a2 b2 c2 d2 e2 m2 k2 n0 n1 n2 M0 K0 M1 K1 M2 K2 R0 R1 R2 i (IntKind.wrap IntKind.i64 (j + (1 : Int))))))))
   (VC.br (decide (j = (1 : Int)))
    (VC.need (PreOk c_aLow (Prg.of (Prg.cells p), Sta.of [D.int IntKind.i64 a0, D.int IntKind.i64 b0, D.int IntKind.i64 c0, D.int IntKind.i64 d0, D.sl M0, D.sl K0, D.int IntKind.i64 e0], Sta.of [D.int IntKind.i64 a1, D.int IntKind.i64 b1, D.int IntKind.i64 c1, D.int IntKind.i64 d1, D.sl M1, D.sl K1, D.int IntKind.i64 e1]) [A.agg (Prg.cells p), A.agg [D.int IntKind.i64 a0, D.int IntKind.i64 b0, D.int IntKind.i64 c0, D.int IntKind.i64 d0, D.sl M0, D.sl K0, D.int IntKind.i64 e0], A.agg [D.int IntKind.i64 a1, D.int IntKind.i64 b1, D.int IntKind.i64 c1, D.int IntKind.i64 d1, D.sl M1, D.sl K1, D.int IntKind.i64 e1]])
    (VC.all (v_aLow (Prg.of (Prg.cells p), Sta.of [D.int IntKind.i64 a0, D.int IntKind.i64 b0, D.int IntKind.i64 c0, D.int IntKind.i64 d0, D.sl M0, D.sl K0, D.int IntKind.i64 e0], Sta.of [D.int IntKind.i64 a1, D.int IntKind.i64 b1, D.int IntKind.i64 c1, D.int IntKind.i64 d1, D.sl M1, D.sl K1, D.int IntKind.i64 e1])) fun (y41 : Bool) =>
    (VC.br (if true = true then !y41 == same else y41 == same)
     (VC.ret (some (RR.c (Rc.d (D.bool false)))))
     (FnA.at_ a_lStarts 7 (F_s7 nq p q a0 b0 c0 d0 e0 m0 k0 a1 b1 c1 d1 e1 m1 k1 a2 b2 c2 d2 e2 m2 k2 n0 n1 n2 M0 K0 M1 K1 M2 K2 R0 R1 R2 i (IntKind.wrap IntKind.i64 (j + (1 : Int))))))))
    (VC.br (decide (j = (2 : Int)))
     (VC.need (PreOk c_aLow (Prg.of (Prg.cells p), Sta.of [D.int IntKind.i64 a0, D.int IntKind.i64 b0, D.int IntKind.i64 c0, D.int IntKind.i64 d0, D.sl M0, D.sl K0, D.int IntKind.i64 e0], Sta.of [D.int IntKind.i64 a2, D.int IntKind.i64 b2, D.int IntKind.i64 c2, D.int IntKind.i64 d2, D.sl M2, D.sl K2, D.int IntKind.i64 e2]) [A.agg (Prg.cells p), A.agg [D.int IntKind.i64 a0, D.int IntKind.i64 b0, D.int IntKind.i64 c0, D.int IntKind.i64 d0, D.sl M0, D.sl K0, D.int IntKind.i64 e0], A.agg [D.int IntKind.i64 a2, D.int IntKind.i64 b2, D.int IntKind.i64 c2, D.int IntKind.i64 d2, D.sl M2, D.sl K2, D.int IntKind.i64 e2]])
     (VC.all (v_aLow (Prg.of (Prg.cells p), Sta.of [D.int IntKind.i64 a0, D.int IntKind.i64 b0, D.int IntKind.i64 c0, D.int IntKind.i64 d0, D.sl M0, D.sl K0, D.int IntKind.i64 e0], Sta.of [D.int IntKind.i64 a2, D.int IntKind.i64 b2, D.int IntKind.i64 c2, D.int IntKind.i64 d2, D.sl M2, D.sl K2, D.int IntKind.i64 e2])) fun (y41 : Bool) =>
     (VC.br (if true = true then !y41 == same else y41 == same)
      (VC.ret (some (RR.c (Rc.d (D.bool false)))))
      (FnA.at_ a_lStarts 7 (F_s7 nq p q a0 b0 c0 d0 e0 m0 k0 a1 b1 c1 d1 e1 m1 k1 a2 b2 c2 d2 e2 m2 k2 n0 n1 n2 M0 K0 M1 K1 M2 K2 R0 R1 R2 i (IntKind.wrap IntKind.i64 (j + (1 : Int))))))))
     VC.ff)))
  (VC.br (decide (i = (1 : Int)))
   (VC.br (decide (j = (0 : Int)))
    (VC.need (PreOk c_aLow (Prg.of (Prg.cells p), Sta.of [D.int IntKind.i64 a1, D.int IntKind.i64 b1, D.int IntKind.i64 c1, D.int IntKind.i64 d1, D.sl M1, D.sl K1, D.int IntKind.i64 e1], Sta.of [D.int IntKind.i64 a0, D.int IntKind.i64 b0, D.int IntKind.i64 c0, D.int IntKind.i64 d0, D.sl M0, D.sl K0, D.int IntKind.i64 e0]) [A.agg (Prg.cells p), A.agg [D.int IntKind.i64 a1, D.int IntKind.i64 b1, D.int IntKind.i64 c1, D.int IntKind.i64 d1, D.sl M1, D.sl K1, D.int IntKind.i64 e1], A.agg [D.int IntKind.i64 a0, D.int IntKind.i64 b0, D.int IntKind.i64 c0, D.int IntKind.i64 d0, D.sl M0, D.sl K0, D.int IntKind.i64 e0]])
    (VC.all (v_aLow (Prg.of (Prg.cells p), Sta.of [D.int IntKind.i64 a1, D.int IntKind.i64 b1, D.int IntKind.i64 c1, D.int IntKind.i64 d1, D.sl M1, D.sl K1, D.int IntKind.i64 e1], Sta.of [D.int IntKind.i64 a0, D.int IntKind.i64 b0, D.int IntKind.i64 c0, D.int IntKind.i64 d0, D.sl M0, D.sl K0, D.int IntKind.i64 e0])) fun (y41 : Bool) =>
    (VC.br (if true = true then !y41 == same else y41 == same)
     (VC.ret (some (RR.c (Rc.d (D.bool false)))))
     (FnA.at_ a_lStarts 7 (F_s7 nq p q a0 b0 c0 d0 e0 m0 k0 a1 b1 c1 d1 e1 m1 k1 a2 b2 c2 d2 e2 m2 k2 n0 n1 n2 M0 K0 M1 K1 M2 K2 R0 R1 R2 i (IntKind.wrap IntKind.i64 (j + (1 : Int))))))))
    (VC.br (decide (j = (1 : Int)))
     (VC.need (PreOk c_aLow (Prg.of (Prg.cells p), Sta.of [D.int IntKind.i64 a1, D.int IntKind.i64 b1, D.int IntKind.i64 c1, D.int IntKind.i64 d1, D.sl M1, D.sl K1, D.int IntKind.i64 e1], Sta.of [D.int IntKind.i64 a1, D.int IntKind.i64 b1, D.int IntKind.i64 c1, D.int IntKind.i64 d1, D.sl M1, D.sl K1, D.int IntKind.i64 e1]) [A.agg (Prg.cells p), A.agg [D.int IntKind.i64 a1, D.int IntKind.i64 b1, D.int IntKind.i64 c1, D.int IntKind.i64 d1, D.sl M1, D.sl K1, D.int IntKind.i64 e1], A.agg [D.int IntKind.i64 a1, D.int IntKind.i64 b1, D.int IntKind.i64 c1, D.int IntKind.i64 d1, D.sl M1, D.sl K1, D.int IntKind.i64 e1]])
     (VC.all (v_aLow (Prg.of (Prg.cells p), Sta.of [D.int IntKind.i64 a1, D.int IntKind.i64 b1, D.int IntKind.i64 c1, D.int IntKind.i64 d1, D.sl M1, D.sl K1, D.int IntKind.i64 e1], Sta.of [D.int IntKind.i64 a1, D.int IntKind.i64 b1, D.int IntKind.i64 c1, D.int IntKind.i64 d1, D.sl M1, D.sl K1, D.int IntKind.i64 e1])) fun (y41 : Bool) =>
     (VC.br (if true = true then !y41 == same else y41 == same)
      (VC.ret (some (RR.c (Rc.d (D.bool false)))))
      (FnA.at_ a_lStarts 7 (F_s7 nq p q a0 b0 c0 d0 e0 m0 k0 a1 b1 c1 d1 e1 m1 k1 a2 b2 c2 d2 e2 m2 k2 n0 n1 n2 M0 K0 M1 K1 M2 K2 R0 R1 R2 i (IntKind.wrap IntKind.i64 (j + (1 : Int))))))))
     (VC.br (decide (j = (2 : Int)))
      (VC.need (PreOk c_aLow (Prg.of (Prg.cells p), Sta.of [D.int IntKind.i64 a1, D.int IntKind.i64 b1, D.int IntKind.i64 c1, D.int IntKind.i64 d1, D.sl M1, D.sl K1, D.int IntKind.i64 e1], Sta.of [D.int IntKind.i64 a2, D.int IntKind.i64 b2, D.int IntKind.i64 c2, D.int IntKind.i64 d2, D.sl M2, D.sl K2, D.int IntKind.i64 e2]) [A.agg (Prg.cells p), A.agg [D.int IntKind.i64 a1, D.int IntKind.i64 b1, D.int IntKind.i64 c1, D.int IntKind.i64 d1, D.sl M1, D.sl K1, D.int IntKind.i64 e1], A.agg [D.int IntKind.i64 a2, D.int IntKind.i64 b2, D.int IntKind.i64 c2, D.int IntKind.i64 d2, D.sl M2, D.sl K2, D.int IntKind.i64 e2]])
      (VC.all (v_aLow (Prg.of (Prg.cells p), Sta.of [D.int IntKind.i64 a1, D.int IntKind.i64 b1, D.int IntKind.i64 c1, D.int IntKind.i64 d1, D.sl M1, D.sl K1, D.int IntKind.i64 e1], Sta.of [D.int IntKind.i64 a2, D.int IntKind.i64 b2, D.int IntKind.i64 c2, D.int IntKind.i64 d2, D.sl M2, D.sl K2, D.int IntKind.i64 e2])) fun (y41 : Bool) =>
      (VC.br (if true = true then !y41 == same else y41 == same)
       (VC.ret (some (RR.c (Rc.d (D.bool false)))))
       (FnA.at_ a_lStarts 7 (F_s7 nq p q a0 b0 c0 d0 e0 m0 k0 a1 b1 c1 d1 e1 m1 k1 a2 b2 c2 d2 e2 m2 k2 n0 n1 n2 M0 K0 M1 K1 M2 K2 R0 R1 R2 i (IntKind.wrap IntKind.i64 (j + (1 : Int))))))))
      VC.ff)))
   (VC.br (decide (i = (2 : Int)))
    (VC.br (decide (j = (0 : Int)))
     (VC.need (PreOk c_aLow (Prg.of (Prg.cells p), Sta.of [D.int IntKind.i64 a2, D.int IntKind.i64 b2, D.int IntKind.i64 c2, D.int IntKind.i64 d2, D.sl M2, D.sl K2, D.int IntKind.i64 e2], Sta.of [D.int IntKind.i64 a0, D.int IntKind.i64 b0, D.int IntKind.i64 c0, D.int IntKind.i64 d0, D.sl M0, D.sl K0, D.int IntKind.i64 e0]) [A.agg (Prg.cells p), A.agg [D.int IntKind.i64 a2, D.int IntKind.i64 b2, D.int IntKind.i64 c2, D.int IntKind.i64 d2, D.sl M2, D.sl K2, D.int IntKind.i64 e2], A.agg [D.int IntKind.i64 a0, D.int IntKind.i64 b0, D.int IntKind.i64 c0, D.int IntKind.i64 d0, D.sl M0, D.sl K0, D.int IntKind.i64 e0]])
     (VC.all (v_aLow (Prg.of (Prg.cells p), Sta.of [D.int IntKind.i64 a2, D.int IntKind.i64 b2, D.int IntKind.i64 c2, D.int IntKind.i64 d2, D.sl M2, D.sl K2, D.int IntKind.i64 e2], Sta.of [D.int IntKind.i64 a0, D.int IntKind.i64 b0, D.int IntKind.i64 c0, D.int IntKind.i64 d0, D.sl M0, D.sl K0, D.int IntKind.i64 e0])) fun (y41 : Bool) =>
     (VC.br (if true = true then !y41 == same else y41 == same)
      (VC.ret (some (RR.c (Rc.d (D.bool false)))))
      (FnA.at_ a_lStarts 7 (F_s7 nq p q a0 b0 c0 d0 e0 m0 k0 a1 b1 c1 d1 e1 m1 k1 a2 b2 c2 d2 e2 m2 k2 n0 n1 n2 M0 K0 M1 K1 M2 K2 R0 R1 R2 i (IntKind.wrap IntKind.i64 (j + (1 : Int))))))))
     (VC.br (decide (j = (1 : Int)))
      (VC.need (PreOk c_aLow (Prg.of (Prg.cells p), Sta.of [D.int IntKind.i64 a2, D.int IntKind.i64 b2, D.int IntKind.i64 c2, D.int IntKind.i64 d2, D.sl M2, D.sl K2, D.int IntKind.i64 e2], Sta.of [D.int IntKind.i64 a1, D.int IntKind.i64 b1, D.int IntKind.i64 c1, D.int IntKind.i64 d1, D.sl M1, D.sl K1, D.int IntKind.i64 e1]) [A.agg (Prg.cells p), A.agg [D.int IntKind.i64 a2, D.int IntKind.i64 b2, D.int IntKind.i64 c2, D.int IntKind.i64 d2, D.sl M2, D.sl K2, D.int IntKind.i64 e2], A.agg [D.int IntKind.i64 a1, D.int IntKind.i64 b1, D.int IntKind.i64 c1, D.int IntKind.i64 d1, D.sl M1, D.sl K1, D.int IntKind.i64 e1]])
      (VC.all (v_aLow (Prg.of (Prg.cells p), Sta.of [D.int IntKind.i64 a2, D.int IntKind.i64 b2, D.int IntKind.i64 c2, D.int IntKind.i64 d2, D.sl M2, D.sl K2, D.int IntKind.i64 e2], Sta.of [D.int IntKind.i64 a1, D.int IntKind.i64 b1, D.int IntKind.i64 c1, D.int IntKind.i64 d1, D.sl M1, D.sl K1, D.int IntKind.i64 e1])) fun (y41 : Bool) =>
      (VC.br (if true = true then !y41 == same else y41 == same)
       (VC.ret (some (RR.c (Rc.d (D.bool false)))))
       (FnA.at_ a_lStarts 7 (F_s7 nq p q a0 b0 c0 d0 e0 m0 k0 a1 b1 c1 d1 e1 m1 k1 a2 b2 c2 d2 e2 m2 k2 n0 n1 n2 M0 K0 M1 K1 M2 K2 R0 R1 R2 i (IntKind.wrap IntKind.i64 (j + (1 : Int))))))))
      (VC.br (decide (j = (2 : Int)))
       (VC.need (PreOk c_aLow (Prg.of (Prg.cells p), Sta.of [D.int IntKind.i64 a2, D.int IntKind.i64 b2, D.int IntKind.i64 c2, D.int IntKind.i64 d2, D.sl M2, D.sl K2, D.int IntKind.i64 e2], Sta.of [D.int IntKind.i64 a2, D.int IntKind.i64 b2, D.int IntKind.i64 c2, D.int IntKind.i64 d2, D.sl M2, D.sl K2, D.int IntKind.i64 e2]) [A.agg (Prg.cells p), A.agg [D.int IntKind.i64 a2, D.int IntKind.i64 b2, D.int IntKind.i64 c2, D.int IntKind.i64 d2, D.sl M2, D.sl K2, D.int IntKind.i64 e2], A.agg [D.int IntKind.i64 a2, D.int IntKind.i64 b2, D.int IntKind.i64 c2, D.int IntKind.i64 d2, D.sl M2, D.sl K2, D.int IntKind.i64 e2]])
       (VC.all (v_aLow (Prg.of (Prg.cells p), Sta.of [D.int IntKind.i64 a2, D.int IntKind.i64 b2, D.int IntKind.i64 c2, D.int IntKind.i64 d2, D.sl M2, D.sl K2, D.int IntKind.i64 e2], Sta.of [D.int IntKind.i64 a2, D.int IntKind.i64 b2, D.int IntKind.i64 c2, D.int IntKind.i64 d2, D.sl M2, D.sl K2, D.int IntKind.i64 e2])) fun (y41 : Bool) =>
       (VC.br (if true = true then !y41 == same else y41 == same)
        (VC.ret (some (RR.c (Rc.d (D.bool false)))))
        (FnA.at_ a_lStarts 7 (F_s7 nq p q a0 b0 c0 d0 e0 m0 k0 a1 b1 c1 d1 e1 m1 k1 a2 b2 c2 d2 e2 m2 k2 n0 n1 n2 M0 K0 M1 K1 M2 K2 R0 R1 R2 i (IntKind.wrap IntKind.i64 (j + (1 : Int))))))))
       VC.ff)))
    VC.ff)))) := by kernel_rfl
end Go.Proofs.Ytclabjihjopclaa.Ax
end

section
/- The statement ArchStarts. -/
namespace Go.Proofs.Ytclabjihjopclaa.Ax
open Go.RowKit
set_option linter.unusedVariables false
set_option linter.unusedSimpArgs false
section
variable {cx : Cx} {rs : List RVar} {R : RR → Prop} {x y : VC}
theorem br_t {b : Bool} (h : b = true) (hx : x.holds cx rs R) : (VC.br b x y).holds cx rs R := by subst h; exact hx
theorem br_f {b : Bool} (h : b = false) (hy : y.holds cx rs R) : (VC.br b x y).holds cx rs R := by subst h; exact hy
end
theorem rd_getI (x : List Int) (k : Nat) (h : k < x.length) : rd x (k : Int) = x[k] := by
  unfold rd
  rw [Int.toNat_natCast, List.getD_eq_getElem?_getD, List.getElem?_eq_getElem h]
  rfl
structure StJ (p : Prg) (s : Sta) (x : List Int) : Prop where
  len : x.length = (placesS p).length
  hold : ∀ (i : Nat) (h : i < (placesS p).length), holdP s (placesS p)[i] = rd x (i : Int)
  mem : s.mem.length = cellsS p.mems
  stack : s.stack = []
  pc : s.pc = 0
  regs : ∀ r, 0 ≤ r ∧ r < 4 → p.reg r = 0 → s.reg r = 0
def sel {α : Type} (i : Int) (a b c : α) : α := if i = 0 then a else if i = 1 then b else c
def sameN (q : List Place) (x y : List Int) : Nat → Bool
  | 0 => true
  | n + 1 => sameN q x y n && ((rd q (n : Int)).secret || rd x (n : Int) == rd y (n : Int))
theorem rd_getP (q : List Place) (k : Nat) (h : k < q.length) : rd q (k : Int) = q[k] := by
  unfold rd
  rw [Int.toNat_natCast, List.getD_eq_getElem?_getD, List.getElem?_eq_getElem h]
  rfl
theorem sameN_iff (q : List Place) (x y : List Int) : ∀ n : Nat, n ≤ q.length → (sameN q x y n = true ↔ ∀ (k : Nat) (h : k < q.length), k < n → q[k].secret = false → rd x (k : Int) = rd y (k : Int))
  | 0, _ => ⟨fun _ k _ h => by omega, fun _ => rfl⟩
  | n + 1, hn => by
    have ih := sameN_iff q x y n (by omega)
    unfold sameN
    rw [Bool.and_eq_true, ih, Bool.or_eq_true, beq_iff_eq, rd_getP q n (by omega)]
    constructor
    · rintro ⟨h1, h2⟩ k hk hlt hs
      by_cases e : k = n
      · subst e
        rcases h2 with h2 | h2
        · rw [hs] at h2; cases h2
        · exact h2
      · exact h1 k hk (by omega) hs
    · intro h
      refine ⟨fun k hk hlt hs => h k hk (by omega) hs, ?_⟩
      cases hs : q[n].secret with
      | true => exact .inl rfl
      | false => exact .inr (h n (by omega) (by omega) hs)
theorem stj_low {p : Prg} (hm : Mems p.mems) {s t : Sta} {x y : List Int} (hs : StJ p s x) (ht : StJ p t y) : lowS p s t = sameN (placesS p) x y (placesS p).length := by
  have h1 := lowS_places hm hs.mem ht.mem fun r hr e => (hs.regs r hr e).trans (ht.regs r hr e).symm
  have h2 := sameN_iff (placesS p) x y _ (Nat.le_refl _)
  have : lowS p s t = true ↔ sameN (placesS p) x y (placesS p).length = true := by
    rw [h1, h2]
    constructor
    · rintro ⟨_, _, h⟩ k hk _ hsec
      rw [← hs.hold k hk, ← ht.hold k hk]
      exact h _ (List.getElem_mem hk) hsec
    · intro h
      refine ⟨by rw [hs.stack, ht.stack], by rw [hs.pc, ht.pc], fun q hq hsec => ?_⟩
      obtain ⟨k, hk, rfl⟩ := List.getElem_of_mem hq
      rw [hs.hold k hk, ht.hold k hk]
      exact h k hk hk hsec
  exact Bool.eq_iff_iff.2 this
theorem StJ.small {p : Prg} (hm : Mems p.mems) {s : Sta} {x : List Int} (h : StJ p s x) : SmallS s := by
  have := (places_len p hm).2
  exact ⟨by have := h.mem; omega, by rw [h.stack]; decide⟩
theorem Sta.of_mk (s : Sta) : Sta.of [.int .i64 s.r0, .int .i64 s.r1, .int .i64 s.r2, .int .i64 s.r3, .sl (rowsOn s.mem), .sl (rowsOn s.stack), .int .i64 s.pc] = s := Sta.of_cells s
theorem row_ok (x : List Int) (n : Int) (h0 : 0 ≤ n) (h : n < x.length) : n.toNat < x.length ∧ (rowAt (rowsOn x) n.toNat).length = 1 ∧ okSh [Kd.int .i64] (rowAt (rowsOn x) n.toNat) :=
  ⟨by omega, by rw [rowAt_on x n h0 h]; rfl, okSh_ok _ x n (fun _ => rfl) h0 h⟩
theorem placeN_ok (x : List Place) (n : Int) (h0 : 0 ≤ n) (h : n < x.length) : n.toNat < x.length ∧ (rowAt (rowsOn x) n.toNat).length = 3 ∧ okSh [Kd.int .i64] (List.drop 1 (rowAt (rowsOn x) n.toNat)) :=
  ⟨by omega, by rw [rowAt_on x n h0 h]; rfl, by rw [rowAt_on x n h0 h]; rfl⟩
theorem placeR_ok (x : List Place) (n : Int) (h0 : 0 ≤ n) (h : n < x.length) : n.toNat < x.length ∧ (rowAt (rowsOn x) n.toNat).length = 3 ∧ okSh [Kd.bool] (rowAt (rowsOn x) n.toNat) :=
  ⟨by omega, by rw [rowAt_on x n h0 h]; rfl, by rw [rowAt_on x n h0 h]; rfl⟩
theorem placeS_ok (x : List Place) (n : Int) (h0 : 0 ≤ n) (h : n < x.length) : n.toNat < x.length ∧ (rowAt (rowsOn x) n.toNat).length = 3 ∧ okSh [Kd.bool] (List.drop 2 (rowAt (rowsOn x) n.toNat)) :=
  ⟨by omega, by rw [rowAt_on x n h0 h]; rfl, by rw [rowAt_on x n h0 h]; rfl⟩
theorem l_s8 (p : Prg) (hm : Mems p.mems) (s0 s1 s2 : Sta) (x0 : List Int) (h0 : StJ p s0 x0) (x1 : List Int) (h1 : StJ p s1 x1) (x2 : List Int) (h2 : StJ p s2 x2) (i j : Int) (hi : i = 0 ∨ i = 1 ∨ i = 2) (hj : j = 0 ∨ j = 1 ∨ j = 2) (fin : (a_lStarts.at_ 7 (F_s7 (placesS p).length p (rowsOn (placesS p)) s0.r0 s0.r1 s0.r2 s0.r3 s0.pc s0.mem.length s0.stack.length s1.r0 s1.r1 s1.r2 s1.r3 s1.pc s1.mem.length s1.stack.length s2.r0 s2.r1 s2.r2 s2.r3 s2.pc s2.mem.length s2.stack.length x0.length x1.length x2.length (rowsOn s0.mem) (rowsOn s0.stack) (rowsOn s1.mem) (rowsOn s1.stack) (rowsOn s2.mem) (rowsOn s2.stack) (rowsOn x0) (rowsOn x1) (rowsOn x2) i (j + 1))).holds s_lStarts.cx a_lStarts.rs fun r => r.le (rb true)) : ∀ i_ : Bool × Int, (fun (v : Bool × Int) => 0 ≤ v.2 ∧ v.2 ≤ (placesS p).length ∧ v.1 = sameN (placesS p) (sel i x0 x1 x2) (sel j x0 x1 x2) v.2.toNat) i_ → (a_lStarts.at_ 8 ((fun (v : Bool × Int) => F_s8 (placesS p).length p (rowsOn (placesS p)) s0.r0 s0.r1 s0.r2 s0.r3 s0.pc s0.mem.length s0.stack.length s1.r0 s1.r1 s1.r2 s1.r3 s1.pc s1.mem.length s1.stack.length s2.r0 s2.r1 s2.r2 s2.r3 s2.pc s2.mem.length s2.stack.length x0.length x1.length x2.length (rowsOn s0.mem) (rowsOn s0.stack) (rowsOn s1.mem) (rowsOn s1.stack) (rowsOn s2.mem) (rowsOn s2.stack) (rowsOn x0) (rowsOn x1) (rowsOn x2) i j v.1 (placesS p).length v.2) i_)).holds s_lStarts.cx a_lStarts.rs (fun r => r.le (rb true)) := by
  refine loop_rule (a := a_lStarts) (j := 8) (m := 400) s_lStarts_sound (fun (v : Bool × Int) => F_s8 (placesS p).length p (rowsOn (placesS p)) s0.r0 s0.r1 s0.r2 s0.r3 s0.pc s0.mem.length s0.stack.length s1.r0 s1.r1 s1.r2 s1.r3 s1.pc s1.mem.length s1.stack.length s2.r0 s2.r1 s2.r2 s2.r3 s2.pc s2.mem.length s2.stack.length x0.length x1.length x2.length (rowsOn s0.mem) (rowsOn s0.stack) (rowsOn s1.mem) (rowsOn s1.stack) (rowsOn s2.mem) (rowsOn s2.stack) (rowsOn x0) (rowsOn x1) (rowsOn x2) i j v.1 (placesS p).length v.2) (fun (v : Bool × Int) => 0 ≤ v.2 ∧ v.2 ≤ (placesS p).length ∧ v.1 = sameN (placesS p) (sel i x0 x1 x2) (sel j x0 x1 x2) v.2.toNat) (fun (v : Bool × Int) => (((placesS p).length : Int) - v.2).toNat) ?_
  rintro ⟨same, n⟩ h_inv ih
  try dsimp only at h_inv
  replace ih := fun (v0 : Bool) (v1 : Int) => ih (v0, v1)
  try dsimp only at ih
  show VC.holds _ _ _ (a_lStarts.round s_lStarts 400 8 (F_s8 (placesS p).length p (rowsOn (placesS p)) s0.r0 s0.r1 s0.r2 s0.r3 s0.pc s0.mem.length s0.stack.length s1.r0 s1.r1 s1.r2 s1.r3 s1.pc s1.mem.length s1.stack.length s2.r0 s2.r1 s2.r2 s2.r3 s2.pc s2.mem.length s2.stack.length x0.length x1.length x2.length (rowsOn s0.mem) (rowsOn s0.stack) (rowsOn s1.mem) (rowsOn s1.stack) (rowsOn s2.mem) (rowsOn s2.stack) (rowsOn x0) (rowsOn x1) (rowsOn x2) i j same (placesS p).length n))
  rw [t_s8]
  try simp only [asRows_sl, asInt_int, asBool_bool, asStr_str, listOf_rowsOn, List.drop_zero, Prg.eta, Sta.eta, rowsOn_length, getD_drop, Nat.reduceAdd, rd_int, rd_PMem_name, rd_PMem_secret, rd_PMem_n, rd_PLabel_name, rd_PLabel_at_, rd_Ins_kind, rd_Ins_op, rd_Ins_d, rd_Ins_aR, rd_Ins_aN, rd_Ins_bR, rd_Ins_bN, rd_Ins_name, rd_Ins_target, rd_Ent_pc, rd_Ent_val, rd_Ent_addr, rd_Ent_fro, rd_Ent_next, rd_Ent_done, rd_Ent_known, rd_Ent_fault, rd_Place_reg, rd_Place_n, rd_Place_secret, rd_Obs_kind, rd_Obs_at_, rd_Dir_kind, rd_Dir_n, Prg.of_cells, Sta.of_cells]
  obtain ⟨n0, n1, n2⟩ := h_inv
  have hl := places_len p hm
  have w1 : IntKind.wrap .i64 (n + 1) = n + 1 := wrap_small _ (by omega) (by omega)
  have w2 : IntKind.wrap .i64 (j + 1) = j + 1 := wrap_small _ (by omega) (by omega)
  simp only [w1, w2, Sta.of_mk]
  have en : (n + 1).toNat = n.toNat + 1 := by omega
  have ei : ((n.toNat : Nat) : Int) = n := by omega
  have hs : sameN (placesS p) (sel i x0 x1 x2) (sel j x0 x1 x2) (n.toNat + 1) = (same && ((rd (placesS p) n).secret || rd (sel i x0 x1 x2) n == rd (sel j x0 x1 x2) n)) := by
    rw [n2]
    show (sameN _ _ _ _ && ((rd (placesS p) ((n.toNat : Nat) : Int)).secret || rd _ ((n.toNat : Nat) : Int) == rd _ ((n.toNat : Nat) : Int))) = _
    rw [ei]
  have e0 := h0.len
  have e1 := h1.len
  have e2 := h2.len
  refine br_dec (fun hd => ?_) (fun hd => ?_)
  · have g0 : 0 ≤ n ∧ n < (x0.length : Int) := by omega
    have g1 : 0 ≤ n ∧ n < (x1.length : Int) := by omega
    have g2 : 0 ≤ n ∧ n < (x2.length : Int) := by omega
    have k0 := row_ok x0 n n0 g0.2
    have k1 := row_ok x1 n n0 g1.2
    have k2 := row_ok x2 n n0 g2.2
    refine br_holds (fun hsm => ?_) (fun hsm => ?_)
    · refine ⟨⟨n0, hd⟩, placeS_ok _ n n0 hd, br_holds (fun hsec => ?_) (fun hsec => ?_)⟩
      · exact ih _ _ ⟨by omega, by omega, by rw [en, hs, hsm, hsec]; rfl⟩ (by omega)
      · have fn : ∀ v : Bool, v = (rd (sel i x0 x1 x2) n == rd (sel j x0 x1 x2) n) → (a_lStarts.at_ 8 (F_s8 (placesS p).length p (rowsOn (placesS p)) s0.r0 s0.r1 s0.r2 s0.r3 s0.pc s0.mem.length s0.stack.length s1.r0 s1.r1 s1.r2 s1.r3 s1.pc s1.mem.length s1.stack.length s2.r0 s2.r1 s2.r2 s2.r3 s2.pc s2.mem.length s2.stack.length x0.length x1.length x2.length (rowsOn s0.mem) (rowsOn s0.stack) (rowsOn s1.mem) (rowsOn s1.stack) (rowsOn s2.mem) (rowsOn s2.stack) (rowsOn x0) (rowsOn x1) (rowsOn x2) i j v (placesS p).length (n + 1))).holds s_lStarts.cx a_lStarts.rs fun r => r.le (rb true) := fun v hv => ih _ _ ⟨by omega, by omega, by rw [en, hs, hsm, hsec, hv]; rfl⟩ (by omega)
        rcases hi with rfl | rfl | rfl <;> rcases hj with rfl | rfl | rfl
        all_goals repeat' first | exact fn _ rfl | refine br_dec (fun _ => ?_) (fun e => absurd rfl e) | refine br_dec (fun e => absurd e (by decide)) (fun _ => ?_) | refine ⟨g0, k0, ?_⟩ | refine ⟨g1, k1, ?_⟩ | refine ⟨g2, k2, ?_⟩
    · exact ih _ _ ⟨by omega, by omega, by rw [en, hs, hsm]; rfl⟩ (by omega)
  · have hn : n.toNat = (placesS p).length := by omega
    rw [hn] at n2
    have sm0 := h0.small hm
    have sm1 := h1.small hm
    have sm2 := h2.small hm
    have cmp : ∀ y : Bool, y = same → (if true = true then !(y == same) else y == same) = false := fun y e => by rw [e]; simp
    rcases hi with rfl | rfl | rfl <;> rcases hj with rfl | rfl | rfl
    all_goals repeat' first | refine br_dec (fun _ => ?_) (fun e => absurd rfl e) | refine br_dec (fun e => absurd e (by decide)) (fun _ => ?_)
    · exact ⟨PreOk.mk ⟨hm, sm0, sm0⟩ rfl, all_holds fun y hy => br_f (cmp y (by rw [n2]; exact (show y = lowS p s0 s0 from hy).trans (stj_low hm h0 h0))) fin⟩
    · exact ⟨PreOk.mk ⟨hm, sm0, sm1⟩ rfl, all_holds fun y hy => br_f (cmp y (by rw [n2]; exact (show y = lowS p s0 s1 from hy).trans (stj_low hm h0 h1))) fin⟩
    · exact ⟨PreOk.mk ⟨hm, sm0, sm2⟩ rfl, all_holds fun y hy => br_f (cmp y (by rw [n2]; exact (show y = lowS p s0 s2 from hy).trans (stj_low hm h0 h2))) fin⟩
    · exact ⟨PreOk.mk ⟨hm, sm1, sm0⟩ rfl, all_holds fun y hy => br_f (cmp y (by rw [n2]; exact (show y = lowS p s1 s0 from hy).trans (stj_low hm h1 h0))) fin⟩
    · exact ⟨PreOk.mk ⟨hm, sm1, sm1⟩ rfl, all_holds fun y hy => br_f (cmp y (by rw [n2]; exact (show y = lowS p s1 s1 from hy).trans (stj_low hm h1 h1))) fin⟩
    · exact ⟨PreOk.mk ⟨hm, sm1, sm2⟩ rfl, all_holds fun y hy => br_f (cmp y (by rw [n2]; exact (show y = lowS p s1 s2 from hy).trans (stj_low hm h1 h2))) fin⟩
    · exact ⟨PreOk.mk ⟨hm, sm2, sm0⟩ rfl, all_holds fun y hy => br_f (cmp y (by rw [n2]; exact (show y = lowS p s2 s0 from hy).trans (stj_low hm h2 h0))) fin⟩
    · exact ⟨PreOk.mk ⟨hm, sm2, sm1⟩ rfl, all_holds fun y hy => br_f (cmp y (by rw [n2]; exact (show y = lowS p s2 s1 from hy).trans (stj_low hm h2 h1))) fin⟩
    · exact ⟨PreOk.mk ⟨hm, sm2, sm2⟩ rfl, all_holds fun y hy => br_f (cmp y (by rw [n2]; exact (show y = lowS p s2 s2 from hy).trans (stj_low hm h2 h2))) fin⟩
theorem l_s7 (p : Prg) (hm : Mems p.mems) (s0 s1 s2 : Sta) (x0 : List Int) (h0 : StJ p s0 x0) (x1 : List Int) (h1 : StJ p s1 x1) (x2 : List Int) (h2 : StJ p s2 x2) (i : Int) (hi : i = 0 ∨ i = 1 ∨ i = 2) (fin : (a_lStarts.at_ 6 (F_s6 (placesS p).length p (rowsOn (placesS p)) s0.r0 s0.r1 s0.r2 s0.r3 s0.pc s0.mem.length s0.stack.length s1.r0 s1.r1 s1.r2 s1.r3 s1.pc s1.mem.length s1.stack.length s2.r0 s2.r1 s2.r2 s2.r3 s2.pc s2.mem.length s2.stack.length x0.length x1.length x2.length (rowsOn s0.mem) (rowsOn s0.stack) (rowsOn s1.mem) (rowsOn s1.stack) (rowsOn s2.mem) (rowsOn s2.stack) (rowsOn x0) (rowsOn x1) (rowsOn x2) (i + 1))).holds s_lStarts.cx a_lStarts.rs fun r => r.le (rb true)) : ∀ i_ : Int, (fun (j : Int) => 0 ≤ j ∧ j ≤ 3) i_ → (a_lStarts.at_ 7 ((fun (j : Int) => F_s7 (placesS p).length p (rowsOn (placesS p)) s0.r0 s0.r1 s0.r2 s0.r3 s0.pc s0.mem.length s0.stack.length s1.r0 s1.r1 s1.r2 s1.r3 s1.pc s1.mem.length s1.stack.length s2.r0 s2.r1 s2.r2 s2.r3 s2.pc s2.mem.length s2.stack.length x0.length x1.length x2.length (rowsOn s0.mem) (rowsOn s0.stack) (rowsOn s1.mem) (rowsOn s1.stack) (rowsOn s2.mem) (rowsOn s2.stack) (rowsOn x0) (rowsOn x1) (rowsOn x2) i j) i_)).holds s_lStarts.cx a_lStarts.rs (fun r => r.le (rb true)) := by
  refine loop_rule (a := a_lStarts) (j := 7) (m := 400) s_lStarts_sound (fun (j : Int) => F_s7 (placesS p).length p (rowsOn (placesS p)) s0.r0 s0.r1 s0.r2 s0.r3 s0.pc s0.mem.length s0.stack.length s1.r0 s1.r1 s1.r2 s1.r3 s1.pc s1.mem.length s1.stack.length s2.r0 s2.r1 s2.r2 s2.r3 s2.pc s2.mem.length s2.stack.length x0.length x1.length x2.length (rowsOn s0.mem) (rowsOn s0.stack) (rowsOn s1.mem) (rowsOn s1.stack) (rowsOn s2.mem) (rowsOn s2.stack) (rowsOn x0) (rowsOn x1) (rowsOn x2) i j) (fun (j : Int) => 0 ≤ j ∧ j ≤ 3) (fun (j : Int) => (3 - j).toNat) ?_
  rintro j h_inv ih
  try dsimp only at h_inv
  show VC.holds _ _ _ (a_lStarts.round s_lStarts 400 7 (F_s7 (placesS p).length p (rowsOn (placesS p)) s0.r0 s0.r1 s0.r2 s0.r3 s0.pc s0.mem.length s0.stack.length s1.r0 s1.r1 s1.r2 s1.r3 s1.pc s1.mem.length s1.stack.length s2.r0 s2.r1 s2.r2 s2.r3 s2.pc s2.mem.length s2.stack.length x0.length x1.length x2.length (rowsOn s0.mem) (rowsOn s0.stack) (rowsOn s1.mem) (rowsOn s1.stack) (rowsOn s2.mem) (rowsOn s2.stack) (rowsOn x0) (rowsOn x1) (rowsOn x2) i j))
  rw [t_s7]
  try simp only [asRows_sl, asInt_int, asBool_bool, asStr_str, listOf_rowsOn, List.drop_zero, Prg.eta, Sta.eta, rowsOn_length, getD_drop, Nat.reduceAdd, rd_int, rd_PMem_name, rd_PMem_secret, rd_PMem_n, rd_PLabel_name, rd_PLabel_at_, rd_Ins_kind, rd_Ins_op, rd_Ins_d, rd_Ins_aR, rd_Ins_aN, rd_Ins_bR, rd_Ins_bN, rd_Ins_name, rd_Ins_target, rd_Ent_pc, rd_Ent_val, rd_Ent_addr, rd_Ent_fro, rd_Ent_next, rd_Ent_done, rd_Ent_known, rd_Ent_fault, rd_Place_reg, rd_Place_n, rd_Place_secret, rd_Obs_kind, rd_Obs_at_, rd_Dir_kind, rd_Dir_n, Prg.of_cells, Sta.of_cells]
  obtain ⟨j0, j1⟩ := h_inv
  have w2 : IntKind.wrap .i64 (i + 1) = i + 1 := wrap_small _ (by omega) (by omega)
  simp only [w2]
  refine br_dec (fun hd => ?_) (fun hd => fin)
  exact l_s8 p hm s0 s1 s2 x0 h0 x1 h1 x2 h2 i j hi (by omega) (ih (j + 1) ⟨by omega, by omega⟩ (by omega)) (true, 0) ⟨by dsimp only; omega, by dsimp only; omega, rfl⟩
theorem l_s6 (p : Prg) (hm : Mems p.mems) (s0 s1 s2 : Sta) (x0 : List Int) (h0 : StJ p s0 x0) (x1 : List Int) (h1 : StJ p s1 x1) (x2 : List Int) (h2 : StJ p s2 x2) : ∀ i_ : Int, (fun (i : Int) => 0 ≤ i ∧ i ≤ 3) i_ → (a_lStarts.at_ 6 ((fun (i : Int) => F_s6 (placesS p).length p (rowsOn (placesS p)) s0.r0 s0.r1 s0.r2 s0.r3 s0.pc s0.mem.length s0.stack.length s1.r0 s1.r1 s1.r2 s1.r3 s1.pc s1.mem.length s1.stack.length s2.r0 s2.r1 s2.r2 s2.r3 s2.pc s2.mem.length s2.stack.length x0.length x1.length x2.length (rowsOn s0.mem) (rowsOn s0.stack) (rowsOn s1.mem) (rowsOn s1.stack) (rowsOn s2.mem) (rowsOn s2.stack) (rowsOn x0) (rowsOn x1) (rowsOn x2) i) i_)).holds s_lStarts.cx a_lStarts.rs (fun r => r.le (rb true)) := by
  refine loop_rule (a := a_lStarts) (j := 6) (m := 400) s_lStarts_sound (fun (i : Int) => F_s6 (placesS p).length p (rowsOn (placesS p)) s0.r0 s0.r1 s0.r2 s0.r3 s0.pc s0.mem.length s0.stack.length s1.r0 s1.r1 s1.r2 s1.r3 s1.pc s1.mem.length s1.stack.length s2.r0 s2.r1 s2.r2 s2.r3 s2.pc s2.mem.length s2.stack.length x0.length x1.length x2.length (rowsOn s0.mem) (rowsOn s0.stack) (rowsOn s1.mem) (rowsOn s1.stack) (rowsOn s2.mem) (rowsOn s2.stack) (rowsOn x0) (rowsOn x1) (rowsOn x2) i) (fun (i : Int) => 0 ≤ i ∧ i ≤ 3) (fun (i : Int) => (3 - i).toNat) ?_
  rintro i h_inv ih
  try dsimp only at h_inv
  show VC.holds _ _ _ (a_lStarts.round s_lStarts 400 6 (F_s6 (placesS p).length p (rowsOn (placesS p)) s0.r0 s0.r1 s0.r2 s0.r3 s0.pc s0.mem.length s0.stack.length s1.r0 s1.r1 s1.r2 s1.r3 s1.pc s1.mem.length s1.stack.length s2.r0 s2.r1 s2.r2 s2.r3 s2.pc s2.mem.length s2.stack.length x0.length x1.length x2.length (rowsOn s0.mem) (rowsOn s0.stack) (rowsOn s1.mem) (rowsOn s1.stack) (rowsOn s2.mem) (rowsOn s2.stack) (rowsOn x0) (rowsOn x1) (rowsOn x2) i))
  rw [t_s6]
  try simp only [asRows_sl, asInt_int, asBool_bool, asStr_str, listOf_rowsOn, List.drop_zero, Prg.eta, Sta.eta, rowsOn_length, getD_drop, Nat.reduceAdd, rd_int, rd_PMem_name, rd_PMem_secret, rd_PMem_n, rd_PLabel_name, rd_PLabel_at_, rd_Ins_kind, rd_Ins_op, rd_Ins_d, rd_Ins_aR, rd_Ins_aN, rd_Ins_bR, rd_Ins_bN, rd_Ins_name, rd_Ins_target, rd_Ent_pc, rd_Ent_val, rd_Ent_addr, rd_Ent_fro, rd_Ent_next, rd_Ent_done, rd_Ent_known, rd_Ent_fault, rd_Place_reg, rd_Place_n, rd_Place_secret, rd_Obs_kind, rd_Obs_at_, rd_Dir_kind, rd_Dir_n, Prg.of_cells, Sta.of_cells]
  obtain ⟨j0, j1⟩ := h_inv
  refine br_dec (fun hd => ?_) (fun hd => ⟨PreOk.mk trivial rfl, ret_le (RR.le_refl _)⟩)
  exact l_s7 p hm s0 s1 s2 x0 h0 x1 h1 x2 h2 i (by omega) (ih (i + 1) ⟨by omega, by omega⟩ (by omega)) 0 ⟨by omega, by omega⟩
theorem l_st0_3 (p : Prg) (hm : Mems p.mems) (s0 s1 s2 : Sta) (x0 : List Int) (h0 : StJ p s0 x0) (x1 : List Int) (h1 : StJ p s1 x1) (x2 : List Int) (h2 : StJ p s2 x2) (l k : List Int) (how : Int) : (a_lStarts.at_ 0 (F_s0 l k how 3 (placesS p).length p (rowsOn (placesS p)) s0.r0 s0.r1 s0.r2 s0.r3 s0.pc s0.mem.length s0.stack.length s1.r0 s1.r1 s1.r2 s1.r3 s1.pc s1.mem.length s1.stack.length s2.r0 s2.r1 s2.r2 s2.r3 s2.pc s2.mem.length s2.stack.length x0.length x1.length x2.length (rowsOn s0.mem) (rowsOn s0.stack) (rowsOn s1.mem) (rowsOn s1.stack) (rowsOn s2.mem) (rowsOn s2.stack) (rowsOn x0) (rowsOn x1) (rowsOn x2))).holds s_lStarts.cx a_lStarts.rs (fun r => r.le (rb true)) := by
  refine at_of_round s_lStarts_sound (m := 400) ?_
  rw [t_st0_3]
  try simp only [asRows_sl, asInt_int, asBool_bool, asStr_str, listOf_rowsOn, List.drop_zero, Prg.eta, Sta.eta, rowsOn_length, getD_drop, Nat.reduceAdd, rd_int, rd_PMem_name, rd_PMem_secret, rd_PMem_n, rd_PLabel_name, rd_PLabel_at_, rd_Ins_kind, rd_Ins_op, rd_Ins_d, rd_Ins_aR, rd_Ins_aN, rd_Ins_bR, rd_Ins_bN, rd_Ins_name, rd_Ins_target, rd_Ent_pc, rd_Ent_val, rd_Ent_addr, rd_Ent_fro, rd_Ent_next, rd_Ent_done, rd_Ent_known, rd_Ent_fault, rd_Place_reg, rd_Place_n, rd_Place_secret, rd_Obs_kind, rd_Obs_at_, rd_Dir_kind, rd_Dir_n, Prg.of_cells, Sta.of_cells]
  exact l_s6 p hm s0 s1 s2 x0 h0 x1 h1 x2 h2 0 ⟨by omega, by omega⟩
theorem l_s3_2 (p : Prg) (hm : Mems p.mems) (hw : okW p.w) (s0 s1 s2 : Sta) (x0 : List Int) (h0 : StJ p s0 x0) (x1 : List Int) (h1 : StJ p s1 x1) (x2 : List Int) (h2 : StJ p s2 x2) (l k : List Int) (how : Int) : ∀ i_ : Int × Int, (fun (v : Int × Int) => v.1 = 0 ∧ 0 ≤ v.2 ∧ v.2 ≤ 4) i_ → (a_lStarts.at_ 4 ((fun (v : Int × Int) => F_s3_2 l k how 2 (placesS p).length p (rowsOn (placesS p)) s0.r0 s0.r1 s0.r2 s0.r3 s0.pc s0.mem.length s0.stack.length s1.r0 s1.r1 s1.r2 s1.r3 s1.pc s1.mem.length s1.stack.length s2.r0 s2.r1 s2.r2 s2.r3 s2.pc s2.mem.length s2.stack.length x0.length x1.length x2.length (rowsOn s0.mem) (rowsOn s0.stack) (rowsOn s1.mem) (rowsOn s1.stack) (rowsOn s2.mem) (rowsOn s2.stack) (rowsOn x0) (rowsOn x1) (rowsOn x2) v.1 v.2) i_)).holds s_lStarts.cx a_lStarts.rs (fun r => r.le (rb true)) := by
  refine loop_rule (a := a_lStarts) (j := 4) (m := 400) s_lStarts_sound (fun (v : Int × Int) => F_s3_2 l k how 2 (placesS p).length p (rowsOn (placesS p)) s0.r0 s0.r1 s0.r2 s0.r3 s0.pc s0.mem.length s0.stack.length s1.r0 s1.r1 s1.r2 s1.r3 s1.pc s1.mem.length s1.stack.length s2.r0 s2.r1 s2.r2 s2.r3 s2.pc s2.mem.length s2.stack.length x0.length x1.length x2.length (rowsOn s0.mem) (rowsOn s0.stack) (rowsOn s1.mem) (rowsOn s1.stack) (rowsOn s2.mem) (rowsOn s2.stack) (rowsOn x0) (rowsOn x1) (rowsOn x2) v.1 v.2) (fun (v : Int × Int) => v.1 = 0 ∧ 0 ≤ v.2 ∧ v.2 ≤ 4) (fun (v : Int × Int) => (4 - v.2).toNat) ?_
  rintro ⟨sum, i⟩ h_inv ih
  try dsimp only at h_inv
  replace ih := fun (v0 : Int) (v1 : Int) => ih (v0, v1)
  try dsimp only at ih
  show VC.holds _ _ _ (a_lStarts.round s_lStarts 400 4 (F_s3_2 l k how 2 (placesS p).length p (rowsOn (placesS p)) s0.r0 s0.r1 s0.r2 s0.r3 s0.pc s0.mem.length s0.stack.length s1.r0 s1.r1 s1.r2 s1.r3 s1.pc s1.mem.length s1.stack.length s2.r0 s2.r1 s2.r2 s2.r3 s2.pc s2.mem.length s2.stack.length x0.length x1.length x2.length (rowsOn s0.mem) (rowsOn s0.stack) (rowsOn s1.mem) (rowsOn s1.stack) (rowsOn s2.mem) (rowsOn s2.stack) (rowsOn x0) (rowsOn x1) (rowsOn x2) sum i))
  rw [t_s3_2]
  try simp only [asRows_sl, asInt_int, asBool_bool, asStr_str, listOf_rowsOn, List.drop_zero, Prg.eta, Sta.eta, rowsOn_length, getD_drop, Nat.reduceAdd, rd_int, rd_PMem_name, rd_PMem_secret, rd_PMem_n, rd_PLabel_name, rd_PLabel_at_, rd_Ins_kind, rd_Ins_op, rd_Ins_d, rd_Ins_aR, rd_Ins_aN, rd_Ins_bR, rd_Ins_bN, rd_Ins_name, rd_Ins_target, rd_Ent_pc, rd_Ent_val, rd_Ent_addr, rd_Ent_fro, rd_Ent_next, rd_Ent_done, rd_Ent_known, rd_Ent_fault, rd_Place_reg, rd_Place_n, rd_Place_secret, rd_Obs_kind, rd_Obs_at_, rd_Dir_kind, rd_Dir_n, Prg.of_cells, Sta.of_cells]
  obtain ⟨e0, i0, i1⟩ := h_inv
  subst e0
  have w1 : IntKind.wrap .i64 (i + 1) = i + 1 := wrap_small _ (by omega) (by omega)
  have nxt : i < 4 → (a_lStarts.at_ 5 (F_s3_2 l k how 2 (placesS p).length p (rowsOn (placesS p)) s0.r0 s0.r1 s0.r2 s0.r3 s0.pc s0.mem.length s0.stack.length s1.r0 s1.r1 s1.r2 s1.r3 s1.pc s1.mem.length s1.stack.length s2.r0 s2.r1 s2.r2 s2.r3 s2.pc s2.mem.length s2.stack.length x0.length x1.length x2.length (rowsOn s0.mem) (rowsOn s0.stack) (rowsOn s1.mem) (rowsOn s1.stack) (rowsOn s2.mem) (rowsOn s2.stack) (rowsOn x0) (rowsOn x1) (rowsOn x2) 0 i)).holds s_lStarts.cx a_lStarts.rs fun r => r.le (rb true) := fun hd => at_of_round s_lStarts_sound (m := 400) (by rw [t_s5_2, w1]; exact ih 0 (i + 1) ⟨rfl, by omega, by omega⟩ (by omega))
  refine br_dec (fun hd => ?_) (fun hd => ?_)
  · replace nxt := nxt hd
    refine br_dec (fun e => ?_) (fun q0 => br_dec (fun e => ?_) (fun q1 => br_dec (fun e => ?_) (fun q2 => br_dec (fun e => ?_) (fun q3 => by omega))))
    all_goals subst e
    all_goals refine br_beq (fun hz => ?_) (fun _ => nxt)
    all_goals repeat' first | refine br_dec (fun _ => ?_) (fun e => absurd rfl e) | refine br_dec (fun e => absurd e (by decide)) (fun _ => ?_)
    · have hr : s2.r0 = 0 := h2.regs 0 (by omega) hz
      have e : IntKind.wrap .i64 (0 + s2.r0) = 0 := by rw [hr]; decide
      rw [e]
      exact nxt
    · have hr : s2.r1 = 0 := h2.regs 1 (by omega) hz
      have e : IntKind.wrap .i64 (0 + s2.r1) = 0 := by rw [hr]; decide
      rw [e]
      exact nxt
    · have hr : s2.r2 = 0 := h2.regs 2 (by omega) hz
      have e : IntKind.wrap .i64 (0 + s2.r2) = 0 := by rw [hr]; decide
      rw [e]
      exact nxt
    · have hr : s2.r3 = 0 := h2.regs 3 (by omega) hz
      have e : IntKind.wrap .i64 (0 + s2.r3) = 0 := by rw [hr]; decide
      rw [e]
      exact nxt
  · refine br_bne (fun q => absurd rfl q) (fun _ => br_bne (fun q => absurd h2.pc q) (fun _ => br_bne (fun q => absurd (by rw [h2.stack]; rfl) q) (fun _ => ⟨PreOk.mk hm rfl, br_bne (fun q => absurd h2.mem q) (fun _ => ?_)⟩)))
    exact l_st0_3 p hm s0 s1 s2 x0 h0 x1 h1 x2 h2 l k how
theorem l_s2_2 (p : Prg) (hm : Mems p.mems) (hw : okW p.w) (s0 s1 s2 : Sta) (x0 : List Int) (h0 : StJ p s0 x0) (x1 : List Int) (h1 : StJ p s1 x1) (x2 : List Int) (h2 : StJ p s2 x2) (l k : List Int) (how : Int) : ∀ i_ : Int, (fun (i : Int) => 0 ≤ i ∧ i ≤ (placesS p).length) i_ → (a_lStarts.at_ 3 ((fun (i : Int) => F_s2_2 l k how 2 (placesS p).length p (rowsOn (placesS p)) s0.r0 s0.r1 s0.r2 s0.r3 s0.pc s0.mem.length s0.stack.length s1.r0 s1.r1 s1.r2 s1.r3 s1.pc s1.mem.length s1.stack.length s2.r0 s2.r1 s2.r2 s2.r3 s2.pc s2.mem.length s2.stack.length x0.length x1.length x2.length (rowsOn s0.mem) (rowsOn s0.stack) (rowsOn s1.mem) (rowsOn s1.stack) (rowsOn s2.mem) (rowsOn s2.stack) (rowsOn x0) (rowsOn x1) (rowsOn x2) 0 (placesS p).length i) i_)).holds s_lStarts.cx a_lStarts.rs (fun r => r.le (rb true)) := by
  refine loop_rule (a := a_lStarts) (j := 3) (m := 400) s_lStarts_sound (fun (i : Int) => F_s2_2 l k how 2 (placesS p).length p (rowsOn (placesS p)) s0.r0 s0.r1 s0.r2 s0.r3 s0.pc s0.mem.length s0.stack.length s1.r0 s1.r1 s1.r2 s1.r3 s1.pc s1.mem.length s1.stack.length s2.r0 s2.r1 s2.r2 s2.r3 s2.pc s2.mem.length s2.stack.length x0.length x1.length x2.length (rowsOn s0.mem) (rowsOn s0.stack) (rowsOn s1.mem) (rowsOn s1.stack) (rowsOn s2.mem) (rowsOn s2.stack) (rowsOn x0) (rowsOn x1) (rowsOn x2) 0 (placesS p).length i) (fun (i : Int) => 0 ≤ i ∧ i ≤ (placesS p).length) (fun (i : Int) => (((placesS p).length : Int) - i).toNat) ?_
  rintro i h_inv ih
  try dsimp only at h_inv
  show VC.holds _ _ _ (a_lStarts.round s_lStarts 400 3 (F_s2_2 l k how 2 (placesS p).length p (rowsOn (placesS p)) s0.r0 s0.r1 s0.r2 s0.r3 s0.pc s0.mem.length s0.stack.length s1.r0 s1.r1 s1.r2 s1.r3 s1.pc s1.mem.length s1.stack.length s2.r0 s2.r1 s2.r2 s2.r3 s2.pc s2.mem.length s2.stack.length x0.length x1.length x2.length (rowsOn s0.mem) (rowsOn s0.stack) (rowsOn s1.mem) (rowsOn s1.stack) (rowsOn s2.mem) (rowsOn s2.stack) (rowsOn x0) (rowsOn x1) (rowsOn x2) 0 (placesS p).length i))
  rw [t_s2_2]
  try simp only [asRows_sl, asInt_int, asBool_bool, asStr_str, listOf_rowsOn, List.drop_zero, Prg.eta, Sta.eta, rowsOn_length, getD_drop, Nat.reduceAdd, rd_int, rd_PMem_name, rd_PMem_secret, rd_PMem_n, rd_PLabel_name, rd_PLabel_at_, rd_Ins_kind, rd_Ins_op, rd_Ins_d, rd_Ins_aR, rd_Ins_aN, rd_Ins_bR, rd_Ins_bN, rd_Ins_name, rd_Ins_target, rd_Ent_pc, rd_Ent_val, rd_Ent_addr, rd_Ent_fro, rd_Ent_next, rd_Ent_done, rd_Ent_known, rd_Ent_fault, rd_Place_reg, rd_Place_n, rd_Place_secret, rd_Obs_kind, rd_Obs_at_, rd_Dir_kind, rd_Dir_n, Prg.of_cells, Sta.of_cells]
  obtain ⟨i0, i1⟩ := h_inv
  have hl := places_len p hm
  have w1 : IntKind.wrap .i64 (i + 1) = i + 1 := wrap_small _ (by omega) (by omega)
  simp only [w1]
  have ex := h2.len
  refine br_dec (fun hd => ?_) (fun hd => ?_)
  · have nxt := ih (i + 1) ⟨by omega, by omega⟩ (by omega)
    have gi : 0 ≤ i ∧ i < ((placesS p).length : Int) := ⟨i0, hd⟩
    have gx : 0 ≤ i ∧ i < (x2.length : Int) := ⟨i0, by omega⟩
    have kR := placeR_ok (placesS p) i i0 hd
    have kN := placeN_ok (placesS p) i i0 hd
    have kx := row_ok x2 i i0 gx.2
    have hq : rd (placesS p) i = (placesS p)[i.toNat] := by
      have := rd_getP (placesS p) i.toNat (by omega)
      rw [show ((i.toNat : Nat) : Int) = i by omega] at this
      exact this
    have hh : holdP s2 (rd (placesS p) i) = rd x2 i := by
      rw [hq, h2.hold i.toNat (by omega), show ((i.toNat : Nat) : Int) = i by omega]
    have hok := places_ok p hm (rd (placesS p) i) (by rw [hq]; exact List.getElem_mem _)
    rw [← h2.mem] at hok
    unfold holdP at hh
    refine ⟨gi, kR, br_holds (fun hr => ?_) (fun hr => ?_)⟩
    · obtain ⟨r0, r1⟩ := hok.1 hr
      rw [if_pos hr] at hh
      refine ⟨gi, kN, br_dec (fun e => ?_) (fun q0 => br_dec (fun e => ?_) (fun q1 => br_dec (fun e => ?_) (fun q2 => br_dec (fun e => ?_) (fun q3 => by omega))))⟩
      all_goals
        rw [e] at hh
        exact ⟨gx, kx, br_bne (fun q => absurd hh q) (fun _ => ⟨gi, kR, br_f (by rw [hr]; rfl) nxt⟩)⟩
    · obtain ⟨r0, r1⟩ := hok.2 hr
      rw [if_neg (by rw [hr]; simp)] at hh
      have gm : 0 ≤ (rd (placesS p) i).n ∧ (rd (placesS p) i).n < (s2.mem.length : Int) := ⟨r0, r1⟩
      exact ⟨gi, kR, br_t (by rw [hr]; rfl) ⟨gi, kN, br_dec (fun q => by omega) (fun _ => ⟨gi, kN, gm, row_ok s2.mem _ r0 r1, gx, kx, br_bne (fun q => absurd hh q) (fun _ => nxt)⟩)⟩⟩
  · exact l_s3_2 p hm hw s0 s1 s2 x0 h0 x1 h1 x2 h2 l k how (0, 0) ⟨rfl, by dsimp only; omega, by dsimp only; omega⟩
theorem l_s1_2 (p : Prg) (hm : Mems p.mems) (hw : okW p.w) (s0 s1 s2 : Sta) (x0 : List Int) (h0 : StJ p s0 x0) (x1 : List Int) (h1 : StJ p s1 x1) (l k : List Int) (how : Int) : ∀ i_ : Int × List Int, (fun (v : Int × List Int) => 0 ≤ v.1 ∧ v.1 ≤ (placesS p).length ∧ (v.2.length : Int) = v.1 ∧ ∀ x ∈ v.2, maskS p.w x = x) i_ → (a_lStarts.at_ 1 ((fun (v : Int × List Int) => F_s1 l k how 2 (placesS p).length p (rowsOn (placesS p)) s0.r0 s0.r1 s0.r2 s0.r3 s0.pc s0.mem.length s0.stack.length s1.r0 s1.r1 s1.r2 s1.r3 s1.pc s1.mem.length s1.stack.length s2.r0 s2.r1 s2.r2 s2.r3 s2.pc s2.mem.length s2.stack.length x0.length x1.length v.2.length (rowsOn s0.mem) (rowsOn s0.stack) (rowsOn s1.mem) (rowsOn s1.stack) (rowsOn s2.mem) (rowsOn s2.stack) (rowsOn x0) (rowsOn x1) (rowsOn v.2) (placesS p).length v.1) i_)).holds s_lStarts.cx a_lStarts.rs (fun r => r.le (rb true)) := by
  refine loop_rule (a := a_lStarts) (j := 1) (m := 400) s_lStarts_sound (fun (v : Int × List Int) => F_s1 l k how 2 (placesS p).length p (rowsOn (placesS p)) s0.r0 s0.r1 s0.r2 s0.r3 s0.pc s0.mem.length s0.stack.length s1.r0 s1.r1 s1.r2 s1.r3 s1.pc s1.mem.length s1.stack.length s2.r0 s2.r1 s2.r2 s2.r3 s2.pc s2.mem.length s2.stack.length x0.length x1.length v.2.length (rowsOn s0.mem) (rowsOn s0.stack) (rowsOn s1.mem) (rowsOn s1.stack) (rowsOn s2.mem) (rowsOn s2.stack) (rowsOn x0) (rowsOn x1) (rowsOn v.2) (placesS p).length v.1) (fun (v : Int × List Int) => 0 ≤ v.1 ∧ v.1 ≤ (placesS p).length ∧ (v.2.length : Int) = v.1 ∧ ∀ x ∈ v.2, maskS p.w x = x) (fun (v : Int × List Int) => (((placesS p).length : Int) - v.1).toNat) ?_
  rintro ⟨i, xs⟩ h_inv ih
  try dsimp only at h_inv
  replace ih := fun (v0 : Int) (v1 : List Int) => ih (v0, v1)
  try dsimp only at ih
  show VC.holds _ _ _ (a_lStarts.round s_lStarts 400 1 (F_s1 l k how 2 (placesS p).length p (rowsOn (placesS p)) s0.r0 s0.r1 s0.r2 s0.r3 s0.pc s0.mem.length s0.stack.length s1.r0 s1.r1 s1.r2 s1.r3 s1.pc s1.mem.length s1.stack.length s2.r0 s2.r1 s2.r2 s2.r3 s2.pc s2.mem.length s2.stack.length x0.length x1.length xs.length (rowsOn s0.mem) (rowsOn s0.stack) (rowsOn s1.mem) (rowsOn s1.stack) (rowsOn s2.mem) (rowsOn s2.stack) (rowsOn x0) (rowsOn x1) (rowsOn xs) (placesS p).length i))
  rw [t_s1_2]
  try simp only [asRows_sl, asInt_int, asBool_bool, asStr_str, listOf_rowsOn, List.drop_zero, Prg.eta, Sta.eta, rowsOn_length, getD_drop, Nat.reduceAdd, rd_int, rd_PMem_name, rd_PMem_secret, rd_PMem_n, rd_PLabel_name, rd_PLabel_at_, rd_Ins_kind, rd_Ins_op, rd_Ins_d, rd_Ins_aR, rd_Ins_aN, rd_Ins_bR, rd_Ins_bN, rd_Ins_name, rd_Ins_target, rd_Ent_pc, rd_Ent_val, rd_Ent_addr, rd_Ent_fro, rd_Ent_next, rd_Ent_done, rd_Ent_known, rd_Ent_fault, rd_Place_reg, rd_Place_n, rd_Place_secret, rd_Obs_kind, rd_Obs_at_, rd_Dir_kind, rd_Dir_n, Prg.of_cells, Sta.of_cells]
  obtain ⟨i0, i1, i2, i3⟩ := h_inv
  have hl := places_len p hm
  have w1 : IntKind.wrap .i64 (i + 1) = i + 1 := wrap_small _ (by omega) (by omega)
  have sc : i < ((placesS p).length : Int) → ∀ v : Int, (a_lStarts.at_ 2 (F_sc l k how 2 (placesS p).length p (rowsOn (placesS p)) s0.r0 s0.r1 s0.r2 s0.r3 s0.pc s0.mem.length s0.stack.length s1.r0 s1.r1 s1.r2 s1.r3 s1.pc s1.mem.length s1.stack.length s2.r0 s2.r1 s2.r2 s2.r3 s2.pc s2.mem.length s2.stack.length x0.length x1.length xs.length (rowsOn s0.mem) (rowsOn s0.stack) (rowsOn s1.mem) (rowsOn s1.stack) (rowsOn s2.mem) (rowsOn s2.stack) (rowsOn x0) (rowsOn x1) (rowsOn xs) (placesS p).length i v)).holds s_lStarts.cx a_lStarts.rs fun r => r.le (rb true) := fun hd v => by
    refine at_of_round s_lStarts_sound (m := 400) ?_
    rw [t_sc_2, w1]
    have on : OnL (rowsOn xs ++ [row (maskS p.w v)]) ((rowsOn xs).length + [row (maskS p.w v)].length) (xs ++ [maskS p.w v]) := OnL.snoc (n := xs.length) ⟨rfl, rfl⟩ _
    have er : [[D.int .i64 (maskS p.w v)]] = [row (maskS p.w v)] := rfl
    rw [er, on.1, on.2]
    refine ⟨PreOk.mk trivial rfl, ⟨rfl, rowsOn_all xs 1 rfl, by simp only [List.length_append, List.length_cons, List.length_nil]; omega⟩, ih _ _ ⟨by omega, by omega, by simp; omega, fun x hx => ?_⟩ (by omega)⟩
    rcases List.mem_append.1 hx with h | h
    · exact i3 x h
    · rw [List.mem_singleton.1 h]; exact maskS_mask _ _
  have u1 : i < ((placesS p).length : Int) → 0 ≤ IntKind.wrap .u64 (IntKind.wrap .i64 (i + 16)) := fun hd => by rw [IntKind.wrap_u64]; omega
  refine br_dec (fun hd => ?_) (fun hd => ?_)
  · replace sc := sc hd
    have u1 := u1 hd
    refine br_dec (fun hL => ?_) (fun hL => ?_)
    · refine ⟨⟨i0, hL, by rw [rowAt_on l i i0 hL]; rfl⟩, okSh_ok _ l i (fun _ => rfl) i0 hL, br_dec (fun hK => ?_) (fun hK => sc _)⟩
      exact ⟨u1, br_beq (fun _ => ⟨⟨i0, hK, by rw [rowAt_on k i i0 hK]; rfl⟩, okSh_ok _ k i (fun _ => rfl) i0 hK, sc _⟩) (fun _ => sc _)⟩
    · refine br_dec (fun hK => ?_) (fun hK => sc _)
      exact ⟨u1, br_beq (fun _ => ⟨⟨i0, hK, by rw [rowAt_on k i i0 hK]; rfl⟩, okSh_ok _ k i (fun _ => rfl) i0 hK, sc _⟩) (fun _ => sc _)⟩
  · have hlen : xs.length = (placesS p).length := by omega
    obtain ⟨s, a1, a2, a3, a4, a5, a6⟩ := start_hold p hm xs hlen
    have hst : StJ p s xs := ⟨hlen, fun j hj => by
      rw [a5 j hj]
      refine i3 _ ?_
      rw [rd_getI xs j (by omega)]
      exact List.getElem_mem _, a2, a3, a4, a6⟩
    refine ⟨PreOk.mk hm rfl, all_holds fun y hy => ?_⟩
    replace hy : y = (s, true) := by rw [hy, ← a1]; simp [v_aStart]
    subst hy
    exact br_f rfl (l_s2_2 p hm hw s0 s1 s x0 h0 x1 h1 xs hst l k how 0 ⟨by omega, by omega⟩)
theorem l_st0_2 (p : Prg) (hm : Mems p.mems) (hw : okW p.w) (s0 s1 s2 : Sta) (x0 : List Int) (h0 : StJ p s0 x0) (x1 : List Int) (h1 : StJ p s1 x1) (l k : List Int) (how : Int) : (a_lStarts.at_ 0 (F_s0 l k how 2 (placesS p).length p (rowsOn (placesS p)) s0.r0 s0.r1 s0.r2 s0.r3 s0.pc s0.mem.length s0.stack.length s1.r0 s1.r1 s1.r2 s1.r3 s1.pc s1.mem.length s1.stack.length s2.r0 s2.r1 s2.r2 s2.r3 s2.pc s2.mem.length s2.stack.length x0.length x1.length ([] : List Int).length (rowsOn s0.mem) (rowsOn s0.stack) (rowsOn s1.mem) (rowsOn s1.stack) (rowsOn s2.mem) (rowsOn s2.stack) (rowsOn x0) (rowsOn x1) (rowsOn ([] : List Int)))).holds s_lStarts.cx a_lStarts.rs (fun r => r.le (rb true)) := by
  refine at_of_round s_lStarts_sound (m := 400) ?_
  rw [t_st0_2]
  try simp only [asRows_sl, asInt_int, asBool_bool, asStr_str, listOf_rowsOn, List.drop_zero, Prg.eta, Sta.eta, rowsOn_length, getD_drop, Nat.reduceAdd, rd_int, rd_PMem_name, rd_PMem_secret, rd_PMem_n, rd_PLabel_name, rd_PLabel_at_, rd_Ins_kind, rd_Ins_op, rd_Ins_d, rd_Ins_aR, rd_Ins_aN, rd_Ins_bR, rd_Ins_bN, rd_Ins_name, rd_Ins_target, rd_Ent_pc, rd_Ent_val, rd_Ent_addr, rd_Ent_fro, rd_Ent_next, rd_Ent_done, rd_Ent_known, rd_Ent_fault, rd_Place_reg, rd_Place_n, rd_Place_secret, rd_Obs_kind, rd_Obs_at_, rd_Dir_kind, rd_Dir_n, Prg.of_cells, Sta.of_cells]
  exact l_s1_2 p hm hw s0 s1 s2 x0 h0 x1 h1 l k how (0, []) ⟨by dsimp only; omega, by dsimp only; omega, rfl, fun x h => by simp at h⟩
theorem l_s3_1 (p : Prg) (hm : Mems p.mems) (hw : okW p.w) (s0 s1 s2 : Sta) (x0 : List Int) (h0 : StJ p s0 x0) (x1 : List Int) (h1 : StJ p s1 x1) (l k : List Int) (how : Int) : ∀ i_ : Int × Int, (fun (v : Int × Int) => v.1 = 0 ∧ 0 ≤ v.2 ∧ v.2 ≤ 4) i_ → (a_lStarts.at_ 4 ((fun (v : Int × Int) => F_s3_1 l k how 1 (placesS p).length p (rowsOn (placesS p)) s0.r0 s0.r1 s0.r2 s0.r3 s0.pc s0.mem.length s0.stack.length s1.r0 s1.r1 s1.r2 s1.r3 s1.pc s1.mem.length s1.stack.length s2.r0 s2.r1 s2.r2 s2.r3 s2.pc s2.mem.length s2.stack.length x0.length x1.length ([] : List Int).length (rowsOn s0.mem) (rowsOn s0.stack) (rowsOn s1.mem) (rowsOn s1.stack) (rowsOn s2.mem) (rowsOn s2.stack) (rowsOn x0) (rowsOn x1) (rowsOn ([] : List Int)) v.1 v.2) i_)).holds s_lStarts.cx a_lStarts.rs (fun r => r.le (rb true)) := by
  refine loop_rule (a := a_lStarts) (j := 4) (m := 400) s_lStarts_sound (fun (v : Int × Int) => F_s3_1 l k how 1 (placesS p).length p (rowsOn (placesS p)) s0.r0 s0.r1 s0.r2 s0.r3 s0.pc s0.mem.length s0.stack.length s1.r0 s1.r1 s1.r2 s1.r3 s1.pc s1.mem.length s1.stack.length s2.r0 s2.r1 s2.r2 s2.r3 s2.pc s2.mem.length s2.stack.length x0.length x1.length ([] : List Int).length (rowsOn s0.mem) (rowsOn s0.stack) (rowsOn s1.mem) (rowsOn s1.stack) (rowsOn s2.mem) (rowsOn s2.stack) (rowsOn x0) (rowsOn x1) (rowsOn ([] : List Int)) v.1 v.2) (fun (v : Int × Int) => v.1 = 0 ∧ 0 ≤ v.2 ∧ v.2 ≤ 4) (fun (v : Int × Int) => (4 - v.2).toNat) ?_
  rintro ⟨sum, i⟩ h_inv ih
  try dsimp only at h_inv
  replace ih := fun (v0 : Int) (v1 : Int) => ih (v0, v1)
  try dsimp only at ih
  show VC.holds _ _ _ (a_lStarts.round s_lStarts 400 4 (F_s3_1 l k how 1 (placesS p).length p (rowsOn (placesS p)) s0.r0 s0.r1 s0.r2 s0.r3 s0.pc s0.mem.length s0.stack.length s1.r0 s1.r1 s1.r2 s1.r3 s1.pc s1.mem.length s1.stack.length s2.r0 s2.r1 s2.r2 s2.r3 s2.pc s2.mem.length s2.stack.length x0.length x1.length ([] : List Int).length (rowsOn s0.mem) (rowsOn s0.stack) (rowsOn s1.mem) (rowsOn s1.stack) (rowsOn s2.mem) (rowsOn s2.stack) (rowsOn x0) (rowsOn x1) (rowsOn ([] : List Int)) sum i))
  rw [t_s3_1]
  try simp only [asRows_sl, asInt_int, asBool_bool, asStr_str, listOf_rowsOn, List.drop_zero, Prg.eta, Sta.eta, rowsOn_length, getD_drop, Nat.reduceAdd, rd_int, rd_PMem_name, rd_PMem_secret, rd_PMem_n, rd_PLabel_name, rd_PLabel_at_, rd_Ins_kind, rd_Ins_op, rd_Ins_d, rd_Ins_aR, rd_Ins_aN, rd_Ins_bR, rd_Ins_bN, rd_Ins_name, rd_Ins_target, rd_Ent_pc, rd_Ent_val, rd_Ent_addr, rd_Ent_fro, rd_Ent_next, rd_Ent_done, rd_Ent_known, rd_Ent_fault, rd_Place_reg, rd_Place_n, rd_Place_secret, rd_Obs_kind, rd_Obs_at_, rd_Dir_kind, rd_Dir_n, Prg.of_cells, Sta.of_cells]
  obtain ⟨e0, i0, i1⟩ := h_inv
  subst e0
  have w1 : IntKind.wrap .i64 (i + 1) = i + 1 := wrap_small _ (by omega) (by omega)
  have nxt : i < 4 → (a_lStarts.at_ 5 (F_s3_1 l k how 1 (placesS p).length p (rowsOn (placesS p)) s0.r0 s0.r1 s0.r2 s0.r3 s0.pc s0.mem.length s0.stack.length s1.r0 s1.r1 s1.r2 s1.r3 s1.pc s1.mem.length s1.stack.length s2.r0 s2.r1 s2.r2 s2.r3 s2.pc s2.mem.length s2.stack.length x0.length x1.length ([] : List Int).length (rowsOn s0.mem) (rowsOn s0.stack) (rowsOn s1.mem) (rowsOn s1.stack) (rowsOn s2.mem) (rowsOn s2.stack) (rowsOn x0) (rowsOn x1) (rowsOn ([] : List Int)) 0 i)).holds s_lStarts.cx a_lStarts.rs fun r => r.le (rb true) := fun hd => at_of_round s_lStarts_sound (m := 400) (by rw [t_s5_1, w1]; exact ih 0 (i + 1) ⟨rfl, by omega, by omega⟩ (by omega))
  refine br_dec (fun hd => ?_) (fun hd => ?_)
  · replace nxt := nxt hd
    refine br_dec (fun e => ?_) (fun q0 => br_dec (fun e => ?_) (fun q1 => br_dec (fun e => ?_) (fun q2 => br_dec (fun e => ?_) (fun q3 => by omega))))
    all_goals subst e
    all_goals refine br_beq (fun hz => ?_) (fun _ => nxt)
    all_goals repeat' first | refine br_dec (fun _ => ?_) (fun e => absurd rfl e) | refine br_dec (fun e => absurd e (by decide)) (fun _ => ?_)
    · have hr : s1.r0 = 0 := h1.regs 0 (by omega) hz
      have e : IntKind.wrap .i64 (0 + s1.r0) = 0 := by rw [hr]; decide
      rw [e]
      exact nxt
    · have hr : s1.r1 = 0 := h1.regs 1 (by omega) hz
      have e : IntKind.wrap .i64 (0 + s1.r1) = 0 := by rw [hr]; decide
      rw [e]
      exact nxt
    · have hr : s1.r2 = 0 := h1.regs 2 (by omega) hz
      have e : IntKind.wrap .i64 (0 + s1.r2) = 0 := by rw [hr]; decide
      rw [e]
      exact nxt
    · have hr : s1.r3 = 0 := h1.regs 3 (by omega) hz
      have e : IntKind.wrap .i64 (0 + s1.r3) = 0 := by rw [hr]; decide
      rw [e]
      exact nxt
  · refine br_bne (fun q => absurd rfl q) (fun _ => br_bne (fun q => absurd h1.pc q) (fun _ => br_bne (fun q => absurd (by rw [h1.stack]; rfl) q) (fun _ => ⟨PreOk.mk hm rfl, br_bne (fun q => absurd h1.mem q) (fun _ => ?_)⟩)))
    exact l_st0_2 p hm hw s0 s1 s2 x0 h0 x1 h1 l k how
theorem l_s2_1 (p : Prg) (hm : Mems p.mems) (hw : okW p.w) (s0 s1 s2 : Sta) (x0 : List Int) (h0 : StJ p s0 x0) (x1 : List Int) (h1 : StJ p s1 x1) (l k : List Int) (how : Int) : ∀ i_ : Int, (fun (i : Int) => 0 ≤ i ∧ i ≤ (placesS p).length) i_ → (a_lStarts.at_ 3 ((fun (i : Int) => F_s2_1 l k how 1 (placesS p).length p (rowsOn (placesS p)) s0.r0 s0.r1 s0.r2 s0.r3 s0.pc s0.mem.length s0.stack.length s1.r0 s1.r1 s1.r2 s1.r3 s1.pc s1.mem.length s1.stack.length s2.r0 s2.r1 s2.r2 s2.r3 s2.pc s2.mem.length s2.stack.length x0.length x1.length ([] : List Int).length (rowsOn s0.mem) (rowsOn s0.stack) (rowsOn s1.mem) (rowsOn s1.stack) (rowsOn s2.mem) (rowsOn s2.stack) (rowsOn x0) (rowsOn x1) (rowsOn ([] : List Int)) 0 (placesS p).length i) i_)).holds s_lStarts.cx a_lStarts.rs (fun r => r.le (rb true)) := by
  refine loop_rule (a := a_lStarts) (j := 3) (m := 400) s_lStarts_sound (fun (i : Int) => F_s2_1 l k how 1 (placesS p).length p (rowsOn (placesS p)) s0.r0 s0.r1 s0.r2 s0.r3 s0.pc s0.mem.length s0.stack.length s1.r0 s1.r1 s1.r2 s1.r3 s1.pc s1.mem.length s1.stack.length s2.r0 s2.r1 s2.r2 s2.r3 s2.pc s2.mem.length s2.stack.length x0.length x1.length ([] : List Int).length (rowsOn s0.mem) (rowsOn s0.stack) (rowsOn s1.mem) (rowsOn s1.stack) (rowsOn s2.mem) (rowsOn s2.stack) (rowsOn x0) (rowsOn x1) (rowsOn ([] : List Int)) 0 (placesS p).length i) (fun (i : Int) => 0 ≤ i ∧ i ≤ (placesS p).length) (fun (i : Int) => (((placesS p).length : Int) - i).toNat) ?_
  rintro i h_inv ih
  try dsimp only at h_inv
  show VC.holds _ _ _ (a_lStarts.round s_lStarts 400 3 (F_s2_1 l k how 1 (placesS p).length p (rowsOn (placesS p)) s0.r0 s0.r1 s0.r2 s0.r3 s0.pc s0.mem.length s0.stack.length s1.r0 s1.r1 s1.r2 s1.r3 s1.pc s1.mem.length s1.stack.length s2.r0 s2.r1 s2.r2 s2.r3 s2.pc s2.mem.length s2.stack.length x0.length x1.length ([] : List Int).length (rowsOn s0.mem) (rowsOn s0.stack) (rowsOn s1.mem) (rowsOn s1.stack) (rowsOn s2.mem) (rowsOn s2.stack) (rowsOn x0) (rowsOn x1) (rowsOn ([] : List Int)) 0 (placesS p).length i))
  rw [t_s2_1]
  try simp only [asRows_sl, asInt_int, asBool_bool, asStr_str, listOf_rowsOn, List.drop_zero, Prg.eta, Sta.eta, rowsOn_length, getD_drop, Nat.reduceAdd, rd_int, rd_PMem_name, rd_PMem_secret, rd_PMem_n, rd_PLabel_name, rd_PLabel_at_, rd_Ins_kind, rd_Ins_op, rd_Ins_d, rd_Ins_aR, rd_Ins_aN, rd_Ins_bR, rd_Ins_bN, rd_Ins_name, rd_Ins_target, rd_Ent_pc, rd_Ent_val, rd_Ent_addr, rd_Ent_fro, rd_Ent_next, rd_Ent_done, rd_Ent_known, rd_Ent_fault, rd_Place_reg, rd_Place_n, rd_Place_secret, rd_Obs_kind, rd_Obs_at_, rd_Dir_kind, rd_Dir_n, Prg.of_cells, Sta.of_cells]
  obtain ⟨i0, i1⟩ := h_inv
  have hl := places_len p hm
  have w1 : IntKind.wrap .i64 (i + 1) = i + 1 := wrap_small _ (by omega) (by omega)
  simp only [w1]
  have ex := h1.len
  refine br_dec (fun hd => ?_) (fun hd => ?_)
  · have nxt := ih (i + 1) ⟨by omega, by omega⟩ (by omega)
    have gi : 0 ≤ i ∧ i < ((placesS p).length : Int) := ⟨i0, hd⟩
    have gx : 0 ≤ i ∧ i < (x1.length : Int) := ⟨i0, by omega⟩
    have kR := placeR_ok (placesS p) i i0 hd
    have kN := placeN_ok (placesS p) i i0 hd
    have kx := row_ok x1 i i0 gx.2
    have hq : rd (placesS p) i = (placesS p)[i.toNat] := by
      have := rd_getP (placesS p) i.toNat (by omega)
      rw [show ((i.toNat : Nat) : Int) = i by omega] at this
      exact this
    have hh : holdP s1 (rd (placesS p) i) = rd x1 i := by
      rw [hq, h1.hold i.toNat (by omega), show ((i.toNat : Nat) : Int) = i by omega]
    have hok := places_ok p hm (rd (placesS p) i) (by rw [hq]; exact List.getElem_mem _)
    rw [← h1.mem] at hok
    unfold holdP at hh
    refine ⟨gi, kR, br_holds (fun hr => ?_) (fun hr => ?_)⟩
    · obtain ⟨r0, r1⟩ := hok.1 hr
      rw [if_pos hr] at hh
      refine ⟨gi, kN, br_dec (fun e => ?_) (fun q0 => br_dec (fun e => ?_) (fun q1 => br_dec (fun e => ?_) (fun q2 => br_dec (fun e => ?_) (fun q3 => by omega))))⟩
      all_goals
        rw [e] at hh
        exact ⟨gx, kx, br_bne (fun q => absurd hh q) (fun _ => ⟨gi, kR, br_f (by rw [hr]; rfl) nxt⟩)⟩
    · obtain ⟨r0, r1⟩ := hok.2 hr
      rw [if_neg (by rw [hr]; simp)] at hh
      have gm : 0 ≤ (rd (placesS p) i).n ∧ (rd (placesS p) i).n < (s1.mem.length : Int) := ⟨r0, r1⟩
      exact ⟨gi, kR, br_t (by rw [hr]; rfl) ⟨gi, kN, br_dec (fun q => by omega) (fun _ => ⟨gi, kN, gm, row_ok s1.mem _ r0 r1, gx, kx, br_bne (fun q => absurd hh q) (fun _ => nxt)⟩)⟩⟩
  · exact l_s3_1 p hm hw s0 s1 s2 x0 h0 x1 h1 l k how (0, 0) ⟨rfl, by dsimp only; omega, by dsimp only; omega⟩
theorem l_s1_1 (p : Prg) (hm : Mems p.mems) (hw : okW p.w) (s0 s1 s2 : Sta) (x0 : List Int) (h0 : StJ p s0 x0) (l k : List Int) (how : Int) : ∀ i_ : Int × List Int, (fun (v : Int × List Int) => 0 ≤ v.1 ∧ v.1 ≤ (placesS p).length ∧ (v.2.length : Int) = v.1 ∧ ∀ x ∈ v.2, maskS p.w x = x) i_ → (a_lStarts.at_ 1 ((fun (v : Int × List Int) => F_s1 l k how 1 (placesS p).length p (rowsOn (placesS p)) s0.r0 s0.r1 s0.r2 s0.r3 s0.pc s0.mem.length s0.stack.length s1.r0 s1.r1 s1.r2 s1.r3 s1.pc s1.mem.length s1.stack.length s2.r0 s2.r1 s2.r2 s2.r3 s2.pc s2.mem.length s2.stack.length x0.length v.2.length ([] : List Int).length (rowsOn s0.mem) (rowsOn s0.stack) (rowsOn s1.mem) (rowsOn s1.stack) (rowsOn s2.mem) (rowsOn s2.stack) (rowsOn x0) (rowsOn v.2) (rowsOn ([] : List Int)) (placesS p).length v.1) i_)).holds s_lStarts.cx a_lStarts.rs (fun r => r.le (rb true)) := by
  refine loop_rule (a := a_lStarts) (j := 1) (m := 400) s_lStarts_sound (fun (v : Int × List Int) => F_s1 l k how 1 (placesS p).length p (rowsOn (placesS p)) s0.r0 s0.r1 s0.r2 s0.r3 s0.pc s0.mem.length s0.stack.length s1.r0 s1.r1 s1.r2 s1.r3 s1.pc s1.mem.length s1.stack.length s2.r0 s2.r1 s2.r2 s2.r3 s2.pc s2.mem.length s2.stack.length x0.length v.2.length ([] : List Int).length (rowsOn s0.mem) (rowsOn s0.stack) (rowsOn s1.mem) (rowsOn s1.stack) (rowsOn s2.mem) (rowsOn s2.stack) (rowsOn x0) (rowsOn v.2) (rowsOn ([] : List Int)) (placesS p).length v.1) (fun (v : Int × List Int) => 0 ≤ v.1 ∧ v.1 ≤ (placesS p).length ∧ (v.2.length : Int) = v.1 ∧ ∀ x ∈ v.2, maskS p.w x = x) (fun (v : Int × List Int) => (((placesS p).length : Int) - v.1).toNat) ?_
  rintro ⟨i, xs⟩ h_inv ih
  try dsimp only at h_inv
  replace ih := fun (v0 : Int) (v1 : List Int) => ih (v0, v1)
  try dsimp only at ih
  show VC.holds _ _ _ (a_lStarts.round s_lStarts 400 1 (F_s1 l k how 1 (placesS p).length p (rowsOn (placesS p)) s0.r0 s0.r1 s0.r2 s0.r3 s0.pc s0.mem.length s0.stack.length s1.r0 s1.r1 s1.r2 s1.r3 s1.pc s1.mem.length s1.stack.length s2.r0 s2.r1 s2.r2 s2.r3 s2.pc s2.mem.length s2.stack.length x0.length xs.length ([] : List Int).length (rowsOn s0.mem) (rowsOn s0.stack) (rowsOn s1.mem) (rowsOn s1.stack) (rowsOn s2.mem) (rowsOn s2.stack) (rowsOn x0) (rowsOn xs) (rowsOn ([] : List Int)) (placesS p).length i))
  rw [t_s1_1]
  try simp only [asRows_sl, asInt_int, asBool_bool, asStr_str, listOf_rowsOn, List.drop_zero, Prg.eta, Sta.eta, rowsOn_length, getD_drop, Nat.reduceAdd, rd_int, rd_PMem_name, rd_PMem_secret, rd_PMem_n, rd_PLabel_name, rd_PLabel_at_, rd_Ins_kind, rd_Ins_op, rd_Ins_d, rd_Ins_aR, rd_Ins_aN, rd_Ins_bR, rd_Ins_bN, rd_Ins_name, rd_Ins_target, rd_Ent_pc, rd_Ent_val, rd_Ent_addr, rd_Ent_fro, rd_Ent_next, rd_Ent_done, rd_Ent_known, rd_Ent_fault, rd_Place_reg, rd_Place_n, rd_Place_secret, rd_Obs_kind, rd_Obs_at_, rd_Dir_kind, rd_Dir_n, Prg.of_cells, Sta.of_cells]
  obtain ⟨i0, i1, i2, i3⟩ := h_inv
  have hl := places_len p hm
  have w1 : IntKind.wrap .i64 (i + 1) = i + 1 := wrap_small _ (by omega) (by omega)
  have sc : i < ((placesS p).length : Int) → ∀ v : Int, (a_lStarts.at_ 2 (F_sc l k how 1 (placesS p).length p (rowsOn (placesS p)) s0.r0 s0.r1 s0.r2 s0.r3 s0.pc s0.mem.length s0.stack.length s1.r0 s1.r1 s1.r2 s1.r3 s1.pc s1.mem.length s1.stack.length s2.r0 s2.r1 s2.r2 s2.r3 s2.pc s2.mem.length s2.stack.length x0.length xs.length ([] : List Int).length (rowsOn s0.mem) (rowsOn s0.stack) (rowsOn s1.mem) (rowsOn s1.stack) (rowsOn s2.mem) (rowsOn s2.stack) (rowsOn x0) (rowsOn xs) (rowsOn ([] : List Int)) (placesS p).length i v)).holds s_lStarts.cx a_lStarts.rs fun r => r.le (rb true) := fun hd v => by
    refine at_of_round s_lStarts_sound (m := 400) ?_
    rw [t_sc_1, w1]
    have on : OnL (rowsOn xs ++ [row (maskS p.w v)]) ((rowsOn xs).length + [row (maskS p.w v)].length) (xs ++ [maskS p.w v]) := OnL.snoc (n := xs.length) ⟨rfl, rfl⟩ _
    have er : [[D.int .i64 (maskS p.w v)]] = [row (maskS p.w v)] := rfl
    rw [er, on.1, on.2]
    refine ⟨PreOk.mk trivial rfl, ⟨rfl, rowsOn_all xs 1 rfl, by simp only [List.length_append, List.length_cons, List.length_nil]; omega⟩, ih _ _ ⟨by omega, by omega, by simp; omega, fun x hx => ?_⟩ (by omega)⟩
    rcases List.mem_append.1 hx with h | h
    · exact i3 x h
    · rw [List.mem_singleton.1 h]; exact maskS_mask _ _
  have u1 : i < ((placesS p).length : Int) → 0 ≤ IntKind.wrap .u64 (IntKind.wrap .i64 (i + 8)) := fun hd => by rw [IntKind.wrap_u64]; omega
  refine br_dec (fun hd => ?_) (fun hd => ?_)
  · replace sc := sc hd
    have u1 := u1 hd
    refine br_dec (fun hL => ?_) (fun hL => ?_)
    · refine ⟨⟨i0, hL, by rw [rowAt_on l i i0 hL]; rfl⟩, okSh_ok _ l i (fun _ => rfl) i0 hL, br_dec (fun hK => ?_) (fun hK => sc _)⟩
      exact ⟨u1, br_beq (fun _ => ⟨⟨i0, hK, by rw [rowAt_on k i i0 hK]; rfl⟩, okSh_ok _ k i (fun _ => rfl) i0 hK, sc _⟩) (fun _ => sc _)⟩
    · refine br_dec (fun hK => ?_) (fun hK => sc _)
      exact ⟨u1, br_beq (fun _ => ⟨⟨i0, hK, by rw [rowAt_on k i i0 hK]; rfl⟩, okSh_ok _ k i (fun _ => rfl) i0 hK, sc _⟩) (fun _ => sc _)⟩
  · have hlen : xs.length = (placesS p).length := by omega
    obtain ⟨s, a1, a2, a3, a4, a5, a6⟩ := start_hold p hm xs hlen
    have hst : StJ p s xs := ⟨hlen, fun j hj => by
      rw [a5 j hj]
      refine i3 _ ?_
      rw [rd_getI xs j (by omega)]
      exact List.getElem_mem _, a2, a3, a4, a6⟩
    refine ⟨PreOk.mk hm rfl, all_holds fun y hy => ?_⟩
    replace hy : y = (s, true) := by rw [hy, ← a1]; simp [v_aStart]
    subst hy
    exact br_f rfl (l_s2_1 p hm hw s0 s s2 x0 h0 xs hst l k how 0 ⟨by omega, by omega⟩)
theorem l_st0_1 (p : Prg) (hm : Mems p.mems) (hw : okW p.w) (s0 s1 s2 : Sta) (x0 : List Int) (h0 : StJ p s0 x0) (l k : List Int) (how : Int) : (a_lStarts.at_ 0 (F_s0 l k how 1 (placesS p).length p (rowsOn (placesS p)) s0.r0 s0.r1 s0.r2 s0.r3 s0.pc s0.mem.length s0.stack.length s1.r0 s1.r1 s1.r2 s1.r3 s1.pc s1.mem.length s1.stack.length s2.r0 s2.r1 s2.r2 s2.r3 s2.pc s2.mem.length s2.stack.length x0.length ([] : List Int).length ([] : List Int).length (rowsOn s0.mem) (rowsOn s0.stack) (rowsOn s1.mem) (rowsOn s1.stack) (rowsOn s2.mem) (rowsOn s2.stack) (rowsOn x0) (rowsOn ([] : List Int)) (rowsOn ([] : List Int)))).holds s_lStarts.cx a_lStarts.rs (fun r => r.le (rb true)) := by
  refine at_of_round s_lStarts_sound (m := 400) ?_
  rw [t_st0_1]
  try simp only [asRows_sl, asInt_int, asBool_bool, asStr_str, listOf_rowsOn, List.drop_zero, Prg.eta, Sta.eta, rowsOn_length, getD_drop, Nat.reduceAdd, rd_int, rd_PMem_name, rd_PMem_secret, rd_PMem_n, rd_PLabel_name, rd_PLabel_at_, rd_Ins_kind, rd_Ins_op, rd_Ins_d, rd_Ins_aR, rd_Ins_aN, rd_Ins_bR, rd_Ins_bN, rd_Ins_name, rd_Ins_target, rd_Ent_pc, rd_Ent_val, rd_Ent_addr, rd_Ent_fro, rd_Ent_next, rd_Ent_done, rd_Ent_known, rd_Ent_fault, rd_Place_reg, rd_Place_n, rd_Place_secret, rd_Obs_kind, rd_Obs_at_, rd_Dir_kind, rd_Dir_n, Prg.of_cells, Sta.of_cells]
  exact l_s1_1 p hm hw s0 s1 s2 x0 h0 l k how (0, []) ⟨by dsimp only; omega, by dsimp only; omega, rfl, fun x h => by simp at h⟩
theorem l_s3_0 (p : Prg) (hm : Mems p.mems) (hw : okW p.w) (s0 s1 s2 : Sta) (x0 : List Int) (h0 : StJ p s0 x0) (l k : List Int) (how : Int) : ∀ i_ : Int × Int, (fun (v : Int × Int) => v.1 = 0 ∧ 0 ≤ v.2 ∧ v.2 ≤ 4) i_ → (a_lStarts.at_ 4 ((fun (v : Int × Int) => F_s3_0 l k how 0 (placesS p).length p (rowsOn (placesS p)) s0.r0 s0.r1 s0.r2 s0.r3 s0.pc s0.mem.length s0.stack.length s1.r0 s1.r1 s1.r2 s1.r3 s1.pc s1.mem.length s1.stack.length s2.r0 s2.r1 s2.r2 s2.r3 s2.pc s2.mem.length s2.stack.length x0.length ([] : List Int).length ([] : List Int).length (rowsOn s0.mem) (rowsOn s0.stack) (rowsOn s1.mem) (rowsOn s1.stack) (rowsOn s2.mem) (rowsOn s2.stack) (rowsOn x0) (rowsOn ([] : List Int)) (rowsOn ([] : List Int)) v.1 v.2) i_)).holds s_lStarts.cx a_lStarts.rs (fun r => r.le (rb true)) := by
  refine loop_rule (a := a_lStarts) (j := 4) (m := 400) s_lStarts_sound (fun (v : Int × Int) => F_s3_0 l k how 0 (placesS p).length p (rowsOn (placesS p)) s0.r0 s0.r1 s0.r2 s0.r3 s0.pc s0.mem.length s0.stack.length s1.r0 s1.r1 s1.r2 s1.r3 s1.pc s1.mem.length s1.stack.length s2.r0 s2.r1 s2.r2 s2.r3 s2.pc s2.mem.length s2.stack.length x0.length ([] : List Int).length ([] : List Int).length (rowsOn s0.mem) (rowsOn s0.stack) (rowsOn s1.mem) (rowsOn s1.stack) (rowsOn s2.mem) (rowsOn s2.stack) (rowsOn x0) (rowsOn ([] : List Int)) (rowsOn ([] : List Int)) v.1 v.2) (fun (v : Int × Int) => v.1 = 0 ∧ 0 ≤ v.2 ∧ v.2 ≤ 4) (fun (v : Int × Int) => (4 - v.2).toNat) ?_
  rintro ⟨sum, i⟩ h_inv ih
  try dsimp only at h_inv
  replace ih := fun (v0 : Int) (v1 : Int) => ih (v0, v1)
  try dsimp only at ih
  show VC.holds _ _ _ (a_lStarts.round s_lStarts 400 4 (F_s3_0 l k how 0 (placesS p).length p (rowsOn (placesS p)) s0.r0 s0.r1 s0.r2 s0.r3 s0.pc s0.mem.length s0.stack.length s1.r0 s1.r1 s1.r2 s1.r3 s1.pc s1.mem.length s1.stack.length s2.r0 s2.r1 s2.r2 s2.r3 s2.pc s2.mem.length s2.stack.length x0.length ([] : List Int).length ([] : List Int).length (rowsOn s0.mem) (rowsOn s0.stack) (rowsOn s1.mem) (rowsOn s1.stack) (rowsOn s2.mem) (rowsOn s2.stack) (rowsOn x0) (rowsOn ([] : List Int)) (rowsOn ([] : List Int)) sum i))
  rw [t_s3_0]
  try simp only [asRows_sl, asInt_int, asBool_bool, asStr_str, listOf_rowsOn, List.drop_zero, Prg.eta, Sta.eta, rowsOn_length, getD_drop, Nat.reduceAdd, rd_int, rd_PMem_name, rd_PMem_secret, rd_PMem_n, rd_PLabel_name, rd_PLabel_at_, rd_Ins_kind, rd_Ins_op, rd_Ins_d, rd_Ins_aR, rd_Ins_aN, rd_Ins_bR, rd_Ins_bN, rd_Ins_name, rd_Ins_target, rd_Ent_pc, rd_Ent_val, rd_Ent_addr, rd_Ent_fro, rd_Ent_next, rd_Ent_done, rd_Ent_known, rd_Ent_fault, rd_Place_reg, rd_Place_n, rd_Place_secret, rd_Obs_kind, rd_Obs_at_, rd_Dir_kind, rd_Dir_n, Prg.of_cells, Sta.of_cells]
  obtain ⟨e0, i0, i1⟩ := h_inv
  subst e0
  have w1 : IntKind.wrap .i64 (i + 1) = i + 1 := wrap_small _ (by omega) (by omega)
  have nxt : i < 4 → (a_lStarts.at_ 5 (F_s3_0 l k how 0 (placesS p).length p (rowsOn (placesS p)) s0.r0 s0.r1 s0.r2 s0.r3 s0.pc s0.mem.length s0.stack.length s1.r0 s1.r1 s1.r2 s1.r3 s1.pc s1.mem.length s1.stack.length s2.r0 s2.r1 s2.r2 s2.r3 s2.pc s2.mem.length s2.stack.length x0.length ([] : List Int).length ([] : List Int).length (rowsOn s0.mem) (rowsOn s0.stack) (rowsOn s1.mem) (rowsOn s1.stack) (rowsOn s2.mem) (rowsOn s2.stack) (rowsOn x0) (rowsOn ([] : List Int)) (rowsOn ([] : List Int)) 0 i)).holds s_lStarts.cx a_lStarts.rs fun r => r.le (rb true) := fun hd => at_of_round s_lStarts_sound (m := 400) (by rw [t_s5_0, w1]; exact ih 0 (i + 1) ⟨rfl, by omega, by omega⟩ (by omega))
  refine br_dec (fun hd => ?_) (fun hd => ?_)
  · replace nxt := nxt hd
    refine br_dec (fun e => ?_) (fun q0 => br_dec (fun e => ?_) (fun q1 => br_dec (fun e => ?_) (fun q2 => br_dec (fun e => ?_) (fun q3 => by omega))))
    all_goals subst e
    all_goals refine br_beq (fun hz => ?_) (fun _ => nxt)
    all_goals repeat' first | refine br_dec (fun _ => ?_) (fun e => absurd rfl e) | refine br_dec (fun e => absurd e (by decide)) (fun _ => ?_)
    · have hr : s0.r0 = 0 := h0.regs 0 (by omega) hz
      have e : IntKind.wrap .i64 (0 + s0.r0) = 0 := by rw [hr]; decide
      rw [e]
      exact nxt
    · have hr : s0.r1 = 0 := h0.regs 1 (by omega) hz
      have e : IntKind.wrap .i64 (0 + s0.r1) = 0 := by rw [hr]; decide
      rw [e]
      exact nxt
    · have hr : s0.r2 = 0 := h0.regs 2 (by omega) hz
      have e : IntKind.wrap .i64 (0 + s0.r2) = 0 := by rw [hr]; decide
      rw [e]
      exact nxt
    · have hr : s0.r3 = 0 := h0.regs 3 (by omega) hz
      have e : IntKind.wrap .i64 (0 + s0.r3) = 0 := by rw [hr]; decide
      rw [e]
      exact nxt
  · refine br_bne (fun q => absurd rfl q) (fun _ => br_bne (fun q => absurd h0.pc q) (fun _ => br_bne (fun q => absurd (by rw [h0.stack]; rfl) q) (fun _ => ⟨PreOk.mk hm rfl, br_bne (fun q => absurd h0.mem q) (fun _ => ?_)⟩)))
    exact l_st0_1 p hm hw s0 s1 s2 x0 h0 l k how
theorem l_s2_0 (p : Prg) (hm : Mems p.mems) (hw : okW p.w) (s0 s1 s2 : Sta) (x0 : List Int) (h0 : StJ p s0 x0) (l k : List Int) (how : Int) : ∀ i_ : Int, (fun (i : Int) => 0 ≤ i ∧ i ≤ (placesS p).length) i_ → (a_lStarts.at_ 3 ((fun (i : Int) => F_s2_0 l k how 0 (placesS p).length p (rowsOn (placesS p)) s0.r0 s0.r1 s0.r2 s0.r3 s0.pc s0.mem.length s0.stack.length s1.r0 s1.r1 s1.r2 s1.r3 s1.pc s1.mem.length s1.stack.length s2.r0 s2.r1 s2.r2 s2.r3 s2.pc s2.mem.length s2.stack.length x0.length ([] : List Int).length ([] : List Int).length (rowsOn s0.mem) (rowsOn s0.stack) (rowsOn s1.mem) (rowsOn s1.stack) (rowsOn s2.mem) (rowsOn s2.stack) (rowsOn x0) (rowsOn ([] : List Int)) (rowsOn ([] : List Int)) 0 (placesS p).length i) i_)).holds s_lStarts.cx a_lStarts.rs (fun r => r.le (rb true)) := by
  refine loop_rule (a := a_lStarts) (j := 3) (m := 400) s_lStarts_sound (fun (i : Int) => F_s2_0 l k how 0 (placesS p).length p (rowsOn (placesS p)) s0.r0 s0.r1 s0.r2 s0.r3 s0.pc s0.mem.length s0.stack.length s1.r0 s1.r1 s1.r2 s1.r3 s1.pc s1.mem.length s1.stack.length s2.r0 s2.r1 s2.r2 s2.r3 s2.pc s2.mem.length s2.stack.length x0.length ([] : List Int).length ([] : List Int).length (rowsOn s0.mem) (rowsOn s0.stack) (rowsOn s1.mem) (rowsOn s1.stack) (rowsOn s2.mem) (rowsOn s2.stack) (rowsOn x0) (rowsOn ([] : List Int)) (rowsOn ([] : List Int)) 0 (placesS p).length i) (fun (i : Int) => 0 ≤ i ∧ i ≤ (placesS p).length) (fun (i : Int) => (((placesS p).length : Int) - i).toNat) ?_
  rintro i h_inv ih
  try dsimp only at h_inv
  show VC.holds _ _ _ (a_lStarts.round s_lStarts 400 3 (F_s2_0 l k how 0 (placesS p).length p (rowsOn (placesS p)) s0.r0 s0.r1 s0.r2 s0.r3 s0.pc s0.mem.length s0.stack.length s1.r0 s1.r1 s1.r2 s1.r3 s1.pc s1.mem.length s1.stack.length s2.r0 s2.r1 s2.r2 s2.r3 s2.pc s2.mem.length s2.stack.length x0.length ([] : List Int).length ([] : List Int).length (rowsOn s0.mem) (rowsOn s0.stack) (rowsOn s1.mem) (rowsOn s1.stack) (rowsOn s2.mem) (rowsOn s2.stack) (rowsOn x0) (rowsOn ([] : List Int)) (rowsOn ([] : List Int)) 0 (placesS p).length i))
  rw [t_s2_0]
  try simp only [asRows_sl, asInt_int, asBool_bool, asStr_str, listOf_rowsOn, List.drop_zero, Prg.eta, Sta.eta, rowsOn_length, getD_drop, Nat.reduceAdd, rd_int, rd_PMem_name, rd_PMem_secret, rd_PMem_n, rd_PLabel_name, rd_PLabel_at_, rd_Ins_kind, rd_Ins_op, rd_Ins_d, rd_Ins_aR, rd_Ins_aN, rd_Ins_bR, rd_Ins_bN, rd_Ins_name, rd_Ins_target, rd_Ent_pc, rd_Ent_val, rd_Ent_addr, rd_Ent_fro, rd_Ent_next, rd_Ent_done, rd_Ent_known, rd_Ent_fault, rd_Place_reg, rd_Place_n, rd_Place_secret, rd_Obs_kind, rd_Obs_at_, rd_Dir_kind, rd_Dir_n, Prg.of_cells, Sta.of_cells]
  obtain ⟨i0, i1⟩ := h_inv
  have hl := places_len p hm
  have w1 : IntKind.wrap .i64 (i + 1) = i + 1 := wrap_small _ (by omega) (by omega)
  simp only [w1]
  have ex := h0.len
  refine br_dec (fun hd => ?_) (fun hd => ?_)
  · have nxt := ih (i + 1) ⟨by omega, by omega⟩ (by omega)
    have gi : 0 ≤ i ∧ i < ((placesS p).length : Int) := ⟨i0, hd⟩
    have gx : 0 ≤ i ∧ i < (x0.length : Int) := ⟨i0, by omega⟩
    have kR := placeR_ok (placesS p) i i0 hd
    have kN := placeN_ok (placesS p) i i0 hd
    have kx := row_ok x0 i i0 gx.2
    have hq : rd (placesS p) i = (placesS p)[i.toNat] := by
      have := rd_getP (placesS p) i.toNat (by omega)
      rw [show ((i.toNat : Nat) : Int) = i by omega] at this
      exact this
    have hh : holdP s0 (rd (placesS p) i) = rd x0 i := by
      rw [hq, h0.hold i.toNat (by omega), show ((i.toNat : Nat) : Int) = i by omega]
    have hok := places_ok p hm (rd (placesS p) i) (by rw [hq]; exact List.getElem_mem _)
    rw [← h0.mem] at hok
    unfold holdP at hh
    refine ⟨gi, kR, br_holds (fun hr => ?_) (fun hr => ?_)⟩
    · obtain ⟨r0, r1⟩ := hok.1 hr
      rw [if_pos hr] at hh
      refine ⟨gi, kN, br_dec (fun e => ?_) (fun q0 => br_dec (fun e => ?_) (fun q1 => br_dec (fun e => ?_) (fun q2 => br_dec (fun e => ?_) (fun q3 => by omega))))⟩
      all_goals
        rw [e] at hh
        exact ⟨gx, kx, br_bne (fun q => absurd hh q) (fun _ => ⟨gi, kR, br_f (by rw [hr]; rfl) nxt⟩)⟩
    · obtain ⟨r0, r1⟩ := hok.2 hr
      rw [if_neg (by rw [hr]; simp)] at hh
      have gm : 0 ≤ (rd (placesS p) i).n ∧ (rd (placesS p) i).n < (s0.mem.length : Int) := ⟨r0, r1⟩
      exact ⟨gi, kR, br_t (by rw [hr]; rfl) ⟨gi, kN, br_dec (fun q => by omega) (fun _ => ⟨gi, kN, gm, row_ok s0.mem _ r0 r1, gx, kx, br_bne (fun q => absurd hh q) (fun _ => nxt)⟩)⟩⟩
  · exact l_s3_0 p hm hw s0 s1 s2 x0 h0 l k how (0, 0) ⟨rfl, by dsimp only; omega, by dsimp only; omega⟩
theorem l_s1_0 (p : Prg) (hm : Mems p.mems) (hw : okW p.w) (s0 s1 s2 : Sta)  (l k : List Int) (how : Int) : ∀ i_ : Int × List Int, (fun (v : Int × List Int) => 0 ≤ v.1 ∧ v.1 ≤ (placesS p).length ∧ (v.2.length : Int) = v.1 ∧ ∀ x ∈ v.2, maskS p.w x = x) i_ → (a_lStarts.at_ 1 ((fun (v : Int × List Int) => F_s1 l k how 0 (placesS p).length p (rowsOn (placesS p)) s0.r0 s0.r1 s0.r2 s0.r3 s0.pc s0.mem.length s0.stack.length s1.r0 s1.r1 s1.r2 s1.r3 s1.pc s1.mem.length s1.stack.length s2.r0 s2.r1 s2.r2 s2.r3 s2.pc s2.mem.length s2.stack.length v.2.length ([] : List Int).length ([] : List Int).length (rowsOn s0.mem) (rowsOn s0.stack) (rowsOn s1.mem) (rowsOn s1.stack) (rowsOn s2.mem) (rowsOn s2.stack) (rowsOn v.2) (rowsOn ([] : List Int)) (rowsOn ([] : List Int)) (placesS p).length v.1) i_)).holds s_lStarts.cx a_lStarts.rs (fun r => r.le (rb true)) := by
  refine loop_rule (a := a_lStarts) (j := 1) (m := 400) s_lStarts_sound (fun (v : Int × List Int) => F_s1 l k how 0 (placesS p).length p (rowsOn (placesS p)) s0.r0 s0.r1 s0.r2 s0.r3 s0.pc s0.mem.length s0.stack.length s1.r0 s1.r1 s1.r2 s1.r3 s1.pc s1.mem.length s1.stack.length s2.r0 s2.r1 s2.r2 s2.r3 s2.pc s2.mem.length s2.stack.length v.2.length ([] : List Int).length ([] : List Int).length (rowsOn s0.mem) (rowsOn s0.stack) (rowsOn s1.mem) (rowsOn s1.stack) (rowsOn s2.mem) (rowsOn s2.stack) (rowsOn v.2) (rowsOn ([] : List Int)) (rowsOn ([] : List Int)) (placesS p).length v.1) (fun (v : Int × List Int) => 0 ≤ v.1 ∧ v.1 ≤ (placesS p).length ∧ (v.2.length : Int) = v.1 ∧ ∀ x ∈ v.2, maskS p.w x = x) (fun (v : Int × List Int) => (((placesS p).length : Int) - v.1).toNat) ?_
  rintro ⟨i, xs⟩ h_inv ih
  try dsimp only at h_inv
  replace ih := fun (v0 : Int) (v1 : List Int) => ih (v0, v1)
  try dsimp only at ih
  show VC.holds _ _ _ (a_lStarts.round s_lStarts 400 1 (F_s1 l k how 0 (placesS p).length p (rowsOn (placesS p)) s0.r0 s0.r1 s0.r2 s0.r3 s0.pc s0.mem.length s0.stack.length s1.r0 s1.r1 s1.r2 s1.r3 s1.pc s1.mem.length s1.stack.length s2.r0 s2.r1 s2.r2 s2.r3 s2.pc s2.mem.length s2.stack.length xs.length ([] : List Int).length ([] : List Int).length (rowsOn s0.mem) (rowsOn s0.stack) (rowsOn s1.mem) (rowsOn s1.stack) (rowsOn s2.mem) (rowsOn s2.stack) (rowsOn xs) (rowsOn ([] : List Int)) (rowsOn ([] : List Int)) (placesS p).length i))
  rw [t_s1_0]
  try simp only [asRows_sl, asInt_int, asBool_bool, asStr_str, listOf_rowsOn, List.drop_zero, Prg.eta, Sta.eta, rowsOn_length, getD_drop, Nat.reduceAdd, rd_int, rd_PMem_name, rd_PMem_secret, rd_PMem_n, rd_PLabel_name, rd_PLabel_at_, rd_Ins_kind, rd_Ins_op, rd_Ins_d, rd_Ins_aR, rd_Ins_aN, rd_Ins_bR, rd_Ins_bN, rd_Ins_name, rd_Ins_target, rd_Ent_pc, rd_Ent_val, rd_Ent_addr, rd_Ent_fro, rd_Ent_next, rd_Ent_done, rd_Ent_known, rd_Ent_fault, rd_Place_reg, rd_Place_n, rd_Place_secret, rd_Obs_kind, rd_Obs_at_, rd_Dir_kind, rd_Dir_n, Prg.of_cells, Sta.of_cells]
  obtain ⟨i0, i1, i2, i3⟩ := h_inv
  have hl := places_len p hm
  have w1 : IntKind.wrap .i64 (i + 1) = i + 1 := wrap_small _ (by omega) (by omega)
  have sc : i < ((placesS p).length : Int) → ∀ v : Int, (a_lStarts.at_ 2 (F_sc l k how 0 (placesS p).length p (rowsOn (placesS p)) s0.r0 s0.r1 s0.r2 s0.r3 s0.pc s0.mem.length s0.stack.length s1.r0 s1.r1 s1.r2 s1.r3 s1.pc s1.mem.length s1.stack.length s2.r0 s2.r1 s2.r2 s2.r3 s2.pc s2.mem.length s2.stack.length xs.length ([] : List Int).length ([] : List Int).length (rowsOn s0.mem) (rowsOn s0.stack) (rowsOn s1.mem) (rowsOn s1.stack) (rowsOn s2.mem) (rowsOn s2.stack) (rowsOn xs) (rowsOn ([] : List Int)) (rowsOn ([] : List Int)) (placesS p).length i v)).holds s_lStarts.cx a_lStarts.rs fun r => r.le (rb true) := fun hd v => by
    refine at_of_round s_lStarts_sound (m := 400) ?_
    rw [t_sc_0, w1]
    have on : OnL (rowsOn xs ++ [row (maskS p.w v)]) ((rowsOn xs).length + [row (maskS p.w v)].length) (xs ++ [maskS p.w v]) := OnL.snoc (n := xs.length) ⟨rfl, rfl⟩ _
    have er : [[D.int .i64 (maskS p.w v)]] = [row (maskS p.w v)] := rfl
    rw [er, on.1, on.2]
    refine ⟨PreOk.mk trivial rfl, ⟨rfl, rowsOn_all xs 1 rfl, by simp only [List.length_append, List.length_cons, List.length_nil]; omega⟩, ih _ _ ⟨by omega, by omega, by simp; omega, fun x hx => ?_⟩ (by omega)⟩
    rcases List.mem_append.1 hx with h | h
    · exact i3 x h
    · rw [List.mem_singleton.1 h]; exact maskS_mask _ _
  have u1 : i < ((placesS p).length : Int) → 0 ≤ IntKind.wrap .u64 (IntKind.wrap .i64 (i + 0)) := fun hd => by rw [IntKind.wrap_u64]; omega
  refine br_dec (fun hd => ?_) (fun hd => ?_)
  · replace sc := sc hd
    have u1 := u1 hd
    refine br_dec (fun hL => ?_) (fun hL => ?_)
    · refine ⟨⟨i0, hL, by rw [rowAt_on l i i0 hL]; rfl⟩, okSh_ok _ l i (fun _ => rfl) i0 hL, br_dec (fun hK => ?_) (fun hK => sc _)⟩
      exact ⟨u1, br_beq (fun _ => ⟨⟨i0, hK, by rw [rowAt_on k i i0 hK]; rfl⟩, okSh_ok _ k i (fun _ => rfl) i0 hK, sc _⟩) (fun _ => sc _)⟩
    · refine br_dec (fun hK => ?_) (fun hK => sc _)
      exact ⟨u1, br_beq (fun _ => ⟨⟨i0, hK, by rw [rowAt_on k i i0 hK]; rfl⟩, okSh_ok _ k i (fun _ => rfl) i0 hK, sc _⟩) (fun _ => sc _)⟩
  · have hlen : xs.length = (placesS p).length := by omega
    obtain ⟨s, a1, a2, a3, a4, a5, a6⟩ := start_hold p hm xs hlen
    have hst : StJ p s xs := ⟨hlen, fun j hj => by
      rw [a5 j hj]
      refine i3 _ ?_
      rw [rd_getI xs j (by omega)]
      exact List.getElem_mem _, a2, a3, a4, a6⟩
    refine ⟨PreOk.mk hm rfl, all_holds fun y hy => ?_⟩
    replace hy : y = (s, true) := by rw [hy, ← a1]; simp [v_aStart]
    subst hy
    exact br_f rfl (l_s2_0 p hm hw s s1 s2  xs hst l k how 0 ⟨by omega, by omega⟩)
theorem l_st0_0 (p : Prg) (hm : Mems p.mems) (hw : okW p.w) (s0 s1 s2 : Sta)  (l k : List Int) (how : Int) : (a_lStarts.at_ 0 (F_s0 l k how 0 (placesS p).length p (rowsOn (placesS p)) s0.r0 s0.r1 s0.r2 s0.r3 s0.pc s0.mem.length s0.stack.length s1.r0 s1.r1 s1.r2 s1.r3 s1.pc s1.mem.length s1.stack.length s2.r0 s2.r1 s2.r2 s2.r3 s2.pc s2.mem.length s2.stack.length ([] : List Int).length ([] : List Int).length ([] : List Int).length (rowsOn s0.mem) (rowsOn s0.stack) (rowsOn s1.mem) (rowsOn s1.stack) (rowsOn s2.mem) (rowsOn s2.stack) (rowsOn ([] : List Int)) (rowsOn ([] : List Int)) (rowsOn ([] : List Int)))).holds s_lStarts.cx a_lStarts.rs (fun r => r.le (rb true)) := by
  refine at_of_round s_lStarts_sound (m := 400) ?_
  rw [t_st0_0]
  try simp only [asRows_sl, asInt_int, asBool_bool, asStr_str, listOf_rowsOn, List.drop_zero, Prg.eta, Sta.eta, rowsOn_length, getD_drop, Nat.reduceAdd, rd_int, rd_PMem_name, rd_PMem_secret, rd_PMem_n, rd_PLabel_name, rd_PLabel_at_, rd_Ins_kind, rd_Ins_op, rd_Ins_d, rd_Ins_aR, rd_Ins_aN, rd_Ins_bR, rd_Ins_bN, rd_Ins_name, rd_Ins_target, rd_Ent_pc, rd_Ent_val, rd_Ent_addr, rd_Ent_fro, rd_Ent_next, rd_Ent_done, rd_Ent_known, rd_Ent_fault, rd_Place_reg, rd_Place_n, rd_Place_secret, rd_Obs_kind, rd_Obs_at_, rd_Dir_kind, rd_Dir_n, Prg.of_cells, Sta.of_cells]
  exact l_s1_0 p hm hw s0 s1 s2  l k how (0, []) ⟨by dsimp only; omega, by dsimp only; omega, rfl, fun x h => by simp at h⟩
theorem c_lStarts_good : c_lStarts.fe.Good Try.prog := by
  refine FT.good c_lStarts ⟨Try.f10, by kernel_rfl, by decide +kernel, by kernel_rfl⟩ (fun ⟨m, l, k, how⟩ => by first | rfl | simp [c_lStarts, rrRef, rnum, rby, rss, rnewI, rnewE, rstab, rplaces, ri, rb, rib, Sta.fresh]) fun ⟨m, l, k, how⟩ hp => ?_
  refine acalls_le s_lStarts_sound (fn := Try.f10) (a := a_lStarts) (nargs := 4) (tbl := [(6, [1, 2, 3, 9, 10, 11, 12, 13, 1000010000000900112003, 3000704004000900101001, 3000704005000900102001, 3000704011000900103001, 3000704012000900104001, 3000704018000900105001, 3000704019000900106001, 3000768000000900107001, 3000768001000900108001, 3000768002000900109001]), (9, [1, 2, 3, 9, 10, 11, 12, 13, 34, 35, 1000010000000900112003, 3000704004000900101001, 3000704005000900102001, 3000704011000900103001, 3000704012000900104001, 3000704018000900105001, 3000704019000900106001, 3000768000000900107001, 3000768001000900108001, 3000768002000900109001]), (24, [1, 2, 3, 9, 10, 11, 12, 13, 16, 18, 92, 93, 1000010000000900112003, 3000704004000900101001, 3000704005000900102001, 3000704011000900103001, 3000704012000900104001, 3000704018000900105001, 3000704019000900106001, 3000768000000900107001, 3000768001000900108001, 3000768002000900109001]), (30, [1, 2, 3, 9, 10, 11, 12, 13, 16, 18, 20, 1000010000000900112003, 3000704004000900101001, 3000704005000900102001, 3000704011000900103001, 3000704012000900104001, 3000704018000900105001, 3000704019000900106001, 3000768000000900107001, 3000768001000900108001, 3000768002000900109001]), (37, [9, 10, 11, 12, 21, 1000010000000900112003, 3000704004000900101001, 3000704005000900102001, 3000704011000900103001, 3000704012000900104001, 3000704018000900105001, 3000704019000900106001, 3000768000000900107001, 3000768001000900108001, 3000768002000900109001]), (40, [9, 10, 11, 12, 21, 22, 1000010000000900112003, 3000704004000900101001, 3000704005000900102001, 3000704011000900103001, 3000704012000900104001, 3000704018000900105001, 3000704019000900106001, 3000768000000900107001, 3000768001000900108001, 3000768002000900109001]), (44, [9, 10, 11, 12, 21, 22, 23, 201, 202, 1000010000000900112003, 3000704004000900101001, 3000704005000900102001, 3000704011000900103001, 3000704012000900104001, 3000704018000900105001, 3000704019000900106001, 3000768000000900107001, 3000768001000900108001, 3000768002000900109001]), (1000000023, [1, 2, 3, 9, 10, 11, 12, 13, 15, 34, 35, 1000010000000900112003, 3000704004000900101001, 3000704005000900102001, 3000704011000900103001, 3000704012000900104001, 3000704018000900105001, 3000704019000900106001, 3000768000000900107001, 3000768001000900108001, 3000768002000900109001]), (1000000038, [1, 2, 3, 9, 10, 11, 12, 13, 16, 18, 20, 1000010000000900112003, 3000704004000900101001, 3000704005000900102001, 3000704011000900103001, 3000704012000900104001, 3000704018000900105001, 3000704019000900106001, 3000768000000900107001, 3000768001000900108001, 3000768002000900109001])]) (by kernel_rfl) (by kernel_rfl) rfl (m := 400) ?_
  show VC.holds _ _ _ (a_lStarts.start s_lStarts 400 [al m, al l, al k, ai how])
  rw [t_lStarts]
  try simp only [asRows_sl, asInt_int, asBool_bool, asStr_str, listOf_rowsOn, List.drop_zero, Prg.eta, Sta.eta, rowsOn_length, getD_drop, Nat.reduceAdd, rd_int, rd_PMem_name, rd_PMem_secret, rd_PMem_n, rd_PLabel_name, rd_PLabel_at_, rd_Ins_kind, rd_Ins_op, rd_Ins_d, rd_Ins_aR, rd_Ins_aN, rd_Ins_bR, rd_Ins_bN, rd_Ins_name, rd_Ins_target, rd_Ent_pc, rd_Ent_val, rd_Ent_addr, rd_Ent_fro, rd_Ent_next, rd_Ent_done, rd_Ent_known, rd_Ent_fault, rd_Place_reg, rd_Place_n, rd_Place_secret, rd_Obs_kind, rd_Obs_at_, rd_Dir_kind, rd_Dir_n, Prg.of_cells, Sta.of_cells]
  try simp only [c_lStarts] at hp
  refine ⟨PreOk.mk trivial rfl, all_holds fun p hp0 => ?_⟩
  have hwf : WFM p := by rw [hp0]; exact (makeS_spec _).1
  clear hp0
  have hm := hwf.toMems
  refine ⟨PreOk.mk hm rfl, all_holds fun q hq => ?_⟩
  replace hq : q = placesS p := by rw [hq]; simp [v_rPlaces]
  subst hq
  exact l_st0_0 p hm (by have := hwf.regs.hw; exact ⟨by omega, by omega⟩) (zeroSta 0) (zeroSta 0) (zeroSta 0) l k how
end Go.Proofs.Ytclabjihjopclaa.Ax
end
