/- Several texts in one, in their order. -/
import Derived.Test.YtmmlolampgnamaaDoorPart4
import Derived.Test.YtmmlolampgnamaaDoorAxRaw
section
/- The statement ShowTells. -/
namespace Go.Proofs.YtmmlolampgnamaaDoor.Ax
open Go.RowKit
set_option linter.unusedVariables false
set_option linter.unusedSimpArgs false
noncomputable def v_rSame : Sta × Sta → Bool := fun x => decide (x.1 = x.2)
noncomputable def sh_rSame : Bool → RR := fun b => rb b
theorem e_rSame (x : Sta × Sta) : sh_rSame (v_rSame x) = c_rSame.ans x := rfl
noncomputable def v_rShow : Prg × Sta → ByteArray := fun x => showS x.1 x.2
noncomputable def sh_rShow : ByteArray → RR := fun s => .c (.d (.str s))
theorem e_rShow (x : Prg × Sta) : sh_rShow (v_rShow x) = c_rShow.ans x := rfl
noncomputable def v_rParse : Prg × ByteArray → Sta × Int × Bool := fun x => parseS x.1 x.2
noncomputable def sh_rParse : Sta × Int × Bool → RR := fun y => rParse y
theorem e_rParse (x : Prg × ByteArray) : sh_rParse (v_rParse x) = c_rParse.ans x := rfl
def aB (l : List Byt) : A := .c (.sl (rowsOn l))
def aU (n : Int) : A := .c (.int .u8 n)
def rdTl : List A → List Int × List Int × List Byt × Int × Int
  | [.c (.sl l), .c (.sl m), .c (.sl b), .c (.int _ i), .c (.int _ j)] => (listOf Int l, listOf Int m, listOf Byt b, i, j)
  | _ => default
def c_lTl : FT (List Int × List Int × List Byt × Int × Int) := ⟨4, fun x => [al x.1, al x.2.1, aB x.2.2.1, ai x.2.2.2.1, aU x.2.2.2.2], rdTl, fun _ => True, fun x => rb true, false, fun x => by simp [al, ai, aB, aU, rdTl]⟩
noncomputable def a_lTl : FnA := (fnA Tryd.prog Tryd.f4 5 []).getD ⟨0, .skip, [], []⟩
noncomputable def s_lTl : Sp := spT [c_make.gfe v_make sh_make e_make, c_states.gfe v_states sh_states e_states, c_show.gfe v_show sh_show e_show, c_rShow.gfe v_rShow sh_rShow e_rShow, c_parse.gfe v_parse sh_parse e_parse, c_rParse.gfe v_rParse sh_rParse e_rParse, c_rSame.gfe v_rSame sh_rSame e_rSame, c_awake25.fe]
theorem s_lTl_sound : s_lTl.sound Tryd.prog := spT_sound fun e he => by
  simp only [List.mem_cons, List.not_mem_nil, or_false] at he
  rcases he with rfl | rfl | rfl | rfl | rfl | rfl | rfl | rfl
  · exact FT.gfe_good c_make_good
  · exact FT.gfe_good c_states_good
  · exact FT.gfe_good c_show_good
  · exact FT.gfe_good c_rShow_good
  · exact FT.gfe_good c_parse_good
  · exact FT.gfe_good c_rParse_good
  · exact FT.gfe_good c_rSame_good
  · exact c_awake25_good
set_option maxHeartbeats 4000000 in
set_option maxRecDepth 100000 in
theorem t_lTl (m l : List Int) (b : List Byt) (n u : Int) : a_lTl.start s_lTl 400 [al m, al l, aB b, ai n, aU u] =
(VC.br (decide ((200 : Int) < (↑(List.length (rowsOn b)) : Int)))
 (VC.need (PreOk c_awake25 PUnit.unit [])
 (VC.ret (some (RR.c (Rc.d (D.bool true))))))
 (VC.need (PreOk c_make (m, ()) [A.c (D.sl (rowsOn m))])
 (VC.all (v_make (listOf Int (rowsOn m), ())) fun (y5 : Prg) =>
 (VC.need (PreOk c_states (Prg.of (Prg.cells y5), l, (1 : Int)) [A.agg (Prg.cells y5), A.c (D.sl (rowsOn l)), A.c (D.int IntKind.i64 (1 : Int))])
 (VC.all (((startS (Prg.of (Prg.cells y5)) (toldS (List.length (placesS (Prg.of (Prg.cells y5)))) (padF (listOf Int (rowsOn l))) (List.length (placesS (Prg.of (Prg.cells y5)))))).fst, (startS (Prg.of (Prg.cells y5)) (toldS (List.length (placesS (Prg.of (Prg.cells y5)))) (twinF (1 : Int) (placesS (Prg.of (Prg.cells y5))) (listOf Int (rowsOn l))) (List.length (placesS (Prg.of (Prg.cells y5)))))).fst)) fun (y6 : Sta × Sta) =>
 (VC.need (PreOk c_show (Prg.of (Prg.cells y5), Sta.of (Sta.cells y6.fst)) [A.agg (Prg.cells y5), A.agg (Sta.cells y6.fst)])
 (VC.all (v_show (Prg.of (Prg.cells y5), Sta.of (Sta.cells y6.fst))) fun (y7 : ByteArray) =>
 (VC.need (PreOk c_rShow (Prg.of (Prg.cells y5), Sta.of (Sta.cells y6.fst)) [A.agg (Prg.cells y5), A.agg (Sta.cells y6.fst)])
 (VC.all (v_rShow (Prg.of (Prg.cells y5), Sta.of (Sta.cells y6.fst))) fun (y8 : ByteArray) =>
 (VC.br (!ByteArray.toList y7 == ByteArray.toList y8)
  (VC.ret (some (RR.c (Rc.d (D.bool false)))))
  (VC.need (ByteArray.size y7 ≤ (1000000 : Nat))
  (VC.br (decide ((0 : Int) < (↑(List.length (bytesR y7)) : Int)))
   (VC.need ((↑(List.length (bytesR y7)) : Int) ≠ (0 : Int))
   (VC.need ((0 : Int) ≤ Int.tmod (bits BinOp.and IntKind.i64 n (65535 : Int)) (↑(List.length (bytesR y7)) : Int) ∧ Int.tmod (bits BinOp.and IntKind.i64 n (65535 : Int)) (↑(List.length (bytesR y7)) : Int) < (↑(List.length (bytesR y7)) : Int))
   (VC.need (Int.toNat (Int.tmod (bits BinOp.and IntKind.i64 n (65535 : Int)) (↑(List.length (bytesR y7)) : Int)) < List.length (bytesR y7) ∧ List.length (rowAt (bytesR y7) (Int.toNat (Int.tmod (bits BinOp.and IntKind.i64 n (65535 : Int)) (↑(List.length (bytesR y7)) : Int)))) = (1 : Nat) ∧ okSh [Kd.int IntKind.u8] (List.drop (0 : Nat) (rowAt (bytesR y7) (Int.toNat (Int.tmod (bits BinOp.and IntKind.i64 n (65535 : Int)) (↑(List.length (bytesR y7)) : Int))))))
   (VC.need ((0 : Int) ≤ Int.tmod (bits BinOp.and IntKind.i64 n (65535 : Int)) (↑(List.length (bytesR y7)) : Int) ∧ Int.tmod (bits BinOp.and IntKind.i64 n (65535 : Int)) (↑(List.length (bytesR y7)) : Int) < (↑(List.length (bytesR y7)) : Int))
   (VC.need (Int.toNat (Int.tmod (bits BinOp.and IntKind.i64 n (65535 : Int)) (↑(List.length (bytesR y7)) : Int)) < List.length (bytesR y7) ∧ List.length (rowAt (bytesR y7) (Int.toNat (Int.tmod (bits BinOp.and IntKind.i64 n (65535 : Int)) (↑(List.length (bytesR y7)) : Int)))) = (1 : Nat) ∧ (1 : Nat) ≤ (1 : Nat))
   (VC.need (rowsOn b = List.map (fun r ↦ [D.int IntKind.u8 (asInt (List.getD r (0 : Nat) D.nilp))]) (rowsOn b))
   (VC.need (List.set (bytesR y7) (Int.toNat (Int.tmod (bits BinOp.and IntKind.i64 n (65535 : Int)) (↑(List.length (bytesR y7)) : Int))) (splice (rowAt (bytesR y7) (Int.toNat (Int.tmod (bits BinOp.and IntKind.i64 n (65535 : Int)) (↑(List.length (bytesR y7)) : Int)))) (0 : Nat) [D.int IntKind.u8 (bits BinOp.xor IntKind.u8 (asInt (List.getD (List.drop (0 : Nat) (rowAt (bytesR y7) (Int.toNat (Int.tmod (bits BinOp.and IntKind.i64 n (65535 : Int)) (↑(List.length (bytesR y7)) : Int))))) (0 : Nat) D.nilp)) u)]) = List.map (fun r ↦ [D.int IntKind.u8 (asInt (List.getD r (0 : Nat) D.nilp))]) (List.set (bytesR y7) (Int.toNat (Int.tmod (bits BinOp.and IntKind.i64 n (65535 : Int)) (↑(List.length (bytesR y7)) : Int))) (splice (rowAt (bytesR y7) (Int.toNat (Int.tmod (bits BinOp.and IntKind.i64 n (65535 : Int)) (↑(List.length (bytesR y7)) : Int)))) (0 : Nat) [D.int IntKind.u8 (bits BinOp.xor IntKind.u8 (asInt (List.getD (List.drop (0 : Nat) (rowAt (bytesR y7) (Int.toNat (Int.tmod (bits BinOp.and IntKind.i64 n (65535 : Int)) (↑(List.length (bytesR y7)) : Int))))) (0 : Nat) D.nilp)) u)])))
   (VC.need (IntKind.wrap IntKind.i64 ((↑(ByteArray.size y7) : Int) + (1 : Int)) ≠ (0 : Int))
   (VC.need ((0 : Int) ≤ (0 : Int) ∧ (0 : Int) ≤ Int.tmod (bits BinOp.and IntKind.i64 n (65535 : Int)) (IntKind.wrap IntKind.i64 ((↑(ByteArray.size y7) : Int) + (1 : Int))) ∧ Int.tmod (bits BinOp.and IntKind.i64 n (65535 : Int)) (IntKind.wrap IntKind.i64 ((↑(ByteArray.size y7) : Int) + (1 : Int))) ≤ (↑(ByteArray.size y7) : Int))
   (VC.need (rowsOn b = List.map (fun r ↦ [D.int IntKind.u8 (asInt (List.getD r (0 : Nat) D.nilp))]) (rowsOn b))
   (VC.need (ByteArray.size y7 + ByteArray.size (strOfNums (List.map (fun r ↦ asInt (List.getD r (0 : Nat) D.nilp)) (rowsOn b))) ≤ (9223372036854775807 : Nat))
   (VC.need (ByteArray.size y7 + (1 : Nat) ≤ (9223372036854775807 : Nat))
   (VC.need ((0 : Int) ≤ (0 : Int) ∧ (0 : Int) < (6 : Int))
   (VC.need ((0 : Nat) < List.length [[D.str y7], [D.str (strOfNums (List.map (fun r ↦ asInt (List.getD r (0 : Nat) D.nilp)) (rowsOn b)))], [D.str (strOfNums (List.map (fun r ↦ asInt (List.getD r (0 : Nat) D.nilp)) (List.set (bytesR y7) (Int.toNat (Int.tmod (bits BinOp.and IntKind.i64 n (65535 : Int)) (↑(List.length (bytesR y7)) : Int))) (splice (rowAt (bytesR y7) (Int.toNat (Int.tmod (bits BinOp.and IntKind.i64 n (65535 : Int)) (↑(List.length (bytesR y7)) : Int)))) (0 : Nat) [D.int IntKind.u8 (bits BinOp.xor IntKind.u8 (asInt (List.getD (List.drop (0 : Nat) (rowAt (bytesR y7) (Int.toNat (Int.tmod (bits BinOp.and IntKind.i64 n (65535 : Int)) (↑(List.length (bytesR y7)) : Int))))) (0 : Nat) D.nilp)) u)]))))], [D.str (ByteArray.extract y7 (0 : Nat) (Int.toNat (Int.tmod (bits BinOp.and IntKind.i64 n (65535 : Int)) (IntKind.wrap IntKind.i64 ((↑(ByteArray.size y7) : Int) + (1 : Int))))))], [D.str (y7 ++ strOfNums (List.map (fun r ↦ asInt (List.getD r (0 : Nat) D.nilp)) (rowsOn b)))], [D.str (y7 ++ { data := #[(32 : UInt8)] })]] ∧ List.length [D.str y7] = (1 : Nat) ∧ okSh [Kd.str] [D.str y7])
   (VC.need (PreOk c_parse (Prg.of (Prg.cells y5), asStr (D.str y7)) [A.agg (Prg.cells y5), A.c (D.str (asStr (D.str y7)))])
   (VC.all (v_parse (Prg.of (Prg.cells y5), asStr (D.str y7))) fun (y9 : Sta × Int × Bool) =>
   (VC.need (PreOk c_rParse (Prg.of (Prg.cells y5), asStr (D.str y7)) [A.agg (Prg.cells y5), A.c (D.str (asStr (D.str y7)))])
   (VC.all (v_rParse (Prg.of (Prg.cells y5), asStr (D.str y7))) fun (y10 : Sta × Int × Bool) =>
   (VC.br (if true = true then !y9.snd.snd == y10.snd.snd else y9.snd.snd == y10.snd.snd)
    (VC.ret (some (RR.c (Rc.d (D.bool false)))))
    (VC.br (y9.snd.fst != y10.snd.fst)
     (VC.ret (some (RR.c (Rc.d (D.bool false)))))
     (VC.need (PreOk c_rSame (Sta.of (Sta.cells y9.fst), Sta.of (Sta.cells y10.fst)) [A.agg (Sta.cells y9.fst), A.agg (Sta.cells y10.fst)])
     (VC.all (v_rSame (Sta.of (Sta.cells y9.fst), Sta.of (Sta.cells y10.fst))) fun (y11 : Bool) =>
     (VC.br (!y11)
      (VC.ret (some (RR.c (Rc.d (D.bool false)))))
      (VC.need ((0 : Int) ≤ (1 : Int) ∧ (1 : Int) < (6 : Int))
      (VC.need ((1 : Nat) < List.length [[D.str y7], [D.str (strOfNums (List.map (fun r ↦ asInt (List.getD r (0 : Nat) D.nilp)) (rowsOn b)))], [D.str (strOfNums (List.map (fun r ↦ asInt (List.getD r (0 : Nat) D.nilp)) (List.set (bytesR y7) (Int.toNat (Int.tmod (bits BinOp.and IntKind.i64 n (65535 : Int)) (↑(List.length (bytesR y7)) : Int))) (splice (rowAt (bytesR y7) (Int.toNat (Int.tmod (bits BinOp.and IntKind.i64 n (65535 : Int)) (↑(List.length (bytesR y7)) : Int)))) (0 : Nat) [D.int IntKind.u8 (bits BinOp.xor IntKind.u8 (asInt (List.getD (List.drop (0 : Nat) (rowAt (bytesR y7) (Int.toNat (Int.tmod (bits BinOp.and IntKind.i64 n (65535 : Int)) (↑(List.length (bytesR y7)) : Int))))) (0 : Nat) D.nilp)) u)]))))], [D.str (ByteArray.extract y7 (0 : Nat) (Int.toNat (Int.tmod (bits BinOp.and IntKind.i64 n (65535 : Int)) (IntKind.wrap IntKind.i64 ((↑(ByteArray.size y7) : Int) + (1 : Int))))))], [D.str (y7 ++ strOfNums (List.map (fun r ↦ asInt (List.getD r (0 : Nat) D.nilp)) (rowsOn b)))], [D.str (y7 ++ { data := #[(32 : UInt8)] })]] ∧ List.length [D.str (strOfNums (List.map (fun r ↦ asInt (List.getD r (0 : Nat) D.nilp)) (rowsOn b)))] = (1 : Nat) ∧ okSh [Kd.str] [D.str (strOfNums (List.map (fun r ↦ asInt (List.getD r (0 : Nat) D.nilp)) (rowsOn b)))])
      (VC.need (PreOk c_parse (Prg.of (Prg.cells y5), asStr (D.str (strOfNums (List.map (fun r ↦ asInt (List.getD r (0 : Nat) D.nilp)) (rowsOn b))))) [A.agg (Prg.cells y5), A.c (D.str (asStr (D.str (strOfNums (List.map (fun r ↦ asInt (List.getD r (0 : Nat) D.nilp)) (rowsOn b))))))])
      (VC.all (v_parse (Prg.of (Prg.cells y5), asStr (D.str (strOfNums (List.map (fun r ↦ asInt (List.getD r (0 : Nat) D.nilp)) (rowsOn b)))))) fun (y12 : Sta × Int × Bool) =>
      (VC.need (PreOk c_rParse (Prg.of (Prg.cells y5), asStr (D.str (strOfNums (List.map (fun r ↦ asInt (List.getD r (0 : Nat) D.nilp)) (rowsOn b))))) [A.agg (Prg.cells y5), A.c (D.str (asStr (D.str (strOfNums (List.map (fun r ↦ asInt (List.getD r (0 : Nat) D.nilp)) (rowsOn b))))))])
      (VC.all (v_rParse (Prg.of (Prg.cells y5), asStr (D.str (strOfNums (List.map (fun r ↦ asInt (List.getD r (0 : Nat) D.nilp)) (rowsOn b)))))) fun (y13 : Sta × Int × Bool) =>
      (VC.br (if true = true then !y12.snd.snd == y13.snd.snd else y12.snd.snd == y13.snd.snd)
       (VC.ret (some (RR.c (Rc.d (D.bool false)))))
       (VC.br (y12.snd.fst != y13.snd.fst)
        (VC.ret (some (RR.c (Rc.d (D.bool false)))))
        (VC.need (PreOk c_rSame (Sta.of (Sta.cells y12.fst), Sta.of (Sta.cells y13.fst)) [A.agg (Sta.cells y12.fst), A.agg (Sta.cells y13.fst)])
        (VC.all (v_rSame (Sta.of (Sta.cells y12.fst), Sta.of (Sta.cells y13.fst))) fun (y14 : Bool) =>
        (VC.br (!y14)
         (VC.ret (some (RR.c (Rc.d (D.bool false)))))
         (VC.need ((0 : Int) ≤ (2 : Int) ∧ (2 : Int) < (6 : Int))
         (VC.need ((2 : Nat) < List.length [[D.str y7], [D.str (strOfNums (List.map (fun r ↦ asInt (List.getD r (0 : Nat) D.nilp)) (rowsOn b)))], [D.str (strOfNums (List.map (fun r ↦ asInt (List.getD r (0 : Nat) D.nilp)) (List.set (bytesR y7) (Int.toNat (Int.tmod (bits BinOp.and IntKind.i64 n (65535 : Int)) (↑(List.length (bytesR y7)) : Int))) (splice (rowAt (bytesR y7) (Int.toNat (Int.tmod (bits BinOp.and IntKind.i64 n (65535 : Int)) (↑(List.length (bytesR y7)) : Int)))) (0 : Nat) [D.int IntKind.u8 (bits BinOp.xor IntKind.u8 (asInt (List.getD (List.drop (0 : Nat) (rowAt (bytesR y7) (Int.toNat (Int.tmod (bits BinOp.and IntKind.i64 n (65535 : Int)) (↑(List.length (bytesR y7)) : Int))))) (0 : Nat) D.nilp)) u)]))))], [D.str (ByteArray.extract y7 (0 : Nat) (Int.toNat (Int.tmod (bits BinOp.and IntKind.i64 n (65535 : Int)) (IntKind.wrap IntKind.i64 ((↑(ByteArray.size y7) : Int) + (1 : Int))))))], [D.str (y7 ++ strOfNums (List.map (fun r ↦ asInt (List.getD r (0 : Nat) D.nilp)) (rowsOn b)))], [D.str (y7 ++ { data := #[(32 : UInt8)] })]] ∧ List.length [D.str (strOfNums (List.map (fun r ↦ asInt (List.getD r (0 : Nat) D.nilp)) (List.set (bytesR y7) (Int.toNat (Int.tmod (bits BinOp.and IntKind.i64 n (65535 : Int)) (↑(List.length (bytesR y7)) : Int))) (splice (rowAt (bytesR y7) (Int.toNat (Int.tmod (bits BinOp.and IntKind.i64 n (65535 : Int)) (↑(List.length (bytesR y7)) : Int)))) (0 : Nat) [D.int IntKind.u8 (bits BinOp.xor IntKind.u8 (asInt (List.getD (List.drop (0 : Nat) (rowAt (bytesR y7) (Int.toNat (Int.tmod (bits BinOp.and IntKind.i64 n (65535 : Int)) (↑(List.length (bytesR y7)) : Int))))) (0 : Nat) D.nilp)) u)]))))] = (1 : Nat) ∧ okSh [Kd.str] [D.str (strOfNums (List.map (fun r ↦ asInt (List.getD r (0 : Nat) D.nilp)) (List.set (bytesR y7) (Int.toNat (Int.tmod (bits BinOp.and IntKind.i64 n (65535 : Int)) (↑(List.length (bytesR y7)) : Int))) (splice (rowAt (bytesR y7) (Int.toNat (Int.tmod (bits BinOp.and IntKind.i64 n (65535 : Int)) (↑(List.length (bytesR y7)) : Int)))) (0 : Nat) [D.int IntKind.u8 (bits BinOp.xor IntKind.u8 (asInt (List.getD (List.drop (0 : Nat) (rowAt (bytesR y7) (Int.toNat (Int.tmod (bits BinOp.and IntKind.i64 n (65535 : Int)) (↑(List.length (bytesR y7)) : Int))))) (0 : Nat) D.nilp)) u)]))))])
         (VC.need (PreOk c_parse (Prg.of (Prg.cells y5), asStr (D.str (strOfNums (List.map (fun r ↦ asInt (List.getD r (0 : Nat) D.nilp)) (List.set (bytesR y7) (Int.toNat (Int.tmod (bits BinOp.and IntKind.i64 n (65535 : Int)) (↑(List.length (bytesR y7)) : Int))) (splice (rowAt (bytesR y7) (Int.toNat (Int.tmod (bits BinOp.and IntKind.i64 n (65535 : Int)) (↑(List.length (bytesR y7)) : Int)))) (0 : Nat) [D.int IntKind.u8 (bits BinOp.xor IntKind.u8 (asInt (List.getD (List.drop (0 : Nat) (rowAt (bytesR y7) (Int.toNat (Int.tmod (bits BinOp.and IntKind.i64 n (65535 : Int)) (↑(List.length (bytesR y7)) : Int))))) (0 : Nat) D.nilp)) u)])))))) [A.agg (Prg.cells y5), A.c (D.str (asStr (D.str (strOfNums (List.map (fun r ↦ asInt (List.getD r (0 : Nat) D.nilp)) (List.set (bytesR y7) (Int.toNat (Int.tmod (bits BinOp.and IntKind.i64 n (65535 : Int)) (↑(List.length (bytesR y7)) : Int))) (splice (rowAt (bytesR y7) (Int.toNat (Int.tmod (bits BinOp.and IntKind.i64 n (65535 : Int)) (↑(List.length (bytesR y7)) : Int)))) (0 : Nat) [D.int IntKind.u8 (bits BinOp.xor IntKind.u8 (asInt (List.getD (List.drop (0 : Nat) (rowAt (bytesR y7) (Int.toNat (Int.tmod (bits BinOp.and IntKind.i64 n (65535 : Int)) (↑(List.length (bytesR y7)) : Int))))) (0 : Nat) D.nilp)) u)])))))))])
         (VC.all (v_parse (Prg.of (Prg.cells y5), asStr (D.str (strOfNums (List.map (fun r ↦ asInt (List.getD r (0 : Nat) D.nilp)) (List.set (bytesR y7) (Int.toNat (Int.tmod (bits BinOp.and IntKind.i64 n (65535 : Int)) (↑(List.length (bytesR y7)) : Int))) (splice (rowAt (bytesR y7) (Int.toNat (Int.tmod (bits BinOp.and IntKind.i64 n (65535 : Int)) (↑(List.length (bytesR y7)) : Int)))) (0 : Nat) [D.int IntKind.u8 (bits BinOp.xor IntKind.u8 (asInt (List.getD (List.drop (0 : Nat) (rowAt (bytesR y7) (Int.toNat (Int.tmod (bits BinOp.and IntKind.i64 n (65535 : Int)) (↑(List.length (bytesR y7)) : Int))))) (0 : Nat) D.nilp)) u)]))))))) fun (y15 : Sta × Int × Bool) =>
         (VC.need (PreOk c_rParse (Prg.of (Prg.cells y5), asStr (D.str (strOfNums (List.map (fun r ↦ asInt (List.getD r (0 : Nat) D.nilp)) (List.set (bytesR y7) (Int.toNat (Int.tmod (bits BinOp.and IntKind.i64 n (65535 : Int)) (↑(List.length (bytesR y7)) : Int))) (splice (rowAt (bytesR y7) (Int.toNat (Int.tmod (bits BinOp.and IntKind.i64 n (65535 : Int)) (↑(List.length (bytesR y7)) : Int)))) (0 : Nat) [D.int IntKind.u8 (bits BinOp.xor IntKind.u8 (asInt (List.getD (List.drop (0 : Nat) (rowAt (bytesR y7) (Int.toNat (Int.tmod (bits BinOp.and IntKind.i64 n (65535 : Int)) (↑(List.length (bytesR y7)) : Int))))) (0 : Nat) D.nilp)) u)])))))) [A.agg (Prg.cells y5), A.c (D.str (asStr (D.str (strOfNums (List.map (fun r ↦ asInt (List.getD r (0 : Nat) D.nilp)) (List.set (bytesR y7) (Int.toNat (Int.tmod (bits BinOp.and IntKind.i64 n (65535 : Int)) (↑(List.length (bytesR y7)) : Int))) (splice (rowAt (bytesR y7) (Int.toNat (Int.tmod (bits BinOp.and IntKind.i64 n (65535 : Int)) (↑(List.length (bytesR y7)) : Int)))) (0 : Nat) [D.int IntKind.u8 (bits BinOp.xor IntKind.u8 (asInt (List.getD (List.drop (0 : Nat) (rowAt (bytesR y7) (Int.toNat (Int.tmod (bits BinOp.and IntKind.i64 n (65535 : Int)) (↑(List.length (bytesR y7)) : Int))))) (0 : Nat) D.nilp)) u)])))))))])
         (VC.all (v_rParse (Prg.of (Prg.cells y5), asStr (D.str (strOfNums (List.map (fun r ↦ asInt (List.getD r (0 : Nat) D.nilp)) (List.set (bytesR y7) (Int.toNat (Int.tmod (bits BinOp.and IntKind.i64 n (65535 : Int)) (↑(List.length (bytesR y7)) : Int))) (splice (rowAt (bytesR y7) (Int.toNat (Int.tmod (bits BinOp.and IntKind.i64 n (65535 : Int)) (↑(List.length (bytesR y7)) : Int)))) (0 : Nat) [D.int IntKind.u8 (bits BinOp.xor IntKind.u8 (asInt (List.getD (List.drop (0 : Nat) (rowAt (bytesR y7) (Int.toNat (Int.tmod (bits BinOp.and IntKind.i64 n (65535 : Int)) (↑(List.length (bytesR y7)) : Int))))) (0 : Nat) D.nilp)) u)]))))))) fun (y16 : Sta × Int × Bool) =>
         (VC.br (if true = true then !y15.snd.snd == y16.snd.snd else y15.snd.snd == y16.snd.snd)
          (VC.ret (some (RR.c (Rc.d (D.bool false)))))
          (VC.br (y15.snd.fst != y16.snd.fst)
           (VC.ret (some (RR.c (Rc.d (D.bool false)))))
           (VC.need (PreOk c_rSame (Sta.of (Sta.cells y15.fst), Sta.of (Sta.cells y16.fst)) [A.agg (Sta.cells y15.fst), A.agg (Sta.cells y16.fst)])
           (VC.all (v_rSame (Sta.of (Sta.cells y15.fst), Sta.of (Sta.cells y16.fst))) fun (y17 : Bool) =>
           (VC.br (!y17)
            (VC.ret (some (RR.c (Rc.d (D.bool false)))))
            (VC.need ((0 : Int) ≤ (3 : Int) ∧ (3 : Int) < (6 : Int))
            (VC.need ((3 : Nat) < List.length [[D.str y7], [D.str (strOfNums (List.map (fun r ↦ asInt (List.getD r (0 : Nat) D.nilp)) (rowsOn b)))], [D.str (strOfNums (List.map (fun r ↦ asInt (List.getD r (0 : Nat) D.nilp)) (List.set (bytesR y7) (Int.toNat (Int.tmod (bits BinOp.and IntKind.i64 n (65535 : Int)) (↑(List.length (bytesR y7)) : Int))) (splice (rowAt (bytesR y7) (Int.toNat (Int.tmod (bits BinOp.and IntKind.i64 n (65535 : Int)) (↑(List.length (bytesR y7)) : Int)))) (0 : Nat) [D.int IntKind.u8 (bits BinOp.xor IntKind.u8 (asInt (List.getD (List.drop (0 : Nat) (rowAt (bytesR y7) (Int.toNat (Int.tmod (bits BinOp.and IntKind.i64 n (65535 : Int)) (↑(List.length (bytesR y7)) : Int))))) (0 : Nat) D.nilp)) u)]))))], [D.str (ByteArray.extract y7 (0 : Nat) (Int.toNat (Int.tmod (bits BinOp.and IntKind.i64 n (65535 : Int)) (IntKind.wrap IntKind.i64 ((↑(ByteArray.size y7) : Int) + (1 : Int))))))], [D.str (y7 ++ strOfNums (List.map (fun r ↦ asInt (List.getD r (0 : Nat) D.nilp)) (rowsOn b)))], [D.str (y7 ++ { data := #[(32 : UInt8)] })]] ∧ List.length [D.str (ByteArray.extract y7 (0 : Nat) (Int.toNat (Int.tmod (bits BinOp.and IntKind.i64 n (65535 : Int)) (IntKind.wrap IntKind.i64 ((↑(ByteArray.size y7) : Int) + (1 : Int))))))] = (1 : Nat) ∧ okSh [Kd.str] [D.str (ByteArray.extract y7 (0 : Nat) (Int.toNat (Int.tmod (bits BinOp.and IntKind.i64 n (65535 : Int)) (IntKind.wrap IntKind.i64 ((↑(ByteArray.size y7) : Int) + (1 : Int))))))])
            (VC.need (PreOk c_parse (Prg.of (Prg.cells y5), asStr (D.str (ByteArray.extract y7 (0 : Nat) (Int.toNat (Int.tmod (bits BinOp.and IntKind.i64 n (65535 : Int)) (IntKind.wrap IntKind.i64 ((↑(ByteArray.size y7) : Int) + (1 : Int)))))))) [A.agg (Prg.cells y5), A.c (D.str (asStr (D.str (ByteArray.extract y7 (0 : Nat) (Int.toNat (Int.tmod (bits BinOp.and IntKind.i64 n (65535 : Int)) (IntKind.wrap IntKind.i64 ((↑(ByteArray.size y7) : Int) + (1 : Int)))))))))])
            (VC.all (v_parse (Prg.of (Prg.cells y5), asStr (D.str (ByteArray.extract y7 (0 : Nat) (Int.toNat (Int.tmod (bits BinOp.and IntKind.i64 n (65535 : Int)) (IntKind.wrap IntKind.i64 ((↑(ByteArray.size y7) : Int) + (1 : Int))))))))) fun (y18 : Sta × Int × Bool) =>
            (VC.need (PreOk c_rParse (Prg.of (Prg.cells y5), asStr (D.str (ByteArray.extract y7 (0 : Nat) (Int.toNat (Int.tmod (bits BinOp.and IntKind.i64 n (65535 : Int)) (IntKind.wrap IntKind.i64 ((↑(ByteArray.size y7) : Int) + (1 : Int)))))))) [A.agg (Prg.cells y5), A.c (D.str (asStr (D.str (ByteArray.extract y7 (0 : Nat) (Int.toNat (Int.tmod (bits BinOp.and IntKind.i64 n (65535 : Int)) (IntKind.wrap IntKind.i64 ((↑(ByteArray.size y7) : Int) + (1 : Int)))))))))])
            (VC.all (v_rParse (Prg.of (Prg.cells y5), asStr (D.str (ByteArray.extract y7 (0 : Nat) (Int.toNat (Int.tmod (bits BinOp.and IntKind.i64 n (65535 : Int)) (IntKind.wrap IntKind.i64 ((↑(ByteArray.size y7) : Int) + (1 : Int))))))))) fun (y19 : Sta × Int × Bool) =>
            (VC.br (if true = true then !y18.snd.snd == y19.snd.snd else y18.snd.snd == y19.snd.snd)
             (VC.ret (some (RR.c (Rc.d (D.bool false)))))
             (VC.br (y18.snd.fst != y19.snd.fst)
              (VC.ret (some (RR.c (Rc.d (D.bool false)))))
              (VC.need (PreOk c_rSame (Sta.of (Sta.cells y18.fst), Sta.of (Sta.cells y19.fst)) [A.agg (Sta.cells y18.fst), A.agg (Sta.cells y19.fst)])
              (VC.all (v_rSame (Sta.of (Sta.cells y18.fst), Sta.of (Sta.cells y19.fst))) fun (y20 : Bool) =>
              (VC.br (!y20)
               (VC.ret (some (RR.c (Rc.d (D.bool false)))))
               (VC.need ((0 : Int) ≤ (4 : Int) ∧ (4 : Int) < (6 : Int))
               (VC.need ((4 : Nat) < List.length [[D.str y7], [D.str (strOfNums (List.map (fun r ↦ asInt (List.getD r (0 : Nat) D.nilp)) (rowsOn b)))], [D.str (strOfNums (List.map (fun r ↦ asInt (List.getD r (0 : Nat) D.nilp)) (List.set (bytesR y7) (Int.toNat (Int.tmod (bits BinOp.and IntKind.i64 n (65535 : Int)) (↑(List.length (bytesR y7)) : Int))) (splice (rowAt (bytesR y7) (Int.toNat (Int.tmod (bits BinOp.and IntKind.i64 n (65535 : Int)) (↑(List.length (bytesR y7)) : Int)))) (0 : Nat) [D.int IntKind.u8 (bits BinOp.xor IntKind.u8 (asInt (List.getD (List.drop (0 : Nat) (rowAt (bytesR y7) (Int.toNat (Int.tmod (bits BinOp.and IntKind.i64 n (65535 : Int)) (↑(List.length (bytesR y7)) : Int))))) (0 : Nat) D.nilp)) u)]))))], [D.str (ByteArray.extract y7 (0 : Nat) (Int.toNat (Int.tmod (bits BinOp.and IntKind.i64 n (65535 : Int)) (IntKind.wrap IntKind.i64 ((↑(ByteArray.size y7) : Int) + (1 : Int))))))], [D.str (y7 ++ strOfNums (List.map (fun r ↦ asInt (List.getD r (0 : Nat) D.nilp)) (rowsOn b)))], [D.str (y7 ++ { data := #[(32 : UInt8)] })]] ∧ List.length [D.str (y7 ++ strOfNums (List.map (fun r ↦ asInt (List.getD r (0 : Nat) D.nilp)) (rowsOn b)))] = (1 : Nat) ∧ okSh [Kd.str] [D.str (y7 ++ strOfNums (List.map (fun r ↦ asInt (List.getD r (0 : Nat) D.nilp)) (rowsOn b)))])
               (VC.need (PreOk c_parse (Prg.of (Prg.cells y5), asStr (D.str (y7 ++ strOfNums (List.map (fun r ↦ asInt (List.getD r (0 : Nat) D.nilp)) (rowsOn b))))) [A.agg (Prg.cells y5), A.c (D.str (asStr (D.str (y7 ++ strOfNums (List.map (fun r ↦ asInt (List.getD r (0 : Nat) D.nilp)) (rowsOn b))))))])
               (VC.all (v_parse (Prg.of (Prg.cells y5), asStr (D.str (y7 ++ strOfNums (List.map (fun r ↦ asInt (List.getD r (0 : Nat) D.nilp)) (rowsOn b)))))) fun (y21 : Sta × Int × Bool) =>
               (VC.need (PreOk c_rParse (Prg.of (Prg.cells y5), asStr (D.str (y7 ++ strOfNums (List.map (fun r ↦ asInt (List.getD r (0 : Nat) D.nilp)) (rowsOn b))))) [A.agg (Prg.cells y5), A.c (D.str (asStr (D.str (y7 ++ strOfNums (List.map (fun r ↦ asInt (List.getD r (0 : Nat) D.nilp)) (rowsOn b))))))])
               (VC.all (v_rParse (Prg.of (Prg.cells y5), asStr (D.str (y7 ++ strOfNums (List.map (fun r ↦ asInt (List.getD r (0 : Nat) D.nilp)) (rowsOn b)))))) fun (y22 : Sta × Int × Bool) =>
               (VC.br (if true = true then !y21.snd.snd == y22.snd.snd else y21.snd.snd == y22.snd.snd)
                (VC.ret (some (RR.c (Rc.d (D.bool false)))))
                (VC.br (y21.snd.fst != y22.snd.fst)
                 (VC.ret (some (RR.c (Rc.d (D.bool false)))))
                 (VC.need (PreOk c_rSame (Sta.of (Sta.cells y21.fst), Sta.of (Sta.cells y22.fst)) [A.agg (Sta.cells y21.fst), A.agg (Sta.cells y22.fst)])
                 (VC.all (v_rSame (Sta.of (Sta.cells y21.fst), Sta.of (Sta.cells y22.fst))) fun (y23 : Bool) =>
                 (VC.br (!y23)
                  (VC.ret (some (RR.c (Rc.d (D.bool false)))))
                  (VC.need ((0 : Int) ≤ (5 : Int) ∧ (5 : Int) < (6 : Int))
                  (VC.need ((5 : Nat) < List.length [[D.str y7], [D.str (strOfNums (List.map (fun r ↦ asInt (List.getD r (0 : Nat) D.nilp)) (rowsOn b)))], [D.str (strOfNums (List.map (fun r ↦ asInt (List.getD r (0 : Nat) D.nilp)) (List.set (bytesR y7) (Int.toNat (Int.tmod (bits BinOp.and IntKind.i64 n (65535 : Int)) (↑(List.length (bytesR y7)) : Int))) (splice (rowAt (bytesR y7) (Int.toNat (Int.tmod (bits BinOp.and IntKind.i64 n (65535 : Int)) (↑(List.length (bytesR y7)) : Int)))) (0 : Nat) [D.int IntKind.u8 (bits BinOp.xor IntKind.u8 (asInt (List.getD (List.drop (0 : Nat) (rowAt (bytesR y7) (Int.toNat (Int.tmod (bits BinOp.and IntKind.i64 n (65535 : Int)) (↑(List.length (bytesR y7)) : Int))))) (0 : Nat) D.nilp)) u)]))))], [D.str (ByteArray.extract y7 (0 : Nat) (Int.toNat (Int.tmod (bits BinOp.and IntKind.i64 n (65535 : Int)) (IntKind.wrap IntKind.i64 ((↑(ByteArray.size y7) : Int) + (1 : Int))))))], [D.str (y7 ++ strOfNums (List.map (fun r ↦ asInt (List.getD r (0 : Nat) D.nilp)) (rowsOn b)))], [D.str (y7 ++ { data := #[(32 : UInt8)] })]] ∧ List.length [D.str (y7 ++ { data := #[(32 : UInt8)] })] = (1 : Nat) ∧ okSh [Kd.str] [D.str (y7 ++ { data := #[(32 : UInt8)] })])
                  (VC.need (PreOk c_parse (Prg.of (Prg.cells y5), asStr (D.str (y7 ++ { data := #[(32 : UInt8)] }))) [A.agg (Prg.cells y5), A.c (D.str (asStr (D.str (y7 ++ { data := #[(32 : UInt8)] }))))])
                  (VC.all (v_parse (Prg.of (Prg.cells y5), asStr (D.str (y7 ++ { data := #[(32 : UInt8)] })))) fun (y24 : Sta × Int × Bool) =>
                  (VC.need (PreOk c_rParse (Prg.of (Prg.cells y5), asStr (D.str (y7 ++ { data := #[(32 : UInt8)] }))) [A.agg (Prg.cells y5), A.c (D.str (asStr (D.str (y7 ++ { data := #[(32 : UInt8)] }))))])
                  (VC.all (v_rParse (Prg.of (Prg.cells y5), asStr (D.str (y7 ++ { data := #[(32 : UInt8)] })))) fun (y25 : Sta × Int × Bool) =>
                  (VC.br (if true = true then !y24.snd.snd == y25.snd.snd else y24.snd.snd == y25.snd.snd)
                   (VC.ret (some (RR.c (Rc.d (D.bool false)))))
                   (VC.br (y24.snd.fst != y25.snd.fst)
                    (VC.ret (some (RR.c (Rc.d (D.bool false)))))
                    (VC.need (PreOk c_rSame (Sta.of (Sta.cells y24.fst), Sta.of (Sta.cells y25.fst)) [A.agg (Sta.cells y24.fst), A.agg (Sta.cells y25.fst)])
                    (VC.all (v_rSame (Sta.of (Sta.cells y24.fst), Sta.of (Sta.cells y25.fst))) fun (y26 : Bool) =>
                    (VC.br (!y26)
                     (VC.ret (some (RR.c (Rc.d (D.bool false)))))
                     (VC.need (PreOk c_awake25 PUnit.unit [])
                     (VC.ret (some (RR.c (Rc.d (D.bool true))))))))))))))))))))))))))))))))))))))))))))))))))))))))))))))))))))))))))))))))))))
   (VC.need (rowsOn b = List.map (fun r ↦ [D.int IntKind.u8 (asInt (List.getD r (0 : Nat) D.nilp))]) (rowsOn b))
   (VC.need (bytesR y7 = List.map (fun r ↦ [D.int IntKind.u8 (asInt (List.getD r (0 : Nat) D.nilp))]) (bytesR y7))
   (VC.need (IntKind.wrap IntKind.i64 ((↑(ByteArray.size y7) : Int) + (1 : Int)) ≠ (0 : Int))
   (VC.need ((0 : Int) ≤ (0 : Int) ∧ (0 : Int) ≤ Int.tmod (bits BinOp.and IntKind.i64 n (65535 : Int)) (IntKind.wrap IntKind.i64 ((↑(ByteArray.size y7) : Int) + (1 : Int))) ∧ Int.tmod (bits BinOp.and IntKind.i64 n (65535 : Int)) (IntKind.wrap IntKind.i64 ((↑(ByteArray.size y7) : Int) + (1 : Int))) ≤ (↑(ByteArray.size y7) : Int))
   (VC.need (rowsOn b = List.map (fun r ↦ [D.int IntKind.u8 (asInt (List.getD r (0 : Nat) D.nilp))]) (rowsOn b))
   (VC.need (ByteArray.size y7 + ByteArray.size (strOfNums (List.map (fun r ↦ asInt (List.getD r (0 : Nat) D.nilp)) (rowsOn b))) ≤ (9223372036854775807 : Nat))
   (VC.need (ByteArray.size y7 + (1 : Nat) ≤ (9223372036854775807 : Nat))
   (VC.need ((0 : Int) ≤ (0 : Int) ∧ (0 : Int) < (6 : Int))
   (VC.need ((0 : Nat) < List.length [[D.str y7], [D.str (strOfNums (List.map (fun r ↦ asInt (List.getD r (0 : Nat) D.nilp)) (rowsOn b)))], [D.str (strOfNums (List.map (fun r ↦ asInt (List.getD r (0 : Nat) D.nilp)) (bytesR y7)))], [D.str (ByteArray.extract y7 (0 : Nat) (Int.toNat (Int.tmod (bits BinOp.and IntKind.i64 n (65535 : Int)) (IntKind.wrap IntKind.i64 ((↑(ByteArray.size y7) : Int) + (1 : Int))))))], [D.str (y7 ++ strOfNums (List.map (fun r ↦ asInt (List.getD r (0 : Nat) D.nilp)) (rowsOn b)))], [D.str (y7 ++ { data := #[(32 : UInt8)] })]] ∧ List.length [D.str y7] = (1 : Nat) ∧ okSh [Kd.str] [D.str y7])
   (VC.need (PreOk c_parse (Prg.of (Prg.cells y5), asStr (D.str y7)) [A.agg (Prg.cells y5), A.c (D.str (asStr (D.str y7)))])
   (VC.all (v_parse (Prg.of (Prg.cells y5), asStr (D.str y7))) fun (y9 : Sta × Int × Bool) =>
   (VC.need (PreOk c_rParse (Prg.of (Prg.cells y5), asStr (D.str y7)) [A.agg (Prg.cells y5), A.c (D.str (asStr (D.str y7)))])
   (VC.all (v_rParse (Prg.of (Prg.cells y5), asStr (D.str y7))) fun (y10 : Sta × Int × Bool) =>
   (VC.br (if true = true then !y9.snd.snd == y10.snd.snd else y9.snd.snd == y10.snd.snd)
    (VC.ret (some (RR.c (Rc.d (D.bool false)))))
    (VC.br (y9.snd.fst != y10.snd.fst)
     (VC.ret (some (RR.c (Rc.d (D.bool false)))))
     (VC.need (PreOk c_rSame (Sta.of (Sta.cells y9.fst), Sta.of (Sta.cells y10.fst)) [A.agg (Sta.cells y9.fst), A.agg (Sta.cells y10.fst)])
     (VC.all (v_rSame (Sta.of (Sta.cells y9.fst), Sta.of (Sta.cells y10.fst))) fun (y11 : Bool) =>
     (VC.br (!y11)
      (VC.ret (some (RR.c (Rc.d (D.bool false)))))
      (VC.need ((0 : Int) ≤ (1 : Int) ∧ (1 : Int) < (6 : Int))
      (VC.need ((1 : Nat) < List.length [[D.str y7], [D.str (strOfNums (List.map (fun r ↦ asInt (List.getD r (0 : Nat) D.nilp)) (rowsOn b)))], [D.str (strOfNums (List.map (fun r ↦ asInt (List.getD r (0 : Nat) D.nilp)) (bytesR y7)))], [D.str (ByteArray.extract y7 (0 : Nat) (Int.toNat (Int.tmod (bits BinOp.and IntKind.i64 n (65535 : Int)) (IntKind.wrap IntKind.i64 ((↑(ByteArray.size y7) : Int) + (1 : Int))))))], [D.str (y7 ++ strOfNums (List.map (fun r ↦ asInt (List.getD r (0 : Nat) D.nilp)) (rowsOn b)))], [D.str (y7 ++ { data := #[(32 : UInt8)] })]] ∧ List.length [D.str (strOfNums (List.map (fun r ↦ asInt (List.getD r (0 : Nat) D.nilp)) (rowsOn b)))] = (1 : Nat) ∧ okSh [Kd.str] [D.str (strOfNums (List.map (fun r ↦ asInt (List.getD r (0 : Nat) D.nilp)) (rowsOn b)))])
      (VC.need (PreOk c_parse (Prg.of (Prg.cells y5), asStr (D.str (strOfNums (List.map (fun r ↦ asInt (List.getD r (0 : Nat) D.nilp)) (rowsOn b))))) [A.agg (Prg.cells y5), A.c (D.str (asStr (D.str (strOfNums (List.map (fun r ↦ asInt (List.getD r (0 : Nat) D.nilp)) (rowsOn b))))))])
      (VC.all (v_parse (Prg.of (Prg.cells y5), asStr (D.str (strOfNums (List.map (fun r ↦ asInt (List.getD r (0 : Nat) D.nilp)) (rowsOn b)))))) fun (y12 : Sta × Int × Bool) =>
      (VC.need (PreOk c_rParse (Prg.of (Prg.cells y5), asStr (D.str (strOfNums (List.map (fun r ↦ asInt (List.getD r (0 : Nat) D.nilp)) (rowsOn b))))) [A.agg (Prg.cells y5), A.c (D.str (asStr (D.str (strOfNums (List.map (fun r ↦ asInt (List.getD r (0 : Nat) D.nilp)) (rowsOn b))))))])
      (VC.all (v_rParse (Prg.of (Prg.cells y5), asStr (D.str (strOfNums (List.map (fun r ↦ asInt (List.getD r (0 : Nat) D.nilp)) (rowsOn b)))))) fun (y13 : Sta × Int × Bool) =>
      (VC.br (if true = true then !y12.snd.snd == y13.snd.snd else y12.snd.snd == y13.snd.snd)
       (VC.ret (some (RR.c (Rc.d (D.bool false)))))
       (VC.br (y12.snd.fst != y13.snd.fst)
        (VC.ret (some (RR.c (Rc.d (D.bool false)))))
        (VC.need (PreOk c_rSame (Sta.of (Sta.cells y12.fst), Sta.of (Sta.cells y13.fst)) [A.agg (Sta.cells y12.fst), A.agg (Sta.cells y13.fst)])
        (VC.all (v_rSame (Sta.of (Sta.cells y12.fst), Sta.of (Sta.cells y13.fst))) fun (y14 : Bool) =>
        (VC.br (!y14)
         (VC.ret (some (RR.c (Rc.d (D.bool false)))))
         (VC.need ((0 : Int) ≤ (2 : Int) ∧ (2 : Int) < (6 : Int))
         (VC.need ((2 : Nat) < List.length [[D.str y7], [D.str (strOfNums (List.map (fun r ↦ asInt (List.getD r (0 : Nat) D.nilp)) (rowsOn b)))], [D.str (strOfNums (List.map (fun r ↦ asInt (List.getD r (0 : Nat) D.nilp)) (bytesR y7)))], [D.str (ByteArray.extract y7 (0 : Nat) (Int.toNat (Int.tmod (bits BinOp.and IntKind.i64 n (65535 : Int)) (IntKind.wrap IntKind.i64 ((↑(ByteArray.size y7) : Int) + (1 : Int))))))], [D.str (y7 ++ strOfNums (List.map (fun r ↦ asInt (List.getD r (0 : Nat) D.nilp)) (rowsOn b)))], [D.str (y7 ++ { data := #[(32 : UInt8)] })]] ∧ List.length [D.str (strOfNums (List.map (fun r ↦ asInt (List.getD r (0 : Nat) D.nilp)) (bytesR y7)))] = (1 : Nat) ∧ okSh [Kd.str] [D.str (strOfNums (List.map (fun r ↦ asInt (List.getD r (0 : Nat) D.nilp)) (bytesR y7)))])
         (VC.need (PreOk c_parse (Prg.of (Prg.cells y5), asStr (D.str (strOfNums (List.map (fun r ↦ asInt (List.getD r (0 : Nat) D.nilp)) (bytesR y7))))) [A.agg (Prg.cells y5), A.c (D.str (asStr (D.str (strOfNums (List.map (fun r ↦ asInt (List.getD r (0 : Nat) D.nilp)) (bytesR y7))))))])
         (VC.all (v_parse (Prg.of (Prg.cells y5), asStr (D.str (strOfNums (List.map (fun r ↦ asInt (List.getD r (0 : Nat) D.nilp)) (bytesR y7)))))) fun (y15 : Sta × Int × Bool) =>
         (VC.need (PreOk c_rParse (Prg.of (Prg.cells y5), asStr (D.str (strOfNums (List.map (fun r ↦ asInt (List.getD r (0 : Nat) D.nilp)) (bytesR y7))))) [A.agg (Prg.cells y5), A.c (D.str (asStr (D.str (strOfNums (List.map (fun r ↦ asInt (List.getD r (0 : Nat) D.nilp)) (bytesR y7))))))])
         (VC.all (v_rParse (Prg.of (Prg.cells y5), asStr (D.str (strOfNums (List.map (fun r ↦ asInt (List.getD r (0 : Nat) D.nilp)) (bytesR y7)))))) fun (y16 : Sta × Int × Bool) =>
         (VC.br (if true = true then !y15.snd.snd == y16.snd.snd else y15.snd.snd == y16.snd.snd)
          (VC.ret (some (RR.c (Rc.d (D.bool false)))))
          (VC.br (y15.snd.fst != y16.snd.fst)
           (VC.ret (some (RR.c (Rc.d (D.bool false)))))
           (VC.need (PreOk c_rSame (Sta.of (Sta.cells y15.fst), Sta.of (Sta.cells y16.fst)) [A.agg (Sta.cells y15.fst), A.agg (Sta.cells y16.fst)])
           (VC.all (v_rSame (Sta.of (Sta.cells y15.fst), Sta.of (Sta.cells y16.fst))) fun (y17 : Bool) =>
           (VC.br (!y17)
            (VC.ret (some (RR.c (Rc.d (D.bool false)))))
            (VC.need ((0 : Int) ≤ (3 : Int) ∧ (3 : Int) < (6 : Int))
            (VC.need ((3 : Nat) < List.length [[D.str y7], [D.str (strOfNums (List.map (fun r ↦ asInt (List.getD r (0 : Nat) D.nilp)) (rowsOn b)))], [D.str (strOfNums (List.map (fun r ↦ asInt (List.getD r (0 : Nat) D.nilp)) (bytesR y7)))], [D.str (ByteArray.extract y7 (0 : Nat) (Int.toNat (Int.tmod (bits BinOp.and IntKind.i64 n (65535 : Int)) (IntKind.wrap IntKind.i64 ((↑(ByteArray.size y7) : Int) + (1 : Int))))))], [D.str (y7 ++ strOfNums (List.map (fun r ↦ asInt (List.getD r (0 : Nat) D.nilp)) (rowsOn b)))], [D.str (y7 ++ { data := #[(32 : UInt8)] })]] ∧ List.length [D.str (ByteArray.extract y7 (0 : Nat) (Int.toNat (Int.tmod (bits BinOp.and IntKind.i64 n (65535 : Int)) (IntKind.wrap IntKind.i64 ((↑(ByteArray.size y7) : Int) + (1 : Int))))))] = (1 : Nat) ∧ okSh [Kd.str] [D.str (ByteArray.extract y7 (0 : Nat) (Int.toNat (Int.tmod (bits BinOp.and IntKind.i64 n (65535 : Int)) (IntKind.wrap IntKind.i64 ((↑(ByteArray.size y7) : Int) + (1 : Int))))))])
            (VC.need (PreOk c_parse (Prg.of (Prg.cells y5), asStr (D.str (ByteArray.extract y7 (0 : Nat) (Int.toNat (Int.tmod (bits BinOp.and IntKind.i64 n (65535 : Int)) (IntKind.wrap IntKind.i64 ((↑(ByteArray.size y7) : Int) + (1 : Int)))))))) [A.agg (Prg.cells y5), A.c (D.str (asStr (D.str (ByteArray.extract y7 (0 : Nat) (Int.toNat (Int.tmod (bits BinOp.and IntKind.i64 n (65535 : Int)) (IntKind.wrap IntKind.i64 ((↑(ByteArray.size y7) : Int) + (1 : Int)))))))))])
            (VC.all (v_parse (Prg.of (Prg.cells y5), asStr (D.str (ByteArray.extract y7 (0 : Nat) (Int.toNat (Int.tmod (bits BinOp.and IntKind.i64 n (65535 : Int)) (IntKind.wrap IntKind.i64 ((↑(ByteArray.size y7) : Int) + (1 : Int))))))))) fun (y18 : Sta × Int × Bool) =>
            (VC.need (PreOk c_rParse (Prg.of (Prg.cells y5), asStr (D.str (ByteArray.extract y7 (0 : Nat) (Int.toNat (Int.tmod (bits BinOp.and IntKind.i64 n (65535 : Int)) (IntKind.wrap IntKind.i64 ((↑(ByteArray.size y7) : Int) + (1 : Int)))))))) [A.agg (Prg.cells y5), A.c (D.str (asStr (D.str (ByteArray.extract y7 (0 : Nat) (Int.toNat (Int.tmod (bits BinOp.and IntKind.i64 n (65535 : Int)) (IntKind.wrap IntKind.i64 ((↑(ByteArray.size y7) : Int) + (1 : Int)))))))))])
            (VC.all (v_rParse (Prg.of (Prg.cells y5), asStr (D.str (ByteArray.extract y7 (0 : Nat) (Int.toNat (Int.tmod (bits BinOp.and IntKind.i64 n (65535 : Int)) (IntKind.wrap IntKind.i64 ((↑(ByteArray.size y7) : Int) + (1 : Int))))))))) fun (y19 : Sta × Int × Bool) =>
            (VC.br (if true = true then !y18.snd.snd == y19.snd.snd else y18.snd.snd == y19.snd.snd)
             (VC.ret (some (RR.c (Rc.d (D.bool false)))))
             (VC.br (y18.snd.fst != y19.snd.fst)
              (VC.ret (some (RR.c (Rc.d (D.bool false)))))
              (VC.need (PreOk c_rSame (Sta.of (Sta.cells y18.fst), Sta.of (Sta.cells y19.fst)) [A.agg (Sta.cells y18.fst), A.agg (Sta.cells y19.fst)])
              (VC.all (v_rSame (Sta.of (Sta.cells y18.fst), Sta.of (Sta.cells y19.fst))) fun (y20 : Bool) =>
              (VC.br (!y20)
               (VC.ret (some (RR.c (Rc.d (D.bool false)))))
               (VC.need ((0 : Int) ≤ (4 : Int) ∧ (4 : Int) < (6 : Int))
               (VC.need ((4 : Nat) < List.length [[D.str y7], [D.str (strOfNums (List.map (fun r ↦ asInt (List.getD r (0 : Nat) D.nilp)) (rowsOn b)))], [D.str (strOfNums (List.map (fun r ↦ asInt (List.getD r (0 : Nat) D.nilp)) (bytesR y7)))], [D.str (ByteArray.extract y7 (0 : Nat) (Int.toNat (Int.tmod (bits BinOp.and IntKind.i64 n (65535 : Int)) (IntKind.wrap IntKind.i64 ((↑(ByteArray.size y7) : Int) + (1 : Int))))))], [D.str (y7 ++ strOfNums (List.map (fun r ↦ asInt (List.getD r (0 : Nat) D.nilp)) (rowsOn b)))], [D.str (y7 ++ { data := #[(32 : UInt8)] })]] ∧ List.length [D.str (y7 ++ strOfNums (List.map (fun r ↦ asInt (List.getD r (0 : Nat) D.nilp)) (rowsOn b)))] = (1 : Nat) ∧ okSh [Kd.str] [D.str (y7 ++ strOfNums (List.map (fun r ↦ asInt (List.getD r (0 : Nat) D.nilp)) (rowsOn b)))])
               (VC.need (PreOk c_parse (Prg.of (Prg.cells y5), asStr (D.str (y7 ++ strOfNums (List.map (fun r ↦ asInt (List.getD r (0 : Nat) D.nilp)) (rowsOn b))))) [A.agg (Prg.cells y5), A.c (D.str (asStr (D.str (y7 ++ strOfNums (List.map (fun r ↦ asInt (List.getD r (0 : Nat) D.nilp)) (rowsOn b))))))])
               (VC.all (v_parse (Prg.of (Prg.cells y5), asStr (D.str (y7 ++ strOfNums (List.map (fun r ↦ asInt (List.getD r (0 : Nat) D.nilp)) (rowsOn b)))))) fun (y21 : Sta × Int × Bool) =>
               (VC.need (PreOk c_rParse (Prg.of (Prg.cells y5), asStr (D.str (y7 ++ strOfNums (List.map (fun r ↦ asInt (List.getD r (0 : Nat) D.nilp)) (rowsOn b))))) [A.agg (Prg.cells y5), A.c (D.str (asStr (D.str (y7 ++ strOfNums (List.map (fun r ↦ asInt (List.getD r (0 : Nat) D.nilp)) (rowsOn b))))))])
               (VC.all (v_rParse (Prg.of (Prg.cells y5), asStr (D.str (y7 ++ strOfNums (List.map (fun r ↦ asInt (List.getD r (0 : Nat) D.nilp)) (rowsOn b)))))) fun (y22 : Sta × Int × Bool) =>
               (VC.br (if true = true then !y21.snd.snd == y22.snd.snd else y21.snd.snd == y22.snd.snd)
                (VC.ret (some (RR.c (Rc.d (D.bool false)))))
                (VC.br (y21.snd.fst != y22.snd.fst)
                 (VC.ret (some (RR.c (Rc.d (D.bool false)))))
                 (VC.need (PreOk c_rSame (Sta.of (Sta.cells y21.fst), Sta.of (Sta.cells y22.fst)) [A.agg (Sta.cells y21.fst), A.agg (Sta.cells y22.fst)])
                 (VC.all (v_rSame (Sta.of (Sta.cells y21.fst), Sta.of (Sta.cells y22.fst))) fun (y23 : Bool) =>
                 (VC.br (!y23)
                  (VC.ret (some (RR.c (Rc.d (D.bool false)))))
                  (VC.need ((0 : Int) ≤ (5 : Int) ∧ (5 : Int) < (6 : Int))
                  (VC.need ((5 : Nat) < List.length [[D.str y7], [D.str (strOfNums (List.map (fun r ↦ asInt (List.getD r (0 : Nat) D.nilp)) (rowsOn b)))], [D.str (strOfNums (List.map (fun r ↦ asInt (List.getD r (0 : Nat) D.nilp)) (bytesR y7)))], [D.str (ByteArray.extract y7 (0 : Nat) (Int.toNat (Int.tmod (bits BinOp.and IntKind.i64 n (65535 : Int)) (IntKind.wrap IntKind.i64 ((↑(ByteArray.size y7) : Int) + (1 : Int))))))], [D.str (y7 ++ strOfNums (List.map (fun r ↦ asInt (List.getD r (0 : Nat) D.nilp)) (rowsOn b)))], [D.str (y7 ++ { data := #[(32 : UInt8)] })]] ∧ List.length [D.str (y7 ++ { data := #[(32 : UInt8)] })] = (1 : Nat) ∧ okSh [Kd.str] [D.str (y7 ++ { data := #[(32 : UInt8)] })])
                  (VC.need (PreOk c_parse (Prg.of (Prg.cells y5), asStr (D.str (y7 ++ { data := #[(32 : UInt8)] }))) [A.agg (Prg.cells y5), A.c (D.str (asStr (D.str (y7 ++ { data := #[(32 : UInt8)] }))))])
                  (VC.all (v_parse (Prg.of (Prg.cells y5), asStr (D.str (y7 ++ { data := #[(32 : UInt8)] })))) fun (y24 : Sta × Int × Bool) =>
                  (VC.need (PreOk c_rParse (Prg.of (Prg.cells y5), asStr (D.str (y7 ++ { data := #[(32 : UInt8)] }))) [A.agg (Prg.cells y5), A.c (D.str (asStr (D.str (y7 ++ { data := #[(32 : UInt8)] }))))])
                  (VC.all (v_rParse (Prg.of (Prg.cells y5), asStr (D.str (y7 ++ { data := #[(32 : UInt8)] })))) fun (y25 : Sta × Int × Bool) =>
                  (VC.br (if true = true then !y24.snd.snd == y25.snd.snd else y24.snd.snd == y25.snd.snd)
                   (VC.ret (some (RR.c (Rc.d (D.bool false)))))
                   (VC.br (y24.snd.fst != y25.snd.fst)
                    (VC.ret (some (RR.c (Rc.d (D.bool false)))))
                    (VC.need (PreOk c_rSame (Sta.of (Sta.cells y24.fst), Sta.of (Sta.cells y25.fst)) [A.agg (Sta.cells y24.fst), A.agg (Sta.cells y25.fst)])
                    (VC.all (v_rSame (Sta.of (Sta.cells y24.fst), Sta.of (Sta.cells y25.fst))) fun (y26 : Bool) =>
                    (VC.br (!y26)
                     (VC.ret (some (RR.c (Rc.d (D.bool false)))))
                     (VC.need (PreOk c_awake25 PUnit.unit [])
                     (VC.ret (some (RR.c (Rc.d (D.bool true))))))))))))))))))))))))))))))))))))))))))))))))))))))))))))))))))))))))))))))))))))))))))) := by kernel_rfl
theorem ba_beq (s t : ByteArray) : (ByteArray.toList s == ByteArray.toList t) = decide (s = t) := by
  rw [ByteArray.toList_eq, ByteArray.toList_eq, Bool.eq_iff_iff, beq_iff_eq, decide_eq_true_iff]
  constructor
  · intro h
    apply ByteArray.ext
    exact Array.toList_inj.1 h
  · intro h; rw [h]
section
variable {cx : Cx} {rs : List RVar} {R : RR → Prop} {x y : VC}
theorem br_t {b : Bool} (h : b = true) (hx : x.holds cx rs R) : (VC.br b x y).holds cx rs R := by subst h; exact hx
theorem br_f {b : Bool} (h : b = false) (hy : y.holds cx rs R) : (VC.br b x y).holds cx rs R := by subst h; exact hy
end
theorem Begun.small {p : Prg} {s : Sta} (h : Begun p s) : SmallS s := by
  obtain ⟨t, a0, a1, a2, a3, _⟩ := start_hold p (MemsF.mems h.shape) (valsS p s) (by rw [valsS, List.length_map])
  have := h.back
  rw [a0] at this
  have es : t = s := congrArg Prod.fst this
  subst es
  have hc := MemsF.cells h.shape
  exact ⟨by omega, by rw [a2]; simp⟩
theorem rowsOn_by (l : List Byt) : rowsOn l = List.map (fun r => [D.int IntKind.u8 (asInt (List.getD r 0 D.nilp))]) (rowsOn l) := by
  unfold rowsOn
  rw [List.map_map]
  rfl
theorem strOfNums_size (l : List Int) : (strOfNums l).size = l.length := by
  unfold strOfNums
  show (l.map fun n => UInt8.ofNat n.toNat).toArray.size = _
  simp
theorem same_eq (b c : Bool) (h : b = c) : (if True then !b == c else b == c) = false := by subst h; cases b <;> rfl
theorem u8_rows {rows : List (List D)} (h : ∀ r ∈ rows, ∃ n, r = [D.int .u8 n]) : rows = rows.map fun r => [D.int IntKind.u8 (asInt (List.getD r 0 D.nilp))] := by
  conv => lhs; rw [← List.map_id rows]
  refine List.map_congr_left fun r hr => ?_
  obtain ⟨n, rfl⟩ := h r hr
  rfl
theorem bytesR_u8 (t : ByteArray) : ∀ r ∈ bytesR t, ∃ n, r = [D.int .u8 n] := fun r hr => by
  obtain ⟨b, _, rfl⟩ := List.mem_map.1 hr
  exact ⟨_, rfl⟩
theorem bytesR_len (t : ByteArray) : (bytesR t).length = t.size := by
  unfold bytesR
  rw [List.length_map]
  simp
theorem bytesR_row (t : ByteArray) {x : Int} (h0 : 0 ≤ x) (h : x < (bytesR t).length) : ∃ n, rowAt (bytesR t) x.toNat = [D.int .u8 n] := by
  have : rowAt (bytesR t) x.toNat = (bytesR t)[x.toNat]'(by omega) := by
    unfold rowAt
    rw [List.getD_eq_getElem?_getD, List.getElem?_eq_getElem (by omega)]
    rfl
  rw [this]
  exact bytesR_u8 t _ (List.getElem_mem _)
theorem set_u8 {rows : List (List D)} (h : ∀ r ∈ rows, ∃ n, r = [D.int .u8 n]) (x : Nat) (v : Int) (r0 : List D) (hr : r0.length = 1) : ∀ r ∈ rows.set x (splice r0 0 [D.int .u8 v]), ∃ n, r = [D.int .u8 n] := fun r hm => by
  rw [splice_all _ _ (by rw [hr]; rfl)] at hm
  rcases List.mem_or_eq_of_mem_set hm with h1 | h1
  · exact h r h1
  · exact ⟨_, h1⟩
theorem parse_small {p : Prg} (hm : MemsF p.mems) (hw : 1 ≤ p.w ∧ p.w ≤ 2) (u : ByteArray) : SmallS (parseS p u).1 := by
  by_cases h : (readS p u).2.2 = true
  · exact (read_show hm hw u h).1.small
  · unfold parseS
    rw [if_neg h]
    exact ⟨by show (0 : Nat) ≤ 1000000; decide, by show (0 : Nat) ≤ 1000000; decide⟩
section
variable {cx : Cx} {rs : List RVar} {R : RR → Prop}
/-- One text, read by both. -/
theorem tell_round (p : Prg) (hm : MemsF p.mems) (hw : 1 ≤ p.w ∧ p.w ≤ 2) (x : ByteArray) (hx : x.size ≤ 1000000) (F K : VC) (hK : K.holds cx rs R) :
    (VC.need (PreOk c_parse (p, x) [A.agg (Prg.cells p), A.c (D.str x)]) (VC.all (v_parse (p, x)) fun (y : Sta × Int × Bool) => VC.need (PreOk c_rParse (p, x) [A.agg (Prg.cells p), A.c (D.str x)]) (VC.all (v_rParse (p, x)) fun (z : Sta × Int × Bool) =>
      VC.br (if True then !y.2.2 == z.2.2 else y.2.2 == z.2.2) F (VC.br (y.2.1 != z.2.1) F (VC.need (PreOk c_rSame (y.1, z.1) [A.agg (Sta.cells y.1), A.agg (Sta.cells z.1)]) (VC.all (v_rSame (y.1, z.1)) fun (w : Bool) => VC.br (!w) F K)))))).holds cx rs R := by
  refine ⟨PreOk.mk ⟨hm, hw.1, hw.2, hx⟩ rfl, all_holds fun y hy => ⟨PreOk.mk ⟨hm, hw.1, hw.2, hx⟩ rfl, all_holds fun z hz => ?_⟩⟩
  replace hy : y = parseS p x := hy
  replace hz : z = parseS p x := hz
  have hs := parse_small hm hw x
  refine br_f (same_eq _ _ (by rw [hy, hz])) (br_bne (fun h => absurd (by rw [hy, hz]) h) (fun _ => ⟨PreOk.mk ⟨by show SmallS y.1; rw [hy]; exact hs, by show SmallS z.1; rw [hz]; exact hs⟩ rfl, all_holds fun w hw' => br_not (br_t (hw'.trans (decide_eq_true (by rw [hy, hz]))) hK)⟩))
end
theorem c_lTl_good : c_lTl.fe.Good Tryd.prog := by
  refine FT.good c_lTl ⟨Tryd.f4, by kernel_rfl, by decide +kernel, by kernel_rfl⟩ (fun ⟨m, l, b, n, u⟩ => by first | rfl | simp [c_lTl, rrRef, rParse, badR, rTx, rsl, rss, rnewI, rnewE, rstab, rplaces, ri, rb, rib, rR, riib3, rnum, rby, Sta.fresh]) fun ⟨m, l, b, n, u⟩ hp => ?_
  refine acalls_le s_lTl_sound (fn := Tryd.f4) (a := a_lTl) (nargs := 5) (tbl := []) (by kernel_rfl) (by kernel_rfl) rfl (m := 400) ?_
  show VC.holds _ _ _ (a_lTl.start s_lTl 400 [al m, al l, aB b, ai n, aU u])
  rw [t_lTl]
  try simp only [asRows_sl, asInt_int, asBool_bool, asStr_str, listOf_rowsOn, List.drop_zero, Prg.eta, Sta.eta, rowsOn_length, getD_drop, Nat.reduceAdd, rd_int, rd_PMem_name, rd_PMem_secret, rd_PMem_n, rd_PLabel_name, rd_PLabel_at_, rd_Ins_kind, rd_Ins_op, rd_Ins_d, rd_Ins_aR, rd_Ins_aN, rd_Ins_bR, rd_Ins_bN, rd_Ins_name, rd_Ins_target, rd_Ent_pc, rd_Ent_val, rd_Ent_addr, rd_Ent_fro, rd_Ent_next, rd_Ent_done, rd_Ent_known, rd_Ent_fault, rd_Place_reg, rd_Place_n, rd_Place_secret, rd_Obs_kind, rd_Obs_at_, rd_Dir_kind, rd_Dir_n, rd_Rn_v, rd_Tok_kind, rd_Tok_text, rd_Tok_n, rd_Tok_at_]
  try simp only [c_lTl] at hp
  refine br_dec (fun _ => ⟨PreOk.mk trivial rfl, ret_le (RR.le_refl _)⟩) (fun hb => ?_)
  refine ⟨PreOk.mk trivial rfl, all_holds fun q hq => ?_⟩
  replace hq : q = makeS m := hq
  have hwf : WFM q := by rw [hq]; exact (makeS_spec m).1
  clear hq
  simp only [Prg.of_cells, Sta.of_cells, listOf_rowsOn, asStr_str]
  refine ⟨PreOk.mk hwf.mems' rfl, all_holds fun ab hab => ?_⟩
  replace hab : ab = statesS q l 1 := hab
  have hB := begun_states hwf l 1
  rw [← hab] at hB
  obtain ⟨a, b2⟩ := ab
  have ha : Begun q a := hB.1
  clear hab hB
  refine ⟨PreOk.mk ⟨ha.shape, ha.nine⟩ rfl, all_holds fun t ht => ⟨PreOk.mk ⟨ha.shape, ha.nine⟩ rfl, all_holds fun t' ht' => ?_⟩⟩
  replace ht : t = showS q a := ht
  replace ht' : t' = showS q a := ht'
  have ts := ha.text.1
  rw [← ht] at ts
  have hm := ha.shape
  have hw := ha.w
  refine br_not (br_t (by rw [ba_beq, ht, ht']; exact decide_eq_true rfl) ⟨by omega, ?_⟩)
  have hbl := bytesR_len t
  have hub := bytesR_u8 t
  have hsz : (strOfNums (List.map (fun r => asInt (List.getD r 0 D.nilp)) (rowsOn b))).size = b.length := by rw [strOfNums_size, List.length_map, rowsOn_length]
  have w1 : IntKind.wrap .i64 ((t.size : Int) + 1) = t.size + 1 := wrap_small _ (by omega) (by omega)
  simp only [w1]
  have hM : bits .and .i64 n 65535 = n % 65536 := and_mask n 16 (by decide)
  have z0 : 0 ≤ Int.tmod (bits .and .i64 n 65535) ((t.size : Int) + 1) := by rw [hM]; exact Int.tmod_nonneg _ (by omega)
  have z1 : Int.tmod (bits .and .i64 n 65535) ((t.size : Int) + 1) < (t.size : Int) + 1 := Int.tmod_lt_of_pos _ (by omega)
  generalize Int.tmod (bits .and .i64 n 65535) ((t.size : Int) + 1) = z at z0 z1 ⊢
  have hez : (t.extract 0 z.toNat).size ≤ 36 := by rw [ByteArray.size_extract]; omega
  refine br_dec (fun hpos => ?_) (fun hpos => ?_)
  · have x0 : 0 ≤ Int.tmod (bits .and .i64 n 65535) ((bytesR t).length : Int) := by rw [hM]; exact Int.tmod_nonneg _ (by omega)
    have x1 : Int.tmod (bits .and .i64 n 65535) ((bytesR t).length : Int) < (bytesR t).length := Int.tmod_lt_of_pos _ hpos
    generalize Int.tmod (bits .and .i64 n 65535) ((bytesR t).length : Int) = x at x0 x1 ⊢
    obtain ⟨v, hrow⟩ := bytesR_row t x0 x1
    have hrl : (rowAt (bytesR t) x.toNat).length = 1 := by rw [hrow]; rfl
    refine ⟨by omega, ⟨x0, x1⟩, ⟨by omega, hrl, by rw [hrow]; rfl⟩, ⟨x0, x1⟩, ⟨by omega, hrl, Nat.le_refl _⟩, rowsOn_by b, ?_⟩
    generalize bits .xor IntKind.u8 _ _ = nv
    have hX := set_u8 hub x.toNat nv _ hrl
    have hXl : ((bytesR t).set x.toNat (splice (rowAt (bytesR t) x.toNat) 0 [D.int IntKind.u8 nv])).length = t.size := by rw [List.length_set, hbl]
    generalize (bytesR t).set x.toNat (splice (rowAt (bytesR t) x.toNat) 0 [D.int IntKind.u8 nv]) = X at hX hXl ⊢
    have htb : (strOfNums (List.map (fun r => asInt (List.getD r 0 D.nilp)) X)).size = t.size := by rw [strOfNums_size, List.length_map, hXl]
    refine ⟨u8_rows hX, ?_⟩
    generalize strOfNums (List.map (fun r => asInt (List.getD r 0 D.nilp)) X) = tb at htb ⊢
    refine ⟨by omega, ⟨by decide, z0, by omega⟩, rowsOn_by b, ?_⟩
    generalize strOfNums (List.map (fun r => asInt (List.getD r 0 D.nilp)) (rowsOn b)) = raw at hsz ⊢
    have hraw : (t ++ raw).size ≤ 1000000 := by rw [ba_size]; omega
    have hbl1 : (t ++ { data := #[(32 : UInt8)] }).size ≤ 1000000 := by rw [ba_size]; show t.size + 1 ≤ _; omega
    refine ⟨by omega, by omega, ⟨by decide, by decide⟩, ⟨by show 0 < 6; decide, rfl, rfl⟩, tell_round q hm hw t (by omega) _ _ ?_⟩
    refine ⟨⟨by decide, by decide⟩, ⟨by show 1 < 6; decide, rfl, rfl⟩, tell_round q hm hw raw (by omega) _ _ ?_⟩
    refine ⟨⟨by decide, by decide⟩, ⟨by show 2 < 6; decide, rfl, rfl⟩, tell_round q hm hw tb (by omega) _ _ ?_⟩
    refine ⟨⟨by decide, by decide⟩, ⟨by show 3 < 6; decide, rfl, rfl⟩, tell_round q hm hw _ (by omega) _ _ ?_⟩
    refine ⟨⟨by decide, by decide⟩, ⟨by show 4 < 6; decide, rfl, rfl⟩, tell_round q hm hw _ hraw _ _ ?_⟩
    refine ⟨⟨by decide, by decide⟩, ⟨by show 5 < 6; decide, rfl, rfl⟩, tell_round q hm hw _ hbl1 _ _ ?_⟩
    exact ⟨PreOk.mk trivial rfl, ret_le (RR.le_refl _)⟩
  · have hX := hub
    refine ⟨rowsOn_by b, ?_⟩
    have hXl : (bytesR t).length = t.size := hbl
    generalize bytesR t = X at hX hXl ⊢
    have htb : (strOfNums (List.map (fun r => asInt (List.getD r 0 D.nilp)) X)).size = t.size := by rw [strOfNums_size, List.length_map, hXl]
    refine ⟨u8_rows hX, ?_⟩
    generalize strOfNums (List.map (fun r => asInt (List.getD r 0 D.nilp)) X) = tb at htb ⊢
    refine ⟨by omega, ⟨by decide, z0, by omega⟩, rowsOn_by b, ?_⟩
    generalize strOfNums (List.map (fun r => asInt (List.getD r 0 D.nilp)) (rowsOn b)) = raw at hsz ⊢
    have hraw : (t ++ raw).size ≤ 1000000 := by rw [ba_size]; omega
    have hbl1 : (t ++ { data := #[(32 : UInt8)] }).size ≤ 1000000 := by rw [ba_size]; show t.size + 1 ≤ _; omega
    refine ⟨by omega, by omega, ⟨by decide, by decide⟩, ⟨by show 0 < 6; decide, rfl, rfl⟩, tell_round q hm hw t (by omega) _ _ ?_⟩
    refine ⟨⟨by decide, by decide⟩, ⟨by show 1 < 6; decide, rfl, rfl⟩, tell_round q hm hw raw (by omega) _ _ ?_⟩
    refine ⟨⟨by decide, by decide⟩, ⟨by show 2 < 6; decide, rfl, rfl⟩, tell_round q hm hw tb (by omega) _ _ ?_⟩
    refine ⟨⟨by decide, by decide⟩, ⟨by show 3 < 6; decide, rfl, rfl⟩, tell_round q hm hw _ (by omega) _ _ ?_⟩
    refine ⟨⟨by decide, by decide⟩, ⟨by show 4 < 6; decide, rfl, rfl⟩, tell_round q hm hw _ hraw _ _ ?_⟩
    refine ⟨⟨by decide, by decide⟩, ⟨by show 5 < 6; decide, rfl, rfl⟩, tell_round q hm hw _ hbl1 _ _ ?_⟩
    exact ⟨PreOk.mk trivial rfl, ret_le (RR.le_refl _)⟩
end Go.Proofs.YtmmlolampgnamaaDoor.Ax
end
