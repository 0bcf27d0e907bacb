/- Bytes that were handed in. -/
import Derived.Test.YtmmlolampgnamaaDoorAxLaw
import Derived.Test.YtmmlolampgnamaaDoorAxW
namespace Go.Proofs.YtmmlolampgnamaaDoor.Ax
open Go.RowKit Go.ChangeShapes Go.WideShapes Go.ChangeAt
set_option linter.unusedVariables false

structure Byt where
  v : Int
  deriving Inhabited, DecidableEq
instance : Row Byt := ⟨fun r => [.int .u8 r.v], fun r => ⟨asInt (r.getD 0 .nilp)⟩, fun _ => rfl, 1, fun _ => rfl⟩
instance : NoRef Byt := ⟨fun _ => rfl⟩
@[simp] theorem rd_Byt_v (l : List Byt) (i : Int) : asInt (List.getD (rowAt (rowsOn l) (Int.toNat i)) 0 .nilp) = (rd l i).v := congrArg Byt.v (of_rowAt l i)
/-- Bytes that were handed in, as rows. -/
def bysOf (zs : List Int) : List Byt := zs.map Byt.mk
theorem rd_bytes {W : World} {a : Option Addr} {len cap : Nat} {zs : List Int} (h : IsRow .u8 W a len cap zs) : RD (okAll W) W (.sl (rowsOn (bysOf (zs.take len)))) (.slice a len cap) := by
  rcases h with ⟨rfl, rfl, rfl, rfl⟩ | ⟨a, rfl, hl, hm, hz, hcell, _⟩
  · simp only [RD]
    exact ⟨none, 0, rfl, Nat.zero_le _, fun h => absurd rfl h⟩
  · simp only [RD]
    have hlen : (rowsOn (bysOf (zs.take len))).length = len := by rw [rowsOn_length, bysOf, List.length_map, List.length_take]; omega
    refine ⟨some a, cap, by rw [hlen], by rw [hlen]; exact hl, fun hne => ⟨a, 1, rfl, ?_, RDRows.of fun i r hi => ?_⟩⟩
    · have h0 : 0 < len := by
        rcases Nat.eq_zero_or_pos len with h | h
        · subst h; exact absurd (by simp [rowsOn, bysOf]) hne
        · exact h
      have := cell_lt (hcell 0 (by omega))
      rwa [add_block] at this
    · unfold rowsOn bysOf at hi
      rw [List.getElem?_map, List.getElem?_map, List.getElem?_take] at hi
      split at hi
      · rename_i hlt
        rw [List.getElem?_eq_getElem (by omega)] at hi
        simp only [Option.map_some, Option.some.injEq] at hi
        subst hi
        refine ⟨rfl, RDRow.of fun j x hj => ?_⟩
        cases j with
        | zero =>
          have hx : x = .int .u8 zs[i] := by
            have : (row (⟨zs[i]⟩ : Byt) : List D)[0]? = some (.int .u8 zs[i]) := rfl
            rw [this] at hj; exact (Option.some.inj hj).symm
          subst hx
          refine ⟨.int .u8 zs[i], ?_, by simp only [RD]⟩
          have := hcell i (by omega)
          rw [List.getD_eq_getElem?_getD, List.getElem?_eq_getElem (by omega)] at this
          rw [show (0 + i) * 1 + 0 = i by omega]
          exact this
        | succ j => exact absurd hj (by simp [row, Row.row])
      · cases hi
theorem by_len {W : World} {a : Option Addr} {len cap : Nat} {zs : List Int} (h : IsRow .u8 W a len cap zs) : (bysOf (zs.take len)).length = len := by
  unfold bysOf
  rw [List.length_map]
  rcases h with ⟨rfl, rfl, rfl, rfl⟩ | ⟨x, rfl, hl, hm, hz, hcell, hw⟩
  · rfl
  · rw [List.length_take]; omega
end Go.Proofs.YtmmlolampgnamaaDoor.Ax
