/- From a function's contract to a row: what is handed in, as data. -/
import Derived.Test.YtmmlolampgnamaaDoorAxApi
namespace Go.Proofs.YtmmlolampgnamaaDoor.Ax
open Go.RowKit
set_option linter.unusedVariables false

def okAll (W : World) (b : Nat) : Prop := b < W.heap.size

theorem calls_true {P : Program} {f : FuncId} {xs : List A} {vals : List Value} {W : World} (h : ACalls P f xs (.c (.d (.bool true)))) (hgl : Gl W) (hargs : RAs (okAll W) W xs vals) :
    Calls P f vals.toArray W fun e W' => e = .returned (.bool true) ∧ Below W.heap.size W W' := by
  refine (h W vals (okAll W) (fun b h => h) hgl hargs).mono fun e w' h => ?_
  obtain ⟨v, ok', bs, h1, h2, h3, h4, ⟨rfl, h5⟩, h6, h7⟩ := h
  simp only [RD] at h5
  subst h5
  exact ⟨h1, h2⟩

theorem cell_lt {W : World} {a : Addr} {v : Value} (h : W.cell? a = some v) : a.block < W.heap.size := by
  unfold World.cell? at h
  rcases Nat.lt_or_ge a.block W.heap.size with h' | h'
  · exact h'
  · rw [Array.getElem?_eq_none h'] at h
    cases h

/-- A slice of numbers that was handed in. -/
theorem rd_ints {W : World} {a : Addr} {len cap : Nat} {zs : List Int} (hl : len ≤ cap) (hz : len ≤ zs.length) (hcell : ∀ i, i < zs.length → W.cell? (a.add i) = some (.int .i64 (zs.getD i 0))) :
    RD (okAll W) W (.sl (rowsOn (zs.take len))) (.slice (some a) len cap) := by
  simp only [RD]
  have hlen : (rowsOn (zs.take len)).length = len := by rw [rowsOn_length, List.length_take]; omega
  refine ⟨some a, cap, by rw [hlen], by rw [hlen]; exact hl, fun hne => ⟨a, 1, rfl, ?_, RDRows.of fun i r hi => ?_⟩⟩
  · have h0 : 0 < len := by
      rcases Nat.eq_zero_or_pos len with h | h
      · subst h; exact absurd (by simp [rowsOn]) hne
      · exact h
    have := cell_lt (hcell 0 (by omega))
    rwa [add_block] at this
  · unfold rowsOn at hi
    rw [List.getElem?_map, List.getElem?_take] at hi
    split at hi
    · rename_i hlt
      rw [List.getElem?_eq_getElem (by omega)] at hi
      simp only [Option.map_some, Option.some.injEq] at hi
      subst hi
      refine ⟨rfl, RDRow.of fun j x hj => ?_⟩
      cases j with
      | zero =>
        have hx : x = .int .i64 zs[i] := by
          have : (row zs[i] : List D)[0]? = some (.int .i64 zs[i]) := rfl
          rw [this] at hj; exact (Option.some.inj hj).symm
        subst hx
        refine ⟨.int .i64 zs[i], ?_, by simp only [RD]⟩
        have := hcell i (by omega)
        rw [List.getD_eq_getElem?_getD, List.getElem?_eq_getElem (by omega)] at this
        rw [show (0 + i) * 1 + 0 = i by omega]
        exact this
      | succ j => exact absurd hj (by simp [row, Row.row])
    · cases hi
end Go.Proofs.YtmmlolampgnamaaDoor.Ax
