/- Variables of the library's that a call may read: they hold some number. -/
import Derived.Orders
import Derived.Below
import Derived.Laws.Cells
namespace Go.Proofs.YtmmlolampgnamaaDoor.Ax
open Go.RowKit

def globs : List (Nat × IntKind) := []
def Gl (w : World) : Prop := ∀ p ∈ globs, ∃ m, w.cell? ⟨p.1, 0, none⟩ = some (.int p.2 m)
theorem Gl.below {w w' : World} (h : Gl w) (hb : Below w.heap.size w w') : Gl w' := by
  intro p hp
  obtain ⟨m, hm⟩ := h p hp
  refine ⟨m, ?_⟩
  have hlt : p.1 < w.heap.size := by
    unfold World.cell? at hm
    rcases Nat.lt_or_ge p.1 w.heap.size with h' | h'
    · exact h'
    · rw [Array.getElem?_eq_none h'] at hm
      cases hm
  have := hb.block p.1 hlt
  unfold World.cell? at hm ⊢
  rw [this]
  exact hm
end Go.Proofs.YtmmlolampgnamaaDoor.Ax
