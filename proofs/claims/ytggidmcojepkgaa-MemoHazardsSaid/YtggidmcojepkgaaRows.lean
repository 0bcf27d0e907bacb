/-
  No cell of these rows narrows 'for every input' (looked for: loops, veiled, ifaces, maps, wideKeys, modest, calm, conditions, laid).
  DERIVED. THE GIVEN ROWS OF THIS SEAT. 4 by the template 'for every input the law returns true; each argument reads behind the call as it read before'; 0 by the template 'total and deterministic' (their statements: YtggidmcojepkgaaTotals.lean).
  GIVEN WITH THE SEED: the statements are not yours to turn. If you find one false, say at which input.
  Laid BY PROGRAM, IN A SANDBOX (cutbox-rows.mjs): the forced cells as the released guide's own fill.sh prints them over the translation 31a1eeab62655d67… (all of the seat's roots in one cut). By AI agents, Wed Nov 11 2026. No macro, syntax, notation, axiom, sorry.
-/
import Derived.Test.YtggidmcojepkgaaChecked
import GoSem.Claim
import GoSem.ClaimJoined
import GoSem.ClaimMapViews
import Derived.JoinedTies
import Derived.KernelRfl
namespace Go.Proofs.Ytggidmcojepkgaa
/- THE CELL 'sum', in the pinned program and in every row, IS THE sha256 OF THE DUMP (.gsa) THAT YtggidmcojepkgaaProg.lean LOADS. Nothing in Lean hashes anything: it is a label: what it is worth is what the hold of that sum in a sandbox is worth. -/
noncomputable def Try.pinned : Pinned := { name := "ytggidmcojepkgaa", sum := "31a1eeab62655d674bdf660e6dc96f82079a77e39d2a6626af2ac219b923a53d", checked := Try.checked }
namespace Rows
def none {H : Type} : Left H := { results := [], args := [] }

/-- 'augurylaw11.MemoLast': WHATEVER THE INPUT: true; the input reads as it did. -/
def memoLastSpec : ChangeSpec := { name := "memoLast", fn := fun _ => fun
  | [d1, d2, d3, d4, d5, d6] => { results := [.lit (.bool true)], args := [d1, d2, d3, d4, d5, d6] }
  | _ => none }
def memoLastRow : OpenClaim := { program := "ytggidmcojepkgaa", sum := "31a1eeab62655d674bdf660e6dc96f82079a77e39d2a6626af2ac219b923a53d", func := "augury/augurylaw11.MemoLast", spec := "memoLast", apart := false }
def MemoLastSaid : Prop := memoLastRow.holds Try.pinned (OpenSpec.ofChange memoLastSpec)

/-- ITS FALSE NEIGHBOUR: 'it returns false'. Refute it at one input. -/
def memoLastWrong : ChangeSpec := { name := "memoLast", fn := fun _ => fun
  | [d1, d2, d3, d4, d5, d6] => { results := [.lit (.bool false)], args := [d1, d2, d3, d4, d5, d6] }
  | _ => none }
def MemoLastWrongFalsely : Prop := memoLastRow.holds Try.pinned (OpenSpec.ofChange memoLastWrong)

/-- 'augurylaw11.MemoHazards': WHATEVER THE INPUT: true; the input reads as it did. -/
def memoHazardsSpec : ChangeSpec := { name := "memoHazards", fn := fun _ => fun
  | [d1, d2, d3, d4, d5] => { results := [.lit (.bool true)], args := [d1, d2, d3, d4, d5] }
  | _ => none }
def memoHazardsRow : OpenClaim := { program := "ytggidmcojepkgaa", sum := "31a1eeab62655d674bdf660e6dc96f82079a77e39d2a6626af2ac219b923a53d", func := "augury/augurylaw11.MemoHazards", spec := "memoHazards", apart := false }
def MemoHazardsSaid : Prop := memoHazardsRow.holds Try.pinned (OpenSpec.ofChange memoHazardsSpec)

/-- ITS FALSE NEIGHBOUR: 'it returns false'. Refute it at one input. -/
def memoHazardsWrong : ChangeSpec := { name := "memoHazards", fn := fun _ => fun
  | [d1, d2, d3, d4, d5] => { results := [.lit (.bool false)], args := [d1, d2, d3, d4, d5] }
  | _ => none }
def MemoHazardsWrongFalsely : Prop := memoHazardsRow.holds Try.pinned (OpenSpec.ofChange memoHazardsWrong)

/-- 'augurylaw10.ResoLast': WHATEVER THE INPUT: true; the input reads as it did. -/
def resoLastSpec : ChangeSpec := { name := "resoLast", fn := fun _ => fun
  | [d1, d2, d3, d4, d5] => { results := [.lit (.bool true)], args := [d1, d2, d3, d4, d5] }
  | _ => none }
def resoLastRow : OpenClaim := { program := "ytggidmcojepkgaa", sum := "31a1eeab62655d674bdf660e6dc96f82079a77e39d2a6626af2ac219b923a53d", func := "augury/augurylaw10.ResoLast", spec := "resoLast", unfollowed := true, recurses := true, apart := false }
def ResoLastSaid : Prop := resoLastRow.holds Try.pinned (OpenSpec.ofChange resoLastSpec)

/-- ITS FALSE NEIGHBOUR: 'it returns false'. Refute it at one input. -/
def resoLastWrong : ChangeSpec := { name := "resoLast", fn := fun _ => fun
  | [d1, d2, d3, d4, d5] => { results := [.lit (.bool false)], args := [d1, d2, d3, d4, d5] }
  | _ => none }
def ResoLastWrongFalsely : Prop := resoLastRow.holds Try.pinned (OpenSpec.ofChange resoLastWrong)

/-- 'augurylaw10.ResoFences': WHATEVER THE INPUT: true; the input reads as it did. -/
def resoFencesSpec : ChangeSpec := { name := "resoFences", fn := fun _ => fun
  | [d1, d2, d3] => { results := [.lit (.bool true)], args := [d1, d2, d3] }
  | _ => none }
def resoFencesRow : OpenClaim := { program := "ytggidmcojepkgaa", sum := "31a1eeab62655d674bdf660e6dc96f82079a77e39d2a6626af2ac219b923a53d", func := "augury/augurylaw10.ResoFences", spec := "resoFences", unfollowed := true, recurses := true, apart := false }
def ResoFencesSaid : Prop := resoFencesRow.holds Try.pinned (OpenSpec.ofChange resoFencesSpec)

/-- ITS FALSE NEIGHBOUR: 'it returns false'. Refute it at one input. -/
def resoFencesWrong : ChangeSpec := { name := "resoFences", fn := fun _ => fun
  | [d1, d2, d3] => { results := [.lit (.bool false)], args := [d1, d2, d3] }
  | _ => none }
def ResoFencesWrongFalsely : Prop := resoFencesRow.holds Try.pinned (OpenSpec.ofChange resoFencesWrong)

/- THE SECOND FORM. 'bulk': how many values and letters a reading holds, each counted each time it is reached (what is shared counts as often as it is met; a slice's spare places count too). A statement '..UptoSaid' is the law's where the arguments, and the package variables that the reading takes, are together of bulk at most 1048576: NARROWER than '..Said'. Prove '..Said' where nothing that the law and all that it calls make is longer than what came in: it says more and counts as full. Else prove '..UptoSaid'. A law counts once. -/
mutual
def uptoBulk {H : Type} : DataW H → Nat
  | .lit (.string bytes) => bytes.length + 1
  | .lit _ => 1
  | .nil => 1
  | .ptr d => uptoBulk d + 1
  | .slice elems spare => uptoBulkAll elems + uptoBulkAll spare + 1
  | .agg parts => uptoBulkAll parts + 1
  | .iface _ d => uptoBulk d + 1
  | .map entries => uptoBulkEntries entries + 1
  | .held _ => 1
def uptoBulkAll {H : Type} : List (DataW H) → Nat
  | [] => 0
  | d :: r => uptoBulk d + uptoBulkAll r
def uptoBulkEntries {H : Type} : List (Lit × DataW H) → Nat
  | [] => 0
  | x :: r => uptoBulkEntry x + uptoBulkEntries r
def uptoBulkEntry {H : Type} : Lit × DataW H → Nat
  | (.string bytes, d) => bytes.length + uptoBulk d + 1
  | (_, d) => uptoBulk d + 1
 end
def uptoSmall : (H : Type) → List (DataW H) → Bool := fun _ ds => decide (uptoBulkAll ds ≤ 1048576)
def OpenSpec.upto (s : _root_.Go.ChangeSpec) : _root_.Go.OpenSpec := { _root_.Go.OpenSpec.ofChange s with cond := some uptoSmall }

/-- 'augurylaw11.MemoLast', WHERE WHAT IT READS IS OF BULK AT MOST 1048576: true; the input reads as it did. -/
def memoLastUptoRow : OpenClaim := { program := "ytggidmcojepkgaa", sum := "31a1eeab62655d674bdf660e6dc96f82079a77e39d2a6626af2ac219b923a53d", func := "augury/augurylaw11.MemoLast", spec := "memoLast", apart := false, narrowed := true }
def MemoLastUptoSaid : Prop := memoLastUptoRow.holds Try.pinned (OpenSpec.upto memoLastSpec)

/-- 'augurylaw11.MemoHazards', WHERE WHAT IT READS IS OF BULK AT MOST 1048576: true; the input reads as it did. -/
def memoHazardsUptoRow : OpenClaim := { program := "ytggidmcojepkgaa", sum := "31a1eeab62655d674bdf660e6dc96f82079a77e39d2a6626af2ac219b923a53d", func := "augury/augurylaw11.MemoHazards", spec := "memoHazards", apart := false, narrowed := true }
def MemoHazardsUptoSaid : Prop := memoHazardsUptoRow.holds Try.pinned (OpenSpec.upto memoHazardsSpec)

/-- 'augurylaw10.ResoLast', WHERE WHAT IT READS IS OF BULK AT MOST 1048576: true; the input reads as it did. -/
def resoLastUptoRow : OpenClaim := { program := "ytggidmcojepkgaa", sum := "31a1eeab62655d674bdf660e6dc96f82079a77e39d2a6626af2ac219b923a53d", func := "augury/augurylaw10.ResoLast", spec := "resoLast", unfollowed := true, recurses := true, apart := false, narrowed := true }
def ResoLastUptoSaid : Prop := resoLastUptoRow.holds Try.pinned (OpenSpec.upto resoLastSpec)

/-- 'augurylaw10.ResoFences', WHERE WHAT IT READS IS OF BULK AT MOST 1048576: true; the input reads as it did. -/
def resoFencesUptoRow : OpenClaim := { program := "ytggidmcojepkgaa", sum := "31a1eeab62655d674bdf660e6dc96f82079a77e39d2a6626af2ac219b923a53d", func := "augury/augurylaw10.ResoFences", spec := "resoFences", unfollowed := true, recurses := true, apart := false, narrowed := true }
def ResoFencesUptoSaid : Prop := resoFencesUptoRow.holds Try.pinned (OpenSpec.upto resoFencesSpec)

end Rows
end Go.Proofs.Ytggidmcojepkgaa
