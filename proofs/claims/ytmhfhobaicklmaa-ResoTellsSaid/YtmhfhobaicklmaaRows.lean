/-
  No cell of these rows narrows 'for every input' (looked for: loops, veiled, ifaces, maps, wideKeys, modest, calm, conditions, laid).
  DERIVED. THE GIVEN ROWS OF THIS SEAT. 8 by the template 'for every input the law returns true; each argument reads behind the call as it read before'; 0 by the template 'total and deterministic' (their statements: YtmhfhobaicklmaaTotals.lean).
  GIVEN WITH THE SEED: the statements are not yours to turn. If you find one false, say at which input.
  Laid BY PROGRAM, IN A SANDBOX (cutbox-rows.mjs): the forced cells as the released guide's own fill.sh prints them over the translation 19d3bb2e7ca5d78c… (all of the seat's roots in one cut). By AI agents, Wed Nov 11 2026. No macro, syntax, notation, axiom, sorry.
-/
import Derived.Test.YtmhfhobaicklmaaChecked
import GoSem.Claim
import GoSem.ClaimJoined
import GoSem.ClaimMapViews
import Derived.JoinedTies
import Derived.KernelRfl
namespace Go.Proofs.Ytmhfhobaicklmaa
/- THE CELL 'sum', in the pinned program and in every row, IS THE sha256 OF THE DUMP (.gsa) THAT YtmhfhobaicklmaaProg.lean LOADS. Nothing in Lean hashes anything: it is a label: what it is worth is what the hold of that sum in a sandbox is worth. -/
noncomputable def Try.pinned : Pinned := { name := "ytmhfhobaicklmaa", sum := "19d3bb2e7ca5d78c6a5d493b1189e208ffb132b63698b4a172870744673cdb58", checked := Try.checked }
namespace Rows
def none {H : Type} : Left H := { results := [], args := [] }

/-- 'augurylaw11.MemoApart': WHATEVER THE INPUT: true; the input reads as it did. -/
def memoApartSpec : ChangeSpec := { name := "memoApart", fn := fun _ => fun
  | [d1, d2, d3, d4] => { results := [.lit (.bool true)], args := [d1, d2, d3, d4] }
  | _ => none }
def memoApartRow : OpenClaim := { program := "ytmhfhobaicklmaa", sum := "19d3bb2e7ca5d78c6a5d493b1189e208ffb132b63698b4a172870744673cdb58", func := "augury/augurylaw11.MemoApart", spec := "memoApart", unfollowed := true, recurses := true, apart := false }
def MemoApartSaid : Prop := memoApartRow.holds Try.pinned (OpenSpec.ofChange memoApartSpec)

/-- ITS FALSE NEIGHBOUR: 'it returns false'. Refute it at one input. -/
def memoApartWrong : ChangeSpec := { name := "memoApart", fn := fun _ => fun
  | [d1, d2, d3, d4] => { results := [.lit (.bool false)], args := [d1, d2, d3, d4] }
  | _ => none }
def MemoApartWrongFalsely : Prop := memoApartRow.holds Try.pinned (OpenSpec.ofChange memoApartWrong)

/-- 'augurylaw10.ResoSame': WHATEVER THE INPUT: true; the input reads as it did. -/
def resoSameSpec : ChangeSpec := { name := "resoSame", fn := fun _ => fun
  | [d1, d2, d3] => { results := [.lit (.bool true)], args := [d1, d2, d3] }
  | _ => none }
def resoSameRow : OpenClaim := { program := "ytmhfhobaicklmaa", sum := "19d3bb2e7ca5d78c6a5d493b1189e208ffb132b63698b4a172870744673cdb58", func := "augury/augurylaw10.ResoSame", spec := "resoSame", unfollowed := true, recurses := true, apart := false }
def ResoSameSaid : Prop := resoSameRow.holds Try.pinned (OpenSpec.ofChange resoSameSpec)

/-- ITS FALSE NEIGHBOUR: 'it returns false'. Refute it at one input. -/
def resoSameWrong : ChangeSpec := { name := "resoSame", fn := fun _ => fun
  | [d1, d2, d3] => { results := [.lit (.bool false)], args := [d1, d2, d3] }
  | _ => none }
def ResoSameWrongFalsely : Prop := resoSameRow.holds Try.pinned (OpenSpec.ofChange resoSameWrong)

/-- 'augurylaw10.ResoTells': WHATEVER THE INPUT: true; the input reads as it did. -/
def resoTellsSpec : ChangeSpec := { name := "resoTells", fn := fun _ => fun
  | [d1, d2, d3, d4, d5, d6] => { results := [.lit (.bool true)], args := [d1, d2, d3, d4, d5, d6] }
  | _ => none }
def resoTellsRow : OpenClaim := { program := "ytmhfhobaicklmaa", sum := "19d3bb2e7ca5d78c6a5d493b1189e208ffb132b63698b4a172870744673cdb58", func := "augury/augurylaw10.ResoTells", spec := "resoTells", unfollowed := true, recurses := true, apart := false }
def ResoTellsSaid : Prop := resoTellsRow.holds Try.pinned (OpenSpec.ofChange resoTellsSpec)

/-- ITS FALSE NEIGHBOUR: 'it returns false'. Refute it at one input. -/
def resoTellsWrong : ChangeSpec := { name := "resoTells", fn := fun _ => fun
  | [d1, d2, d3, d4, d5, d6] => { results := [.lit (.bool false)], args := [d1, d2, d3, d4, d5, d6] }
  | _ => none }
def ResoTellsWrongFalsely : Prop := resoTellsRow.holds Try.pinned (OpenSpec.ofChange resoTellsWrong)

/-- 'augurylaw4.LexrPlaces': WHATEVER THE INPUT: true; the input reads as it did. -/
def lexrPlacesSpec : ChangeSpec := { name := "lexrPlaces", fn := fun _ => fun
  | [d1, d2, d3] => { results := [.lit (.bool true)], args := [d1, d2, d3] }
  | _ => none }
def lexrPlacesRow : OpenClaim := { program := "ytmhfhobaicklmaa", sum := "19d3bb2e7ca5d78c6a5d493b1189e208ffb132b63698b4a172870744673cdb58", func := "augury/augurylaw4.LexrPlaces", spec := "lexrPlaces", inPlace := ["internal/bytealg.IndexByteString", "internal/bytealg.IndexString"], unfollowed := true, recurses := true, named := ["internal/bytealg.MaxLen"], apart := false }
def LexrPlacesSaid : Prop := lexrPlacesRow.holds Try.pinned (OpenSpec.ofChange lexrPlacesSpec)

/-- ITS FALSE NEIGHBOUR: 'it returns false'. Refute it at one input. -/
def lexrPlacesWrong : ChangeSpec := { name := "lexrPlaces", fn := fun _ => fun
  | [d1, d2, d3] => { results := [.lit (.bool false)], args := [d1, d2, d3] }
  | _ => none }
def LexrPlacesWrongFalsely : Prop := lexrPlacesRow.holds Try.pinned (OpenSpec.ofChange lexrPlacesWrong)

/-- 'augurylaw4.LexrSigns': WHATEVER THE INPUT: true; the input reads as it did. -/
def lexrSignsSpec : ChangeSpec := { name := "lexrSigns", fn := fun _ => fun
  | [d] => { results := [.lit (.bool true)], args := [d] }
  | _ => none }
def lexrSignsRow : OpenClaim := { program := "ytmhfhobaicklmaa", sum := "19d3bb2e7ca5d78c6a5d493b1189e208ffb132b63698b4a172870744673cdb58", func := "augury/augurylaw4.LexrSigns", spec := "lexrSigns", inPlace := ["internal/bytealg.IndexByteString", "internal/bytealg.IndexString"], unfollowed := true, recurses := true, named := ["internal/bytealg.MaxLen"], apart := false }
def LexrSignsSaid : Prop := lexrSignsRow.holds Try.pinned (OpenSpec.ofChange lexrSignsSpec)

/-- ITS FALSE NEIGHBOUR: 'it returns false'. Refute it at one input. -/
def lexrSignsWrong : ChangeSpec := { name := "lexrSigns", fn := fun _ => fun
  | [d] => { results := [.lit (.bool false)], args := [d] }
  | _ => none }
def LexrSignsWrongFalsely : Prop := lexrSignsRow.holds Try.pinned (OpenSpec.ofChange lexrSignsWrong)

/-- 'augurylaw4.LexrTells': WHATEVER THE INPUT: true; the input reads as it did. -/
def lexrTellsSpec : ChangeSpec := { name := "lexrTells", fn := fun _ => fun
  | [d1, d2] => { results := [.lit (.bool true)], args := [d1, d2] }
  | _ => none }
def lexrTellsRow : OpenClaim := { program := "ytmhfhobaicklmaa", sum := "19d3bb2e7ca5d78c6a5d493b1189e208ffb132b63698b4a172870744673cdb58", func := "augury/augurylaw4.LexrTells", spec := "lexrTells", inPlace := ["internal/bytealg.IndexByteString", "internal/bytealg.IndexString"], unfollowed := true, recurses := true, named := ["internal/bytealg.MaxLen"], apart := false }
def LexrTellsSaid : Prop := lexrTellsRow.holds Try.pinned (OpenSpec.ofChange lexrTellsSpec)

/-- ITS FALSE NEIGHBOUR: 'it returns false'. Refute it at one input. -/
def lexrTellsWrong : ChangeSpec := { name := "lexrTells", fn := fun _ => fun
  | [d1, d2] => { results := [.lit (.bool false)], args := [d1, d2] }
  | _ => none }
def LexrTellsWrongFalsely : Prop := lexrTellsRow.holds Try.pinned (OpenSpec.ofChange lexrTellsWrong)

/-- 'augurylaw4.LexrBlanks': WHATEVER THE INPUT: true; the input reads as it did. -/
def lexrBlanksSpec : ChangeSpec := { name := "lexrBlanks", fn := fun _ => fun
  | [d1, d2] => { results := [.lit (.bool true)], args := [d1, d2] }
  | _ => none }
def lexrBlanksRow : OpenClaim := { program := "ytmhfhobaicklmaa", sum := "19d3bb2e7ca5d78c6a5d493b1189e208ffb132b63698b4a172870744673cdb58", func := "augury/augurylaw4.LexrBlanks", spec := "lexrBlanks", inPlace := ["internal/bytealg.IndexByteString", "internal/bytealg.IndexString"], unfollowed := true, recurses := true, named := ["internal/bytealg.MaxLen"], apart := false }
def LexrBlanksSaid : Prop := lexrBlanksRow.holds Try.pinned (OpenSpec.ofChange lexrBlanksSpec)

/-- ITS FALSE NEIGHBOUR: 'it returns false'. Refute it at one input. -/
def lexrBlanksWrong : ChangeSpec := { name := "lexrBlanks", fn := fun _ => fun
  | [d1, d2] => { results := [.lit (.bool false)], args := [d1, d2] }
  | _ => none }
def LexrBlanksWrongFalsely : Prop := lexrBlanksRow.holds Try.pinned (OpenSpec.ofChange lexrBlanksWrong)

/-- 'augurylaw8.SeqmOwn': WHATEVER THE INPUT: true; the input reads as it did. -/
def seqmOwnSpec : ChangeSpec := { name := "seqmOwn", fn := fun _ => fun
  | [d1, d2, d3] => { results := [.lit (.bool true)], args := [d1, d2, d3] }
  | _ => none }
def seqmOwnRow : OpenClaim := { program := "ytmhfhobaicklmaa", sum := "19d3bb2e7ca5d78c6a5d493b1189e208ffb132b63698b4a172870744673cdb58", func := "augury/augurylaw8.SeqmOwn", spec := "seqmOwn", unfollowed := true, recurses := true, apart := false }
def SeqmOwnSaid : Prop := seqmOwnRow.holds Try.pinned (OpenSpec.ofChange seqmOwnSpec)

/-- ITS FALSE NEIGHBOUR: 'it returns false'. Refute it at one input. -/
def seqmOwnWrong : ChangeSpec := { name := "seqmOwn", fn := fun _ => fun
  | [d1, d2, d3] => { results := [.lit (.bool false)], args := [d1, d2, d3] }
  | _ => none }
def SeqmOwnWrongFalsely : Prop := seqmOwnRow.holds Try.pinned (OpenSpec.ofChange seqmOwnWrong)

/- THE SECOND FORM. 'bulk': how many values and letters a reading holds, each counted each time it is reached (what is shared counts as often as it is met; a slice's spare places count too). A statement '..UptoSaid' is the law's where the arguments, and the package variables that the reading takes, are together of bulk at most 1048576: NARROWER than '..Said'. Prove '..Said' where nothing that the law and all that it calls make is longer than what came in: it says more and counts as full. Else prove '..UptoSaid'. A law counts once. -/
mutual
def uptoBulk {H : Type} : DataW H → Nat
  | .lit (.string bytes) => bytes.length + 1
  | .lit _ => 1
  | .nil => 1
  | .ptr d => uptoBulk d + 1
  | .slice elems spare => uptoBulkAll elems + uptoBulkAll spare + 1
  | .agg parts => uptoBulkAll parts + 1
  | .iface _ d => uptoBulk d + 1
  | .map entries => uptoBulkEntries entries + 1
  | .held _ => 1
def uptoBulkAll {H : Type} : List (DataW H) → Nat
  | [] => 0
  | d :: r => uptoBulk d + uptoBulkAll r
def uptoBulkEntries {H : Type} : List (Lit × DataW H) → Nat
  | [] => 0
  | x :: r => uptoBulkEntry x + uptoBulkEntries r
def uptoBulkEntry {H : Type} : Lit × DataW H → Nat
  | (.string bytes, d) => bytes.length + uptoBulk d + 1
  | (_, d) => uptoBulk d + 1
 end
def uptoSmall : (H : Type) → List (DataW H) → Bool := fun _ ds => decide (uptoBulkAll ds ≤ 1048576)
def OpenSpec.upto (s : _root_.Go.ChangeSpec) : _root_.Go.OpenSpec := { _root_.Go.OpenSpec.ofChange s with cond := some uptoSmall }

/-- 'augurylaw11.MemoApart', WHERE WHAT IT READS IS OF BULK AT MOST 1048576: true; the input reads as it did. -/
def memoApartUptoRow : OpenClaim := { program := "ytmhfhobaicklmaa", sum := "19d3bb2e7ca5d78c6a5d493b1189e208ffb132b63698b4a172870744673cdb58", func := "augury/augurylaw11.MemoApart", spec := "memoApart", unfollowed := true, recurses := true, apart := false, narrowed := true }
def MemoApartUptoSaid : Prop := memoApartUptoRow.holds Try.pinned (OpenSpec.upto memoApartSpec)

/-- 'augurylaw10.ResoSame', WHERE WHAT IT READS IS OF BULK AT MOST 1048576: true; the input reads as it did. -/
def resoSameUptoRow : OpenClaim := { program := "ytmhfhobaicklmaa", sum := "19d3bb2e7ca5d78c6a5d493b1189e208ffb132b63698b4a172870744673cdb58", func := "augury/augurylaw10.ResoSame", spec := "resoSame", unfollowed := true, recurses := true, apart := false, narrowed := true }
def ResoSameUptoSaid : Prop := resoSameUptoRow.holds Try.pinned (OpenSpec.upto resoSameSpec)

/-- 'augurylaw10.ResoTells', WHERE WHAT IT READS IS OF BULK AT MOST 1048576: true; the input reads as it did. -/
def resoTellsUptoRow : OpenClaim := { program := "ytmhfhobaicklmaa", sum := "19d3bb2e7ca5d78c6a5d493b1189e208ffb132b63698b4a172870744673cdb58", func := "augury/augurylaw10.ResoTells", spec := "resoTells", unfollowed := true, recurses := true, apart := false, narrowed := true }
def ResoTellsUptoSaid : Prop := resoTellsUptoRow.holds Try.pinned (OpenSpec.upto resoTellsSpec)

/-- 'augurylaw4.LexrPlaces', WHERE WHAT IT READS IS OF BULK AT MOST 1048576: true; the input reads as it did. -/
def lexrPlacesUptoRow : OpenClaim := { program := "ytmhfhobaicklmaa", sum := "19d3bb2e7ca5d78c6a5d493b1189e208ffb132b63698b4a172870744673cdb58", func := "augury/augurylaw4.LexrPlaces", spec := "lexrPlaces", inPlace := ["internal/bytealg.IndexByteString", "internal/bytealg.IndexString"], unfollowed := true, recurses := true, named := ["internal/bytealg.MaxLen"], apart := false, narrowed := true }
def LexrPlacesUptoSaid : Prop := lexrPlacesUptoRow.holds Try.pinned (OpenSpec.upto lexrPlacesSpec)

/-- 'augurylaw4.LexrSigns', WHERE WHAT IT READS IS OF BULK AT MOST 1048576: true; the input reads as it did. -/
def lexrSignsUptoRow : OpenClaim := { program := "ytmhfhobaicklmaa", sum := "19d3bb2e7ca5d78c6a5d493b1189e208ffb132b63698b4a172870744673cdb58", func := "augury/augurylaw4.LexrSigns", spec := "lexrSigns", inPlace := ["internal/bytealg.IndexByteString", "internal/bytealg.IndexString"], unfollowed := true, recurses := true, named := ["internal/bytealg.MaxLen"], apart := false, narrowed := true }
def LexrSignsUptoSaid : Prop := lexrSignsUptoRow.holds Try.pinned (OpenSpec.upto lexrSignsSpec)

/-- 'augurylaw4.LexrTells', WHERE WHAT IT READS IS OF BULK AT MOST 1048576: true; the input reads as it did. -/
def lexrTellsUptoRow : OpenClaim := { program := "ytmhfhobaicklmaa", sum := "19d3bb2e7ca5d78c6a5d493b1189e208ffb132b63698b4a172870744673cdb58", func := "augury/augurylaw4.LexrTells", spec := "lexrTells", inPlace := ["internal/bytealg.IndexByteString", "internal/bytealg.IndexString"], unfollowed := true, recurses := true, named := ["internal/bytealg.MaxLen"], apart := false, narrowed := true }
def LexrTellsUptoSaid : Prop := lexrTellsUptoRow.holds Try.pinned (OpenSpec.upto lexrTellsSpec)

/-- 'augurylaw4.LexrBlanks', WHERE WHAT IT READS IS OF BULK AT MOST 1048576: true; the input reads as it did. -/
def lexrBlanksUptoRow : OpenClaim := { program := "ytmhfhobaicklmaa", sum := "19d3bb2e7ca5d78c6a5d493b1189e208ffb132b63698b4a172870744673cdb58", func := "augury/augurylaw4.LexrBlanks", spec := "lexrBlanks", inPlace := ["internal/bytealg.IndexByteString", "internal/bytealg.IndexString"], unfollowed := true, recurses := true, named := ["internal/bytealg.MaxLen"], apart := false, narrowed := true }
def LexrBlanksUptoSaid : Prop := lexrBlanksUptoRow.holds Try.pinned (OpenSpec.upto lexrBlanksSpec)

/-- 'augurylaw8.SeqmOwn', WHERE WHAT IT READS IS OF BULK AT MOST 1048576: true; the input reads as it did. -/
def seqmOwnUptoRow : OpenClaim := { program := "ytmhfhobaicklmaa", sum := "19d3bb2e7ca5d78c6a5d493b1189e208ffb132b63698b4a172870744673cdb58", func := "augury/augurylaw8.SeqmOwn", spec := "seqmOwn", unfollowed := true, recurses := true, apart := false, narrowed := true }
def SeqmOwnUptoSaid : Prop := seqmOwnUptoRow.holds Try.pinned (OpenSpec.upto seqmOwnSpec)

end Rows
end Go.Proofs.Ytmhfhobaicklmaa
