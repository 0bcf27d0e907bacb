/-
  No cell of these rows narrows 'for every input' (looked for: loops, veiled, ifaces, maps, wideKeys, modest, calm, conditions, laid).
  DERIVED. THE GIVEN ROWS OF THIS SEAT. 10 by the template 'for every input the law returns true; each argument reads behind the call as it read before'; 0 by the template 'total and deterministic' (their statements: YtaimdjokdcfldaaTotals.lean).
  GIVEN WITH THE SEED: the statements are not yours to turn. If you find one false, say at which input.
  Laid BY PROGRAM, IN A SANDBOX (cutbox-rows.mjs): the forced cells as the released guide's own fill.sh prints them over the translation 5c969bf57587ea8b… (all of the seat's roots in one cut). By AI agents, Wed Nov 11 2026. No macro, syntax, notation, axiom, sorry.
-/
import Derived.Test.YtaimdjokdcfldaaChecked
import GoSem.Claim
import GoSem.ClaimJoined
import GoSem.ClaimMapViews
import Derived.JoinedTies
import Derived.KernelRfl
namespace Go.Proofs.Ytaimdjokdcfldaa
/- THE CELL 'sum', in the pinned program and in every row, IS THE sha256 OF THE DUMP (.gsa) THAT YtaimdjokdcfldaaProg.lean LOADS. Nothing in Lean hashes anything: it is a label: what it is worth is what the hold of that sum in a sandbox is worth. -/
noncomputable def Try.pinned : Pinned := { name := "ytaimdjokdcfldaa", sum := "5c969bf57587ea8bb2aab1fcab8f49eff83ca71d520589b2e9007231a89d7495", checked := Try.checked }
namespace Rows
def none {H : Type} : Left H := { results := [], args := [] }

/-- 'augurylaw8.SeqmForms': WHATEVER THE INPUT: true; the input reads as it did. -/
def seqmFormsSpec : ChangeSpec := { name := "seqmForms", fn := fun _ => fun
  | [d] => { results := [.lit (.bool true)], args := [d] }
  | _ => none }
def seqmFormsRow : OpenClaim := { program := "ytaimdjokdcfldaa", sum := "5c969bf57587ea8bb2aab1fcab8f49eff83ca71d520589b2e9007231a89d7495", func := "augury/augurylaw8.SeqmForms", spec := "seqmForms", unfollowed := true, recurses := true, apart := false }
def SeqmFormsSaid : Prop := seqmFormsRow.holds Try.pinned (OpenSpec.ofChange seqmFormsSpec)

/-- ITS FALSE NEIGHBOUR: 'it returns false'. Refute it at one input. -/
def seqmFormsWrong : ChangeSpec := { name := "seqmForms", fn := fun _ => fun
  | [d] => { results := [.lit (.bool false)], args := [d] }
  | _ => none }
def SeqmFormsWrongFalsely : Prop := seqmFormsRow.holds Try.pinned (OpenSpec.ofChange seqmFormsWrong)

/-- 'augurylaw8.SeqmStacks': WHATEVER THE INPUT: true; the input reads as it did. -/
def seqmStacksSpec : ChangeSpec := { name := "seqmStacks", fn := fun _ => fun
  | [d1, d2] => { results := [.lit (.bool true)], args := [d1, d2] }
  | _ => none }
def seqmStacksRow : OpenClaim := { program := "ytaimdjokdcfldaa", sum := "5c969bf57587ea8bb2aab1fcab8f49eff83ca71d520589b2e9007231a89d7495", func := "augury/augurylaw8.SeqmStacks", spec := "seqmStacks", apart := false }
def SeqmStacksSaid : Prop := seqmStacksRow.holds Try.pinned (OpenSpec.ofChange seqmStacksSpec)

/-- ITS FALSE NEIGHBOUR: 'it returns false'. Refute it at one input. -/
def seqmStacksWrong : ChangeSpec := { name := "seqmStacks", fn := fun _ => fun
  | [d1, d2] => { results := [.lit (.bool false)], args := [d1, d2] }
  | _ => none }
def SeqmStacksWrongFalsely : Prop := seqmStacksRow.holds Try.pinned (OpenSpec.ofChange seqmStacksWrong)

/-- 'augurylaw8.SeqmOwn': WHATEVER THE INPUT: true; the input reads as it did. -/
def seqmOwnSpec : ChangeSpec := { name := "seqmOwn", fn := fun _ => fun
  | [d1, d2, d3] => { results := [.lit (.bool true)], args := [d1, d2, d3] }
  | _ => none }
def seqmOwnRow : OpenClaim := { program := "ytaimdjokdcfldaa", sum := "5c969bf57587ea8bb2aab1fcab8f49eff83ca71d520589b2e9007231a89d7495", func := "augury/augurylaw8.SeqmOwn", spec := "seqmOwn", unfollowed := true, recurses := true, apart := false }
def SeqmOwnSaid : Prop := seqmOwnRow.holds Try.pinned (OpenSpec.ofChange seqmOwnSpec)

/-- ITS FALSE NEIGHBOUR: 'it returns false'. Refute it at one input. -/
def seqmOwnWrong : ChangeSpec := { name := "seqmOwn", fn := fun _ => fun
  | [d1, d2, d3] => { results := [.lit (.bool false)], args := [d1, d2, d3] }
  | _ => none }
def SeqmOwnWrongFalsely : Prop := seqmOwnRow.holds Try.pinned (OpenSpec.ofChange seqmOwnWrong)

/-- 'augurylaw8.SeqmTells': WHATEVER THE INPUT: true; the input reads as it did. -/
def seqmTellsSpec : ChangeSpec := { name := "seqmTells", fn := fun _ => fun
  | [d1, d2, d3, d4, d5, d6] => { results := [.lit (.bool true)], args := [d1, d2, d3, d4, d5, d6] }
  | _ => none }
def seqmTellsRow : OpenClaim := { program := "ytaimdjokdcfldaa", sum := "5c969bf57587ea8bb2aab1fcab8f49eff83ca71d520589b2e9007231a89d7495", func := "augury/augurylaw8.SeqmTells", spec := "seqmTells", unfollowed := true, recurses := true, apart := false }
def SeqmTellsSaid : Prop := seqmTellsRow.holds Try.pinned (OpenSpec.ofChange seqmTellsSpec)

/-- ITS FALSE NEIGHBOUR: 'it returns false'. Refute it at one input. -/
def seqmTellsWrong : ChangeSpec := { name := "seqmTells", fn := fun _ => fun
  | [d1, d2, d3, d4, d5, d6] => { results := [.lit (.bool false)], args := [d1, d2, d3, d4, d5, d6] }
  | _ => none }
def SeqmTellsWrongFalsely : Prop := seqmTellsRow.holds Try.pinned (OpenSpec.ofChange seqmTellsWrong)

/-- 'augurylaw8.SeqmParts': WHATEVER THE INPUT: true; the input reads as it did. -/
def seqmPartsSpec : ChangeSpec := { name := "seqmParts", fn := fun _ => fun
  | [d1, d2, d3, d4] => { results := [.lit (.bool true)], args := [d1, d2, d3, d4] }
  | _ => none }
def seqmPartsRow : OpenClaim := { program := "ytaimdjokdcfldaa", sum := "5c969bf57587ea8bb2aab1fcab8f49eff83ca71d520589b2e9007231a89d7495", func := "augury/augurylaw8.SeqmParts", spec := "seqmParts", unfollowed := true, recurses := true, apart := false }
def SeqmPartsSaid : Prop := seqmPartsRow.holds Try.pinned (OpenSpec.ofChange seqmPartsSpec)

/-- ITS FALSE NEIGHBOUR: 'it returns false'. Refute it at one input. -/
def seqmPartsWrong : ChangeSpec := { name := "seqmParts", fn := fun _ => fun
  | [d1, d2, d3, d4] => { results := [.lit (.bool false)], args := [d1, d2, d3, d4] }
  | _ => none }
def SeqmPartsWrongFalsely : Prop := seqmPartsRow.holds Try.pinned (OpenSpec.ofChange seqmPartsWrong)

/-- 'augurylaw23.ClasTraces': WHATEVER THE INPUT: true; the input reads as it did. -/
def clasTracesSpec : ChangeSpec := { name := "clasTraces", fn := fun _ => fun
  | [d1, d2, d3, d4] => { results := [.lit (.bool true)], args := [d1, d2, d3, d4] }
  | _ => none }
def clasTracesRow : OpenClaim := { program := "ytaimdjokdcfldaa", sum := "5c969bf57587ea8bb2aab1fcab8f49eff83ca71d520589b2e9007231a89d7495", func := "augury/augurylaw23.ClasTraces", spec := "clasTraces", unfollowed := true, recurses := true, apart := false }
def ClasTracesSaid : Prop := clasTracesRow.holds Try.pinned (OpenSpec.ofChange clasTracesSpec)

/-- ITS FALSE NEIGHBOUR: 'it returns false'. Refute it at one input. -/
def clasTracesWrong : ChangeSpec := { name := "clasTraces", fn := fun _ => fun
  | [d1, d2, d3, d4] => { results := [.lit (.bool false)], args := [d1, d2, d3, d4] }
  | _ => none }
def ClasTracesWrongFalsely : Prop := clasTracesRow.holds Try.pinned (OpenSpec.ofChange clasTracesWrong)

/-- 'augurylaw23.ClasForms': WHATEVER THE INPUT: true; the input reads as it did. -/
def clasFormsSpec : ChangeSpec := { name := "clasForms", fn := fun _ => fun
  | [d] => { results := [.lit (.bool true)], args := [d] }
  | _ => none }
def clasFormsRow : OpenClaim := { program := "ytaimdjokdcfldaa", sum := "5c969bf57587ea8bb2aab1fcab8f49eff83ca71d520589b2e9007231a89d7495", func := "augury/augurylaw23.ClasForms", spec := "clasForms", unfollowed := true, recurses := true, apart := false }
def ClasFormsSaid : Prop := clasFormsRow.holds Try.pinned (OpenSpec.ofChange clasFormsSpec)

/-- ITS FALSE NEIGHBOUR: 'it returns false'. Refute it at one input. -/
def clasFormsWrong : ChangeSpec := { name := "clasForms", fn := fun _ => fun
  | [d] => { results := [.lit (.bool false)], args := [d] }
  | _ => none }
def ClasFormsWrongFalsely : Prop := clasFormsRow.holds Try.pinned (OpenSpec.ofChange clasFormsWrong)

/-- 'augurylaw23.ClasNarrow': WHATEVER THE INPUT: true; the input reads as it did. -/
def clasNarrowSpec : ChangeSpec := { name := "clasNarrow", fn := fun _ => fun
  | [d1, d2, d3, d4] => { results := [.lit (.bool true)], args := [d1, d2, d3, d4] }
  | _ => none }
def clasNarrowRow : OpenClaim := { program := "ytaimdjokdcfldaa", sum := "5c969bf57587ea8bb2aab1fcab8f49eff83ca71d520589b2e9007231a89d7495", func := "augury/augurylaw23.ClasNarrow", spec := "clasNarrow", unfollowed := true, recurses := true, apart := false }
def ClasNarrowSaid : Prop := clasNarrowRow.holds Try.pinned (OpenSpec.ofChange clasNarrowSpec)

/-- ITS FALSE NEIGHBOUR: 'it returns false'. Refute it at one input. -/
def clasNarrowWrong : ChangeSpec := { name := "clasNarrow", fn := fun _ => fun
  | [d1, d2, d3, d4] => { results := [.lit (.bool false)], args := [d1, d2, d3, d4] }
  | _ => none }
def ClasNarrowWrongFalsely : Prop := clasNarrowRow.holds Try.pinned (OpenSpec.ofChange clasNarrowWrong)

/-- 'augurylaw23.ClasTells': WHATEVER THE INPUT: true; the input reads as it did. -/
def clasTellsSpec : ChangeSpec := { name := "clasTells", fn := fun _ => fun
  | [d1, d2, d3, d4] => { results := [.lit (.bool true)], args := [d1, d2, d3, d4] }
  | _ => none }
def clasTellsRow : OpenClaim := { program := "ytaimdjokdcfldaa", sum := "5c969bf57587ea8bb2aab1fcab8f49eff83ca71d520589b2e9007231a89d7495", func := "augury/augurylaw23.ClasTells", spec := "clasTells", unfollowed := true, recurses := true, apart := false }
def ClasTellsSaid : Prop := clasTellsRow.holds Try.pinned (OpenSpec.ofChange clasTellsSpec)

/-- ITS FALSE NEIGHBOUR: 'it returns false'. Refute it at one input. -/
def clasTellsWrong : ChangeSpec := { name := "clasTells", fn := fun _ => fun
  | [d1, d2, d3, d4] => { results := [.lit (.bool false)], args := [d1, d2, d3, d4] }
  | _ => none }
def ClasTellsWrongFalsely : Prop := clasTellsRow.holds Try.pinned (OpenSpec.ofChange clasTellsWrong)

/-- 'augurylaw23.ClasFirst': WHATEVER THE INPUT: true; the input reads as it did. -/
def clasFirstSpec : ChangeSpec := { name := "clasFirst", fn := fun _ => fun
  | [d] => { results := [.lit (.bool true)], args := [d] }
  | _ => none }
def clasFirstRow : OpenClaim := { program := "ytaimdjokdcfldaa", sum := "5c969bf57587ea8bb2aab1fcab8f49eff83ca71d520589b2e9007231a89d7495", func := "augury/augurylaw23.ClasFirst", spec := "clasFirst", unfollowed := true, recurses := true, apart := false }
def ClasFirstSaid : Prop := clasFirstRow.holds Try.pinned (OpenSpec.ofChange clasFirstSpec)

/-- ITS FALSE NEIGHBOUR: 'it returns false'. Refute it at one input. -/
def clasFirstWrong : ChangeSpec := { name := "clasFirst", fn := fun _ => fun
  | [d] => { results := [.lit (.bool false)], args := [d] }
  | _ => none }
def ClasFirstWrongFalsely : Prop := clasFirstRow.holds Try.pinned (OpenSpec.ofChange clasFirstWrong)

/- THE SECOND FORM. 'bulk': how many values and letters a reading holds, each counted each time it is reached (what is shared counts as often as it is met; a slice's spare places count too). A statement '..UptoSaid' is the law's where the arguments, and the package variables that the reading takes, are together of bulk at most 1048576: NARROWER than '..Said'. Prove '..Said' where nothing that the law and all that it calls make is longer than what came in: it says more and counts as full. Else prove '..UptoSaid'. A law counts once. -/
mutual
def uptoBulk {H : Type} : DataW H → Nat
  | .lit (.string bytes) => bytes.length + 1
  | .lit _ => 1
  | .nil => 1
  | .ptr d => uptoBulk d + 1
  | .slice elems spare => uptoBulkAll elems + uptoBulkAll spare + 1
  | .agg parts => uptoBulkAll parts + 1
  | .iface _ d => uptoBulk d + 1
  | .map entries => uptoBulkEntries entries + 1
  | .held _ => 1
def uptoBulkAll {H : Type} : List (DataW H) → Nat
  | [] => 0
  | d :: r => uptoBulk d + uptoBulkAll r
def uptoBulkEntries {H : Type} : List (Lit × DataW H) → Nat
  | [] => 0
  | x :: r => uptoBulkEntry x + uptoBulkEntries r
def uptoBulkEntry {H : Type} : Lit × DataW H → Nat
  | (.string bytes, d) => bytes.length + uptoBulk d + 1
  | (_, d) => uptoBulk d + 1
 end
def uptoSmall : (H : Type) → List (DataW H) → Bool := fun _ ds => decide (uptoBulkAll ds ≤ 1048576)
def OpenSpec.upto (s : _root_.Go.ChangeSpec) : _root_.Go.OpenSpec := { _root_.Go.OpenSpec.ofChange s with cond := some uptoSmall }

/-- 'augurylaw8.SeqmForms', WHERE WHAT IT READS IS OF BULK AT MOST 1048576: true; the input reads as it did. -/
def seqmFormsUptoRow : OpenClaim := { program := "ytaimdjokdcfldaa", sum := "5c969bf57587ea8bb2aab1fcab8f49eff83ca71d520589b2e9007231a89d7495", func := "augury/augurylaw8.SeqmForms", spec := "seqmForms", unfollowed := true, recurses := true, apart := false, narrowed := true }
def SeqmFormsUptoSaid : Prop := seqmFormsUptoRow.holds Try.pinned (OpenSpec.upto seqmFormsSpec)

/-- 'augurylaw8.SeqmStacks', WHERE WHAT IT READS IS OF BULK AT MOST 1048576: true; the input reads as it did. -/
def seqmStacksUptoRow : OpenClaim := { program := "ytaimdjokdcfldaa", sum := "5c969bf57587ea8bb2aab1fcab8f49eff83ca71d520589b2e9007231a89d7495", func := "augury/augurylaw8.SeqmStacks", spec := "seqmStacks", apart := false, narrowed := true }
def SeqmStacksUptoSaid : Prop := seqmStacksUptoRow.holds Try.pinned (OpenSpec.upto seqmStacksSpec)

/-- 'augurylaw8.SeqmOwn', WHERE WHAT IT READS IS OF BULK AT MOST 1048576: true; the input reads as it did. -/
def seqmOwnUptoRow : OpenClaim := { program := "ytaimdjokdcfldaa", sum := "5c969bf57587ea8bb2aab1fcab8f49eff83ca71d520589b2e9007231a89d7495", func := "augury/augurylaw8.SeqmOwn", spec := "seqmOwn", unfollowed := true, recurses := true, apart := false, narrowed := true }
def SeqmOwnUptoSaid : Prop := seqmOwnUptoRow.holds Try.pinned (OpenSpec.upto seqmOwnSpec)

/-- 'augurylaw8.SeqmTells', WHERE WHAT IT READS IS OF BULK AT MOST 1048576: true; the input reads as it did. -/
def seqmTellsUptoRow : OpenClaim := { program := "ytaimdjokdcfldaa", sum := "5c969bf57587ea8bb2aab1fcab8f49eff83ca71d520589b2e9007231a89d7495", func := "augury/augurylaw8.SeqmTells", spec := "seqmTells", unfollowed := true, recurses := true, apart := false, narrowed := true }
def SeqmTellsUptoSaid : Prop := seqmTellsUptoRow.holds Try.pinned (OpenSpec.upto seqmTellsSpec)

/-- 'augurylaw8.SeqmParts', WHERE WHAT IT READS IS OF BULK AT MOST 1048576: true; the input reads as it did. -/
def seqmPartsUptoRow : OpenClaim := { program := "ytaimdjokdcfldaa", sum := "5c969bf57587ea8bb2aab1fcab8f49eff83ca71d520589b2e9007231a89d7495", func := "augury/augurylaw8.SeqmParts", spec := "seqmParts", unfollowed := true, recurses := true, apart := false, narrowed := true }
def SeqmPartsUptoSaid : Prop := seqmPartsUptoRow.holds Try.pinned (OpenSpec.upto seqmPartsSpec)

/-- 'augurylaw23.ClasTraces', WHERE WHAT IT READS IS OF BULK AT MOST 1048576: true; the input reads as it did. -/
def clasTracesUptoRow : OpenClaim := { program := "ytaimdjokdcfldaa", sum := "5c969bf57587ea8bb2aab1fcab8f49eff83ca71d520589b2e9007231a89d7495", func := "augury/augurylaw23.ClasTraces", spec := "clasTraces", unfollowed := true, recurses := true, apart := false, narrowed := true }
def ClasTracesUptoSaid : Prop := clasTracesUptoRow.holds Try.pinned (OpenSpec.upto clasTracesSpec)

/-- 'augurylaw23.ClasForms', WHERE WHAT IT READS IS OF BULK AT MOST 1048576: true; the input reads as it did. -/
def clasFormsUptoRow : OpenClaim := { program := "ytaimdjokdcfldaa", sum := "5c969bf57587ea8bb2aab1fcab8f49eff83ca71d520589b2e9007231a89d7495", func := "augury/augurylaw23.ClasForms", spec := "clasForms", unfollowed := true, recurses := true, apart := false, narrowed := true }
def ClasFormsUptoSaid : Prop := clasFormsUptoRow.holds Try.pinned (OpenSpec.upto clasFormsSpec)

/-- 'augurylaw23.ClasNarrow', WHERE WHAT IT READS IS OF BULK AT MOST 1048576: true; the input reads as it did. -/
def clasNarrowUptoRow : OpenClaim := { program := "ytaimdjokdcfldaa", sum := "5c969bf57587ea8bb2aab1fcab8f49eff83ca71d520589b2e9007231a89d7495", func := "augury/augurylaw23.ClasNarrow", spec := "clasNarrow", unfollowed := true, recurses := true, apart := false, narrowed := true }
def ClasNarrowUptoSaid : Prop := clasNarrowUptoRow.holds Try.pinned (OpenSpec.upto clasNarrowSpec)

/-- 'augurylaw23.ClasTells', WHERE WHAT IT READS IS OF BULK AT MOST 1048576: true; the input reads as it did. -/
def clasTellsUptoRow : OpenClaim := { program := "ytaimdjokdcfldaa", sum := "5c969bf57587ea8bb2aab1fcab8f49eff83ca71d520589b2e9007231a89d7495", func := "augury/augurylaw23.ClasTells", spec := "clasTells", unfollowed := true, recurses := true, apart := false, narrowed := true }
def ClasTellsUptoSaid : Prop := clasTellsUptoRow.holds Try.pinned (OpenSpec.upto clasTellsSpec)

/-- 'augurylaw23.ClasFirst', WHERE WHAT IT READS IS OF BULK AT MOST 1048576: true; the input reads as it did. -/
def clasFirstUptoRow : OpenClaim := { program := "ytaimdjokdcfldaa", sum := "5c969bf57587ea8bb2aab1fcab8f49eff83ca71d520589b2e9007231a89d7495", func := "augury/augurylaw23.ClasFirst", spec := "clasFirst", unfollowed := true, recurses := true, apart := false, narrowed := true }
def ClasFirstUptoSaid : Prop := clasFirstUptoRow.holds Try.pinned (OpenSpec.upto clasFirstSpec)

end Rows
end Go.Proofs.Ytaimdjokdcfldaa
