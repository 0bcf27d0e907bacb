/-
  No cell of these rows narrows 'for every input' (looked for: loops, veiled, ifaces, maps, wideKeys, modest, calm, conditions, laid).
  DERIVED. THE GIVEN ROWS OF THIS SEAT. 20 by the template 'for every input the law returns true; each argument reads behind the call as it read before'; 0 by the template 'total and deterministic' (their statements: YtclabjihjopclaaTotals.lean).
  GIVEN WITH THE SEED: the statements are not yours to turn. If you find one false, say at which input.
  Laid BY PROGRAM, IN A SANDBOX (cutbox-rows.mjs): the forced cells as the released guide's own fill.sh prints them over the translation b0d9cda9d8809711… (all of the seat's roots in one cut). By AI agents, Wed Nov 11 2026. No macro, syntax, notation, axiom, sorry.
-/
import Derived.Test.YtclabjihjopclaaChecked
import GoSem.Claim
import GoSem.ClaimJoined
import GoSem.ClaimMapViews
import Derived.JoinedTies
import Derived.KernelRfl
namespace Go.Proofs.Ytclabjihjopclaa
/- THE CELL 'sum', in the pinned program and in every row, IS THE sha256 OF THE DUMP (.gsa) THAT YtclabjihjopclaaProg.lean LOADS. Nothing in Lean hashes anything: it is a label: what it is worth is what the hold of that sum in a sandbox is worth. -/
noncomputable def Try.pinned : Pinned := { name := "ytclabjihjopclaa", sum := "b0d9cda9d88097114a427c1680e09945780a07e076738bb7cac7734029a96be7", checked := Try.checked }
namespace Rows
def none {H : Type} : Left H := { results := [], args := [] }

/-- 'augurylaw11.MemoApart': WHATEVER THE INPUT: true; the input reads as it did. -/
def memoApartSpec : ChangeSpec := { name := "memoApart", fn := fun _ => fun
  | [d1, d2, d3, d4] => { results := [.lit (.bool true)], args := [d1, d2, d3, d4] }
  | _ => none }
def memoApartRow : OpenClaim := { program := "ytclabjihjopclaa", sum := "b0d9cda9d88097114a427c1680e09945780a07e076738bb7cac7734029a96be7", func := "augury/augurylaw11.MemoApart", spec := "memoApart", unfollowed := true, recurses := true, apart := false }
def MemoApartSaid : Prop := memoApartRow.holds Try.pinned (OpenSpec.ofChange memoApartSpec)

/-- ITS FALSE NEIGHBOUR: 'it returns false'. Refute it at one input. -/
def memoApartWrong : ChangeSpec := { name := "memoApart", fn := fun _ => fun
  | [d1, d2, d3, d4] => { results := [.lit (.bool false)], args := [d1, d2, d3, d4] }
  | _ => none }
def MemoApartWrongFalsely : Prop := memoApartRow.holds Try.pinned (OpenSpec.ofChange memoApartWrong)

/-- 'augurylaw10.ResoLast': WHATEVER THE INPUT: true; the input reads as it did. -/
def resoLastSpec : ChangeSpec := { name := "resoLast", fn := fun _ => fun
  | [d1, d2, d3, d4, d5] => { results := [.lit (.bool true)], args := [d1, d2, d3, d4, d5] }
  | _ => none }
def resoLastRow : OpenClaim := { program := "ytclabjihjopclaa", sum := "b0d9cda9d88097114a427c1680e09945780a07e076738bb7cac7734029a96be7", func := "augury/augurylaw10.ResoLast", spec := "resoLast", unfollowed := true, recurses := true, apart := false }
def ResoLastSaid : Prop := resoLastRow.holds Try.pinned (OpenSpec.ofChange resoLastSpec)

/-- ITS FALSE NEIGHBOUR: 'it returns false'. Refute it at one input. -/
def resoLastWrong : ChangeSpec := { name := "resoLast", fn := fun _ => fun
  | [d1, d2, d3, d4, d5] => { results := [.lit (.bool false)], args := [d1, d2, d3, d4, d5] }
  | _ => none }
def ResoLastWrongFalsely : Prop := resoLastRow.holds Try.pinned (OpenSpec.ofChange resoLastWrong)

/-- 'augurylaw10.ResoFences': WHATEVER THE INPUT: true; the input reads as it did. -/
def resoFencesSpec : ChangeSpec := { name := "resoFences", fn := fun _ => fun
  | [d1, d2, d3] => { results := [.lit (.bool true)], args := [d1, d2, d3] }
  | _ => none }
def resoFencesRow : OpenClaim := { program := "ytclabjihjopclaa", sum := "b0d9cda9d88097114a427c1680e09945780a07e076738bb7cac7734029a96be7", func := "augury/augurylaw10.ResoFences", spec := "resoFences", unfollowed := true, recurses := true, apart := false }
def ResoFencesSaid : Prop := resoFencesRow.holds Try.pinned (OpenSpec.ofChange resoFencesSpec)

/-- ITS FALSE NEIGHBOUR: 'it returns false'. Refute it at one input. -/
def resoFencesWrong : ChangeSpec := { name := "resoFences", fn := fun _ => fun
  | [d1, d2, d3] => { results := [.lit (.bool false)], args := [d1, d2, d3] }
  | _ => none }
def ResoFencesWrongFalsely : Prop := resoFencesRow.holds Try.pinned (OpenSpec.ofChange resoFencesWrong)

/-- 'augurylaw10.ResoSame': WHATEVER THE INPUT: true; the input reads as it did. -/
def resoSameSpec : ChangeSpec := { name := "resoSame", fn := fun _ => fun
  | [d1, d2, d3] => { results := [.lit (.bool true)], args := [d1, d2, d3] }
  | _ => none }
def resoSameRow : OpenClaim := { program := "ytclabjihjopclaa", sum := "b0d9cda9d88097114a427c1680e09945780a07e076738bb7cac7734029a96be7", func := "augury/augurylaw10.ResoSame", spec := "resoSame", unfollowed := true, recurses := true, apart := false }
def ResoSameSaid : Prop := resoSameRow.holds Try.pinned (OpenSpec.ofChange resoSameSpec)

/-- ITS FALSE NEIGHBOUR: 'it returns false'. Refute it at one input. -/
def resoSameWrong : ChangeSpec := { name := "resoSame", fn := fun _ => fun
  | [d1, d2, d3] => { results := [.lit (.bool false)], args := [d1, d2, d3] }
  | _ => none }
def ResoSameWrongFalsely : Prop := resoSameRow.holds Try.pinned (OpenSpec.ofChange resoSameWrong)

/-- 'augurylaw10.ResoTells': WHATEVER THE INPUT: true; the input reads as it did. -/
def resoTellsSpec : ChangeSpec := { name := "resoTells", fn := fun _ => fun
  | [d1, d2, d3, d4, d5, d6] => { results := [.lit (.bool true)], args := [d1, d2, d3, d4, d5, d6] }
  | _ => none }
def resoTellsRow : OpenClaim := { program := "ytclabjihjopclaa", sum := "b0d9cda9d88097114a427c1680e09945780a07e076738bb7cac7734029a96be7", func := "augury/augurylaw10.ResoTells", spec := "resoTells", unfollowed := true, recurses := true, apart := false }
def ResoTellsSaid : Prop := resoTellsRow.holds Try.pinned (OpenSpec.ofChange resoTellsSpec)

/-- ITS FALSE NEIGHBOUR: 'it returns false'. Refute it at one input. -/
def resoTellsWrong : ChangeSpec := { name := "resoTells", fn := fun _ => fun
  | [d1, d2, d3, d4, d5, d6] => { results := [.lit (.bool false)], args := [d1, d2, d3, d4, d5, d6] }
  | _ => none }
def ResoTellsWrongFalsely : Prop := resoTellsRow.holds Try.pinned (OpenSpec.ofChange resoTellsWrong)

/-- 'augurylaw7.ArchOwn': WHATEVER THE INPUT: true; the input reads as it did. -/
def archOwnSpec : ChangeSpec := { name := "archOwn", fn := fun _ => fun
  | [d1, d2] => { results := [.lit (.bool true)], args := [d1, d2] }
  | _ => none }
def archOwnRow : OpenClaim := { program := "ytclabjihjopclaa", sum := "b0d9cda9d88097114a427c1680e09945780a07e076738bb7cac7734029a96be7", func := "augury/augurylaw7.ArchOwn", spec := "archOwn", unfollowed := true, recurses := true, apart := false }
def ArchOwnSaid : Prop := archOwnRow.holds Try.pinned (OpenSpec.ofChange archOwnSpec)

/-- ITS FALSE NEIGHBOUR: 'it returns false'. Refute it at one input. -/
def archOwnWrong : ChangeSpec := { name := "archOwn", fn := fun _ => fun
  | [d1, d2] => { results := [.lit (.bool false)], args := [d1, d2] }
  | _ => none }
def ArchOwnWrongFalsely : Prop := archOwnRow.holds Try.pinned (OpenSpec.ofChange archOwnWrong)

/-- 'augurylaw7.ArchLow': WHATEVER THE INPUT: true; the input reads as it did. -/
def archLowSpec : ChangeSpec := { name := "archLow", fn := fun _ => fun
  | [d1, d2, d3] => { results := [.lit (.bool true)], args := [d1, d2, d3] }
  | _ => none }
def archLowRow : OpenClaim := { program := "ytclabjihjopclaa", sum := "b0d9cda9d88097114a427c1680e09945780a07e076738bb7cac7734029a96be7", func := "augury/augurylaw7.ArchLow", spec := "archLow", unfollowed := true, recurses := true, apart := false }
def ArchLowSaid : Prop := archLowRow.holds Try.pinned (OpenSpec.ofChange archLowSpec)

/-- ITS FALSE NEIGHBOUR: 'it returns false'. Refute it at one input. -/
def archLowWrong : ChangeSpec := { name := "archLow", fn := fun _ => fun
  | [d1, d2, d3] => { results := [.lit (.bool false)], args := [d1, d2, d3] }
  | _ => none }
def ArchLowWrongFalsely : Prop := archLowRow.holds Try.pinned (OpenSpec.ofChange archLowWrong)

/-- 'augurylaw7.ArchStarts': WHATEVER THE INPUT: true; the input reads as it did. -/
def archStartsSpec : ChangeSpec := { name := "archStarts", fn := fun _ => fun
  | [d1, d2, d3, d4] => { results := [.lit (.bool true)], args := [d1, d2, d3, d4] }
  | _ => none }
def archStartsRow : OpenClaim := { program := "ytclabjihjopclaa", sum := "b0d9cda9d88097114a427c1680e09945780a07e076738bb7cac7734029a96be7", func := "augury/augurylaw7.ArchStarts", spec := "archStarts", unfollowed := true, recurses := true, apart := false }
def ArchStartsSaid : Prop := archStartsRow.holds Try.pinned (OpenSpec.ofChange archStartsSpec)

/-- ITS FALSE NEIGHBOUR: 'it returns false'. Refute it at one input. -/
def archStartsWrong : ChangeSpec := { name := "archStarts", fn := fun _ => fun
  | [d1, d2, d3, d4] => { results := [.lit (.bool false)], args := [d1, d2, d3, d4] }
  | _ => none }
def ArchStartsWrongFalsely : Prop := archStartsRow.holds Try.pinned (OpenSpec.ofChange archStartsWrong)

/-- 'augurylaw19.PairMany': WHATEVER THE INPUT: true; the input reads as it did. -/
def pairManySpec : ChangeSpec := { name := "pairMany", fn := fun _ => fun
  | [d1, d2, d3, d4] => { results := [.lit (.bool true)], args := [d1, d2, d3, d4] }
  | _ => none }
def pairManyRow : OpenClaim := { program := "ytclabjihjopclaa", sum := "b0d9cda9d88097114a427c1680e09945780a07e076738bb7cac7734029a96be7", func := "augury/augurylaw19.PairMany", spec := "pairMany", unfollowed := true, recurses := true, apart := false }
def PairManySaid : Prop := pairManyRow.holds Try.pinned (OpenSpec.ofChange pairManySpec)

/-- ITS FALSE NEIGHBOUR: 'it returns false'. Refute it at one input. -/
def pairManyWrong : ChangeSpec := { name := "pairMany", fn := fun _ => fun
  | [d1, d2, d3, d4] => { results := [.lit (.bool false)], args := [d1, d2, d3, d4] }
  | _ => none }
def PairManyWrongFalsely : Prop := pairManyRow.holds Try.pinned (OpenSpec.ofChange pairManyWrong)

/-- 'augurylaw19.PairPublic': WHATEVER THE INPUT: true; the input reads as it did. -/
def pairPublicSpec : ChangeSpec := { name := "pairPublic", fn := fun _ => fun
  | [d1, d2] => { results := [.lit (.bool true)], args := [d1, d2] }
  | _ => none }
def pairPublicRow : OpenClaim := { program := "ytclabjihjopclaa", sum := "b0d9cda9d88097114a427c1680e09945780a07e076738bb7cac7734029a96be7", func := "augury/augurylaw19.PairPublic", spec := "pairPublic", unfollowed := true, recurses := true, apart := false }
def PairPublicSaid : Prop := pairPublicRow.holds Try.pinned (OpenSpec.ofChange pairPublicSpec)

/-- ITS FALSE NEIGHBOUR: 'it returns false'. Refute it at one input. -/
def pairPublicWrong : ChangeSpec := { name := "pairPublic", fn := fun _ => fun
  | [d1, d2] => { results := [.lit (.bool false)], args := [d1, d2] }
  | _ => none }
def PairPublicWrongFalsely : Prop := pairPublicRow.holds Try.pinned (OpenSpec.ofChange pairPublicWrong)

/-- 'augurylaw19.PairTells': WHATEVER THE INPUT: true; the input reads as it did. -/
def pairTellsSpec : ChangeSpec := { name := "pairTells", fn := fun _ => fun
  | [d1, d2, d3, d4, d5, d6] => { results := [.lit (.bool true)], args := [d1, d2, d3, d4, d5, d6] }
  | _ => none }
def pairTellsRow : OpenClaim := { program := "ytclabjihjopclaa", sum := "b0d9cda9d88097114a427c1680e09945780a07e076738bb7cac7734029a96be7", func := "augury/augurylaw19.PairTells", spec := "pairTells", unfollowed := true, recurses := true, apart := false }
def PairTellsSaid : Prop := pairTellsRow.holds Try.pinned (OpenSpec.ofChange pairTellsSpec)

/-- ITS FALSE NEIGHBOUR: 'it returns false'. Refute it at one input. -/
def pairTellsWrong : ChangeSpec := { name := "pairTells", fn := fun _ => fun
  | [d1, d2, d3, d4, d5, d6] => { results := [.lit (.bool false)], args := [d1, d2, d3, d4, d5, d6] }
  | _ => none }
def PairTellsWrongFalsely : Prop := pairTellsRow.holds Try.pinned (OpenSpec.ofChange pairTellsWrong)

/-- 'augurylaw19.PairOrder': WHATEVER THE INPUT: true; the input reads as it did. -/
def pairOrderSpec : ChangeSpec := { name := "pairOrder", fn := fun _ => fun
  | [d] => { results := [.lit (.bool true)], args := [d] }
  | _ => none }
def pairOrderRow : OpenClaim := { program := "ytclabjihjopclaa", sum := "b0d9cda9d88097114a427c1680e09945780a07e076738bb7cac7734029a96be7", func := "augury/augurylaw19.PairOrder", spec := "pairOrder", unfollowed := true, recurses := true, apart := false }
def PairOrderSaid : Prop := pairOrderRow.holds Try.pinned (OpenSpec.ofChange pairOrderSpec)

/-- ITS FALSE NEIGHBOUR: 'it returns false'. Refute it at one input. -/
def pairOrderWrong : ChangeSpec := { name := "pairOrder", fn := fun _ => fun
  | [d] => { results := [.lit (.bool false)], args := [d] }
  | _ => none }
def PairOrderWrongFalsely : Prop := pairOrderRow.holds Try.pinned (OpenSpec.ofChange pairOrderWrong)

/-- 'augurylaw8.SeqmOwn': WHATEVER THE INPUT: true; the input reads as it did. -/
def seqmOwnSpec : ChangeSpec := { name := "seqmOwn", fn := fun _ => fun
  | [d1, d2, d3] => { results := [.lit (.bool true)], args := [d1, d2, d3] }
  | _ => none }
def seqmOwnRow : OpenClaim := { program := "ytclabjihjopclaa", sum := "b0d9cda9d88097114a427c1680e09945780a07e076738bb7cac7734029a96be7", func := "augury/augurylaw8.SeqmOwn", spec := "seqmOwn", unfollowed := true, recurses := true, apart := false }
def SeqmOwnSaid : Prop := seqmOwnRow.holds Try.pinned (OpenSpec.ofChange seqmOwnSpec)

/-- ITS FALSE NEIGHBOUR: 'it returns false'. Refute it at one input. -/
def seqmOwnWrong : ChangeSpec := { name := "seqmOwn", fn := fun _ => fun
  | [d1, d2, d3] => { results := [.lit (.bool false)], args := [d1, d2, d3] }
  | _ => none }
def SeqmOwnWrongFalsely : Prop := seqmOwnRow.holds Try.pinned (OpenSpec.ofChange seqmOwnWrong)

/-- 'augurylaw8.SeqmTells': WHATEVER THE INPUT: true; the input reads as it did. -/
def seqmTellsSpec : ChangeSpec := { name := "seqmTells", fn := fun _ => fun
  | [d1, d2, d3, d4, d5, d6] => { results := [.lit (.bool true)], args := [d1, d2, d3, d4, d5, d6] }
  | _ => none }
def seqmTellsRow : OpenClaim := { program := "ytclabjihjopclaa", sum := "b0d9cda9d88097114a427c1680e09945780a07e076738bb7cac7734029a96be7", func := "augury/augurylaw8.SeqmTells", spec := "seqmTells", unfollowed := true, recurses := true, apart := false }
def SeqmTellsSaid : Prop := seqmTellsRow.holds Try.pinned (OpenSpec.ofChange seqmTellsSpec)

/-- ITS FALSE NEIGHBOUR: 'it returns false'. Refute it at one input. -/
def seqmTellsWrong : ChangeSpec := { name := "seqmTells", fn := fun _ => fun
  | [d1, d2, d3, d4, d5, d6] => { results := [.lit (.bool false)], args := [d1, d2, d3, d4, d5, d6] }
  | _ => none }
def SeqmTellsWrongFalsely : Prop := seqmTellsRow.holds Try.pinned (OpenSpec.ofChange seqmTellsWrong)

/-- 'augurylaw8.SeqmParts': WHATEVER THE INPUT: true; the input reads as it did. -/
def seqmPartsSpec : ChangeSpec := { name := "seqmParts", fn := fun _ => fun
  | [d1, d2, d3, d4] => { results := [.lit (.bool true)], args := [d1, d2, d3, d4] }
  | _ => none }
def seqmPartsRow : OpenClaim := { program := "ytclabjihjopclaa", sum := "b0d9cda9d88097114a427c1680e09945780a07e076738bb7cac7734029a96be7", func := "augury/augurylaw8.SeqmParts", spec := "seqmParts", unfollowed := true, recurses := true, apart := false }
def SeqmPartsSaid : Prop := seqmPartsRow.holds Try.pinned (OpenSpec.ofChange seqmPartsSpec)

/-- ITS FALSE NEIGHBOUR: 'it returns false'. Refute it at one input. -/
def seqmPartsWrong : ChangeSpec := { name := "seqmParts", fn := fun _ => fun
  | [d1, d2, d3, d4] => { results := [.lit (.bool false)], args := [d1, d2, d3, d4] }
  | _ => none }
def SeqmPartsWrongFalsely : Prop := seqmPartsRow.holds Try.pinned (OpenSpec.ofChange seqmPartsWrong)

/-- 'augurylaw23.ClasTraces': WHATEVER THE INPUT: true; the input reads as it did. -/
def clasTracesSpec : ChangeSpec := { name := "clasTraces", fn := fun _ => fun
  | [d1, d2, d3, d4] => { results := [.lit (.bool true)], args := [d1, d2, d3, d4] }
  | _ => none }
def clasTracesRow : OpenClaim := { program := "ytclabjihjopclaa", sum := "b0d9cda9d88097114a427c1680e09945780a07e076738bb7cac7734029a96be7", func := "augury/augurylaw23.ClasTraces", spec := "clasTraces", unfollowed := true, recurses := true, apart := false }
def ClasTracesSaid : Prop := clasTracesRow.holds Try.pinned (OpenSpec.ofChange clasTracesSpec)

/-- ITS FALSE NEIGHBOUR: 'it returns false'. Refute it at one input. -/
def clasTracesWrong : ChangeSpec := { name := "clasTraces", fn := fun _ => fun
  | [d1, d2, d3, d4] => { results := [.lit (.bool false)], args := [d1, d2, d3, d4] }
  | _ => none }
def ClasTracesWrongFalsely : Prop := clasTracesRow.holds Try.pinned (OpenSpec.ofChange clasTracesWrong)

/-- 'augurylaw23.ClasForms': WHATEVER THE INPUT: true; the input reads as it did. -/
def clasFormsSpec : ChangeSpec := { name := "clasForms", fn := fun _ => fun
  | [d] => { results := [.lit (.bool true)], args := [d] }
  | _ => none }
def clasFormsRow : OpenClaim := { program := "ytclabjihjopclaa", sum := "b0d9cda9d88097114a427c1680e09945780a07e076738bb7cac7734029a96be7", func := "augury/augurylaw23.ClasForms", spec := "clasForms", unfollowed := true, recurses := true, apart := false }
def ClasFormsSaid : Prop := clasFormsRow.holds Try.pinned (OpenSpec.ofChange clasFormsSpec)

/-- ITS FALSE NEIGHBOUR: 'it returns false'. Refute it at one input. -/
def clasFormsWrong : ChangeSpec := { name := "clasForms", fn := fun _ => fun
  | [d] => { results := [.lit (.bool false)], args := [d] }
  | _ => none }
def ClasFormsWrongFalsely : Prop := clasFormsRow.holds Try.pinned (OpenSpec.ofChange clasFormsWrong)

/-- 'augurylaw23.ClasNarrow': WHATEVER THE INPUT: true; the input reads as it did. -/
def clasNarrowSpec : ChangeSpec := { name := "clasNarrow", fn := fun _ => fun
  | [d1, d2, d3, d4] => { results := [.lit (.bool true)], args := [d1, d2, d3, d4] }
  | _ => none }
def clasNarrowRow : OpenClaim := { program := "ytclabjihjopclaa", sum := "b0d9cda9d88097114a427c1680e09945780a07e076738bb7cac7734029a96be7", func := "augury/augurylaw23.ClasNarrow", spec := "clasNarrow", unfollowed := true, recurses := true, apart := false }
def ClasNarrowSaid : Prop := clasNarrowRow.holds Try.pinned (OpenSpec.ofChange clasNarrowSpec)

/-- ITS FALSE NEIGHBOUR: 'it returns false'. Refute it at one input. -/
def clasNarrowWrong : ChangeSpec := { name := "clasNarrow", fn := fun _ => fun
  | [d1, d2, d3, d4] => { results := [.lit (.bool false)], args := [d1, d2, d3, d4] }
  | _ => none }
def ClasNarrowWrongFalsely : Prop := clasNarrowRow.holds Try.pinned (OpenSpec.ofChange clasNarrowWrong)

/-- 'augurylaw23.ClasTells': WHATEVER THE INPUT: true; the input reads as it did. -/
def clasTellsSpec : ChangeSpec := { name := "clasTells", fn := fun _ => fun
  | [d1, d2, d3, d4] => { results := [.lit (.bool true)], args := [d1, d2, d3, d4] }
  | _ => none }
def clasTellsRow : OpenClaim := { program := "ytclabjihjopclaa", sum := "b0d9cda9d88097114a427c1680e09945780a07e076738bb7cac7734029a96be7", func := "augury/augurylaw23.ClasTells", spec := "clasTells", unfollowed := true, recurses := true, apart := false }
def ClasTellsSaid : Prop := clasTellsRow.holds Try.pinned (OpenSpec.ofChange clasTellsSpec)

/-- ITS FALSE NEIGHBOUR: 'it returns false'. Refute it at one input. -/
def clasTellsWrong : ChangeSpec := { name := "clasTells", fn := fun _ => fun
  | [d1, d2, d3, d4] => { results := [.lit (.bool false)], args := [d1, d2, d3, d4] }
  | _ => none }
def ClasTellsWrongFalsely : Prop := clasTellsRow.holds Try.pinned (OpenSpec.ofChange clasTellsWrong)

/-- 'augurylaw23.ClasFirst': WHATEVER THE INPUT: true; the input reads as it did. -/
def clasFirstSpec : ChangeSpec := { name := "clasFirst", fn := fun _ => fun
  | [d] => { results := [.lit (.bool true)], args := [d] }
  | _ => none }
def clasFirstRow : OpenClaim := { program := "ytclabjihjopclaa", sum := "b0d9cda9d88097114a427c1680e09945780a07e076738bb7cac7734029a96be7", func := "augury/augurylaw23.ClasFirst", spec := "clasFirst", unfollowed := true, recurses := true, apart := false }
def ClasFirstSaid : Prop := clasFirstRow.holds Try.pinned (OpenSpec.ofChange clasFirstSpec)

/-- ITS FALSE NEIGHBOUR: 'it returns false'. Refute it at one input. -/
def clasFirstWrong : ChangeSpec := { name := "clasFirst", fn := fun _ => fun
  | [d] => { results := [.lit (.bool false)], args := [d] }
  | _ => none }
def ClasFirstWrongFalsely : Prop := clasFirstRow.holds Try.pinned (OpenSpec.ofChange clasFirstWrong)

/- THE SECOND FORM. 'bulk': how many values and letters a reading holds, each counted each time it is reached (what is shared counts as often as it is met; a slice's spare places count too). A statement '..UptoSaid' is the law's where the arguments, and the package variables that the reading takes, are together of bulk at most 1048576: NARROWER than '..Said'. Prove '..Said' where nothing that the law and all that it calls make is longer than what came in: it says more and counts as full. Else prove '..UptoSaid'. A law counts once. -/
mutual
def uptoBulk {H : Type} : DataW H → Nat
  | .lit (.string bytes) => bytes.length + 1
  | .lit _ => 1
  | .nil => 1
  | .ptr d => uptoBulk d + 1
  | .slice elems spare => uptoBulkAll elems + uptoBulkAll spare + 1
  | .agg parts => uptoBulkAll parts + 1
  | .iface _ d => uptoBulk d + 1
  | .map entries => uptoBulkEntries entries + 1
  | .held _ => 1
def uptoBulkAll {H : Type} : List (DataW H) → Nat
  | [] => 0
  | d :: r => uptoBulk d + uptoBulkAll r
def uptoBulkEntries {H : Type} : List (Lit × DataW H) → Nat
  | [] => 0
  | x :: r => uptoBulkEntry x + uptoBulkEntries r
def uptoBulkEntry {H : Type} : Lit × DataW H → Nat
  | (.string bytes, d) => bytes.length + uptoBulk d + 1
  | (_, d) => uptoBulk d + 1
 end
def uptoSmall : (H : Type) → List (DataW H) → Bool := fun _ ds => decide (uptoBulkAll ds ≤ 1048576)
def OpenSpec.upto (s : _root_.Go.ChangeSpec) : _root_.Go.OpenSpec := { _root_.Go.OpenSpec.ofChange s with cond := some uptoSmall }

/-- 'augurylaw11.MemoApart', WHERE WHAT IT READS IS OF BULK AT MOST 1048576: true; the input reads as it did. -/
def memoApartUptoRow : OpenClaim := { program := "ytclabjihjopclaa", sum := "b0d9cda9d88097114a427c1680e09945780a07e076738bb7cac7734029a96be7", func := "augury/augurylaw11.MemoApart", spec := "memoApart", unfollowed := true, recurses := true, apart := false, narrowed := true }
def MemoApartUptoSaid : Prop := memoApartUptoRow.holds Try.pinned (OpenSpec.upto memoApartSpec)

/-- 'augurylaw10.ResoLast', WHERE WHAT IT READS IS OF BULK AT MOST 1048576: true; the input reads as it did. -/
def resoLastUptoRow : OpenClaim := { program := "ytclabjihjopclaa", sum := "b0d9cda9d88097114a427c1680e09945780a07e076738bb7cac7734029a96be7", func := "augury/augurylaw10.ResoLast", spec := "resoLast", unfollowed := true, recurses := true, apart := false, narrowed := true }
def ResoLastUptoSaid : Prop := resoLastUptoRow.holds Try.pinned (OpenSpec.upto resoLastSpec)

/-- 'augurylaw10.ResoFences', WHERE WHAT IT READS IS OF BULK AT MOST 1048576: true; the input reads as it did. -/
def resoFencesUptoRow : OpenClaim := { program := "ytclabjihjopclaa", sum := "b0d9cda9d88097114a427c1680e09945780a07e076738bb7cac7734029a96be7", func := "augury/augurylaw10.ResoFences", spec := "resoFences", unfollowed := true, recurses := true, apart := false, narrowed := true }
def ResoFencesUptoSaid : Prop := resoFencesUptoRow.holds Try.pinned (OpenSpec.upto resoFencesSpec)

/-- 'augurylaw10.ResoSame', WHERE WHAT IT READS IS OF BULK AT MOST 1048576: true; the input reads as it did. -/
def resoSameUptoRow : OpenClaim := { program := "ytclabjihjopclaa", sum := "b0d9cda9d88097114a427c1680e09945780a07e076738bb7cac7734029a96be7", func := "augury/augurylaw10.ResoSame", spec := "resoSame", unfollowed := true, recurses := true, apart := false, narrowed := true }
def ResoSameUptoSaid : Prop := resoSameUptoRow.holds Try.pinned (OpenSpec.upto resoSameSpec)

/-- 'augurylaw10.ResoTells', WHERE WHAT IT READS IS OF BULK AT MOST 1048576: true; the input reads as it did. -/
def resoTellsUptoRow : OpenClaim := { program := "ytclabjihjopclaa", sum := "b0d9cda9d88097114a427c1680e09945780a07e076738bb7cac7734029a96be7", func := "augury/augurylaw10.ResoTells", spec := "resoTells", unfollowed := true, recurses := true, apart := false, narrowed := true }
def ResoTellsUptoSaid : Prop := resoTellsUptoRow.holds Try.pinned (OpenSpec.upto resoTellsSpec)

/-- 'augurylaw7.ArchOwn', WHERE WHAT IT READS IS OF BULK AT MOST 1048576: true; the input reads as it did. -/
def archOwnUptoRow : OpenClaim := { program := "ytclabjihjopclaa", sum := "b0d9cda9d88097114a427c1680e09945780a07e076738bb7cac7734029a96be7", func := "augury/augurylaw7.ArchOwn", spec := "archOwn", unfollowed := true, recurses := true, apart := false, narrowed := true }
def ArchOwnUptoSaid : Prop := archOwnUptoRow.holds Try.pinned (OpenSpec.upto archOwnSpec)

/-- 'augurylaw7.ArchLow', WHERE WHAT IT READS IS OF BULK AT MOST 1048576: true; the input reads as it did. -/
def archLowUptoRow : OpenClaim := { program := "ytclabjihjopclaa", sum := "b0d9cda9d88097114a427c1680e09945780a07e076738bb7cac7734029a96be7", func := "augury/augurylaw7.ArchLow", spec := "archLow", unfollowed := true, recurses := true, apart := false, narrowed := true }
def ArchLowUptoSaid : Prop := archLowUptoRow.holds Try.pinned (OpenSpec.upto archLowSpec)

/-- 'augurylaw7.ArchStarts', WHERE WHAT IT READS IS OF BULK AT MOST 1048576: true; the input reads as it did. -/
def archStartsUptoRow : OpenClaim := { program := "ytclabjihjopclaa", sum := "b0d9cda9d88097114a427c1680e09945780a07e076738bb7cac7734029a96be7", func := "augury/augurylaw7.ArchStarts", spec := "archStarts", unfollowed := true, recurses := true, apart := false, narrowed := true }
def ArchStartsUptoSaid : Prop := archStartsUptoRow.holds Try.pinned (OpenSpec.upto archStartsSpec)

/-- 'augurylaw19.PairMany', WHERE WHAT IT READS IS OF BULK AT MOST 1048576: true; the input reads as it did. -/
def pairManyUptoRow : OpenClaim := { program := "ytclabjihjopclaa", sum := "b0d9cda9d88097114a427c1680e09945780a07e076738bb7cac7734029a96be7", func := "augury/augurylaw19.PairMany", spec := "pairMany", unfollowed := true, recurses := true, apart := false, narrowed := true }
def PairManyUptoSaid : Prop := pairManyUptoRow.holds Try.pinned (OpenSpec.upto pairManySpec)

/-- 'augurylaw19.PairPublic', WHERE WHAT IT READS IS OF BULK AT MOST 1048576: true; the input reads as it did. -/
def pairPublicUptoRow : OpenClaim := { program := "ytclabjihjopclaa", sum := "b0d9cda9d88097114a427c1680e09945780a07e076738bb7cac7734029a96be7", func := "augury/augurylaw19.PairPublic", spec := "pairPublic", unfollowed := true, recurses := true, apart := false, narrowed := true }
def PairPublicUptoSaid : Prop := pairPublicUptoRow.holds Try.pinned (OpenSpec.upto pairPublicSpec)

/-- 'augurylaw19.PairTells', WHERE WHAT IT READS IS OF BULK AT MOST 1048576: true; the input reads as it did. -/
def pairTellsUptoRow : OpenClaim := { program := "ytclabjihjopclaa", sum := "b0d9cda9d88097114a427c1680e09945780a07e076738bb7cac7734029a96be7", func := "augury/augurylaw19.PairTells", spec := "pairTells", unfollowed := true, recurses := true, apart := false, narrowed := true }
def PairTellsUptoSaid : Prop := pairTellsUptoRow.holds Try.pinned (OpenSpec.upto pairTellsSpec)

/-- 'augurylaw19.PairOrder', WHERE WHAT IT READS IS OF BULK AT MOST 1048576: true; the input reads as it did. -/
def pairOrderUptoRow : OpenClaim := { program := "ytclabjihjopclaa", sum := "b0d9cda9d88097114a427c1680e09945780a07e076738bb7cac7734029a96be7", func := "augury/augurylaw19.PairOrder", spec := "pairOrder", unfollowed := true, recurses := true, apart := false, narrowed := true }
def PairOrderUptoSaid : Prop := pairOrderUptoRow.holds Try.pinned (OpenSpec.upto pairOrderSpec)

/-- 'augurylaw8.SeqmOwn', WHERE WHAT IT READS IS OF BULK AT MOST 1048576: true; the input reads as it did. -/
def seqmOwnUptoRow : OpenClaim := { program := "ytclabjihjopclaa", sum := "b0d9cda9d88097114a427c1680e09945780a07e076738bb7cac7734029a96be7", func := "augury/augurylaw8.SeqmOwn", spec := "seqmOwn", unfollowed := true, recurses := true, apart := false, narrowed := true }
def SeqmOwnUptoSaid : Prop := seqmOwnUptoRow.holds Try.pinned (OpenSpec.upto seqmOwnSpec)

/-- 'augurylaw8.SeqmTells', WHERE WHAT IT READS IS OF BULK AT MOST 1048576: true; the input reads as it did. -/
def seqmTellsUptoRow : OpenClaim := { program := "ytclabjihjopclaa", sum := "b0d9cda9d88097114a427c1680e09945780a07e076738bb7cac7734029a96be7", func := "augury/augurylaw8.SeqmTells", spec := "seqmTells", unfollowed := true, recurses := true, apart := false, narrowed := true }
def SeqmTellsUptoSaid : Prop := seqmTellsUptoRow.holds Try.pinned (OpenSpec.upto seqmTellsSpec)

/-- 'augurylaw8.SeqmParts', WHERE WHAT IT READS IS OF BULK AT MOST 1048576: true; the input reads as it did. -/
def seqmPartsUptoRow : OpenClaim := { program := "ytclabjihjopclaa", sum := "b0d9cda9d88097114a427c1680e09945780a07e076738bb7cac7734029a96be7", func := "augury/augurylaw8.SeqmParts", spec := "seqmParts", unfollowed := true, recurses := true, apart := false, narrowed := true }
def SeqmPartsUptoSaid : Prop := seqmPartsUptoRow.holds Try.pinned (OpenSpec.upto seqmPartsSpec)

/-- 'augurylaw23.ClasTraces', WHERE WHAT IT READS IS OF BULK AT MOST 1048576: true; the input reads as it did. -/
def clasTracesUptoRow : OpenClaim := { program := "ytclabjihjopclaa", sum := "b0d9cda9d88097114a427c1680e09945780a07e076738bb7cac7734029a96be7", func := "augury/augurylaw23.ClasTraces", spec := "clasTraces", unfollowed := true, recurses := true, apart := false, narrowed := true }
def ClasTracesUptoSaid : Prop := clasTracesUptoRow.holds Try.pinned (OpenSpec.upto clasTracesSpec)

/-- 'augurylaw23.ClasForms', WHERE WHAT IT READS IS OF BULK AT MOST 1048576: true; the input reads as it did. -/
def clasFormsUptoRow : OpenClaim := { program := "ytclabjihjopclaa", sum := "b0d9cda9d88097114a427c1680e09945780a07e076738bb7cac7734029a96be7", func := "augury/augurylaw23.ClasForms", spec := "clasForms", unfollowed := true, recurses := true, apart := false, narrowed := true }
def ClasFormsUptoSaid : Prop := clasFormsUptoRow.holds Try.pinned (OpenSpec.upto clasFormsSpec)

/-- 'augurylaw23.ClasNarrow', WHERE WHAT IT READS IS OF BULK AT MOST 1048576: true; the input reads as it did. -/
def clasNarrowUptoRow : OpenClaim := { program := "ytclabjihjopclaa", sum := "b0d9cda9d88097114a427c1680e09945780a07e076738bb7cac7734029a96be7", func := "augury/augurylaw23.ClasNarrow", spec := "clasNarrow", unfollowed := true, recurses := true, apart := false, narrowed := true }
def ClasNarrowUptoSaid : Prop := clasNarrowUptoRow.holds Try.pinned (OpenSpec.upto clasNarrowSpec)

/-- 'augurylaw23.ClasTells', WHERE WHAT IT READS IS OF BULK AT MOST 1048576: true; the input reads as it did. -/
def clasTellsUptoRow : OpenClaim := { program := "ytclabjihjopclaa", sum := "b0d9cda9d88097114a427c1680e09945780a07e076738bb7cac7734029a96be7", func := "augury/augurylaw23.ClasTells", spec := "clasTells", unfollowed := true, recurses := true, apart := false, narrowed := true }
def ClasTellsUptoSaid : Prop := clasTellsUptoRow.holds Try.pinned (OpenSpec.upto clasTellsSpec)

/-- 'augurylaw23.ClasFirst', WHERE WHAT IT READS IS OF BULK AT MOST 1048576: true; the input reads as it did. -/
def clasFirstUptoRow : OpenClaim := { program := "ytclabjihjopclaa", sum := "b0d9cda9d88097114a427c1680e09945780a07e076738bb7cac7734029a96be7", func := "augury/augurylaw23.ClasFirst", spec := "clasFirst", unfollowed := true, recurses := true, apart := false, narrowed := true }
def ClasFirstUptoSaid : Prop := clasFirstUptoRow.holds Try.pinned (OpenSpec.upto clasFirstSpec)

end Rows
end Go.Proofs.Ytclabjihjopclaa
