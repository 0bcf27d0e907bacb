/- The law LexrSigns holds: whatever is handed in, the function answers true, and what was handed in reads as it did. No condition. -/
import Derived.Test.YtmhfhobaicklmaaRows
import Derived.Test.YtmhfhobaicklmaaFacts
import Derived.Test.YtmhfhobaicklmaaAxLaw
import Derived.Test.YtmhfhobaicklmaaLLS
import Derived.HandedShaped
namespace Go.Proofs.Ytmhfhobaicklmaa.lexrSigns
open Go.ChangeShapes Go.WideShapes Go.ChangeAt Go.RowKit Go.Proofs.Ytmhfhobaicklmaa.Ax
open Go.ChangeMaps (open_string shut_string)
set_option linter.unusedVariables false
theorem own : ownKnob Try.prog.godebug = none := by kernel_rfl
theorem laidOut : laidOutB Try.prog = true := by kernel_rfl
set_option maxRecDepth 100000 in
theorem lifted (os : Os) (started : os.Started) (H : Type) (enc : TypeId × Value → H) :
    ReturnsInHanded {} Try.checked os 7 .any (Rows.lexrSignsSpec.pre6 enc Try.prog Try.f7 Rows.lexrSignsRow.domain false) (Rows.lexrSignsSpec.post enc Try.prog Try.f7 false true false false) := by
  refine returnsInHanded_of_change_shaped (C := Try.checked) own started (by kernel_rfl) Try.func7
    (ChangeSpec.witness6 (enc := enc) (C := Try.checked) false ⟨#[], #[.slice none 0 0], []⟩ 8 (by kernel_rfl) (by kernel_rfl) (by kernel_rfl) (by kernel_rfl)) ?_
  intro W base args ds gs before hval0 hW hcnd hsz0 hsh _
  have hsz : (DataW.weightsEach Try.prog (Try.f7.params.toList ++ Rows.lexrSignsSpec.plain.varTypes Try.prog) (ds ++ gs)).all (· ≤ reachBytes) = true := hsz0
  have hval : ∀ (j : Nat) t v, Try.f7.params[j]? = some t → args[j]? = some v → Value.okWide Try.prog W .any base t v := hval0
  have hW' := hW
  obtain ⟨p, q, hA0, hV, rfl, hfz, hnd⟩ := hW
  have hA : DataW.TrodAll enc Try.prog W 0 (fun _ => true) true Try.f7.params.toList args.toList ds p := hA0
  rw [Try.params7] at hA hval hsz
  obtain ⟨v0, vs0, d0, ds0, p0, q0, hargs, rfl, rfl, h0, r0⟩ := trodAll_cons hA
  obtain ⟨rfl, rfl, rfl⟩ := trodAll_nil r0
  obtain rfl : args = #[v0] := by cases args; simp_all
  obtain ⟨rfl, rfl⟩ := trodVars_none hV
  obtain ⟨a0, len0, cap0, rfl⟩ := okWide_slice Try.underlying22 (hval 0 22 v0 rfl rfl)
  have k0 := h0
  have lt0 : ∀ x ∈ p0, x.block < W.heap.size := by obtain ⟨m, hm⟩ := k0; exact DataW.trod_lt m _ _ _ hm
  obtain ⟨z0, w0⟩ := open_row Try.underlying22 Try.underlying3 (by kernel_rfl) h0
  clear hA0 hval0 hsz0 hsz
  refine (calls_true (W := W) (vals := [.slice a0 len0 cap0]) ((c_lSgn_good [al4 (z0.take len0)] ⟨by simp [c_lSgn, rdL1, al4], trivial⟩).1) (fun p hp => by simp only [globs, List.mem_singleton] at hp; subst hp; exact Try.laysM219.s1_3 W hsh) ⟨rd_row w0, trivial⟩).mono fun e W' ⟨he, bel⟩ => ?_
  subst he
  exact ⟨_, rfl, _, _, _, [], _, [], hW', trodAll_mk1 (shut_bool Try.underlying4 _), (trodAll_cons_mk (Below.trod laidOut (by kernel_rfl) (of_decide_eq_true (by kernel_rfl)) k0 bel lt0) trodAll_mk0), rfl, bel.frame _, fun h => by cases h⟩
theorem closed : joinedFacts Try.pinned.checked.prog 7 Try.f7 Rows.lexrSignsSpec Rows.lexrSignsRow = true := by
  have e1 : Try.pinned.checked.prog.mayEnter = true := Facts.enters
  have e2 : Try.pinned.checked.prog.liftsFinal = false := Facts.final
  have e3 : Try.pinned.checked.prog.make = some .cut := Facts.make
  unfold joinedFacts
  rw [e1, e2, e3]
  change _ = true
  kernel_rfl
theorem over : Rows.lexrSignsRow.holds Try.pinned (OpenSpec.ofChange Rows.lexrSignsSpec) :=
  OpenClaim.holds_of_wide 7 Try.f7 rfl rfl rfl rfl rfl rfl rfl ⟨rfl, rfl, rfl, rfl, rfl⟩ rfl rfl rfl rfl rfl (by kernel_rfl) Try.func7 closed
    (of_decide_eq_true (by kernel_rfl)) (by unfold Func.isWrapper; first | (rw [if_pos (by decide +kernel)]; kernel_rfl) | (rw [if_neg (by decide +kernel)]; exact ⟨rfl, rfl⟩))
    (fun os started H enc _ => lifted os started H enc)
theorem proved : Rows.LexrSignsSaid := over
#print axioms proved
end Go.Proofs.Ytmhfhobaicklmaa.lexrSigns
namespace Go.Proofs.Ytmhfhobaicklmaa
/-- The row, under a short name, for the claim. -/
theorem lexrSigns_holds : Rows.LexrSignsSaid := lexrSigns.proved
end Go.Proofs.Ytmhfhobaicklmaa
