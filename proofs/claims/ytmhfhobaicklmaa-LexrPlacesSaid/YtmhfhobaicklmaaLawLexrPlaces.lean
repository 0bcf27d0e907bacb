/- The law LexrPlaces holds: whatever is handed in, the function answers true, and what was handed in reads as it did. No condition. -/
import Derived.Test.YtmhfhobaicklmaaRows
import Derived.Test.YtmhfhobaicklmaaFacts
import Derived.Test.YtmhfhobaicklmaaAxLaw
import Derived.Test.YtmhfhobaicklmaaLLP
import Derived.HandedShaped
namespace Go.Proofs.Ytmhfhobaicklmaa.lexrPlaces
open Go.ChangeShapes Go.WideShapes Go.ChangeAt Go.RowKit Go.Proofs.Ytmhfhobaicklmaa.Ax
open Go.ChangeMaps (open_string shut_string)
set_option linter.unusedVariables false
theorem own : ownKnob Try.prog.godebug = none := by kernel_rfl
theorem laidOut : laidOutB Try.prog = true := by kernel_rfl
set_option maxRecDepth 100000 in
theorem lifted (os : Os) (started : os.Started) (H : Type) (enc : TypeId × Value → H) :
    ReturnsInHanded {} Try.checked os 6 .any (Rows.lexrPlacesSpec.pre6 enc Try.prog Try.f6 Rows.lexrPlacesRow.domain false) (Rows.lexrPlacesSpec.post enc Try.prog Try.f6 false true false false) := by
  refine returnsInHanded_of_change_shaped (C := Try.checked) own started (by kernel_rfl) Try.func6
    (ChangeSpec.witness6 (enc := enc) (C := Try.checked) false ⟨#[], #[.int .i64 0, .int .i64 0, .int .i64 0], []⟩ 8 (by kernel_rfl) (by kernel_rfl) (by kernel_rfl) (by kernel_rfl)) ?_
  intro W base args ds gs before hval0 hW hcnd hsz0 hsh _
  have hsz : (DataW.weightsEach Try.prog (Try.f6.params.toList ++ Rows.lexrPlacesSpec.plain.varTypes Try.prog) (ds ++ gs)).all (· ≤ reachBytes) = true := hsz0
  have hval : ∀ (j : Nat) t v, Try.f6.params[j]? = some t → args[j]? = some v → Value.okWide Try.prog W .any base t v := hval0
  have hW' := hW
  obtain ⟨p, q, hA0, hV, rfl, hfz, hnd⟩ := hW
  have hA : DataW.TrodAll enc Try.prog W 0 (fun _ => true) true Try.f6.params.toList args.toList ds p := hA0
  rw [Try.params6] at hA hval hsz
  obtain ⟨v0, vs0, d0, ds0, p0, q0, hargs, rfl, rfl, h0, r0⟩ := trodAll_cons hA
  obtain ⟨v1, vs1, d1, ds1, p1, q1, rfl, rfl, rfl, h1, r1⟩ := trodAll_cons r0
  obtain ⟨v2, vs2, d2, ds2, p2, q2, rfl, rfl, rfl, h2, r2⟩ := trodAll_cons r1
  obtain ⟨rfl, rfl, rfl⟩ := trodAll_nil r2
  obtain rfl : args = #[v0, v1, v2] := by cases args; simp_all
  obtain ⟨rfl, rfl⟩ := trodVars_none hV
  obtain ⟨a0, rfl, rfl, rfl, w0⟩ := open_int Try.underlying3 (hval 0 3 v0 rfl rfl) h0
  obtain ⟨a1, rfl, rfl, rfl, w1⟩ := open_int Try.underlying3 (hval 1 3 v1 rfl rfl) h1
  obtain ⟨a2, rfl, rfl, rfl, w2⟩ := open_int Try.underlying3 (hval 2 3 v2 rfl rfl) h2
  clear hA0 hval0 hsz0 hsz
  refine (calls_true (W := W) (vals := [.int .i64 a0, .int .i64 a1, .int .i64 a2]) ((c_lPlc_good [ai a0, ai a1, ai a2] ⟨by simp [c_lPlc, rdI3, ai], trivial⟩).1) (fun p hp => by simp only [globs, List.mem_singleton] at hp; subst hp; exact Try.laysM219.s1_3 W hsh) ⟨(by simp only [ai, RA, RD]), ⟨(by simp only [ai, RA, RD]), ⟨(by simp only [ai, RA, RD]), trivial⟩⟩⟩).mono fun e W' ⟨he, bel⟩ => ?_
  subst he
  exact ⟨_, rfl, _, _, _, [], _, [], hW', trodAll_mk1 (shut_bool Try.underlying4 _), (trodAll_cons_mk (shut_int Try.underlying3 w0) (trodAll_cons_mk (shut_int Try.underlying3 w1) (trodAll_cons_mk (shut_int Try.underlying3 w2) trodAll_mk0))), rfl, bel.frame _, fun h => by cases h⟩
theorem closed : joinedFacts Try.pinned.checked.prog 6 Try.f6 Rows.lexrPlacesSpec Rows.lexrPlacesRow = true := by
  have e1 : Try.pinned.checked.prog.mayEnter = true := Facts.enters
  have e2 : Try.pinned.checked.prog.liftsFinal = false := Facts.final
  have e3 : Try.pinned.checked.prog.make = some .cut := Facts.make
  unfold joinedFacts
  rw [e1, e2, e3]
  change _ = true
  kernel_rfl
theorem over : Rows.lexrPlacesRow.holds Try.pinned (OpenSpec.ofChange Rows.lexrPlacesSpec) :=
  OpenClaim.holds_of_wide 6 Try.f6 rfl rfl rfl rfl rfl rfl rfl ⟨rfl, rfl, rfl, rfl, rfl⟩ rfl rfl rfl rfl rfl (by kernel_rfl) Try.func6 closed
    (of_decide_eq_true (by kernel_rfl)) (by unfold Func.isWrapper; first | (rw [if_pos (by decide +kernel)]; kernel_rfl) | (rw [if_neg (by decide +kernel)]; exact ⟨rfl, rfl⟩))
    (fun os started H enc _ => lifted os started H enc)
theorem proved : Rows.LexrPlacesSaid := over
#print axioms proved
end Go.Proofs.Ytmhfhobaicklmaa.lexrPlaces
namespace Go.Proofs.Ytmhfhobaicklmaa
/-- The row, under a short name, for the claim. -/
theorem lexrPlaces_holds : Rows.LexrPlacesSaid := lexrPlaces.proved
end Go.Proofs.Ytmhfhobaicklmaa
