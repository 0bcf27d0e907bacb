/- api.Val handed in: its cells. -/
import Derived.Test.YtmhfhobaicklmaaAxLaw
import Derived.ChangeSame
namespace Go.Proofs.Ytmhfhobaicklmaa.Ax
open Go.ChangeShapes Go.WideShapes Go.ChangeAt Go.RowKit
set_option linter.unusedVariables false
set_option linter.unusedSimpArgs false
/-- A struct of a bool and an int, handed in: what it holds, and that it reads so ever after. -/
theorem open_bi {H : Type} {enc : TypeId × Value → H} {P : Program} {W : World} {base : Nat} {sp : Nat → Bool} {held : Bool} {r : Reach} {b0 : Nat} {t tb ti : TypeId} {v : Value} {d : DataW H} {ps : List MemPlace} {f0 f1 : Field}
    (ht : P.underlying t = some (.struct #[f0, f1])) (hc : P.cellsOf t = 2) (e0 : f0.type = tb ∧ f0.offset = 0) (e1 : f1.type = ti ∧ f1.offset = 1) (hb : P.underlying tb = some .bool) (hi : P.underlying ti = some (.int .i64)) (cb : P.cellsOf tb = 1) (ci : P.cellsOf ti = 1)
    (hval : Value.okWide P W r b0 t v) (hd : DataW.Trod enc P W base sp held t v d ps) :
    ∃ (b : Bool) (n : Int), v = .agg #[.bool b, .int .i64 n] ∧ ps = [] ∧ ∀ (W' : World) (sp' : Nat → Bool) (base' : Nat) (held' : Bool), DataW.Trod enc P W' base' sp' held' t v d [] := by
  obtain ⟨t0, o0⟩ := e0
  obtain ⟨t1, o1⟩ := e1
  obtain ⟨cs, rfl, hsz⟩ := okWide_struct ht hval
  rw [hc] at hsz
  obtain ⟨l⟩ := cs
  match l, hsz with
  | [c0, c1], _ =>
  obtain ⟨fuel, hf⟩ := hd
  obtain ⟨y0, y1, m, hx, _, hy0, hy1⟩ := trod_struct2 ht hf
  rw [t0, o0, cb] at hy0
  rw [t1, o1, ci] at hy1
  obtain ⟨b, g0, rfl⟩ := DataW.trod_bool hb hy0
  obtain ⟨n, g1, rfl, wn⟩ := DataW.trod_int hi hy1
  simp [Value.cells] at g0 g1
  subst g0 g1
  simp only [Prod.mk.injEq] at hx
  obtain ⟨rfl, rfl⟩ := hx
  refine ⟨b, n, rfl, rfl, fun W' sp' base' held' => ⟨2, ?_⟩⟩
  have k0 : DataW.trod enc P W' base' sp' held' 1 tb [.bool b] = some (.lit (.bool b), []) := by simp [DataW.trod, hb]
  have k1 : DataW.trod enc P W' base' sp' held' 1 ti [.int .i64 n] = some (.lit (.int .i64 n), []) := by simp [DataW.trod, hi, wn]
  have := trod_struct2_mk (enc := enc) (w := W') (base := base') (spare := sp') (held := held') (n := 1) (cs := [.bool b, .int .i64 n]) ht (by simp [hc]) (by rw [t0, o0, cb]; exact k0) (by rw [t1, o1, ci]; exact k1)
  simpa [Value.cells] using this
end Go.Proofs.Ytmhfhobaicklmaa.Ax
