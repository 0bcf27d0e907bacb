/- Functions that are compiled with others run in their places. -/
import Derived.Test.YtmmlolampgnamaaDoorAxW
namespace Go.Proofs.YtmmlolampgnamaaDoor.Ax
open Go.RowKit
set_option linter.unusedVariables false
def fnAZ (P : Program) (Z : Zo) (fn : Func) (nargs : Nat) (tbl : List (Nat × List Nat)) : Option FnA :=
  match fn.body with
  | some c => match compC P Z (nargs + (fn.ntmps - nargs)) (keepBy tbl) c, mapO (compR P) fn.results.toList with
    | some ac, some rs => some ⟨fn.ntmps, ac, rs, []⟩
    | _, _ => none
  | none => none
section
variable {P : Program} {sp : Sp}
theorem acalls_someZ {d : Nat} {Z : Zo} (hZ : ZOK P d Z) (hsp : sp.sound P) {f : FuncId} {fn : Func} {tbl : List (Nat × List Nat)} {a : FnA} {nargs : Nat} (hf : P.funcs[f]? = some fn) (ha : fnAZ P Z fn nargs tbl = some a) {as : List A} (hl : as.length = nargs) {m : Nat} {R : RR → Prop}
    (h : (a.start sp m as).holds sp.cx a.rs R) : ∃ r, R r ∧ ACalls P f as r := by
  have h1 : Aw sp.cx a.code (startA a.n a.tags as) (unw sp.cx [] fun e s => (∀ id, e ≠ .exit id) ∧ ∃ r, resA a.rs s = some r ∧ R r) := goW_sound hsp _ _ _ _ h
  obtain ⟨n, e, s, h2, h3⟩ := h1
  obtain ⟨h3, r, h4, h5⟩ : (∀ id, e ≠ .exit id) ∧ ∃ r, resA a.rs s = some r ∧ R r := h3
  refine ⟨r, h5, ?_⟩
  unfold fnAZ at ha
  split at ha
  · rename_i c hb
    split at ha
    · rename_i ac rs hc hr
      simp only [Option.some.injEq] at ha; subst ha
      refine calls_fits hZ (K := keepBy tbl) (cx := sp.cx) (Sp.calls hsp) hf hb ?_ hr h2 h3 h4
      simp only [startA, List.length_append, List.length_map, List.length_replicate, hl]
      exact hc
    · cases ha
  · cases ha
theorem acalls_leZ {d : Nat} {Z : Zo} (hZ : ZOK P d Z) (hsp : sp.sound P) {f : FuncId} {fn : Func} {tbl : List (Nat × List Nat)} {a : FnA} {nargs : Nat} (hf : P.funcs[f]? = some fn) (ha : fnAZ P Z fn nargs tbl = some a) {as : List A} (hl : as.length = nargs) {m : Nat} {r : RR}
    (h : (a.start sp m as).holds sp.cx a.rs fun x => x.le r) : ACalls P f as r := by
  obtain ⟨r', h1, h2⟩ := acalls_someZ hZ hsp hf ha hl h
  exact h2.le h1
theorem acalls_leD (hsp : sp.sound P) {f : FuncId} {fn : Func} {tbl : List (Nat × List Nat)} {a : FnA} {nargs : Nat} (hf : P.funcs[f]? = some fn) (ha : fnA P fn nargs tbl = some a) {as : List A} (hl : as.length = nargs) {m : Nat} {r : RR}
    (h : (a.start sp m as).holds sp.cx a.rs fun x => x.data.le r) : ACalls P f as r := by
  obtain ⟨r', h1, h2⟩ := acalls_some hsp hf ha hl h
  exact h2.data.le h1
theorem acalls_leDZ {d : Nat} {Z : Zo} (hZ : ZOK P d Z) (hsp : sp.sound P) {f : FuncId} {fn : Func} {tbl : List (Nat × List Nat)} {a : FnA} {nargs : Nat} (hf : P.funcs[f]? = some fn) (ha : fnAZ P Z fn nargs tbl = some a) {as : List A} (hl : as.length = nargs) {m : Nat} {r : RR}
    (h : (a.start sp m as).holds sp.cx a.rs fun x => x.data.le r) : ACalls P f as r := by
  obtain ⟨r', h1, h2⟩ := acalls_someZ hZ hsp hf ha hl h
  exact h2.data.le h1
theorem ret_leD {cx : Cx} {rs : List RVar} {r r' : RR} (h : r.data.le r') : (VC.ret (some r)).holds cx rs (fun x => x.data.le r') := h
end
end Go.Proofs.YtmmlolampgnamaaDoor.Ax
