/- Every operation that the compiler takes comes to what the abstract interpreter says. -/
import Derived.Test.YtmmlolampgnamaaDoorAx10
namespace Go.Proofs.YtmmlolampgnamaaDoor.Ax
open Go.RowKit
set_option linter.unusedVariables false
set_option linter.unusedSimpArgs false

section
variable {P : Program} {w0 w w' : World} {ok0 : Ctx0} {e : En} {lk lk' : Nat → Option Blk} {o : Oper} {a : Act} {cx : Cx} {ev : Operand → AV} {T : Nat} {f : Ef} {ao : AOp}

theorem sizeIn_some {t : TypeId} {i : TypeInfo} (h : P.info? t = some i) : sizeIn P t = some i.size := by simp [sizeIn, h]

theorem fits_all (hM : Mem w0 ok0 e lk w) (hev : ∀ x, RV e w (ev x) (a.eval x)) (hcall : ∀ g as r, cx.call g as = some r → ACalls P g as r ∧ Enters P g) (hc : comp P o = some ao) (he : eff cx ev lk T ao = some f) : Fits P w0 ok0 e lk w o a f := by
  have hc0 := hc
  unfold comp at hc
  split at hc
  · rename_i x ho
    obtain rfl := Option.some.inj hc
    exact fits_mov hM hev (.inl ho) he
  · rename_i x ho
    obtain rfl := Option.some.inj hc
    exact fits_mov hM hev (.inr ho) he
  · rename_i c x y ho
    obtain rfl := Option.some.inj hc
    exact fits_pick hM hev ho he
  · rename_i t ho
    cases hz : zeroC P t with
    | none => simp [hz] at hc
    | some z =>
      simp only [hz, Option.map_some, Option.some.injEq] at hc; subst hc
      exact fits_alloc hM ho hz he
  · rename_i t x ho
    obtain rfl := Option.some.inj hc
    exact fits_box hM hev ho he
  · rename_i t parts ho
    exact fits_build hM hev ho hc0 he
  · rename_i t len parts ho
    split at hc
    · rename_i u hu
      split at hc
      · rename_i z n hz hn
        split at hc
        · rename_i hcond
          obtain rfl := Option.some.inj hc
          exact fits_bslice hM hev ho hu hz hn hcond.1 hcond.2.1 hcond.2.2 he
        · cases hc
      · cases hc
    · cases hc
  · rename_i t x ho
    cases hs : shapeOf P t with
    | none => simp [hs] at hc
    | some n =>
      simp only [hs, Option.map_some, Option.some.injEq] at hc; subst hc
      exact fits_load hM hev ho hs he
  · rename_i t p x ho
    cases hs : sizeIn P t with
    | none => simp [hs] at hc
    | some n =>
      simp only [hs, Option.map_some, Option.some.injEq] at hc; subst hc
      exact fits_store hM hev ho hs he
  · rename_i x ho
    obtain rfl := Option.some.inj hc
    exact fits_nilchk hM hev ho he
  · rename_i op t x y t' ho
    split at hc
    · rename_i fs hu
      split at hc
      · rename_i hg
        split at hc
        · rename_i l n hl hn
          obtain rfl := Option.some.inj hc
          exact fits_eqs (neg := false) hM hev ho hg hl hn (run_isAgg_struct hu) he
        · rename_i l n hl hn
          obtain rfl := Option.some.inj hc
          exact fits_eqs (neg := true) hM hev ho hg hl hn (run_isAgg_struct hu) he
        · cases hc
      · cases hc
    · rename_i fs hu
      split at hc
      · rename_i hg
        split at hc
        · rename_i l n hl hn
          obtain rfl := Option.some.inj hc
          exact fits_eqs (neg := false) hM hev ho hg hl hn (run_isAgg_array hu) he
        · rename_i l n hl hn
          obtain rfl := Option.some.inj hc
          exact fits_eqs (neg := true) hM hev ho hg hl hn (run_isAgg_array hu) he
        · cases hc
      · cases hc
    · obtain rfl := Option.some.inj hc
      exact fits_bin hM hev ho he
    · obtain rfl := Option.some.inj hc
      exact fits_bin hM hev ho he
    · rename_i hu
      split at hc
      · obtain rfl := Option.some.inj hc
        exact fits_binB (neg := false) hM hev hu ho he
      · obtain rfl := Option.some.inj hc
        exact fits_binB (neg := true) hM hev hu ho he
      · cases hc
    · cases hc
  · rename_i op t x ho
    obtain rfl := Option.some.inj hc
    exact fits_un hM hev ho he
  · rename_i src dst x ho
    split at hc
    · rename_i k k' hs hd
      obtain rfl := Option.some.inj hc
      exact fits_cint hM hev ho hs hd he
    · rename_i k hs hd
      obtain rfl := Option.some.inj hc
      exact fits_ofRune hM hev ho hs hd he
    · rename_i u hs hd
      split at hc
      · rename_i hu
        obtain rfl := Option.some.inj hc
        exact fits_ofRunes hM hev ho hs hu hd he
      · rename_i hu
        obtain rfl := Option.some.inj hc
        exact fits_ofBytes hM hev ho hs hu hd he
      · cases hc
    · rename_i u hs hd
      split at hc
      · rename_i hu
        obtain rfl := Option.some.inj hc
        exact fits_toBytes hM hev ho hs hd hu he
      · cases hc
    · cases hc
  · rename_i t l c ho
    split at hc
    · rename_i u hu
      split at hc
      · rename_i z i hz hi
        split at hc
        · rename_i hcond
          obtain rfl := Option.some.inj hc
          exact fits_mkslice hM hev ho hu hz hi hcond.1 hcond.2 he
        · cases hc
      · cases hc
    · cases hc
  · rename_i t x lo hi mx ho
    split at hc
    · rename_i u hu
      split at hc
      · rename_i i hmx hi
        obtain rfl := Option.some.inj hc
        exact fits_slice hM hev ho hu (sizeIn_some hi) he
      · cases hc
    · rename_i hu
      split at hc
      · obtain rfl := Option.some.inj hc
        exact fits_sliceS hM hev ho hu he
      · cases hc
    · rename_i n u hu
      split at hc
      · rename_i h m E hE
        split at hc
        · rename_i hE1
          subst hE1
          obtain rfl := Option.some.inj hc
          exact fits_sliceA hM hev ho hu hE he
        · cases hc
      · cases hc
    · cases hc
  · rename_i t x i ho
    split at hc
    · rename_i fs hu
      split at hc
      · rename_i fd hf
        split at hc
        · rename_i n hn
          split at hc
          · rename_i hn0
            obtain rfl := Option.some.inj hc
            exact fits_faddr hM hev ho hu hf hn hn0 he
          · cases hc
        · cases hc
      · cases hc
    · cases hc
  · rename_i t x i ho
    split at hc
    · rename_i fs hu
      split at hc
      · rename_i fd hf
        cases hs : shapeOf P fd.type with
        | none => simp [hs] at hc
        | some n =>
          simp only [hs, Option.map_some, Option.some.injEq] at hc; subst hc
          exact fits_field hM hev ho hu hf hs he
      · cases hc
    · cases hc
  · rename_i t x i ho
    split at hc
    · rename_i n u hu
      cases hs : sizeIn P u with
      | none => simp [hs] at hc
      | some E =>
        simp only [hs, Option.map_some, Option.some.injEq] at hc; subst hc
        exact fits_iaddrA hM hev ho hu hs he
    · rename_i u hu
      split at hc
      · rename_i E hs
        split at hc
        · obtain rfl := Option.some.inj hc
          exact fits_iaddrS hM hev ho hu hs he
        · cases hc
      · cases hc
    · cases hc
  · rename_i t x i ho
    split at hc
    · rename_i hu
      obtain rfl := Option.some.inj hc
      exact fits_idxS hM hev ho hu he
    · rename_i len u hu
      split at hc
      · rename_i n E hs hE
        split at hc
        · obtain rfl := Option.some.inj hc
          exact fits_idxA hM hev ho hu hs hE he
        · cases hc
      · cases hc
    · cases hc
  · rename_i t x ho
    split at hc
    · rename_i hu
      obtain rfl := Option.some.inj hc
      exact fits_iter hM hev ho hu he
    · cases hc
  · rename_i x ho
    obtain rfl := Option.some.inj hc
    exact fits_next hM hev ho he
  · rename_i x i ho
    obtain rfl := Option.some.inj hc
    exact fits_extract hM hev ho he
  · rename_i g first caps ho
    split at hc
    · rename_i hfi
      obtain rfl := Option.some.inj hc
      exact fits_mkfn hM hev ho hfi he
    · cases hc
  · rename_i c ho
    obtain ⟨callee, args, argTypes⟩ := c
    simp only at hc
    split at hc
    · rename_i fo
      obtain rfl := Option.some.inj hc
      exact fits_call hM hev ho hcall he
    · split at hc
      · rename_i x t hx ht
        have hargs : args = #[x] := by apply Array.ext'; simpa using hx
        subst hargs
        split at hc
        · rename_i u hu
          obtain rfl := Option.some.inj hc
          exact fits_len hM hev ho ht hu he
        · rename_i hu
          obtain rfl := Option.some.inj hc
          exact fits_lenS hM hev ho ht hu he
        · rename_i n u hu
          obtain rfl := Option.some.inj hc
          exact fits_lenA hM ho ht hu he
        · cases hc
      · cases hc
    · split at hc
      · rename_i x xs hx
        have hargs : args = (x :: xs).toArray := by apply Array.ext'; simpa using hx
        subst hargs
        obtain rfl := Option.some.inj hc
        exact fits_minmax (mx := true) hM hev ho he
      · cases hc
    · split at hc
      · rename_i x xs hx
        have hargs : args = (x :: xs).toArray := by apply Array.ext'; simpa using hx
        subst hargs
        obtain rfl := Option.some.inj hc
        exact fits_minmax (mx := false) hM hev ho he
      · cases hc
    · split at hc
      · rename_i x y t u rest hx ht
        have hargs : args = #[x, y] := by apply Array.ext'; simpa using hx
        subst hargs
        have hts : argTypes = (t :: u :: rest).toArray := by apply Array.ext'; simpa using ht
        subst hts
        split at hc
        · rename_i el el2 hut huu
          split at hc
          · rename_i i hi
            split at hc
            · rename_i hcond
              obtain ⟨hE, hz⟩ := hcond
              obtain rfl := Option.some.inj hc
              cases hzz : i.zero with
              | none => simp [hzz] at hz
              | some z =>
                simp only [hzz, Option.map_some, Option.some.injEq] at hz
                exact fits_append hM hev ho (by simp) (by simp) hut huu hi hE hzz hz he
            · cases hc
          · cases hc
        · cases hc
      · cases hc
    · cases hc
  · cases hc
end

end Go.Proofs.YtmmlolampgnamaaDoor.Ax
