import Derived.Test.YtcmmlcpfnbfloaaDoorShelf
import Derived.Test.YtcmmlcpfnbfloaaDoorAx24
import Derived.Test.YtcmmlcpfnbfloaaDoorAxLaw
import Derived.Test.YtcmmlcpfnbfloaaDoorAxBits
import Derived.Tactics
import Derived.WalkKit
namespace Go.Proofs.YtcmmlcpfnbfloaaDoor.Ax
open Go.RowKit
set_option linter.unusedVariables false
theorem clip_walk (A : Option Addr) (n c : Nat) (hc : n ≤ c) (hn : (n : Int) ≤ 9223372036854775807) (w : World) : Calls Tryd.prog 22 #[.slice A n c] w fun e w' => e = .returned (.slice A n n) ∧ w' = w := by
  go_enter Tryd.func22, Tryd.ntmps22
  go_wp2
  go_ret
  exact ⟨rfl, rfl⟩
def strOf : List D → Option ByteArray
  | [.str s] => some s
  | _ => none
theorem strOf_some {r : List D} {s : ByteArray} (h : strOf r = some s) : r = [.str s] := by
  unfold strOf at h
  split at h
  · cases h; rfl
  · cases h
theorem strs_some : ∀ {rows : List (List D)} {l : List ByteArray}, mapO strOf rows = some l → rows = l.map fun s => [D.str s]
  | [], l, h => by simp only [mapO, Option.some.injEq] at h; subst h; rfl
  | r :: rs, l, h => by
    simp only [mapO] at h
    split at h
    · rename_i x xs h1 h2
      simp only [Option.some.injEq] at h; subst h
      rw [strOf_some h1, strs_some h2]; rfl
    · cases h
def joinS (l : List ByteArray) (sep : ByteArray) : List UInt8 := Lib.join (l.map (·.data.toList)) sep.data.toList
def extT (f : FuncId) (xs : List A) : Option RR := match f, xs with
  | 26, [.c (.int .i64 n)] => if 0 ≤ n ∧ n < 100 then some (.c (.d (.str ⟨(Lib.decDigits n.toNat).toArray⟩))) else none
  | 28, [.c (.sl rows), .c (.str sep)] => match mapO strOf rows with
    | some l => if l.length ≤ 140737488355328 ∧ (joinS l sep).length ≤ 140737488355328 then some (.c (.d (.str ⟨(joinS l sep).toArray⟩))) else none
    | none => none
  | 22, [.c (.sl rows)] => if rows.length ≤ 1000000000 then some (.c (.d (.sl rows))) else none
  | _, _ => none
theorem one_arg {ok : Nat → Prop} {w : World} {x : A} {vals : List Value} (h : RAs ok w [x] vals) : ∃ v, vals = [v] ∧ RA ok w x v := by
  cases vals with
  | nil => exact h.elim
  | cons v vs => cases vs with
    | nil => exact ⟨v, rfl, h.1⟩
    | cons _ _ => exact h.2.elim
theorem two_args {ok : Nat → Prop} {w : World} {x y : A} {vals : List Value} (h : RAs ok w [x, y] vals) : ∃ v u, vals = [v, u] ∧ RA ok w x v ∧ RA ok w y u := by
  cases vals with
  | nil => exact h.elim
  | cons v vs =>
    obtain ⟨u, rfl, hu⟩ := one_arg h.2
    exact ⟨v, u, rfl, h.1, hu⟩
theorem itoa_calls {n : Int} (h : 0 ≤ n ∧ n < 100) : ACalls Tryd.prog 26 [.c (.int .i64 n)] (.c (.d (.str ⟨(Lib.decDigits n.toNat).toArray⟩))) := by
  intro w vals ok hok hgl hargs
  obtain ⟨v, rfl, hv⟩ := one_arg hargs
  simp only [RA, RD] at hv
  subst hv
  have := Tryd.strconv_Itoa_small n.toNat (by omega) w
  rw [show ((n.toNat : Nat) : Int) = n by omega] at this
  refine this.mono fun e w' h => ?_
  obtain ⟨rfl, rfl⟩ := h
  exact ⟨_, ok, [], rfl, Below.refl _ _, hok, fun b h => .inl h, ⟨rfl, by simp only [RD]⟩, List.nodup_nil, fun b h => by cases h⟩
theorem clip_calls {rows : List (List D)} (h : rows.length ≤ 1000000000) : ACalls Tryd.prog 22 [.c (.sl rows)] (.c (.d (.sl rows))) := by
  intro w vals ok hok hgl hargs
  obtain ⟨v, rfl, hv⟩ := one_arg hargs
  simp only [RA, RD] at hv
  obtain ⟨A, c, rfl, hc, hr⟩ := hv
  refine (clip_walk A rows.length c hc (by omega) w).mono fun e w' h => ?_
  obtain ⟨rfl, rfl⟩ := h
  refine ⟨_, ok, [], rfl, Below.refl _ _, hok, fun b h => .inl h, ⟨rfl, ?_⟩, List.nodup_nil, fun b h => by cases h⟩
  simp only [RD]
  exact ⟨A, rows.length, rfl, Nat.le_refl _, hr⟩
theorem join_calls {rows : List (List D)} {l : List ByteArray} {sep : ByteArray} (hl : mapO strOf rows = some l) (h : l.length ≤ 140737488355328 ∧ (joinS l sep).length ≤ 140737488355328) :
    ACalls Tryd.prog 28 [.c (.sl rows), .c (.str sep)] (.c (.d (.str ⟨(joinS l sep).toArray⟩))) := by
  intro w vals ok hok hgl hargs
  obtain ⟨v, u, rfl, hv, hu⟩ := two_args hargs
  have hrows := strs_some hl
  have hlen : rows.length = l.length := by rw [hrows]; simp
  simp only [RA, RD] at hv hu
  subst hu
  obtain ⟨A, c, rfl, hc, hr⟩ := hv
  have fin : ∀ (e : Ending) (w' : World), e = .returned (.string ⟨(joinS l sep).toArray⟩) ∧ Below w.heap.size w w' → ∃ v ok' bs, e = .returned v ∧ Below w.heap.size w w' ∧ (∀ b, ok' b → b < w'.heap.size) ∧ (∀ b, ok' b → ok b ∨ w.heap.size ≤ b) ∧
      RRv ok' w' (.c (.d (.str ⟨(joinS l sep).toArray⟩))) v bs ∧ bs.Nodup ∧ ∀ b ∈ bs, ¬ ok' b ∧ w.heap.size ≤ b ∧ b < w'.heap.size := by
    rintro e w' ⟨rfl, hb⟩
    exact ⟨_, ok, [], rfl, hb, fun b h => Nat.lt_of_lt_of_le (hok b h) hb.size, fun b h => .inl h, ⟨rfl, by simp only [RD]⟩, List.nodup_nil, fun b h => by cases h⟩
  by_cases hne : l = []
  · subst hne
    rw [hlen]
    refine (Tryd.strings_Join_none A c sep w).mono fun e w' h => fin e w' ?_
    obtain ⟨rfl, rfl⟩ := h
    exact ⟨rfl, Below.refl _ _⟩
  · obtain ⟨a, E, rfl, hok', hrd⟩ := hr (by rw [hrows]; simpa using hne)
    have hE : E = 1 := by
      cases l with
      | nil => exact absurd rfl hne
      | cons x xs =>
        have := (hrd.get (i := 0) (r := [D.str x]) (by rw [hrows]; rfl)).1
        simpa using this.symm
    subst hE
    have hcell : ∀ (j : Nat) x, l[j]? = some x → w.cell? (a.add j) = some (.string x) := by
      intro j x hj
      obtain ⟨_, hrow⟩ := hrd.get (i := j) (r := [D.str x]) (by rw [hrows, List.getElem?_map, hj]; rfl)
      obtain ⟨u, hu, hd⟩ := hrow.get (i := 0) rfl
      simp only [RD] at hd
      subst hd
      rw [show (0 + j) * 1 + 0 = j by omega] at hu
      exact hu
    obtain ⟨b, o, spot⟩ := a
    have hspot : spot = none := by
      cases l with
      | nil => exact absurd rfl hne
      | cons x xs => simpa [Addr.add] using World.cell?_spot (hcell 0 x rfl)
    subst hspot
    rw [hlen]
    refine (Tryd.strings_Join b o c l sep w (fun j x hj => ?_) (hok b hok') h.1 (by omega) h.2).mono fun e w' h => fin e w' h
    have := hcell j x hj
    rwa [add_lit] at this
theorem extT_sound : ∀ g xs r, extT g xs = some r → ACalls Tryd.prog g xs r ∧ Enters Tryd.prog g := by
  intro g xs r h
  unfold extT at h
  split at h
  · split at h
    · rename_i hc
      simp only [Option.some.injEq] at h; subst h
      exact ⟨itoa_calls hc, ⟨Tryd.f26, by kernel_rfl, by decide +kernel, by kernel_rfl⟩⟩
    · cases h
  · split at h
    · rename_i l hl
      split at h
      · rename_i hc
        simp only [Option.some.injEq] at h; subst h
        exact ⟨join_calls hl hc, ⟨Tryd.f28, by kernel_rfl, by decide +kernel, by kernel_rfl⟩⟩
      · cases h
    · cases h
  · split at h
    · rename_i hc
      simp only [Option.some.injEq] at h; subst h
      exact ⟨clip_calls hc, ⟨Tryd.f22, by kernel_rfl, by decide +kernel, by kernel_rfl⟩⟩
    · cases h
  · cases h
end Go.Proofs.YtcmmlcpfnbfloaaDoor.Ax
