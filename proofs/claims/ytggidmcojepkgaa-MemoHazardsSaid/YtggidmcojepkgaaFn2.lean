import Derived.Test.YtggidmcojepkgaaFn1
namespace Go.Proofs.Ytggidmcojepkgaa.Ax
open Go.RowKit
set_option linter.unusedVariables false

theorem acalls_data {P : Program} {f : FuncId} {xs : List A} {E : Nat} {rows : List (List D)} (h : ACalls P f xs (.c (.new E rows))) : ACalls P f xs (.c (.d (.sl rows))) := by
  intro w vals ok hok has
  refine (h w vals ok hok has).mono fun e w' h => ?_
  obtain ⟨v, ok', bs, h1, h2, h3, h4, h5, h6, h7⟩ := h
  rcases h5 with ⟨rfl, rfl, rfl⟩ | ⟨b, c, cs, ty, rfl, rfl, hE, hh, hcs, hrc, hrr⟩
  · exact ⟨_, ok', [], h1, h2, h3, h4, ⟨rfl, none, 0, rfl, Nat.le_refl _, fun h => absurd rfl h⟩, by simp, by simp⟩
  · obtain ⟨q1, q2, q3⟩ := h7 b (by simp)
    refine ⟨_, fun x => ok' x ∨ x = b, [], h1, h2, ?_, ?_, ⟨rfl, some ⟨b, 0, none⟩, c, rfl, hrc, fun _ => ⟨_, E, rfl, .inr rfl, RDRows.mono (fun _ h => .inl h) (fun _ _ => rfl) _ rfl E rows 0 hrr⟩⟩, by simp, by simp⟩
    · intro x hx
      rcases hx with hx | rfl
      · exact h3 x hx
      · exact q3
    · intro x hx
      rcases hx with hx | rfl
      · exact h4 x hx
      · exact .inr q2

theorem good21 : Good 21 := by
  intro xs hp
  unfold pre0 at hp
  split at hp
  · rename_i heq; cases heq
  · rename_i heq; cases heq
  · rename_i rows heq
    obtain ⟨h1, h2⟩ := hp
    refine ⟨?_, ⟨Try.f21, by kernel_rfl, by decide +kernel, by kernel_rfl⟩, ?_⟩
    · refine clone_calls (f := 21) (fn := Try.f21) (t := 35) (u := 38) (bytes := 48) (z := [.d (.int .i64 0), .d (.int .i64 0), .d (.int .i64 0), .d (.int .i64 0), .d (.int .i64 0), .d (.bool false), .d (.bool false), .d (.bool false)]) (by kernel_rfl) rfl rfl (by kernel_rfl) (by kernel_rfl) (by kernel_rfl) (by kernel_rfl) rfl rfl rfl (by kernel_rfl) (by kernel_rfl) (fun _ => rfl) ?_ (by omega)
      rw [h1]
      exact rowsOn_all _ _ rfl
    · show (!(rows.all fun r => r.all fun d => !(hasRef d))) = false
      rw [h1, rowsOn, List.all_map]
      have : ((listOf Ent rows).all ((fun r => r.all fun d => !(hasRef d)) ∘ row)) = true := List.all_eq_true.2 fun e _ => rfl
      rw [this]; rfl
  · rename_i heq; cases heq
  · rename_i heq; cases heq
  · exact hp.elim

noncomputable def fa14 : FnA := (fnA Try.prog Try.f14 2 []).getD ⟨0, .skip, [], []⟩
theorem t14 (l : List Ent) (i : Int) : fa14.start (spL [21]) 100 [.c (.sl (rowsOn l)), .c (.int .i64 i)] =
(VC.need ((List.all (rowsOn l) fun r ↦ List.length r == 8) = true ∧ (0 : Int) ≤ 0 ∧ 0 ≤ min (max i 0) ↑(List.length (rowsOn l)) ∧ min (max i 0) ↑(List.length (rowsOn l)) ≤ ↑(List.length (rowsOn l)))
(VC.need ((spL [21]).pre 21 [A.c (D.sl (List.drop 0 (List.take (Int.toNat (min (max i 0) ↑(List.length (rowsOn l)))) (rowsOn l))))])
(VC.ret (some (RR.c (Rc.new 8 (List.drop 0 (List.take (Int.toNat (min (max i 0) ↑(List.length (rowsOn l)))) (rowsOn l))))))))) := by kernel_rfl
theorem cut_calls (l : List Ent) (i : Int) (hl : l.length ≤ 1000000000) : ACalls Try.prog 14 [.c (.sl (rowsOn l)), .c (.int .i64 i)] (.c (.d (.sl (rowsOn (cutS l i))))) := by
  have hsp : (spL [21]).sound Try.prog := sound_of fun f hf => by
    simp only [List.mem_cons, List.not_mem_nil, or_false] at hf
    subst hf
    exact good21
  refine acalls_data (E := 8) (acalls_of hsp (fn := Try.f14) (a := fa14) (nargs := 2) (tbl := []) (by kernel_rfl) (by kernel_rfl) rfl (m := 100) ?_)
  rw [t14]
  have e0 : List.drop 0 (List.take (min (max i 0) ((rowsOn l).length : Int)).toNat (rowsOn l)) = rowsOn (cutS l i) := by
    rw [List.drop_zero, rowsOn_length, rowsOn_take]; rfl
  have hc : (cutS l i).length ≤ l.length := by simp only [cutS, List.length_take]; omega
  refine ⟨⟨rowsOn_all _ _ rfl, by omega, by omega, by omega⟩, ?_, ?_⟩
  · refine ⟨by simp, ?_⟩
    show List.drop (Int.toNat 0) (List.take (min (max i 0) ((rowsOn l).length : Int)).toNat (rowsOn l)) = rowsOn (listOf Ent (List.drop (Int.toNat 0) (List.take (min (max i 0) ((rowsOn l).length : Int)).toNat (rowsOn l)))) ∧ _ ≤ _
    rw [show Int.toNat 0 = 0 from rfl, e0, listOf_rowsOn, rowsOn_length]
    exact ⟨rfl, by omega⟩
  · show RR.c (Rc.new 8 (List.drop 0 (List.take (min (max i 0) ((rowsOn l).length : Int)).toNat (rowsOn l)))) = _
    rw [e0]
theorem good14 : Good 14 := by
  intro xs hp
  unfold pre0 at hp
  split at hp
  · rename_i heq; cases heq
  · rename_i rows i heq
    obtain ⟨h1, h2⟩ := hp
    have hlen : (listOf Ent rows).length ≤ 1000000000 := by rw [h1, rowsOn_length] at h2; exact h2
    have := cut_calls (listOf Ent rows) i hlen
    rw [← h1] at this
    exact ⟨this, ⟨Try.f14, by kernel_rfl, by decide +kernel, by kernel_rfl⟩, rfl⟩
  · rename_i heq; cases heq
  · rename_i heq; cases heq
  · rename_i heq; cases heq
  · exact hp.elim
end Go.Proofs.Ytggidmcojepkgaa.Ax
