/- What an operation comes to hangs on its operands and on the tags that it touches, and on nothing else. -/
import Derived.Test.YtmmlolampgnamaaDoorAx11
namespace Go.Proofs.YtmmlolampgnamaaDoor.Ax
open Go.RowKit
set_option linter.unusedVariables false
set_option linter.unusedSimpArgs false

def AOp.operands : AOp → List Operand
  | .mov x | .box x | .load _ _ x | .nilchk x | .un _ x | .cint _ x | .faddr _ x | .field _ _ x | .len x | .lenS x | .extract x _ | .iter x | .next x | .ofRune x | .ofRunes x | .ofBytes x | .toBytes x => [x]
  | .pick c a b => [c, a, b]
  | .alloc _ | .lenA _ => []
  | .build _ ps => ps.map (·.2.2)
  | .bslice _ _ ps => ps.map (·.2)
  | .store _ p x => [p, x]
  | .bin _ x y | .binB _ x y | .eqs _ _ _ x y | .mkslice _ _ x y | .iaddrA _ _ x y | .iaddrS _ x y | .idxS x y | .idxA _ _ _ x y | .append _ _ x y => [x, y]
  | .slice x lo hi _ | .sliceS x lo hi => x :: (lo.toList ++ hi.toList)
  | .sliceA _ _ x hi mx => [x, hi, mx]
  | .minmax _ x xs => x :: xs
  | .call f xs => f :: xs
  | .mkfn _ cs => cs

section
variable {lk lk' : Nat → Option Blk} {cx : Cx} {ev ev' : Operand → AV} {T : Nat} {f : Ef} {ao : AOp}

theorem rowsOf_congr {t g : Nat} (h : lk' t = lk t) : rowsOf lk' t g = rowsOf lk t g := by unfold rowsOf; rw [h]

theorem dOf_congr {x : Cl} {d : D} {ts : List Nat} (h : dOf lk x = some (d, ts)) (ht : ∀ t ∈ ts, lk' t = lk t) : dOf lk' x = some (d, ts) := by
  cases x <;> simp only [dOf] at h ⊢ <;> try exact h
  case own t g n =>
    split at h
    · rename_i fz E rows hro
      simp only [Option.some.injEq, Prod.mk.injEq] at h
      obtain ⟨rfl, rfl⟩ := h
      rw [rowsOf_congr (ht t (by simp)), hro]
    · cases h

theorem srcOf_congr {v : AV} {rows : List (List D)} {ts : List Nat} (h : srcOf lk v = some (rows, ts)) (ht : ∀ t ∈ ts, lk' t = lk t) : srcOf lk' v = some (rows, ts) := by
  unfold srcOf at h ⊢
  split at h
  · exact h
  · exact h
  · exact h
  · rename_i t g n
    split at h
    · rename_i fz E' rows hro
      simp only [Option.some.injEq, Prod.mk.injEq] at h
      obtain ⟨rfl, rfl⟩ := h
      simp only [rowsOf_congr (ht t (by simp)), hro]
    · cases h
  · cases h

theorem dsOf_congr : ∀ {l : List Cl} {ds : List D} {ts : List Nat}, dsOf lk l = some (ds, ts) → (∀ t ∈ ts, lk' t = lk t) → dsOf lk' l = some (ds, ts)
  | [], _, _, h, _ => h
  | x :: l, ds, ts, h, ht => by
    simp only [dsOf] at h
    split at h
    · rename_i y l1 ys ls h1 h2
      simp only [Option.some.injEq, Prod.mk.injEq] at h
      obtain ⟨rfl, rfl⟩ := h
      simp only [dsOf]
      rw [dOf_congr h1 (fun t h => ht t (by simp [h])), dsOf_congr h2 (fun t h => ht t (by simp [h]))]
    · cases h

theorem freeze_mem : ∀ {ts : List Nat} {t : Nat}, t ∈ ts → (∃ B, lk t = some B) → t ∈ (freeze lk ts).map (·.1)
  | s :: ts, t, h, hB => by
    rcases List.mem_cons.1 h with rfl | h
    · obtain ⟨B, hB⟩ := hB
      simp [freeze, hB]
    · have := freeze_mem h hB
      simp only [freeze]
      split
      · simp only [List.map_cons, List.mem_cons]; exact .inr this
      · exact this

theorem freeze_congr : ∀ {ts : List Nat}, (∀ t ∈ ts, lk' t = lk t) → freeze lk' ts = freeze lk ts
  | [], _ => rfl
  | t :: ts, h => by
    simp only [freeze]
    rw [h t (by simp), freeze_congr (fun u hu => h u (by simp [hu]))]

theorem kill_congr : ∀ {ts : List Nat}, (∀ t ∈ ts, lk' t = lk t) → kill lk' ts = kill lk ts
  | [], _ => rfl
  | t :: ts, h => by
    simp only [kill]
    rw [kill_congr (fun u hu => h u (by simp [hu]))]
    unfold genOf
    rw [h t (by simp)]

theorem kill_mem : ∀ {ts : List Nat} {t : Nat}, t ∈ ts → t ∈ (kill lk ts).map (·.1)
  | s :: ts, t, h => by
    simp only [kill, List.map_cons, List.mem_cons] at h ⊢
    rcases h with rfl | h
    · exact .inl rfl
    · exact .inr (kill_mem h)

theorem live_some {t : Nat} (h : ∃ g fz k, lk t = some ⟨g, fz, k⟩ ∧ live k) : ∃ B, lk t = some B := let ⟨_, _, _, h, _⟩ := h; ⟨_, h⟩

theorem fillR_congr {E : Nat} : ∀ {parts : List (Nat × AV)} {rs rs' : List (List D)} {ts : List Nat}, fillR lk E rs parts = some (rs', ts) → (∀ t ∈ ts, lk' t = lk t) → fillR lk' E rs parts = some (rs', ts)
  | [], _, _, _, h, _ => h
  | (i, v) :: parts, rs, rs', ts, h, ht => by
    simp only [fillR] at h
    split at h
    · rename_i l hcl
      split at h
      · rename_i ds ts1 hds
        split at h
        · rename_i hc
          split at h
          · rename_i rs2 ts2 h1
            simp only [Option.some.injEq, Prod.mk.injEq] at h
            obtain ⟨rfl, rfl⟩ := h
            simp only [fillR, hcl]
            rw [dsOf_congr hds (fun t h => ht t (by simp [h]))]
            simp only []
            rw [if_pos hc, fillR_congr h1 (fun t h => ht t (by simp [h]))]
          · cases h
        · cases h
      · cases h
    · cases h

theorem argOf_congr {x : AV} {y : A} {ts : List Nat} (h : argOf lk x = some (y, ts)) (ht : ∀ t ∈ ts, lk' t = lk t) : argOf lk' x = some (y, ts) := by
  cases x with
  | c x =>
    simp only [argOf] at h ⊢
    split at h
    · rename_i d l hd
      simp only [Option.some.injEq, Prod.mk.injEq] at h
      obtain ⟨rfl, rfl⟩ := h
      rw [dOf_congr hd ht]
    · cases h
  | agg cs =>
    simp only [argOf] at h ⊢
    split at h
    · rename_i ds l hd
      simp only [Option.some.injEq, Prod.mk.injEq] at h
      obtain ⟨rfl, rfl⟩ := h
      rw [dsOf_congr hd ht]
    · cases h
  | tup _ => simp [argOf] at h

theorem argsOf_congr : ∀ {xs : List AV} {ys : List A} {ts : List Nat}, argsOf lk xs = some (ys, ts) → (∀ t ∈ ts, lk' t = lk t) → argsOf lk' xs = some (ys, ts)
  | [], _, _, h, _ => h
  | x :: xs, ys, ts, h, ht => by
    simp only [argsOf] at h
    split at h
    · rename_i y l ys' ls h1 h2
      simp only [Option.some.injEq, Prod.mk.injEq] at h
      obtain ⟨rfl, rfl⟩ := h
      simp only [argsOf]
      rw [argOf_congr h1 (fun t h => ht t (by simp [h])), argsOf_congr h2 (fun t h => ht t (by simp [h]))]
    · cases h

theorem impC_congr {x : Rc} (h : ∀ t ∈ (impC lk T x).2.map (·.1), lk' t = lk t) : impC lk' T x = impC lk T x := by
  cases x with
  | d x => rfl
  | nil => rfl
  | new E rows =>
    have := h T (by simp [impC])
    simp only [impC, genOf, this]
theorem impCs_congr : ∀ {l : List Rc} {T : Nat}, (∀ t ∈ (impCs lk T l).2.map (·.1), lk' t = lk t) → impCs lk' T l = impCs lk T l
  | [], _, _ => rfl
  | x :: l, T, h => by
    simp only [impCs] at h ⊢
    rw [impC_congr (fun t ht => h t (by simp only [List.map_append, List.mem_append]; exact .inl ht)), impCs_congr (fun t ht => h t (by simp only [List.map_append, List.mem_append]; exact .inr ht))]
theorem imp1s_congr : ∀ {l : List (Sum Rc (List Rc))} {T : Nat}, (∀ t ∈ (imp1s lk T l).2.map (·.1), lk' t = lk t) → imp1s lk' T l = imp1s lk T l
  | [], _, _ => rfl
  | .inl x :: l, T, h => by
    simp only [imp1s] at h ⊢
    rw [impC_congr (fun t ht => h t (by simp only [List.map_append, List.mem_append]; exact .inl ht)), imp1s_congr (fun t ht => h t (by simp only [List.map_append, List.mem_append]; exact .inr ht))]
  | .inr x :: l, T, h => by
    simp only [imp1s] at h ⊢
    rw [impCs_congr (fun t ht => h t (by simp only [List.map_append, List.mem_append]; exact .inl ht)), imp1s_congr (fun t ht => h t (by simp only [List.map_append, List.mem_append]; exact .inr ht))]
theorem imp_congr {r : RR} {T : Nat} (h : ∀ t ∈ (imp lk T r).2.map (·.1), lk' t = lk t) : imp lk' T r = imp lk T r := by
  cases r with
  | c x => simp only [imp] at h ⊢; rw [impC_congr h]
  | agg l => simp only [imp] at h ⊢; rw [impCs_congr h]
  | tup l => simp only [imp] at h ⊢; rw [imp1s_congr h]

theorem mapO_congr {α β : Type} {g g' : α → Option β} : ∀ {l : List α} {r : List β}, mapO g l = some r → (∀ x ∈ l, ∀ y ∈ r, g x = some y → g' x = some y) → mapO g' l = some r
  | [], _, h, _ => h
  | x :: l, r, h, hg => by
    simp only [mapO] at h
    split at h
    · rename_i y ys h1 h2
      simp only [Option.some.injEq] at h; subst h
      simp only [mapO]
      rw [hg x (by simp) y (by simp) h1, mapO_congr h2 (fun z hz u hu => hg z (by simp [hz]) u (by simp [hu]))]
    · cases h

theorem boundOr_congr {d : Int} {x : Option Operand} (h : ∀ y ∈ x.toList, ev' y = ev y) : boundOr ev' d x = boundOr ev d x := by
  cases x with
  | none => rfl
  | some y => simp only [boundOr]; rw [h y (by simp)]

/-- Nothing else. -/
theorem eff_congr (he : eff cx ev lk T ao = some f) (hev : ∀ x ∈ ao.operands, ev' x = ev x) (hlk : ∀ t, t ∈ f.rd ∨ t ∈ f.up.map (·.1) → lk' t = lk t) : eff cx ev' lk' T ao = some f := by
  cases ao <;> simp only [AOp.operands, List.mem_cons, List.not_mem_nil, or_false, forall_eq_or_imp, forall_eq, List.mem_append] at hev
  case mov x => simp only [eff] at he ⊢; rw [hev]; exact he
  case pick c x y => obtain ⟨h1, h2, h3⟩ := hev; simp only [eff] at he ⊢; rw [h1, h2, h3]; exact he
  case alloc z =>
    simp only [eff, Option.some.injEq] at he ⊢
    subst he
    have := hlk T (by simp)
    simp only [genOf, this]
  case box x =>
    simp only [eff] at he ⊢
    rw [hev]
    split at he
    · split at he
      · rename_i h1
        simp only [Option.some.injEq] at he; subst he
        have := hlk T (by simp)
        rw [if_pos h1]
        simp only [genOf, this]
      · cases he
    · cases he
  case build z ps =>
    simp only [eff] at he ⊢
    have : (ps.map fun p => (p.1, p.2.1, ev' p.2.2)) = ps.map fun p => (p.1, p.2.1, ev p.2.2) := List.map_congr_left fun p hp => by rw [hev p.2.2 (List.mem_map_of_mem hp)]
    rw [this]; exact he
  case bslice z len ps =>
    simp only [eff] at he ⊢
    have : (ps.map fun p => (p.1, ev' p.2)) = ps.map fun p => (p.1, ev p.2) := List.map_congr_left fun p hp => by rw [hev p.2 (List.mem_map_of_mem hp)]
    rw [this]
    split at he
    · rename_i zd hzd
      rw [dsOf_congr (lk' := lk') hzd (fun t h => by simp at h)]
      split at he
      · rename_i rows ts hfr
        split at he
        · rename_i hnt
          simp only [Option.some.injEq] at he; subst he
          have hts : ∀ t ∈ ts, lk' t = lk t := fun t ht => hlk t (.inr (by simp only [List.map_cons, List.mem_cons]; exact .inr (freeze_mem ht (live_some (fillR_live hfr t ht)))))
          have hT := hlk T (by simp)
          simp only [fillR_congr hfr hts, hnt, if_true, freeze_congr hts, genOf, hT]
        · cases he
      · cases he
    · cases he
  case load n sh x =>
    simp only [eff] at he ⊢
    rw [hev]
    generalize ev x = q at he ⊢
    unfold loadE at he ⊢
    split at he
    · split at he
      · rename_i hl
        split at he
        · rename_i hc
          cases hp : pickN n (List.drop _ _) with
          | none => rw [hp] at he; cases he
          | some y =>
            rw [hp] at he
            simp only [Option.map_some, Option.some.injEq] at he; subst he
            simp only [hlk _ (.inl (List.mem_singleton.2 rfl)), hl, hc, and_self, if_true, hp, Option.map_some]
        · cases he
      · cases he
    · split at he
      · rename_i hl
        split at he
        · rename_i hc
          cases hs : subN _ _ _ _ with
          | none => rw [hs] at he; cases he
          | some r =>
            rw [hs] at he
            simp only [Option.bind_some] at he
            cases hp : pickN n _ with
            | none => rw [hp] at he; cases he
            | some y =>
              rw [hp] at he
              simp only [Option.map_some, Option.some.injEq] at he; subst he
              simp only [hlk _ (.inl (List.mem_singleton.2 rfl)), hl, hc, if_true, hs, Option.bind_some, hp, Option.map_some]
        · cases he
      · cases he
    · exact he
    · cases he
  case store n p x =>
    obtain ⟨h1, h2⟩ := hev
    simp only [eff] at he ⊢
    rw [h1, h2]
    generalize ev x = q at he ⊢
    generalize ev p = q' at he ⊢
    unfold storeE at he ⊢
    split at he
    · rename_i t0 g0 j0
      split at he
      · rename_i hl hcl
        split at he
        · rename_i hc
          simp only [Option.some.injEq] at he; subst he
          have h0 := hlk t0 (.inr (by simp))
          simp only [h0, hl, hcl]
          rw [if_pos hc]
        · cases he
      · cases he
    · split at he
      · rename_i hl hcl
        split at he
        · rename_i ds ts r hds hr
          split at he
          · rename_i hc
            simp only [Option.some.injEq] at he; subst he
            have hts : ∀ t ∈ ts, lk' t = lk t := fun t ht => hlk t (.inr (by simp only [List.map_cons, List.mem_cons]; exact .inr (freeze_mem ht (live_some (dsOf_live hds t ht)))))
            simp only [hlk _ (.inr (by simp only [List.map_cons, List.mem_cons]; exact .inl rfl)), hl, hcl, dsOf_congr hds hts, hr, freeze_congr hts]
            rw [if_pos hc]
          · cases he
        · cases he
      · cases he
    · cases he
  case nilchk x => simp only [eff] at he ⊢; rw [hev]; exact he
  case bin op x y => obtain ⟨h1, h2⟩ := hev; simp only [eff] at he ⊢; rw [h1, h2]; exact he
  case binB n x y => obtain ⟨h1, h2⟩ := hev; simp only [eff] at he ⊢; rw [h1, h2]; exact he
  case eqs n k l x y => obtain ⟨h1, h2⟩ := hev; simp only [eff] at he ⊢; rw [h1, h2]; exact he
  case un op x => simp only [eff] at he ⊢; rw [hev]; exact he
  case cint k x => simp only [eff] at he ⊢; rw [hev]; exact he
  case mkslice z b l c =>
    obtain ⟨h1, h2⟩ := hev
    simp only [eff] at he ⊢
    rw [h1, h2]
    split at he
    · rename_i zd n m hzd hl hc
      rw [dsOf_congr (lk' := lk') hzd (fun t h => by simp at h)]
      simp only [hl, hc]
      split at he
      · rename_i hcond
        simp only [Option.some.injEq] at he; subst he
        have hT := hlk T (by simp)
        rw [if_pos hcond]
        simp only [genOf, hT]
      · cases he
    · cases he
  case slice x lo hi E =>
    obtain ⟨h1, h2⟩ := hev
    have b1 : ∀ d, boundOr ev' d lo = boundOr ev d lo := fun d => boundOr_congr (fun y hy => h2 y (.inl hy))
    have b2 : ∀ d, boundOr ev' d hi = boundOr ev d hi := fun d => boundOr_congr (fun y hy => h2 y (.inr hy))
    simp only [eff] at he ⊢
    rw [h1]
    unfold sliceE at he ⊢
    simp only [b1, b2]
    split at he
    · exact he
    · split at he
      · rename_i hro
        split at he
        · rename_i hl hh
          split at he
          · rename_i hE
            split at he
            · rename_i hm
              split at he
              · rename_i hb
                simp only [Option.some.injEq] at he; subst he
                have ht := hlk _ (.inl (List.mem_singleton.2 rfl))
                have hT := hlk T (by simp [kill])
                simp only [rowsOf_congr ht, hro, hl, hh, hm]
                rw [if_pos hE, if_pos hb]
                simp only [kill, genOf, ht, hT]
              · cases he
            · rename_i hm
              cases hs : sliceD _ _ _ with
              | none => rw [hs] at he; cases he
              | some r =>
                rw [hs] at he
                simp only [Option.map_some, Option.some.injEq] at he; subst he
                have ht := hlk _ (.inl (List.mem_singleton.2 rfl))
                simp only [rowsOf_congr ht, hro, hl, hh, hm]
                rw [if_pos hE, hs]
                simp only [Option.map_some, freeze, ht]
          · cases he
        · cases he
      · cases he
    · exact he
    · cases he
  case sliceS x lo hi =>
    obtain ⟨h1, h2⟩ := hev
    have b1 : ∀ d, boundOr ev' d lo = boundOr ev d lo := fun d => boundOr_congr (fun y hy => h2 y (.inl hy))
    have b2 : ∀ d, boundOr ev' d hi = boundOr ev d hi := fun d => boundOr_congr (fun y hy => h2 y (.inr hy))
    simp only [eff] at he ⊢
    rw [h1]
    unfold sliceSE at he ⊢
    simp only [b1, b2]
    exact he
  case sliceA n E x hi mx =>
    obtain ⟨h1, h2, h3⟩ := hev
    simp only [eff] at he ⊢
    rw [h1, h2, h3]
    split at he
    · split at he
      · rename_i hl hh hm
        split at he
        · rename_i ds hds
          split at he
          · rename_i hc
            simp only [Option.some.injEq] at he; subst he
            have ht := hlk _ (.inl (List.mem_singleton.2 rfl))
            simp only [ht, hl, hh, hm, dsOf_congr (lk' := lk') hds (fun t h => by simp at h), freeze]
            rw [if_pos hc]
          · cases he
        · cases he
      · cases he
    · cases he
  case faddr n x => simp only [eff] at he ⊢; rw [hev]; exact he
  case field n k x => simp only [eff] at he ⊢; rw [hev]; exact he
  case iaddrA n E x i => obtain ⟨h1, h2⟩ := hev; simp only [eff] at he ⊢; rw [h1, h2]; exact he
  case iaddrS E x i =>
    obtain ⟨h1, h2⟩ := hev
    simp only [eff] at he ⊢
    rw [h1, h2]
    split at he
    · exact he
    · split at he
      · rename_i hro
        split at he
        · rename_i hc
          simp only [Option.some.injEq] at he; subst he
          have ht := hlk _ (.inl (List.mem_singleton.2 rfl))
          simp only [rowsOf_congr ht, hro]
          rw [if_pos hc]
        · cases he
      · cases he
    · cases he
  case idxS x i => obtain ⟨h1, h2⟩ := hev; simp only [eff] at he ⊢; rw [h1, h2]; exact he
  case idxA len E n x i => obtain ⟨h1, h2⟩ := hev; simp only [eff] at he ⊢; rw [h1, h2]; exact he
  case iter x =>
    simp only [eff] at he ⊢
    rw [hev]
    split at he
    · rename_i s hx
      simp only [Option.some.injEq] at he; subst he
      have ht := hlk T (.inr (by simp))
      simp only [genOf, ht]
    · cases he
  case toBytes x =>
    simp only [eff] at he ⊢
    rw [hev]
    split at he
    · rename_i s hx
      split at he
      · rename_i hs
        simp only [Option.some.injEq] at he; subst he
        have ht := hlk T (.inr (by simp))
        rw [if_pos hs]
        simp only [genOf, ht]
      · cases he
    · cases he
  case next x =>
    simp only [eff] at he ⊢
    rw [hev]
    split at he
    · rename_i t g hx
      split at he
      · rename_i g' s pos hl
        split at he
        · rename_i hgg
          subst hgg
          split at he
          · rename_i hlt
            simp only [Option.some.injEq] at he; subst he
            have ht := hlk t (.inl (by simp))
            simp [ht, hl, hlt]
          · rename_i hlt
            simp only [Option.some.injEq] at he; subst he
            have ht := hlk t (.inl (by simp))
            simp [ht, hl, hlt]
        · cases he
      · cases he
    · cases he
  case ofRune x => simp only [eff] at he ⊢; rw [hev]; exact he
  case ofRunes x =>
    simp only [eff] at he ⊢
    rw [hev]
    split at he
    · rename_i rows ts hs
      cases hm : mapO (intRow .i32) rows with
      | none => rw [hm] at he; cases he
      | some ns =>
        rw [hm] at he
        simp only [Option.map_some, Option.some.injEq] at he; subst he
        rw [srcOf_congr hs (fun t ht => hlk t (.inl ht))]
        simp only [hm, Option.map_some]
    · cases he
  case ofBytes x =>
    simp only [eff] at he ⊢
    rw [hev]
    split at he
    · rename_i rows ts hs
      cases hm : mapO (intRow .u8) rows with
      | none => rw [hm] at he; cases he
      | some ns =>
        rw [hm] at he
        simp only [Option.map_some, Option.some.injEq] at he; subst he
        rw [srcOf_congr hs (fun t ht => hlk t (.inl ht))]
        simp only [hm, Option.map_some]
    · cases he
  case len x => simp only [eff] at he ⊢; rw [hev]; exact he
  case lenS x => simp only [eff] at he ⊢; rw [hev]; exact he
  case lenA n => exact he
  case minmax m x xs =>
    obtain ⟨h1, h2⟩ := hev
    simp only [eff] at he ⊢
    rw [h1, show xs.map ev' = xs.map ev from List.map_congr_left h2]
    exact he
  case append E b x y =>
    obtain ⟨h1, h2⟩ := hev
    simp only [eff] at he ⊢
    rw [h1, h2]
    split at he
    · rename_i r1 ts1 r2 ts2 hb hs
      split at he
      · rename_i hc
        simp only [Option.some.injEq] at he; subst he
        have ht1 : ∀ t ∈ ts1, lk' t = lk t := fun t ht => hlk t (.inr (by simp only [List.map_append, List.mem_append]; exact .inl (kill_mem ht)))
        have ht2 : ∀ t ∈ ts2, lk' t = lk t := fun t ht => hlk t (.inl ht)
        have hT := hlk T (.inr (by simp))
        have hb' : baseOf lk' E (ev x) = some (r1, ts1) := by
          unfold baseOf at hb ⊢
          split at hb
          · exact hb
          · exact hb
          · rename_i t g n hx
            split at hb
            · rename_i E' rows hro
              split at hb
              · rename_i hE
                simp only [Option.some.injEq, Prod.mk.injEq] at hb
                obtain ⟨rfl, rfl⟩ := hb
                rw [rowsOf_congr (ht1 t (by simp)), hro]
                simp [hE]
              · cases hb
            · cases hb
          · cases hb
        have hs' : srcOf lk' (ev y) = some (r2, ts2) := by
          unfold srcOf at hs ⊢
          split at hs
          · exact hs
          · exact hs
          · exact hs
          · rename_i t g n hx
            split at hs
            · rename_i fz E' rows hro
              simp only [Option.some.injEq, Prod.mk.injEq] at hs
              obtain ⟨rfl, rfl⟩ := hs
              rw [rowsOf_congr (ht2 t (by simp)), hro]
            · cases hs
          · cases hs
        rw [hb', hs']
        simp only []
        rw [if_pos hc]
        simp only [kill_congr ht1, genOf, hT]
      · cases he
    · cases he
  case call fo xs =>
    obtain ⟨h1, h2⟩ := hev
    simp only [eff] at he ⊢
    rw [h1, show xs.map ev' = xs.map ev from List.map_congr_left h2]
    split at he
    · split at he
      · cases he
      · rename_i hin
        split at he
        · rename_i as ts has
          unfold callE at he
          split at he
          · rename_i r hr
            simp only [Option.some.injEq] at he; subst he
            have hts : ∀ t ∈ ts, lk' t = lk t := fun t ht => hlk t (.inl ht)
            simp only [hin, if_false, argsOf_congr has hts, callE, hr, freeze_congr hts, Bool.false_eq_true]
            rw [imp_congr (fun t ht => hlk t (.inr (by simp only [List.map_append, List.mem_append]; exact .inr ht)))]
          · cases he
        · cases he
    · cases he
  case extract x i => simp only [eff] at he ⊢; rw [hev]; exact he
  case mkfn g cs =>
    simp only [eff] at he ⊢
    rw [show cs.map ev' = cs.map ev from List.map_congr_left hev]
    split at he
    · rename_i l hl
      simp only [Option.some.injEq] at he; subst he
      have hts : ∀ t ∈ l.flatMap (·.2), lk' t = lk t := fun t ht => hlk t (.inl ht)
      have hl' : mapO (capOf lk') (cs.map ev) = some l := by
        refine mapO_congr hl fun x hx y hy hxy => ?_
        have hty : ∀ t ∈ y.2, lk' t = lk t := fun t ht => hts t (List.mem_flatMap.2 ⟨y, hy, ht⟩)
        unfold capOf at hxy ⊢
        split at hxy
        · rename_i t g'
          split at hxy
          · rename_i hlt
            split at hxy
            · rename_i hg
              split at hxy
              · rename_i ds ts hds
                simp only [Option.some.injEq] at hxy; subst hxy
                simp only [hty t (by simp), hlt]
                rw [if_pos hg, dsOf_congr hds (fun u hu => hty u (by simp [hu]))]
              · cases hxy
            · cases hxy
          · cases hxy
        · cases hxy
      rw [hl']
      simp only [freeze_congr hts]
    · cases he
end

end Go.Proofs.YtmmlolampgnamaaDoor.Ax
