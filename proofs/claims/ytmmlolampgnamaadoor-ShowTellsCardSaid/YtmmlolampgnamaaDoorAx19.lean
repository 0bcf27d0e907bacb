/- The tree holds: the run answers. -/
import Derived.Test.YtmmlolampgnamaaDoorAx18
namespace Go.Proofs.YtmmlolampgnamaaDoor.Ax
open Go.RowKit
set_option linter.unusedVariables false
set_option linter.unusedSimpArgs false

section
variable {P : Program} {sp : Sp} {cx : Cx} {rs : List RVar} {R : RR → Prop} {ev : Operand → AV} {lk : Nat → Option Blk} {T : Nat}

theorem holds_br {b : Bool} {x y : VC} (h : (VC.br b x y).holds cx rs R) : if b = true then x.holds cx rs R else y.holds cx rs R := by cases b <;> simpa [VC.br] using h
theorem br_holds {b : Bool} {x y : VC} (h1 : b = true → x.holds cx rs R) (h2 : b = false → y.holds cx rs R) : (VC.br b x y).holds cx rs R := by
  cases b
  · exact h2 rfl
  · exact h1 rfl

theorem ofSh_length (r : List D) : ∀ (sh : List Kd) (j : Nat), (ofSh r sh j).length = sh.length
  | [], _ => rfl
  | k :: ks, j => by simp only [ofSh, List.length_cons]; rw [ofSh_length r ks (j + 1)]

theorem pickSh_eq {n : Option Nat} {sh : List Kd} {r : List D} {y : AV} (h : pickSh n sh r = some y) (ht : r.take sh.length = ofSh r sh 0) : pickN n (r.map .d) = some y := by
  unfold pickSh at h
  cases n with
  | none =>
    split at h
    · rename_i k
      split at h
      · rename_i k
        simp only [Option.some.injEq] at h; subst h
        simp only [ofSh, List.length_cons, List.length_nil, Nat.zero_add] at ht
        simp only [pickN, List.getElem?_map]
        cases r with
        | nil => simp at ht
        | cons d r =>
          simp only [List.take_succ_cons, List.take_zero, List.getD_cons_zero, List.cons.injEq, and_true] at ht
          simp only [List.getElem?_cons_zero, Option.map_some, List.getD_cons_zero]
          rw [← ht]
      · cases h
    · rename_i heq; cases heq
  | some n =>
    split at h
    · rename_i heq; cases heq
    · rename_i m heq
      cases heq
      split at h
      · rename_i hl
        simp only [Option.some.injEq] at h; subst h
        have hlen := ofSh_length r sh 0
        rw [← ht, List.length_take] at hlen
        simp only [pickN, List.length_map]
        rw [if_pos (by omega), ← List.map_take, ← hl, ht]
      · cases h

theorem rowAt_get {rows : List (List D)} {i : Nat} (h : i < rows.length) : rows[i]? = some (rowAt rows i) := by
  unfold rowAt
  rw [List.getD_eq_getElem?_getD, List.getElem?_eq_getElem h]; rfl
theorem subN_at {rows : List (List D)} {i j E : Nat} (h : i < rows.length) (hE : (rowAt rows i).length = E) : subN E rows i j = some ((rowAt rows i).drop j) := by
  unfold subN
  rw [rowAt_get h]
  simp only [hE, if_true]

theorem loadW_sound {n : Option Nat} {sh : List Kd} {v : AV} {k : Ef → VC} (h : (loadW lk n sh v k).holds cx rs R) : ∃ f, loadE lk n v = some f ∧ (k f).holds cx rs R := by
  unfold loadW at h
  split at h
  · rename_i r
    split at h
    · rename_i y hy
      exact ⟨_, by simp only [loadE, pickSh_eq hy h.1, Option.map_some], h.2⟩
    · exact h.elim
  · rename_i t g i j
    split at h
    · rename_i g' fz E rows hl
      split at h
      · rename_i hg
        split at h
        · rename_i y hy
          obtain ⟨⟨h1, h2, h3⟩, hk⟩ := h
          exact ⟨_, by simp only [loadE, hl, hg, if_true, subN_at h1 h2, Option.bind_some, pickSh_eq hy h3, Option.map_some], hk⟩
        · exact h.elim
      · exact h.elim
    · exact h.elim
  · split at h
    · rename_i f hf; exact ⟨f, hf, h⟩
    · exact h.elim

theorem storeW_sound {n : Nat} {v p : AV} {k : Ef → VC} (h : (storeW lk n v p k).holds cx rs R) : ∃ f, storeE lk n v p = some f ∧ (k f).holds cx rs R := by
  unfold storeW at h
  split at h
  · rename_i t g i j
    split at h
    · rename_i g' E rows l hl hc
      split at h
      · rename_i ds ts hds
        split at h
        · rename_i hcond
          obtain ⟨⟨h1, h2, h3⟩, hk⟩ := h
          refine ⟨_, ?_, hk⟩
          simp only [storeE, hl, hc, hds, rowAt_get h1]
          rw [if_pos ⟨hcond.1, hcond.2.1, h2, h3, hcond.2.2⟩]
        · exact h.elim
      · exact h.elim
    · exact h.elim
  · split at h
    · rename_i f hf; exact ⟨f, hf, h⟩
    · exact h.elim

theorem dbinW_sound {op : BinOp} {a b : D} {k : D → VC} (h : (dbinW op a b k).holds cx rs R) : ∃ d, dbin op a b = some d ∧ (k d).holds cx rs R := by
  unfold dbinW at h
  split at h
  · rename_i kx x ky y
    split at h
    · obtain ⟨h1, h2⟩ := h
      exact ⟨_, by simp only [dbin]; rw [if_neg (by omega)], h2⟩
    · obtain ⟨h1, h2⟩ := h
      exact ⟨_, by simp only [dbin]; rw [if_neg (by omega)], h2⟩
    · split at h
      · rename_i hk
        obtain ⟨h1, h2⟩ := h
        exact ⟨_, by simp only [dbin, hk, if_true, ibin]; rw [if_neg h1], h2⟩
      · exact h.elim
    · split at h
      · rename_i hk
        obtain ⟨h1, h2⟩ := h
        exact ⟨_, by simp only [dbin, hk, if_true, ibin]; rw [if_neg h1], h2⟩
      · exact h.elim
    · split at h
      · rename_i d hd; exact ⟨d, hd, h⟩
      · exact h.elim
  · rename_i x y
    split at h
    · obtain ⟨h1, h2⟩ := h
      exact ⟨_, by simp only [dbin, sbin]; rw [if_pos h1], h2⟩
    · split at h
      · rename_i d hd; exact ⟨d, hd, h⟩
      · exact h.elim
  · exact h.elim

theorem sliceW_sound {T : Nat} {lo hi : Option Operand} {E : Nat} {v : AV} {k : Ef → VC} (h : (sliceW ev lk T lo hi E v k).holds cx rs R) : ∃ f, sliceE ev lk T lo hi E v = some f ∧ (k f).holds cx rs R := by
  unfold sliceW at h
  split at h
  · rename_i rows
    split at h
    · rename_i l h' hl hh
      obtain ⟨⟨h0, h1⟩, hk⟩ := h
      exact ⟨_, by simp only [sliceE, hl, hh, h0, if_true, sliceD]; rw [if_pos h1]; rfl, hk⟩
    · exact h.elim
  · rename_i t g n
    split at h
    · rename_i fz E' rows hro
      split at h
      · rename_i l h' hl hh
        split at h
        · rename_i hE
          split at h
          · rename_i hm
            obtain ⟨h1, hk⟩ := h
            exact ⟨_, by simp only [sliceE, hro, hl, hh, hE, if_true, hm]; rw [if_pos h1], hk⟩
          · rename_i hm
            obtain ⟨h1, hk⟩ := h
            exact ⟨_, by simp only [sliceE, hro, hl, hh, hE, if_true, hm, sliceD]; rw [if_pos h1]; rfl, hk⟩
        · exact h.elim
      · exact h.elim
    · exact h.elim
  · split at h
    · rename_i l h' hl hh
      obtain ⟨h1, hk⟩ := h
      exact ⟨_, by simp only [sliceE, hl, hh]; rw [if_pos h1], hk⟩
    · exact h.elim
  · exact h.elim

theorem sliceSW_sound {lo hi : Option Operand} {v : AV} {k : Ef → VC} (h : (sliceSW ev lo hi v k).holds cx rs R) : ∃ f, sliceSE ev lo hi v = some f ∧ (k f).holds cx rs R := by
  unfold sliceSW at h
  split at h
  · rename_i s
    split at h
    · rename_i l h' hl hh
      obtain ⟨h1, hk⟩ := h
      exact ⟨_, by simp only [sliceSE, hl, hh]; rw [if_pos h1], hk⟩
    · exact h.elim
  · exact h.elim

theorem eachW_sound {i : Int} {k : Nat → VC} : ∀ (n c : Nat), (eachW i k n c).holds cx rs R → ∃ m : Nat, i = m ∧ m < c + n ∧ (k m).holds cx rs R
  | 0, _, h => h.elim
  | n + 1, c, h => by
    have h := holds_br h
    split at h
    · rename_i hc
      exact ⟨c, by simpa using hc, by omega, h⟩
    · obtain ⟨m, h1, h2, h3⟩ := eachW_sound n (c + 1) h
      exact ⟨m, h1, by omega, h3⟩

theorem maxW_sound {mx : Bool} {k : Int → VC} : ∀ (l : List Int) (n : Int), (maxW mx l n k).holds cx rs R → (k (l.foldl (fun a b => if mx then (if b > a then b else a) else (if b < a then b else a)) n)).holds cx rs R
  | [], n, h => h
  | a :: l, n, h => by
    simp only [List.foldl_cons]
    cases mx with
    | true =>
      have := maxW_sound l (max n a) h
      rw [show max n a = (if a > n then a else n) by omega] at this
      exact this
    | false =>
      have := maxW_sound l (min n a) h
      rw [show min n a = (if a < n then a else n) by omega] at this
      exact this
theorem holds_turn {b want : Bool} {x y : VC} (h : (VC.turn b want x y).holds cx rs R) : (b = want ∧ x.holds cx rs R) ∨ (b = !want ∧ y.holds cx rs R) := by
  cases b <;> cases want <;> first
    | exact .inl ⟨rfl, h⟩
    | exact .inr ⟨rfl, h⟩
theorem turnS_eq {s : St} {t : Nat} {b : Bool} (h : slotsF s.slots t = .c (.d (.bool b))) : turnS s t b = s := by
  obtain ⟨slots, blk⟩ := s
  simp only [turnS, St.mk.injEq, and_true]
  simp only [slotsF, List.getD_eq_getElem?_getD] at h
  cases hg : slots[t]? with
  | none => rw [hg] at h; cases h
  | some v =>
    rw [hg] at h
    simp only [Option.getD_some] at h
    subst h
    obtain ⟨hl, hv⟩ := List.getElem?_eq_some_iff.1 hg
    rw [← hv]
    exact List.set_getElem_self hl

theorem holds_clip {c : Bool} {r : List (List D)} {k : VC} (h : (clipW c r k).holds cx rs R) : (c && r.isEmpty) = false ∧ k.holds cx rs R := by
  cases c with
  | true => exact ⟨by simpa using h.1, h.2⟩
  | false => exact ⟨rfl, h⟩

theorem mapO_need {k : IntKind} : ∀ {rows : List (List D)}, rows = rows.map (fun r => [D.int k (asInt (r.getD 0 .nilp))]) → mapO (intRow k) rows = some (rows.map fun r => asInt (r.getD 0 .nilp))
  | [], _ => rfl
  | r :: rs, h => by
    rw [List.map_cons, List.cons.injEq] at h
    obtain ⟨h1, h2⟩ := h
    have hr : intRow k r = some (asInt (r.getD 0 .nilp)) := by
      rw [h1]
      simp [intRow, asInt]
    simp only [mapO, hr, mapO_need h2, List.map_cons]

theorem effW_sound (hsp : sp.sound P) {op : AOp} {k : Ef → VC} (h : (effW sp ev lk T op k).holds cx rs R) : ∃ f, eff sp.cx ev lk T op = some f ∧ (k f).holds cx rs R := by
  cases op with
  | pick c a b =>
    simp only [effW] at h
    split at h
    · rename_i t hc
      have h := holds_br h
      cases t with
      | true => exact ⟨⟨ev a, [], []⟩, by simp only [eff, hc, if_true], by simpa using h⟩
      | false => exact ⟨⟨ev b, [], []⟩, by simp only [eff, hc, Bool.false_eq_true, if_false], by simpa using h⟩
    · exact h.elim
  | load n sh x => exact loadW_sound h
  | store n p x => exact storeW_sound h
  | bin op x y =>
    simp only [effW] at h
    split at h
    · rename_i a b ha hb
      obtain ⟨d, h1, h2⟩ := dbinW_sound h
      exact ⟨_, by simp only [eff, ha, hb, h1, Option.map_some], h2⟩
    · exact h.elim
  | mkslice z bytes l c =>
    simp only [effW] at h
    split at h
    · rename_i zd n m hz hl hc
      obtain ⟨h1, h2⟩ := h
      exact ⟨_, by simp only [eff, hz, hl, hc]; rw [if_pos h1], h2⟩
    · exact h.elim
  | slice x lo hi E => exact sliceW_sound h
  | sliceS x lo hi => exact sliceSW_sound h
  | iaddrA len E x i =>
    simp only [effW] at h
    split at h
    · rename_i kd n hi
      split at h
      · rename_i t g j hx
        obtain ⟨m, rfl, h1, h2⟩ := eachW_sound _ _ h
        exact ⟨_, by simp only [eff, hx, hi]; rw [if_pos (by omega)], by simpa using h2⟩
      · rename_i t g q j hx
        obtain ⟨m, rfl, h1, h2⟩ := eachW_sound _ _ h
        exact ⟨_, by simp only [eff, hx, hi]; rw [if_pos (by omega)], by simpa using h2⟩
      · rename_i l hx
        obtain ⟨m, rfl, h1, h2⟩ := eachW_sound _ _ h
        exact ⟨_, by simp only [eff, hx, hi]; rw [if_pos (by omega)], by simpa using h2⟩
      · exact h.elim
    · exact h.elim
  | iaddrS E x i =>
    simp only [effW] at h
    split at h
    · rename_i kd n hi
      split at h
      · rename_i rows hx
        obtain ⟨⟨h1, h2, h3⟩, hk⟩ := h
        exact ⟨_, by simp only [eff, hx, hi]; rw [if_pos h1, subN_at (by omega) h3]; rfl, by simpa using hk⟩
      · rename_i t g m hx
        split at h
        · rename_i fz E' rows hro
          split at h
          · rename_i hE
            obtain ⟨h1, hk⟩ := h
            exact ⟨_, by simp only [eff, hx, hi, hro]; rw [if_pos ⟨hE, h1⟩], hk⟩
          · exact h.elim
        · exact h.elim
      · exact h.elim
    · exact h.elim
  | idxA len E n x i =>
    simp only [effW] at h
    split at h
    · rename_i kd k' l hi hx
      split at h
      · rename_i hl
        obtain ⟨m, rfl, h1, h2⟩ := eachW_sound _ _ h
        split at h2
        · rename_i y hy
          refine ⟨_, ?_, h2⟩
          simp only [eff, hx, hi]
          rw [if_pos ⟨by omega, by omega, hl⟩]
          simp only [Int.toNat_natCast, hy, Option.map_some]
        · exact h2.elim
      · exact h.elim
    · exact h.elim
  | next x =>
    simp only [effW] at h
    split at h
    · rename_i t g hx
      split at h
      · rename_i g' s pos hl
        split at h
        · rename_i hgg
          have h := holds_br h
          split at h
          · rename_i hlt
            exact ⟨_, by simp only [eff, hx, hl]; rw [if_pos hgg, if_pos (by simpa using hlt)], h⟩
          · rename_i hlt
            exact ⟨_, by simp only [eff, hx, hl]; rw [if_pos hgg, if_neg (by simpa using hlt)], h⟩
        · exact h.elim
      · exact h.elim
    · exact h.elim
  | ofRunes x =>
    simp only [effW] at h
    split at h
    · rename_i rows ts hs
      obtain ⟨h1, hk⟩ := h
      exact ⟨_, by simp only [eff, hs, mapO_need h1, Option.map_some], hk⟩
    · exact h.elim
  | ofBytes x =>
    simp only [effW] at h
    split at h
    · rename_i rows ts hs
      obtain ⟨h1, hk⟩ := h
      exact ⟨_, by simp only [eff, hs, mapO_need h1, Option.map_some], hk⟩
    · exact h.elim
  | toBytes x =>
    simp only [effW] at h
    split at h
    · rename_i s hx
      obtain ⟨h1, hk⟩ := h
      exact ⟨_, by simp only [eff, hx]; rw [if_pos h1], hk⟩
    · exact h.elim
  | idxS x i =>
    simp only [effW] at h
    split at h
    · rename_i s kd n hx hi
      obtain ⟨⟨h1, h2⟩, hk⟩ := h
      have hlt : n.toNat < s.size := by omega
      have hs : s[n.toNat]? = some s[n.toNat] := getElem?_pos s n.toNat hlt
      refine ⟨_, by simp only [eff, hx, hi]; rw [if_pos h1, hs], ?_⟩
      rw [hs] at hk
      exact hk
    · exact h.elim
  | append E bytes x y =>
    simp only [effW] at h
    split at h
    · rename_i r1 ts1 r2 ts2 hb hs
      obtain ⟨⟨h1, h2, h3⟩, hk⟩ := h
      obtain ⟨hc, hk⟩ : (isClip (ev x) && r2.isEmpty) = false ∧ _ := holds_clip hk
      exact ⟨_, by simp only [eff, hb, hs]; rw [if_pos ⟨h1, hc, h2, h3⟩], hk⟩
    · exact h.elim
  | call f args =>
    simp only [effW] at h
    split at h
    · rename_i g caps hf
      split at h
      · rename_i as ts has
        obtain ⟨h1, hk⟩ := h
        have h2 := (hsp.1 _ _ h1).2.2
        replace hk : (k ⟨(imp lk T (sp.ans g (as ++ caps.map .c))).1, (if sp.ref g (as ++ caps.map .c) then freeze lk ts else []) ++ (imp lk T (sp.ans g (as ++ caps.map .c))).2, ts⟩).holds cx rs R := by
          split at hk
          · rename_i gn hg
            have := hk gn.v rfl
            dsimp only at this
            rw [sp.gok _ _ _ hg] at this
            exact this
          · exact hk
        refine ⟨_, ?_, hk⟩
        simp only [eff, hf, has, callE, Sp.cx, Bool.false_eq_true, if_false]
        rw [if_pos h1]
        simp only [h2]
      · exact h.elim
    · exact h.elim
  | minmax mx x xs =>
    simp only [effW] at h
    split at h
    · rename_i kd n l hx hl
      exact ⟨_, by simp only [eff, hx, hl], maxW_sound l n h⟩
    · exact h.elim
  | alloc z => exact ⟨_, rfl, h⟩
  | mov x => exact ⟨_, rfl, h⟩
  | _ =>
    simp only [effW] at h
    split at h
    · rename_i f hf
      exact ⟨f, hf, h⟩
    · exact h.elim

theorem regionW_sound (hsp : sp.sound P) : ∀ (is : List AInst) (s : St) (fs : List Ef) (k : St → List Ef → VC), (regionW sp is s fs k).holds cx rs R → ∃ s' gs, runI sp.cx is s = some (s', gs) ∧ (k s' (fs.reverse ++ gs)).holds cx rs R
  | [], s, fs, k, h => ⟨s, [], rfl, by simpa [regionW] using h⟩
  | i :: is, s, fs, k, h => by
    simp only [regionW] at h
    have one : ∀ (hw : wantF (slotsF s.slots) i.guard = some true), (effW sp (evalF (slotsF s.slots)) (getL s.blk) i.tag i.op fun e => regionW sp is ⟨putS s.slots i.dst e.v, upd s.blk e.up⟩ (e :: fs) k).holds cx rs R →
        ∃ s' gs, runI sp.cx (i :: is) s = some (s', gs) ∧ (k s' (fs.reverse ++ gs)).holds cx rs R := by
      intro hw h
      obtain ⟨f, hf, hk⟩ := effW_sound hsp h
      obtain ⟨s', gs, h1, h2⟩ := regionW_sound hsp is _ _ k hk
      refine ⟨s', f :: gs, ?_, by simpa using h2⟩
      have hi : instA sp.cx i s = some (⟨putS s.slots i.dst f.v, upd s.blk f.up⟩, f) := by
        unfold instA
        rw [hw]
        simp only [hf]
      simp only [runI, hi, h1]
    split at h
    · rename_i hg
      exact one (by rw [hg]; rfl) h
    · rename_i t want hg
      split at h
      · rename_i b hb
        have hwant : wantF (slotsF s.slots) i.guard = some (b == want) := by rw [hg]; simp only [wantF, hb]
        rcases holds_turn h with ⟨rfl, h'⟩ | ⟨rfl, h'⟩
        · rw [turnS_eq hb] at h'
          exact one (by rw [hwant]; simp) h'
        · rw [turnS_eq hb] at h'
          obtain ⟨s', gs, h1, h2⟩ := regionW_sound hsp is _ _ k h'
          refine ⟨s', _ :: gs, ?_, by simpa using h2⟩
          have hi : instA sp.cx i s = some (⟨putS s.slots i.dst (.tup []), s.blk⟩, ⟨.tup [], [], []⟩) := by
            unfold instA
            rw [hwant, show ((!want) == want) = false by cases want <;> rfl]
          simp only [runI, hi, h1]
      · rename_i hb
        obtain ⟨s', gs, h1, h2⟩ := regionW_sound hsp is _ _ k h
        refine ⟨s', _ :: gs, ?_, by simpa using h2⟩
        have hi : instA sp.cx i s = some (⟨putS s.slots i.dst (.tup []), s.blk⟩, ⟨.tup [], [], []⟩) := by
          unfold instA
          rw [hg]
          simp only [wantF, hb]
        simp only [runI, hi, h1]
      · exact h.elim
    · exact h.elim

def ctlAw (cx : Cx) (rs : List RVar) (R : RR → Prop) (c : Ctl) (s : St) (F : List Fr) : Prop :=
  match c with
  | .run c => Aw cx c s (unw cx F fun e s => (∀ id, e ≠ .exit id) ∧ ∃ r, resA rs s = some r ∧ R r)
  | .un e => unw cx F (fun e s => (∀ id, e ≠ .exit id) ∧ ∃ r, resA rs s = some r ∧ R r) e s

theorem goW_sound (hsp : sp.sound P) : ∀ (n : Nat) (c : Ctl) (s : St) (F : List Fr), (goW sp rs n c s F).holds sp.cx rs R → ctlAw sp.cx rs R c s F
  | 0, _, _, _, h => h.elim
  | n + 1, .run .skip, s, F, h => aw_skip (goW_sound hsp n _ _ _ h)
  | n + 1, .run (.region is), s, F, h => by
    obtain ⟨s', gs, h1, h2⟩ := regionW_sound hsp is s [] _ h
    exact aw_region h1 (goW_sound hsp n _ _ _ h2)
  | n + 1, .run (.draw is after), s, F, h => by
    obtain ⟨s', gs, h1, h2⟩ := regionW_sound hsp is s [] _ h
    split at h2
    · rename_i hok
      exact aw_draw h1 (by simpa using hok) (goW_sound hsp n _ _ _ h2)
    · exact h2.elim
  | n + 1, .run (.seq x y), s, F, h => aw_seq (goW_sound hsp n _ _ _ h)
  | n + 1, .run (.cond c x y), s, F, h => by
    simp only [goW] at h
    split at h
    · rename_i b hb
      refine aw_cond hb ?_
      split at h
      · rename_i t
        have h := holds_br h
        split at h
        · rename_i hc; subst hc; rw [turnS_eq hb] at h; rw [if_pos rfl]; exact goW_sound hsp n _ _ _ h
        · rename_i hc
          have hc' : b = false := by simpa using hc
          subst hc'; rw [turnS_eq hb] at h; rw [if_neg (by simp)]; exact goW_sound hsp n _ _ _ h
      · have h := holds_br h
        split at h
        · rename_i hc; rw [if_pos hc]; exact goW_sound hsp n _ _ _ h
        · rename_i hc; rw [if_neg hc]; exact goW_sound hsp n _ _ _ h
    · exact h.elim
  | n + 1, .run (.block id x), s, F, h => aw_block (goW_sound hsp n _ _ _ h)
  | n + 1, .run (.loop x), s, F, h => by
    cases x with
    | forget keep x => exact aw_loop (aw_forget h)
    | _ => exact aw_loop (goW_sound hsp n _ _ _ h)
  | _ + 1, .run (.forget keep x), s, F, h => aw_forget h
  | n + 1, .run (.exit id), s, F, h => aw_exit (goW_sound hsp n _ _ _ h)
  | n + 1, .run .ret, s, F, h => aw_ret (goW_sound hsp n _ _ _ h)
  | n + 1, .run (.inl d m body rs' xs), s, F, h => aw_inl (goW_sound hsp n _ _ _ h)
  | n + 1, .run (.back g p q x y), s, F, h => by
    simp only [goW] at h
    split at h
    · rename_i f rows hg
      split at h
      · rename_i sh hsh; exact aw_back hg hsh h.1 h.2
      · exact h.elim
    · exact h.elim
  | n + 1, .run (.rnd 0 _ _ _ _ _ _ _), s, F, h => aw_rnd0 (goW_sound hsp n _ _ _ h)
  | n + 1, .run (.rnd (k + 1) rows sh p q x y blk0), s, F, h => by
    simp only [goW] at h
    split at h
    · rename_i v hv
      obtain ⟨⟨h1, h2⟩, h3⟩ := h
      exact aw_rndS (rowAt_get h1) (pickSh_eq hv h2) (goW_sound hsp n _ _ _ h3)
    · exact h.elim
  | n + 1, .un e, s, [], h => by
    have key : ∀ e : Ex, (∀ id, e ≠ .exit id) → (VC.ret (resA rs s)).holds sp.cx rs R → ctlAw sp.cx rs R (.un e) s [] := by
      intro e he h
      refine ⟨he, ?_⟩
      cases hr : resA rs s with
      | none => rw [hr] at h; exact h.elim
      | some r => rw [hr] at h; exact ⟨r, rfl, h⟩
    cases e with
    | normal => exact key _ (by intro id h; cases h) h
    | exit id => exact h.elim
    | ret => exact key _ (by intro id h; cases h) h
  | n + 1, .un e, s, .s y :: F, h => by
    cases e with
    | normal => exact goW_sound hsp n (.run y) s F h
    | exit id => exact goW_sound hsp n (.un (.exit id)) s F h
    | ret => exact goW_sound hsp n (.un .ret) s F h
  | n + 1, .un e, s, .b id :: F, h => by
    cases e with
    | normal => exact goW_sound hsp n (.un .normal) s F h
    | exit j => exact goW_sound hsp n (.un (if j = id then .normal else .exit j)) s F h
    | ret => exact goW_sound hsp n (.un .ret) s F h
  | n + 1, .un e, s, .l x :: F, h => by
    cases e with
    | normal => exact goW_sound hsp n (.run (.loop x)) s F h
    | exit j => exact goW_sound hsp n (.un (.exit j)) s F h
    | ret => exact goW_sound hsp n (.un .ret) s F h
  | n + 1, .un e, s, .i d slots rs' :: F, h => by
    cases e with
    | exit j => exact h.elim
    | normal =>
      simp only [goW] at h
      split at h
      · rename_i s' hs'; exact ⟨s', hs', goW_sound hsp n (.un .normal) s' F h⟩
      · exact h.elim
    | ret =>
      simp only [goW] at h
      split at h
      · rename_i s' hs'; exact ⟨s', hs', goW_sound hsp n (.un .normal) s' F h⟩
      · exact h.elim
  | n + 1, .un e, s, .a y :: F, h => by
    cases e with
    | normal => exact goW_sound hsp n (.run y) s F h
    | exit j => exact h.elim
    | ret => exact h.elim
  | n + 1, .un e, s, .r k rows sh p q x y blk0 slots :: F, h => by
    cases e with
    | normal => exact h
    | exit j => exact goW_sound hsp n (.un (.exit j)) _ F h
    | ret => exact goW_sound hsp n (.un .ret) _ F h

/-- A function answers as its tree holds. -/
theorem acalls_go (hsp : sp.sound P) {f : FuncId} {fn : Func} {c : Code} {as : List A} {ac : ACode} {tags : List Nat} {K : Code → List Nat} {n : Nat} {r : RR}
    (hf : P.funcs[f]? = some fn) (hb : fn.body = some c) (hc : compC P Z0 (startA fn.ntmps tags as).slots.length K c = some ac) (hq : mapO (compR P) fn.results.toList = some rs)
    (h : (goW sp rs n (.run ac) (startA fn.ntmps tags as) []).holds sp.cx rs fun x => x = r) : ACalls P f as r := by
  obtain ⟨m, e, s, h1, h2, r', h3, rfl⟩ := goW_sound hsp n _ _ _ h
  exact calls_fits (Z0_ok P) (Sp.calls hsp) hf hb hc hq h1 h2 h3
end

end Go.Proofs.YtmmlolampgnamaaDoor.Ax
