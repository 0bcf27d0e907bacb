/- A law that answers true, of arguments that are cut down to a few numbers: each of these in turn, by computing. -/
import Derived.Test.YtmmlolampgnamaaDoorAx22
namespace Go.Proofs.YtmmlolampgnamaaDoor.Ax
open Go.RowKit
set_option linter.unusedVariables false

/-- A function compiled, whatever it is called with. -/
def fnC (P : Program) (Z : Zo) (f : FuncId) : Option (ACode × List RVar × Nat × Bool) :=
  match P.funcs[f]? with
  | some fn => match fn.body with
    | some c => match compC P Z fn.ntmps (fun _ => []) c, mapO (compR P) fn.results.toList with
      | some ac, some rs => some (ac, rs, fn.ntmps, fn.name == "runtime.NumGoroutine")
      | _, _ => none
    | none => none
  | none => none
theorem fnC_some {P : Program} {Z : Zo} {f : FuncId} {ac : ACode} {rs : List RVar} {n : Nat} {b : Bool} (h : fnC P Z f = some (ac, rs, n, b)) :
    ∃ fn c, P.funcs[f]? = some fn ∧ fn.body = some c ∧ compC P Z fn.ntmps (fun _ => []) c = some ac ∧ mapO (compR P) fn.results.toList = some rs ∧ n = fn.ntmps ∧ b = (fn.name == "runtime.NumGoroutine") := by
  unfold fnC at h
  split at h
  · rename_i fn hf
    split at h
    · rename_i c hb
      split at h
      · rename_i ac' rs' hc hr
        simp only [Option.some.injEq, Prod.mk.injEq] at h
        obtain ⟨rfl, rfl, rfl, rfl⟩ := h
        exact ⟨fn, c, hf, hb, hc, hr, rfl, rfl⟩
      · cases h
    · cases h
  · cases h
def cxOf (bk : FuncId → Option (Option Nat × List Kd)) (call : FuncId → List A → Option RR) (fz : List Nat := []) : Cx := { off := 0, call := call, calli := fun _ _ _ => none, inl := fun _ => false, back := bk, fz := fz }

def runG (P : Program) (Z : Zo) (call : FuncId → List A → Option RR) (n : Nat) (f : FuncId) (xs : List A) : Option RR :=
  match fnC P Z f with
  | some (ac, rs, m, false) => if xs.length ≤ m then match acode (cxOf Z.back call (roT ac)) n ac (startA m [] xs) with
      | some (.exit _, _) => none
      | some (_, s) => resA rs s
      | none => none
    else none
  | _ => none
def axG (P : Program) (Z : Zo) (ext : FuncId → List A → Option RR) (n : Nat) : Nat → FuncId → List A → Option RR
  | 0, f, xs => ext f xs
  | d + 1, f, xs => match ext f xs with
    | some r => some r
    | none => runG P Z (axG P Z ext n d) n f xs
theorem runG_sound {P : Program} {Z : Zo} {dz : Nat} (hZ : ZOK P dz Z) {call : FuncId → List A → Option RR} (hcall : ∀ g xs r, call g xs = some r → ACalls P g xs r ∧ Enters P g) {n : Nat} {f : FuncId} {xs : List A} {r : RR} (h : runG P Z call n f xs = some r) (hbk : BksOK P Z.back := by intro g sh h; cases h) : ACalls P f xs r ∧ Enters P f := by
  unfold runG at h
  split at h
  · rename_i ac rs m hfc
    obtain ⟨fn, c, hf, hb, hc, hr, rfl, hname⟩ := fnC_some hfc
    split at h
    · rename_i hle
      split at h
      · cases h
      · rename_i e s hne hrun
        refine ⟨calls_fits hZ (K := fun _ => []) (cx := cxOf Z.back call (roT ac)) ⟨hcall, hbk⟩ hf hb ?_ hr hrun (fun id he => ?_) h, fn, hf, hname.symm, by rw [hb]; rfl⟩
        · simp only [startA, List.length_append, List.length_map, List.length_replicate]
          rw [show xs.length + (fn.ntmps - xs.length) = fn.ntmps by omega]
          exact hc
        · exact hne id he
      · cases h
    · cases h
  · cases h
theorem axG_sound {P : Program} {Z : Zo} {dz : Nat} (hZ : ZOK P dz Z) {ext : FuncId → List A → Option RR} (hext : ∀ g xs r, ext g xs = some r → ACalls P g xs r ∧ Enters P g) {n : Nat} (hbk : BksOK P Z.back := by intro g sh h; cases h) : ∀ (d : Nat) {f : FuncId} {xs : List A} {r : RR}, axG P Z ext n d f xs = some r → ACalls P f xs r ∧ Enters P f
  | 0, _, _, _, h => hext _ _ _ h
  | d + 1, f, xs, r, h => by
    simp only [axG] at h
    split at h
    · rename_i r' hr
      simp only [Option.some.injEq] at h; subst h
      exact hext _ _ _ hr
    · exact runG_sound hZ (fun g xs r hg => axG_sound hZ hext hbk d hg) h hbk

/-- What is still to be shown: so many numbers lie in their ranges; and whether all else came out well. -/
def good (r : List (Int × Nat × Nat) × Bool) : Prop := (∀ p ∈ r.1, (p.2.1 : Int) ≤ p.1 ∧ p.1 < (p.2.1 : Int) + (p.2.2 : Int)) ∧ r.2 = true

def eachM (k : Nat → List (Int × Nat × Nat) × Bool) : Nat → Nat → List (Int × Nat × Nat) × Bool
  | 0, _ => ([], true)
  | n + 1, c => match k c with
    | (l, true) => match eachM k n (c + 1) with
      | (l', b) => (l ++ l', b)
    | (_, false) => ([], false)
theorem eachM_good {k : Nat → List (Int × Nat × Nat) × Bool} : ∀ {n c : Nat}, good (eachM k n c) → ∀ m, c ≤ m → m < c + n → good (k m)
  | 0, c, _, m, h1, h2 => by omega
  | n + 1, c, h, m, h1, h2 => by
    simp only [eachM] at h
    split at h
    · rename_i l hk
      obtain ⟨h3, h4⟩ := h
      rcases Nat.eq_or_lt_of_le h1 with rfl | hlt
      · rw [hk]
        exact ⟨fun p hp => h3 p (List.mem_append_left _ hp), rfl⟩
      · exact eachM_good (n := n) (c := c + 1) ⟨fun p hp => h3 p (List.mem_append_right _ hp), h4⟩ m hlt (by omega)
    · exact absurd h.2 (by simp)

def regM (cx : Cx) (each : List (Nat × Nat × Nat)) : List AInst → St → List Ef → (St → List Ef → List (Int × Nat × Nat) × Bool) → List (Int × Nat × Nat) × Bool
  | [], s, fs, k => k s fs.reverse
  | i :: is, s, fs, k => match instA cx i s with
    | none => ([], false)
    | some (s', f) => match i.dst with
      | none => regM cx each is s' (f :: fs) k
      | some d => match getL each d with
        | none => regM cx each is s' (f :: fs) k
        | some (lo, n) => match f.v with
          | .c (.d (.int kd v)) => match eachM (fun c => regM cx each is ⟨s.slots.set d (.c (.d (.int kd (c : Int)))), s'.blk⟩ (⟨.c (.d (.int kd (c : Int))), f.up, f.rd⟩ :: fs) k) n lo with
            | (l, b) => ((v, lo, n) :: l, b)
          | _ => ([], false)

theorem instA_slots {cx : Cx} {i : AInst} {s s' : St} {f : Ef} {d : Nat} (hd : i.dst = some d) (h : instA cx i s = some (s', f)) : s'.slots = s.slots.set d f.v := by
  unfold instA at h
  split at h
  · split at h
    · cases h; simp only [putS, hd]
    · cases h
  · cases h; simp only [putS, hd]
  · cases h

theorem regM_sound {cx : Cx} {each : List (Nat × Nat × Nat)} : ∀ (is : List AInst) (s : St) (fs : List Ef) (k : St → List Ef → List (Int × Nat × Nat) × Bool), good (regM cx each is s fs k) → ∃ s' gs, runI cx is s = some (s', gs) ∧ good (k s' (fs.reverse ++ gs))
  | [], s, fs, k, h => ⟨s, [], rfl, by simpa [regM] using h⟩
  | i :: is, s, fs, k, h => by
    simp only [regM] at h
    cases hi : instA cx i s with
    | none => rw [hi] at h; exact absurd h.2 (by simp)
    | some p =>
      obtain ⟨s1, f⟩ := p
      rw [hi] at h
      have fin : good (regM cx each is s1 (f :: fs) k) → ∃ s' gs, runI cx (i :: is) s = some (s', gs) ∧ good (k s' (fs.reverse ++ gs)) := by
        intro h
        obtain ⟨s', gs, h1, h2⟩ := regM_sound is s1 (f :: fs) k h
        exact ⟨s', f :: gs, by simp only [runI, hi, h1], by simpa using h2⟩
      cases hd : i.dst with
      | none => rw [hd] at h; exact fin h
      | some d =>
        rw [hd] at h
        simp only [] at h
        split at h
        · exact fin h
        · rename_i lo n hn
          split at h
          · rename_i kd v hv
            obtain ⟨h3, h4⟩ := h
            have hr := h3 (v, lo, n) List.mem_cons_self
            simp only [] at hr
            have hg : good (eachM (fun c => regM cx each is ⟨s.slots.set d (.c (.d (.int kd (c : Int)))), s1.blk⟩ (⟨.c (.d (.int kd (c : Int))), f.up, f.rd⟩ :: fs) k) n lo) := ⟨fun p hp => h3 p (List.mem_cons_of_mem _ hp), h4⟩
            have h5 := eachM_good hg v.toNat (by omega) (by omega)
            have hvn : ((v.toNat : Nat) : Int) = v := by omega
            have hs1 : (⟨s.slots.set d (.c (.d (.int kd (v.toNat : Int)))), s1.blk⟩ : St) = s1 := by
              have := instA_slots hd hi
              rw [hvn, ← hv, ← this]
            have hf : (⟨.c (.d (.int kd (v.toNat : Int))), f.up, f.rd⟩ : Ef) = f := by
              rw [hvn, ← hv]
            rw [hs1, hf] at h5
            exact fin h5
          · exact absurd h.2 (by simp)

def yes : Option RR → List (Int × Nat × Nat) × Bool
  | some (.c (.d (.bool true))) => ([], true)
  | _ => ([], false)
def goM (cx : Cx) (rs : List RVar) (each : List (Nat × Nat × Nat)) : Nat → Ctl → St → List Fr → List (Int × Nat × Nat) × Bool
  | 0, _, _, _ => ([], false)
  | n + 1, .run .skip, s, F => goM cx rs each n (.un .normal) s F
  | n + 1, .run (.region is), s, F => regM cx each is s [] fun s' _ => goM cx rs each n (.un .normal) s' F
  | n + 1, .run (.draw is after), s, F => regM cx each is s [] fun s' fs => match okDraw after is fs with
    | true => goM cx rs each n (.un .normal) s' F
    | false => ([], false)
  | n + 1, .run (.seq x y), s, F => goM cx rs each n (.run x) s (.s y :: F)
  | n + 1, .run (.cond c x y), s, F => match evalF (slotsF s.slots) c with
    | .c (.d (.bool true)) => goM cx rs each n (.run x) s F
    | .c (.d (.bool false)) => goM cx rs each n (.run y) s F
    | _ => ([], false)
  | n + 1, .run (.block id x), s, F => goM cx rs each n (.run x) s (.b id :: F)
  | n + 1, .run (.loop x), s, F => goM cx rs each n (.run x) s (.l x :: F)
  | n + 1, .run (.forget keep x), s, F => goM cx rs each n (.run x) (forget keep s) F
  | n + 1, .run (.exit id), s, F => goM cx rs each n (.un (.exit id)) s F
  | n + 1, .run .ret, s, F => goM cx rs each n (.un .ret) s F
  | n + 1, .run (.inl d m body rs' xs), s, F => goM cx rs each n (.run body) (inlStart m xs s) (.i d s.slots rs' :: F)
  | n + 1, .run (.back g p q x y), s, F => match evalF (slotsF s.slots) g with
    | .c (.d (.fn f [.rptr [.sl rows]])) => match cx.back f with
      | some sh => match okBack sh.1 rows with
        | true => goM cx rs each n (.run (.rnd rows.length rows sh p q x y s.blk)) s F
        | false => ([], false)
      | none => ([], false)
    | _ => ([], false)
  | n + 1, .run (.rnd 0 _ _ _ _ _ _ _), s, F => goM cx rs each n (.un .normal) s F
  | n + 1, .run (.rnd (k + 1) rows sh p q x y blk0), s, F => match rows[k]? with
    | some row => match pickN sh.1 (row.map .d) with
      | some v => goM cx rs each n (.run x) ⟨(s.slots.set p (.c (.d (.int .i64 k)))).set q v, s.blk⟩ (.a y :: .r k rows sh p q x y blk0 s.slots :: F)
      | none => ([], false)
    | none => ([], false)
  | _ + 1, .un (.exit _), _, [] => ([], false)
  | _ + 1, .un _, s, [] => yes (resA rs s)
  | n + 1, .un .normal, s, .s y :: F => goM cx rs each n (.run y) s F
  | n + 1, .un e, s, .s _ :: F => goM cx rs each n (.un e) s F
  | n + 1, .un (.exit j), s, .b id :: F => goM cx rs each n (.un (if j = id then .normal else .exit j)) s F
  | n + 1, .un e, s, .b _ :: F => goM cx rs each n (.un e) s F
  | n + 1, .un .normal, s, .l x :: F => goM cx rs each n (.run (.loop x)) s F
  | n + 1, .un e, s, .l _ :: F => goM cx rs each n (.un e) s F
  | _ + 1, .un (.exit _), _, .i _ _ _ :: _ => ([], false)
  | n + 1, .un _, s, .i d slots rs' :: F => match inlS d rs' slots s with
    | some s' => goM cx rs each n (.un .normal) s' F
    | none => ([], false)
  | n + 1, .un .normal, s, .a y :: F => goM cx rs each n (.run y) s F
  | _ + 1, .un _, _, .a _ :: _ => ([], false)
  | n + 1, .un .normal, s, .r k rows sh p q x y blk0 slots :: F => goM cx rs each n (.run (.rnd k rows sh p q x y blk0)) ⟨slots, resetB blk0 s.blk⟩ F
  | n + 1, .un e, s, .r _ _ _ _ _ _ _ _ slots :: F => goM cx rs each n (.un e) ⟨slots, s.blk⟩ F

theorem yes_good {x : Option RR} (h : good (yes x)) : x = some (.c (.d (.bool true))) := by
  unfold yes at h
  split at h
  · rfl
  · exact absurd h.2 (by simp)

theorem goM_sound {cx : Cx} {rs : List RVar} {each : List (Nat × Nat × Nat)} : ∀ (n : Nat) (c : Ctl) (s : St) (F : List Fr), good (goM cx rs each n c s F) → ctlAw cx rs (fun r => r = .c (.d (.bool true))) c s F
  | 0, _, _, _, h => absurd h.2 (by simp [goM])
  | n + 1, .run .skip, s, F, h => aw_skip (goM_sound n _ _ _ h)
  | n + 1, .run (.region is), s, F, h => by
    obtain ⟨s', gs, h1, h2⟩ := regM_sound is s [] _ h
    exact aw_region h1 (goM_sound n _ _ _ h2)
  | n + 1, .run (.draw is after), s, F, h => by
    obtain ⟨s', gs, h1, h2⟩ := regM_sound is s [] _ h
    split at h2
    · rename_i hok
      exact aw_draw h1 (by simpa using hok) (goM_sound n _ _ _ h2)
    · exact absurd h2.2 (by simp)
  | n + 1, .run (.seq x y), s, F, h => aw_seq (goM_sound n _ _ _ h)
  | n + 1, .run (.cond c x y), s, F, h => by
    simp only [goM] at h
    split at h
    · rename_i hb
      exact aw_cond hb (by rw [if_pos rfl]; exact goM_sound n _ _ _ h)
    · rename_i hb
      exact aw_cond hb (by rw [if_neg (by simp)]; exact goM_sound n _ _ _ h)
    · exact absurd h.2 (by simp)
  | n + 1, .run (.block id x), s, F, h => aw_block (goM_sound n _ _ _ h)
  | n + 1, .run (.loop x), s, F, h => aw_loop (goM_sound n (.run x) s (.l x :: F) h)
  | n + 1, .run (.forget keep x), s, F, h => aw_forget (goM_sound n _ _ _ h)
  | n + 1, .run (.exit id), s, F, h => aw_exit (goM_sound n _ _ _ h)
  | n + 1, .run .ret, s, F, h => aw_ret (goM_sound n _ _ _ h)
  | n + 1, .run (.inl d m body rs' xs), s, F, h => aw_inl (goM_sound n (.run body) (inlStart m xs s) (.i d s.slots rs' :: F) h)
  | n + 1, .run (.back g p q x y), s, F, h => by
    simp only [goM] at h
    split at h
    · rename_i f rows hg
      split at h
      · rename_i sh hsh
        split at h
        · rename_i hw; exact aw_back hg hsh hw (goM_sound n (.run (.rnd rows.length rows sh p q x y s.blk)) s F h)
        · exact absurd h.2 (by simp)
      · exact absurd h.2 (by simp)
    · exact absurd h.2 (by simp)
  | n + 1, .run (.rnd 0 _ _ _ _ _ _ _), s, F, h => aw_rnd0 (goM_sound n _ _ _ h)
  | n + 1, .run (.rnd (k + 1) rows sh p q x y blk0), s, F, h => by
    simp only [goM] at h
    split at h
    · rename_i row hrow
      split at h
      · rename_i v hv
        exact aw_rndS hrow hv (goM_sound n _ _ _ h)
      · exact absurd h.2 (by simp)
    · exact absurd h.2 (by simp)
  | n + 1, .un e, s, [], h => by
    cases e with
    | normal => exact ⟨(by intro id h; cases h), _, yes_good h, rfl⟩
    | exit id => exact absurd h.2 (by simp [goM])
    | ret => exact ⟨(by intro id h; cases h), _, yes_good h, rfl⟩
  | n + 1, .un e, s, .s y :: F, h => by
    cases e with
    | normal => exact goM_sound n (.run y) s F h
    | exit id => exact goM_sound n (.un (.exit id)) s F h
    | ret => exact goM_sound n (.un .ret) s F h
  | n + 1, .un e, s, .b id :: F, h => by
    cases e with
    | normal => exact goM_sound n (.un .normal) s F h
    | exit j => exact goM_sound n (.un (if j = id then .normal else .exit j)) s F h
    | ret => exact goM_sound n (.un .ret) s F h
  | n + 1, .un e, s, .l x :: F, h => by
    cases e with
    | normal => exact goM_sound n (.run (.loop x)) s F h
    | exit j => exact goM_sound n (.un (.exit j)) s F h
    | ret => exact goM_sound n (.un .ret) s F h
  | n + 1, .un e, s, .i d slots rs' :: F, h => by
    cases e with
    | exit j => exact absurd h.2 (by simp [goM])
    | normal =>
      simp only [goM] at h
      split at h
      · rename_i s' hs'; exact ⟨s', hs', goM_sound n (.un .normal) s' F h⟩
      · exact absurd h.2 (by simp)
    | ret =>
      simp only [goM] at h
      split at h
      · rename_i s' hs'; exact ⟨s', hs', goM_sound n (.un .normal) s' F h⟩
      · exact absurd h.2 (by simp)
  | n + 1, .un e, s, .a y :: F, h => by
    cases e with
    | normal => exact goM_sound n (.run y) s F h
    | exit j => exact absurd h.2 (by simp [goM])
    | ret => exact absurd h.2 (by simp [goM])
  | n + 1, .un e, s, .r k rows sh p q x y blk0 slots :: F, h => by
    cases e with
    | normal => exact goM_sound n (.run (.rnd k rows sh p q x y blk0)) _ F h
    | exit j => exact goM_sound n (.un (.exit j)) _ F h
    | ret => exact goM_sound n (.un .ret) _ F h

def runM (P : Program) (Z : Zo) (call : FuncId → List A → Option RR) (each : List (Nat × Nat × Nat)) (n : Nat) (f : FuncId) (xs : List A) : List (Int × Nat × Nat) × Bool :=
  match fnC P Z f with
  | some (ac, rs, m, _) => if xs.length ≤ m then goM (cxOf Z.back call (roT ac)) rs each n (.run ac) (startA m [] xs) [] else ([], false)
  | none => ([], false)
theorem runM_sound {P : Program} {Z : Zo} {dz : Nat} (hZ : ZOK P dz Z) {call : FuncId → List A → Option RR} (hcall : ∀ g xs r, call g xs = some r → ACalls P g xs r ∧ Enters P g) {each : List (Nat × Nat × Nat)} {n : Nat} {f : FuncId} {xs : List A} (h : good (runM P Z call each n f xs)) (hbk : BksOK P Z.back := by intro g sh h; cases h) : ACalls P f xs (.c (.d (.bool true))) := by
  unfold runM at h
  split at h
  · rename_i ac rs m b hfc
    obtain ⟨fn, c, hf, hb, hc, hr, rfl, _⟩ := fnC_some hfc
    split at h
    · rename_i hle
      obtain ⟨k, e, s, h1, h2, r', h3, rfl⟩ := goM_sound _ _ _ _ h
      refine calls_fits hZ (K := fun _ => []) (cx := cxOf Z.back call (roT ac)) ⟨hcall, hbk⟩ hf hb ?_ hr h1 h2 h3
      simp only [startA, List.length_append, List.length_map, List.length_replicate]
      rw [show xs.length + (fn.ntmps - xs.length) = fn.ntmps by omega]
      exact hc
    · exact absurd h.2 (by simp)
  · exact absurd h.2 (by simp)

/-! Functions that are run in their callers' places, compiled. -/
def inlC (P : Program) (Z : Zo) (f : FuncId) : Option Inl :=
  match fnC P Z f with
  | some (ac, rs, n, false) => some ⟨n, ac, rs⟩
  | _ => none
def mkZ (P : Program) (off : Nat) (l : List (Nat × Zo)) (bk : FuncId → Option (Option Nat × List Kd) := fun _ => none) : Zo := ⟨off, fun f => match getL l f with
  | some Z => inlC P Z f
  | none => none, bk⟩
theorem zok_none (P : Program) (off : Nat) : ∀ d, ZOK P d ⟨off, fun _ => none, fun _ => none⟩
  | 0 => fun _ => rfl
  | d + 1 => fun f i h => by cases h
theorem getL_memA {α : Type} : ∀ {l : List (Nat × α)} {t : Nat} {b : α}, getL l t = some b → (t, b) ∈ l
  | [], _, _, h => by cases h
  | (u, c) :: r, t, b, h => by
    simp only [getL] at h
    split at h
    · rename_i hu; cases h; subst hu; exact List.mem_cons_self
    · exact List.mem_cons_of_mem _ (getL_memA h)
theorem zok_mk {P : Program} {off d : Nat} {l : List (Nat × Zo)} {bk : FuncId → Option (Option Nat × List Kd)} (h : ∀ p ∈ l, ZOK P d p.2) : ZOK P (d + 1) (mkZ P off l bk) := by
  intro f i hi
  simp only [mkZ] at hi
  split at hi
  · rename_i Z hZ
    unfold inlC at hi
    split at hi
    · rename_i ac rs n hf
      simp only [Option.some.injEq] at hi; subst hi
      obtain ⟨fn, c, h1, h2, h3, h4, h5, h6⟩ := fnC_some hf
      exact ⟨fn, c, Z, h1, h2, h3, h4, h5, ⟨fn, h1, h6.symm, by rw [h2]; rfl⟩, h _ (getL_memA hZ)⟩
    · cases hi
  · cases hi
end Go.Proofs.YtmmlolampgnamaaDoor.Ax
