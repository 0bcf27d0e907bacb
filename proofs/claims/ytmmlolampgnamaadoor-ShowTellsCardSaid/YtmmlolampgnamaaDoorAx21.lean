/- slices.Clone: the one function here that asks whether a slice is nil. -/
import Derived.Test.YtmmlolampgnamaaDoorAx20
import Derived.KernelRfl
namespace Go.Proofs.YtmmlolampgnamaaDoor.Ax
open Go.RowKit
set_option linter.unusedVariables false

section
variable {P : Program} {sp : Sp}

theorem bodyPost_mono {fn : Func} {R R' : Ending → World → Prop} (h : ∀ e w, R e w → R' e w) : ∀ {e : Exit} {a : Act} {w : World}, bodyPost P fn R e a w → bodyPost P fn R' e a w
  | .normal, _, _, ⟨h1, v, h2, h3⟩ => ⟨h1, v, h2, h _ _ h3⟩
  | .ret, _, _, ⟨h1, v, h2, h3⟩ => ⟨h1, v, h2, h _ _ h3⟩
  | .panic _, _, _, ⟨h1, h2⟩ => ⟨h1, h _ _ h2⟩
  | .outgrown, _, _, h1 => h _ _ h1
  | .exit _, _, _, h1 => h1.elim
  | .goto _, _, _, h1 => h1.elim

/-- A slice that is data, against nil. -/
theorem isNil_run {t t' : TypeId} {u : TypeId} {o : Oper} {a : Act} {w : World} {x : Operand} (ht : P.underlying t = some (.slice u)) (ho : o.op = .binOp .eql t x (.const (.slice none 0 0)) t') {A : Option Addr} {n c : Nat} (hx : a.eval x = .slice A n c) :
    (execOp a.eval o).run P w = .ok (.value (.bool A.isNone)) w := by
  have heq : (Op.equal t (.slice A n c) (.slice none 0 0)).run P w = .ok A.isNone w := by
    show (Op.equalIn (9999 + 1) t (.slice A n c) (.slice none 0 0)).run P w = _
    unfold Op.equalIn
    simp only [Sem.run_bind, run_underlying ht, Result.andThen_ok]
    cases A <;> rfl
  have hn : a.eval (.const (.slice none 0 0)) = .slice none 0 0 := rfl
  have hgu : eqGuard .eql t x (.const (.slice none 0 0)) (.slice A n c) (.slice none 0 0) = pure () := rfl
  have hbin : binOp .eql t (.slice A n c) (.slice none 0 0) = (do pure (.bool (← Op.equal t (.slice A n c) (.slice none 0 0)))) := rfl
  simp only [execOp, ho, hx, hn, hgu, hbin, Sem.run_bind, Sem.run_pure, Result.andThen_ok, heq]

def cx0 : Cx := { off := 0, call := fun _ _ => none, calli := fun _ _ _ => none, inl := fun _ => false }
def nilC : Operand := .const (.slice none 0 0)

theorem clone_calls {f : FuncId} {fn : Func} {t u t' : TypeId} {i0 i1 i2 i3 : Nat} {ops0 ops2 ops3 : Array Oper} {o1 o2 : Oper} {z : List Cl} {zd : List D} {bytes : Nat} (hf : P.funcs[f]? = some fn)
    (hb : fn.body = some (.seq (.region i0 ops0 false) (.seq (.seq (.region i1 #[o1, o2] false) (.cond (.tmp 4) (.seq (.region i2 ops2 false) .ret) .skip)) (.seq (.region i3 ops3 false) .ret))))
    (hn : fn.ntmps = 8) (hq : mapO (compR P) fn.results.toList = some [.tmp 2]) (ht : P.underlying t = some (.slice u))
    (h0 : mapO (compI P 8 0 ops0) ops0.toList = some [⟨some 2, none, .mov nilC, 128⟩]) (h1 : compI P 8 0 #[o1, o2] o1 = some ⟨some 3, none, .mov (.tmp 0), 192⟩)
    (h2 : o2.op = .binOp .eql t (.tmp 3) nilC t') (hd2 : o2.dst = some 4) (hg2 : o2.guard = none) (h3 : mapO (compI P 8 0 ops2) ops2.toList = some [⟨some 2, none, .mov nilC, 128⟩])
    (h4 : mapO (compI P 8 0 ops3) ops3.toList = some [⟨some 5, none, .bslice z 0 [], 320⟩, ⟨some 6, none, .mov (.tmp 0), 384⟩, ⟨some 7, none, .append z.length bytes (.tmp 5) (.tmp 6), 448⟩, ⟨some 2, none, .mov (.tmp 7), 128⟩])
    (hz : ∀ lk, dsOf lk z = some (zd, [])) {rows : List (List D)} (hrows : (rows.all fun r => r.length == z.length) = true) (hsz : (rows.length + 100) * (bytes + 1) ≤ 70368744177664) : ACalls P f [.c (.sl rows)] (.c (.new z.length rows)) := by
  intro w vals ok hok hgl has
  have hcall : CxOK P cx0 := ⟨fun g as r h => (by cases h), fun g sh h => (by cases h)⟩
  refine callsIn_wide.1 (callsIn_of_wp_marks (F := FW none) (n := 0) hf hb trivial (wpIn_seq ?_))
  have hlen := (RAs.get has).1
  have hS0 := start_fits (n := 8) (tags := []) hok hgl has
  rw [hn]
  let s1 : St := ⟨[.c (.d (.sl rows)), .c .undef, .c .nil, .c .undef, .c .undef, .c .undef, .c .undef, .c .undef], []⟩
  let s2 : St := ⟨[.c (.d (.sl rows)), .c .undef, .c .nil, .c (.d (.sl rows)), .c .undef, .c .undef, .c .undef, .c .undef], []⟩
  let s3 (b : Bool) : St := ⟨[.c (.d (.sl rows)), .c .undef, .c .nil, .c (.d (.sl rows)), .c (.d (.bool b)), .c .undef, .c .undef, .c .undef], []⟩
  refine wpIn_region_list (runI_fits0 (ro := none) (md := 0) (cx := cx0) hcall ops0.toList _ (startA 8 [] [.c (.sl rows)]) s1 _ _ w h0 rfl (by simpa using hS0) fun a1 w1 hS1 => ?_)
  refine wpIn_seq (wpIn_seq (wpIn_region_list (wpListIn_step fun K hK => ?_)))
  refine step_F (ro := none) (md := 0) (cx := cx0) h1 hcall hS1 (.inl ⟨rfl, rfl⟩) fun a2 w2 hS2 => hK a2 w2 (wpListIn_step fun K hK => ?_)
  have hS2' : SimL w (Ctx0.of ok) s2 a2 w2 := by
    have e1 := slotsF_put s1.slots (some 3) (.c (.d (.sl rows)))
    unfold SimL
    rw [show s2.slots = putS s1.slots (some 3) (.c (.d (.sl rows))) from rfl, e1]
    exact hS2
  obtain ⟨e, hM, hs, hsl, hd⟩ := hS2'
  have hv : RD e.ok w2 (.sl rows) (a2.eval (.tmp 3)) := hsl 3
  simp only [RD] at hv
  obtain ⟨A, c, hv, hc, hne⟩ := hv
  rw [if_pos (by simp [Region.wanted, hg2])]
  refine wpIn_of_wp (by intro c hc; rw [h2] at hc; cases hc) (wp_value (isNil_run ht h2 hv) (hK _ _ ?_))
  have hS3 : SimL w (Ctx0.of ok) (s3 A.isNone) (a2.put o2.dst (.bool A.isNone)) w2 := by
    rw [hd2]
    have e1 := slotsF_put s2.slots (some 4) (.c (.d (.bool A.isNone)))
    unfold SimL
    rw [show (s3 A.isNone).slots = putS s2.slots (some 4) (.c (.d (.bool A.isNone))) from rfl, e1]
    exact SimF.put hs hd hsl (Ext.refl e w2) hM (by simp only [RV, RC, RD])
  generalize a2.put o2.dst (.bool A.isNone) = a3 at hS3
  show (Code.cond (.tmp 4) (.seq (.region i2 ops2 false) .ret) .skip).wpIn (FW none) 0 P _ a3 w2
  have hb4 : a3.eval (.tmp 4) = .bool A.isNone := by
    obtain ⟨e', _, _, hsl', _⟩ := hS3
    have : RD e'.ok w2 (.bool A.isNone) (a3.tmps.getD 4 undef) := hsl' 4
    simp only [RD] at this
    exact this
  refine wpIn_cond hb4 ?_
  cases A with
  | none =>
    have hr0 : rows = [] := by
      rcases Classical.em (rows = []) with h | h
      · exact h
      · obtain ⟨a', _, h', _⟩ := hne h; cases h'
    subst hr0
    refine code_fits (cx := cx0) hcall 0 0 (Ctx0.of ok) Z0 8 (fun _ => []) (Z0_ok P) (.inl fun _ => rfl) (.seq (.region i2 ops2 false) .ret) (.seq (.region [⟨some 2, none, .mov nilC, 128⟩]) .ret) (by simp [compC, wrapF, splitI_Z0, show Z0.off = 0 from rfl, h3]) (s3 true) .ret (s3 true) a3 w2 _ rfl rfl hS3 fun hN a4 w4 hS4 => ?_
    change bodyPostM (FW none) 0 P fn (AnsPost w ok (.c (.new z.length []))) .ret a4 w4
    refine post_fitsR (r := .c .nil) (ex := .ret) hq (by intro id h; cases h) rfl hS4 fun e' w' h => ?_
    obtain ⟨v, ok', bs, g1, g2, g3, g4, ⟨rfl, g5⟩, g6, g7⟩ := h
    exact ⟨v, ok', [], g1, g2, g3, g4, .inl ⟨rfl, rfl, g5⟩, by simp, by simp⟩
  | some ad =>
    refine wpIn_skip ?_
    show (Code.seq (.region i3 ops3 false) .ret).wpIn (FW none) 0 P _ a3 w2
    refine code_fits (cx := cx0) hcall 0 0 (Ctx0.of ok) Z0 8 (fun _ => []) (Z0_ok P) (.inl fun _ => rfl) (.seq (.region i3 ops3 false) .ret) (.seq (.region [⟨some 5, none, .bslice z 0 [], 320⟩, ⟨some 6, none, .mov (.tmp 0), 384⟩, ⟨some 7, none, .append z.length bytes (.tmp 5) (.tmp 6), 448⟩, ⟨some 2, none, .mov (.tmp 7), 128⟩]) .ret) (by simp [compC, wrapF, splitI_Z0, show Z0.off = 0 from rfl, h4]) (s3 false) .ret
      ⟨[.c (.d (.sl rows)), .c .undef, .c (.own 448 1 (0 + rows.length)), .c (.d (.sl rows)), .c (.d (.bool false)), .c (.own 320 1 0), .c (.d (.sl rows)), .c (.own 448 1 (0 + rows.length))], [(320, ⟨1, false, .dead⟩), (448, ⟨1, false, .arr z.length ([] ++ rows)⟩)]⟩ a3 w2 _ rfl ?_ hS3 fun hN a4 w4 hS4 => ?_
    · have e1 : instA cx0 ⟨some 5, none, .bslice z 0 [], 320⟩ (s3 false) = some (⟨[.c (.d (.sl rows)), .c .undef, .c .nil, .c (.d (.sl rows)), .c (.d (.bool false)), .c (.own 320 1 0), .c .undef, .c .undef], [(320, ⟨1, false, .arr z.length []⟩)]⟩, ⟨.c (.own 320 1 0), [(320, ⟨1, false, .arr z.length []⟩)], []⟩) := by
        simp only [instA, wantF, eff, hz]
        rfl
      have e3 : instA cx0 ⟨some 7, none, .append z.length bytes (.tmp 5) (.tmp 6), 448⟩ ⟨[.c (.d (.sl rows)), .c .undef, .c .nil, .c (.d (.sl rows)), .c (.d (.bool false)), .c (.own 320 1 0), .c (.d (.sl rows)), .c .undef], [(320, ⟨1, false, .arr z.length []⟩)]⟩ =
          some (⟨[.c (.d (.sl rows)), .c .undef, .c .nil, .c (.d (.sl rows)), .c (.d (.bool false)), .c (.own 320 1 0), .c (.d (.sl rows)), .c (.own 448 1 (0 + rows.length))], [(320, ⟨1, false, .dead⟩), (448, ⟨1, false, .arr z.length ([] ++ rows)⟩)]⟩, ⟨.c (.own 448 1 (0 + rows.length)), [(320, ⟨1, false, .dead⟩), (448, ⟨1, false, .arr z.length ([] ++ rows)⟩)], []⟩) := by
        have hcond : (rows.all fun r => r.length == z.length) = true ∧ (false && rows.isEmpty) = false ∧ (([] : List (List D)).all fun r => r.length == z.length) = true ∧ (([] : List (List D)).length + rows.length + 100) * (bytes + 1) ≤ 70368744177664 := ⟨hrows, rfl, rfl, by simpa using hsz⟩
        have hro : rowsOf (getL [(320, (⟨1, false, .arr z.length []⟩ : Blk))]) 320 1 = some (false, z.length, []) := rfl
        have hev5 : evalF (slotsF [.c (.d (.sl rows)), .c .undef, .c .nil, .c (.d (.sl rows)), .c (.d (.bool false)), .c (.own 320 1 0), .c (.d (.sl rows)), .c .undef]) (.tmp 5) = .c (.own 320 1 0) := rfl
        have hev6 : evalF (slotsF [.c (.d (.sl rows)), .c .undef, .c .nil, .c (.d (.sl rows)), .c (.d (.bool false)), .c (.own 320 1 0), .c (.d (.sl rows)), .c .undef]) (.tmp 6) = .c (.d (.sl rows)) := rfl
        have hic : isClip (.c (.own 320 1 0)) = false := rfl
        simp only [instA, wantF, eff, hev5, hev6, baseOf, srcOf, hro, if_true, hic]
        rw [if_pos hcond]
        change _ = _
        kernel_rfl
      simp only [acode, runI, e1]
      have e2 : instA cx0 ⟨some 6, none, .mov (.tmp 0), 384⟩ ⟨[.c (.d (.sl rows)), .c .undef, .c .nil, .c (.d (.sl rows)), .c (.d (.bool false)), .c (.own 320 1 0), .c .undef, .c .undef], [(320, ⟨1, false, .arr z.length []⟩)]⟩ = some (⟨[.c (.d (.sl rows)), .c .undef, .c .nil, .c (.d (.sl rows)), .c (.d (.bool false)), .c (.own 320 1 0), .c (.d (.sl rows)), .c .undef], [(320, ⟨1, false, .arr z.length []⟩)]⟩, ⟨.c (.d (.sl rows)), [], []⟩) := rfl
      simp only [e2, e3]
      rfl
    · change bodyPostM (FW none) 0 P fn (AnsPost w ok (.c (.new z.length rows))) .ret a4 w4
      exact post_fits (r := .c (.new z.length rows)) (ex := .ret) hq (by intro id h; cases h) rfl hS4

end
end Go.Proofs.YtmmlolampgnamaaDoor.Ax
