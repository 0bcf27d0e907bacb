/- The words of an abstract interpreter over data: data, cells, states, and what they stand for in a world. -/
import Derived.Test.YtmmlolampgnamaaDoorAxG
import Derived.Orders
import Derived.Below
import Derived.Laws.Cells
namespace Go.Proofs.YtmmlolampgnamaaDoor.Ax
open Go.RowKit

/-- Plain data: what a call is handed and what it answers. -/
inductive D where
  | int (k : IntKind) (n : Int)
  | bool (b : Bool)
  | str (s : ByteArray)
  | sl (rows : List (List D))
  | rptr (cells : List D)
  | nilp
  | nilf
  | fn (f : FuncId) (caps : List D)
  deriving Inhabited

/-- A cell of a frame's own: data, nothing yet, a nil slice, a slice that the call owns, a pointer into what it owns. -/
inductive Cl where
  | d (x : D)
  | undef
  | nil
  | clip (rows : List (List D))
  | own (t g n : Nat)
  | bptr (t g j : Nat)
  | aptr (t g i j : Nat)
  deriving Inhabited

inductive AV where
  | c (x : Cl)
  | agg (cs : List Cl)
  | tup (vs : List (Sum Cl (List Cl)))
  deriving Inhabited

inductive BK where
  | dead
  | box (cells : List Cl)
  | arr (E : Nat) (rows : List (List D))
  | iter (s : ByteArray) (pos : Nat)
  deriving Inhabited

structure Blk where
  g : Nat
  fz : Bool
  k : BK
  deriving Inhabited

structure En where
  /-- The block, how many rows it may hold, and: how many cells a row has, how many rows there are. -/
  β : Nat → Nat → Option (Nat × Nat × Nat × Nat)
  G : Nat → Nat
  ok : Nat → Prop
  /-- Blocks of the machine's own, that stay as they are. -/
  ob : Nat → Prop

mutual
def RD (ok : Nat → Prop) (w : World) : D → Value → Prop
  | .int k n, v => v = .int k n
  | .bool b, v => v = .bool b
  | .str s, v => v = .string s
  | .sl rows, v => ∃ A c, v = .slice A rows.length c ∧ rows.length ≤ c ∧ (rows ≠ [] → ∃ a E, A = some a ∧ ok a.block ∧ RDRows ok w a E rows 0)
  | .rptr cells, v => ∃ a, v = .pointer (some a) ∧ ok a.block ∧ RDRow ok w a cells 0
  | .nilp, v => v = .pointer none
  | .nilf, v => v = .nilFunc
  | .fn f caps, v => ∃ vs : List Value, v = .func (.func f) #[] vs.toArray ∧ RDList ok w caps vs
def RDList (ok : Nat → Prop) (w : World) : List D → List Value → Prop
  | [], [] => True
  | x :: xs, v :: vs => RD ok w x v ∧ RDList ok w xs vs
  | _, _ => False
def RDRow (ok : Nat → Prop) (w : World) (a : Addr) : List D → Nat → Prop
  | [], _ => True
  | x :: xs, j => (∃ u, w.cell? (a.add j) = some u ∧ RD ok w x u) ∧ RDRow ok w a xs (j + 1)
def RDRows (ok : Nat → Prop) (w : World) (a : Addr) (E : Nat) : List (List D) → Nat → Prop
  | [], _ => True
  | r :: rs, i => r.length = E ∧ RDRow ok w a r (i * E) ∧ RDRows ok w a E rs (i + 1)
end

theorem add_block (a : Addr) (n : Nat) : (a.add n).block = a.block := by
  unfold Addr.add; split <;> rfl
theorem cell_block {w w' : World} {a : Addr} (h : w'.heap[a.block]? = w.heap[a.block]?) : w'.cell? a = w.cell? a := by
  unfold World.cell?; rw [h]

mutual
theorem RD.mono {ok ok' : Nat → Prop} {w w' : World} (hok : ∀ b, ok b → ok' b) (hw : ∀ b, ok b → w'.heap[b]? = w.heap[b]?) : ∀ (x : D) (v : Value), RD ok w x v → RD ok' w' x v
  | .int _ _, _, h => by simpa only [RD] using h
  | .bool _, _, h => by simpa only [RD] using h
  | .str _, _, h => by simpa only [RD] using h
  | .sl rows, _, h => by
    simp only [RD] at h ⊢
    obtain ⟨A, c, h1, h2, h3⟩ := h
    refine ⟨A, c, h1, h2, fun hr => ?_⟩
    obtain ⟨a, E, e, hk, hh⟩ := h3 hr
    exact ⟨a, E, e, hok _ hk, RDRows.mono hok hw a (hw _ hk) E rows 0 hh⟩
  | .rptr cells, _, h => by
    simp only [RD] at h ⊢
    obtain ⟨a, h1, h2, h3⟩ := h
    exact ⟨a, h1, hok _ h2, RDRow.mono hok hw a (hw _ h2) cells 0 h3⟩
  | .nilp, _, h => by simpa only [RD] using h
  | .nilf, _, h => by simpa only [RD] using h
  | .fn _ caps, _, h => by
    simp only [RD] at h ⊢
    obtain ⟨vs, h1, h2⟩ := h
    exact ⟨vs, h1, RDList.mono hok hw caps vs h2⟩
theorem RDList.mono {ok ok' : Nat → Prop} {w w' : World} (hok : ∀ b, ok b → ok' b) (hw : ∀ b, ok b → w'.heap[b]? = w.heap[b]?) : ∀ (xs : List D) (vs : List Value), RDList ok w xs vs → RDList ok' w' xs vs
  | [], [], _ => by simp only [RDList]
  | x :: xs, v :: vs, h => by
    simp only [RDList] at h ⊢
    exact ⟨RD.mono hok hw x v h.1, RDList.mono hok hw xs vs h.2⟩
  | [], _ :: _, h => by simp only [RDList] at h
  | _ :: _, [], h => by simp only [RDList] at h
theorem RDRow.mono {ok ok' : Nat → Prop} {w w' : World} (hok : ∀ b, ok b → ok' b) (hw : ∀ b, ok b → w'.heap[b]? = w.heap[b]?) (a : Addr) (ha : w'.heap[a.block]? = w.heap[a.block]?) : ∀ (xs : List D) (j : Nat), RDRow ok w a xs j → RDRow ok' w' a xs j
  | [], _, _ => by simp only [RDRow]
  | x :: xs, j, h => by
    simp only [RDRow] at h ⊢
    obtain ⟨⟨u, hu, hx⟩, hr⟩ := h
    refine ⟨⟨u, ?_, RD.mono hok hw x u hx⟩, RDRow.mono hok hw a ha xs (j + 1) hr⟩
    exact (cell_block (w := w) (w' := w') (by rw [add_block]; exact ha)).trans hu
theorem RDRows.mono {ok ok' : Nat → Prop} {w w' : World} (hok : ∀ b, ok b → ok' b) (hw : ∀ b, ok b → w'.heap[b]? = w.heap[b]?) (a : Addr) (ha : w'.heap[a.block]? = w.heap[a.block]?) (E : Nat) : ∀ (rs : List (List D)) (i : Nat), RDRows ok w a E rs i → RDRows ok' w' a E rs i
  | [], _, _ => by simp only [RDRows]
  | r :: rs, i, h => by
    simp only [RDRows] at h ⊢
    exact ⟨h.1, RDRow.mono hok hw a ha r _ h.2.1, RDRows.mono hok hw a ha E rs (i + 1) h.2.2⟩
end

/-- A row of cells, cell by cell. -/
theorem RDRow.get {ok : Nat → Prop} {w : World} {a : Addr} : ∀ {xs : List D} {j : Nat}, RDRow ok w a xs j → ∀ {i : Nat} {x : D}, xs[i]? = some x → ∃ u, w.cell? (a.add (j + i)) = some u ∧ RD ok w x u
  | [], _, _, i, x, hx => by simp at hx
  | y :: ys, j, h, 0, x, hx => by
    simp only [RDRow] at h
    simp only [List.getElem?_cons_zero, Option.some.injEq] at hx
    subst hx
    exact h.1
  | y :: ys, j, h, i + 1, x, hx => by
    simp only [RDRow] at h
    simp only [List.getElem?_cons_succ] at hx
    have := RDRow.get h.2 hx
    rwa [show j + 1 + i = j + (i + 1) by omega] at this
theorem RDRow.of {ok : Nat → Prop} {w : World} {a : Addr} : ∀ {xs : List D} {j : Nat}, (∀ (i : Nat) (x : D), xs[i]? = some x → ∃ u, w.cell? (a.add (j + i)) = some u ∧ RD ok w x u) → RDRow ok w a xs j
  | [], _, _ => by simp only [RDRow]
  | y :: ys, j, h => by
    simp only [RDRow]
    refine ⟨h 0 y rfl, RDRow.of fun i x hx => ?_⟩
    have := h (i + 1) x (by simpa using hx)
    rwa [show j + (i + 1) = j + 1 + i by omega] at this
theorem RDRows.get {ok : Nat → Prop} {w : World} {a : Addr} {E : Nat} : ∀ {rs : List (List D)} {k : Nat}, RDRows ok w a E rs k → ∀ {i : Nat} {r : List D}, rs[i]? = some r → r.length = E ∧ RDRow ok w a r ((k + i) * E)
  | [], _, _, i, x, hx => by simp at hx
  | y :: ys, k, h, 0, x, hx => by
    simp only [RDRows] at h
    simp only [List.getElem?_cons_zero, Option.some.injEq] at hx
    subst hx
    exact ⟨h.1, h.2.1⟩
  | y :: ys, k, h, i + 1, x, hx => by
    simp only [RDRows] at h
    simp only [List.getElem?_cons_succ] at hx
    have := RDRows.get h.2.2 hx
    rwa [show k + 1 + i = k + (i + 1) by omega] at this
theorem RDRows.of {ok : Nat → Prop} {w : World} {a : Addr} {E : Nat} : ∀ {rs : List (List D)} {k : Nat}, (∀ (i : Nat) (r : List D), rs[i]? = some r → r.length = E ∧ RDRow ok w a r ((k + i) * E)) → RDRows ok w a E rs k
  | [], _, _ => by simp only [RDRows]
  | y :: ys, k, h => by
    simp only [RDRows]
    refine ⟨(h 0 y rfl).1, (h 0 y rfl).2, RDRows.of fun i r hr => ?_⟩
    have := h (i + 1) r (by simpa using hr)
    rwa [show k + (i + 1) = k + 1 + i by omega] at this

/-- A cell in a world. -/
def RC (e : En) (w : World) : Cl → Value → Prop
  | .d x, v => RD e.ok w x v
  | .undef, _ => True
  | .nil, v => v = .slice none 0 0
  | .clip rows, v => ∃ A, v = .slice A rows.length rows.length ∧ (rows ≠ [] → ∃ a E, A = some a ∧ e.ok a.block ∧ RDRows e.ok w a E rows 0)
  | .own t g n, v => g ≤ e.G t ∧ match e.β t g with
    | none => n = 0 ∧ v = .slice none 0 0
    | some (b, c, E) => E.2 = n ∧ n ≤ c ∧ v = .slice (some ⟨b, 0, none⟩) n c
  | .bptr t g j, v => g ≤ e.G t ∧ ∃ b c E, e.β t g = some (b, c, E) ∧ v = .pointer (some ⟨b, j, none⟩)
  | .aptr t g i j, v => g ≤ e.G t ∧ ∃ b c E, e.β t g = some (b, c, E) ∧ v = .pointer (some ⟨b, i * E.1 + j, none⟩)

def RCs (e : En) (w : World) : List Cl → List Value → Prop
  | [], [] => True
  | x :: xs, v :: vs => RC e w x v ∧ RCs e w xs vs
  | _, _ => False

def R1 (e : En) (w : World) : Sum Cl (List Cl) → Value → Prop
  | .inl x, v => RC e w x v
  | .inr cs, v => ∃ vs : List Value, v = .agg vs.toArray ∧ RCs e w cs vs

def R1s (e : En) (w : World) : List (Sum Cl (List Cl)) → List Value → Prop
  | [], [] => True
  | x :: xs, v :: vs => R1 e w x v ∧ R1s e w xs vs
  | _, _ => False

def RV (e : En) (w : World) : AV → Value → Prop
  | .c x, v => RC e w x v
  | .agg cs, v => ∃ vs : List Value, v = .agg vs.toArray ∧ RCs e w cs vs
  | .tup xs, v => ∃ vs : List Value, v = .tuple vs.toArray ∧ R1s e w xs vs

/-- One state of memory behind another: what was told stays told. -/
structure Ext (e : En) (w : World) (e' : En) (w' : World) : Prop where
  β : ∀ t g, g ≤ e.G t → e'.β t g = e.β t g
  G : ∀ t, e.G t ≤ e'.G t
  ok : ∀ b, e.ok b → e'.ok b
  heap : ∀ b, e.ok b → w'.heap[b]? = w.heap[b]?
  ob : ∀ b, e.ob b → e'.ob b ∧ w'.heap[b]? = w.heap[b]?

theorem Ext.refl (e : En) (w : World) : Ext e w e w := ⟨fun _ _ _ => rfl, fun _ => Nat.le_refl _, fun _ h => h, fun _ _ => rfl, fun _ h => ⟨h, rfl⟩⟩
theorem Ext.trans {e e' e'' : En} {w w' w'' : World} (h : Ext e w e' w') (k : Ext e' w' e'' w'') : Ext e w e'' w'' :=
  ⟨fun t g hg => (k.β t g (Nat.le_trans hg (h.G t))).trans (h.β t g hg), fun t => Nat.le_trans (h.G t) (k.G t), fun b hb => k.ok b (h.ok b hb), fun b hb => (k.heap b (h.ok b hb)).trans (h.heap b hb), fun b hb => ⟨(k.ob b (h.ob b hb).1).1, (k.ob b (h.ob b hb).1).2.trans (h.ob b hb).2⟩⟩

/-- What a frame was handed, and what is to be kept of the frames that wait for it. -/
structure ExtO (p : Nat → Prop) (e : En) (w : World) (e' : En) (w' : World) : Prop where
  β : ∀ t g, g ≤ e.G t → e'.β t g = e.β t g
  G : ∀ t, e.G t ≤ e'.G t
  ok : ∀ b, e.ok b → e'.ok b
  heap : ∀ b, e.ok b → w'.heap[b]? = w.heap[b]?
  ob : ∀ b, p b → e.ob b → e'.ob b ∧ w'.heap[b]? = w.heap[b]?
theorem Ext.toO {p : Nat → Prop} {e e' : En} {w w' : World} (h : Ext e w e' w') : ExtO p e w e' w' := ⟨h.β, h.G, h.ok, h.heap, fun b _ hb => h.ob b hb⟩
theorem ExtO.trans {p : Nat → Prop} {e e' e'' : En} {w w' w'' : World} (h : ExtO p e w e' w') (k : ExtO p e' w' e'' w'') : ExtO p e w e'' w'' :=
  ⟨fun t g hg => (k.β t g (Nat.le_trans hg (h.G t))).trans (h.β t g hg), fun t => Nat.le_trans (h.G t) (k.G t), fun b hb => k.ok b (h.ok b hb), fun b hb => (k.heap b (h.ok b hb)).trans (h.heap b hb), fun b hp hb => ⟨(k.ob b hp (h.ob b hp hb).1).1, (k.ob b hp (h.ob b hp hb).1).2.trans (h.ob b hp hb).2⟩⟩
theorem ExtO.less {p p' : Nat → Prop} {e e' : En} {w w' : World} (h : ExtO p e w e' w') (hp : ∀ b, p' b → p b) : ExtO p' e w e' w' := ⟨h.β, h.G, h.ok, h.heap, fun b k hb => h.ob b (hp b k) hb⟩
structure Ctx0 where
  ok : Nat → Prop
  /-- The machine's own blocks of the frames that wait. -/
  p : Nat → Prop
  J : En → World → Prop
  mono : ∀ {e w e' w'}, ExtO p e w e' w' → J e w → J e' w'
  hp : ∀ {e w}, J e w → ∀ b, p b → e.ob b
def Ctx0.of (ok : Nat → Prop) : Ctx0 := ⟨ok, fun _ => False, fun _ _ => True, fun _ _ => trivial, fun _ _ h => h.elim⟩

section
variable {e e' : En} {w w' : World}
theorem RD.ext (h : Ext e w e' w') {x : D} {v : Value} (hx : RD e.ok w x v) : RD e'.ok w' x v := RD.mono h.ok h.heap x v hx
theorem RC.ext (h : Ext e w e' w') : ∀ {x : Cl} {v : Value}, RC e w x v → RC e' w' x v
  | .d x, v, hx => RD.ext h hx
  | .undef, _, _ => trivial
  | .nil, _, hx => hx
  | .clip rows, v, hx => by
    obtain ⟨A, h1, h2⟩ := hx
    refine ⟨A, h1, fun hr => ?_⟩
    obtain ⟨a, E, e1, hk, hh⟩ := h2 hr
    exact ⟨a, E, e1, h.ok _ hk, RDRows.mono h.ok h.heap a (h.heap _ hk) E rows 0 hh⟩
  | .own t g n, v, hx => by
    obtain ⟨hg, hx⟩ := hx
    refine ⟨Nat.le_trans hg (h.G t), ?_⟩
    rw [h.β t g hg]
    exact hx
  | .bptr t g j, v, hx => by
    obtain ⟨hg, b, c, E, hb, hv⟩ := hx
    exact ⟨Nat.le_trans hg (h.G t), b, c, E, (h.β t g hg).trans hb, hv⟩
  | .aptr t g i j, v, hx => by
    obtain ⟨hg, b, c, E, hb, hv⟩ := hx
    exact ⟨Nat.le_trans hg (h.G t), b, c, E, (h.β t g hg).trans hb, hv⟩
theorem RCs.ext (h : Ext e w e' w') : ∀ {xs : List Cl} {vs : List Value}, RCs e w xs vs → RCs e' w' xs vs
  | [], [], _ => trivial
  | _ :: _, _ :: _, hx => ⟨RC.ext h hx.1, RCs.ext h hx.2⟩
  | [], _ :: _, hx => hx.elim
  | _ :: _, [], hx => hx.elim
theorem R1.ext (h : Ext e w e' w') : ∀ {x : Sum Cl (List Cl)} {v : Value}, R1 e w x v → R1 e' w' x v
  | .inl _, _, hx => RC.ext h hx
  | .inr _, _, hx => let ⟨vs, h1, h2⟩ := hx; ⟨vs, h1, RCs.ext h h2⟩
theorem R1s.ext (h : Ext e w e' w') : ∀ {xs : List (Sum Cl (List Cl))} {vs : List Value}, R1s e w xs vs → R1s e' w' xs vs
  | [], [], _ => trivial
  | _ :: _, _ :: _, hx => ⟨R1.ext h hx.1, R1s.ext h hx.2⟩
  | [], _ :: _, hx => hx.elim
  | _ :: _, [], hx => hx.elim
theorem RV.ext (h : Ext e w e' w') : ∀ {x : AV} {v : Value}, RV e w x v → RV e' w' x v
  | .c _, _, hx => RC.ext h hx
  | .agg _, _, hx => let ⟨vs, h1, h2⟩ := hx; ⟨vs, h1, RCs.ext h h2⟩
  | .tup _, _, hx => let ⟨vs, h1, h2⟩ := hx; ⟨vs, h1, R1s.ext h h2⟩
end

/-- What a value stands for does not lean on the machine's own blocks. -/
theorem RC.ob {e : En} {w : World} (q : Nat → Prop) : ∀ {x : Cl} {v : Value}, RC e w x v → RC { e with ob := q } w x v
  | .d _, _, h => h
  | .undef, _, h => h
  | .nil, _, h => h
  | .clip _, _, h => h
  | .own _ _ _, _, h => h
  | .bptr _ _ _, _, h => h
  | .aptr _ _ _ _, _, h => h
theorem RCs.ob {e : En} {w : World} (q : Nat → Prop) : ∀ {xs : List Cl} {vs : List Value}, RCs e w xs vs → RCs { e with ob := q } w xs vs
  | [], [], _ => trivial
  | _ :: _, _ :: _, h => ⟨RC.ob q h.1, RCs.ob q h.2⟩
  | [], _ :: _, h => h.elim
  | _ :: _, [], h => h.elim
theorem R1.ob {e : En} {w : World} (q : Nat → Prop) : ∀ {x : Sum Cl (List Cl)} {v : Value}, R1 e w x v → R1 { e with ob := q } w x v
  | .inl _, _, h => RC.ob q h
  | .inr _, _, ⟨vs, h1, h2⟩ => ⟨vs, h1, RCs.ob q h2⟩
theorem R1s.ob {e : En} {w : World} (q : Nat → Prop) : ∀ {xs : List (Sum Cl (List Cl))} {vs : List Value}, R1s e w xs vs → R1s { e with ob := q } w xs vs
  | [], [], _ => trivial
  | _ :: _, _ :: _, h => ⟨R1.ob q h.1, R1s.ob q h.2⟩
  | [], _ :: _, h => h.elim
  | _ :: _, [], h => h.elim
theorem RV.ob {e : En} {w : World} (q : Nat → Prop) : ∀ {x : AV} {v : Value}, RV e w x v → RV { e with ob := q } w x v
  | .c _, _, h => RC.ob q h
  | .agg _, _, ⟨vs, h1, h2⟩ => ⟨vs, h1, RCs.ob q h2⟩
  | .tup _, _, ⟨vs, h1, h2⟩ => ⟨vs, h1, R1s.ob q h2⟩
theorem RV.extO {p : Nat → Prop} {e e' : En} {w w' : World} (h : ExtO p e w e' w') {x : AV} {v : Value} (hv : RV e w x v) : RV e' w' x v := by
  have hx : Ext { e with ob := fun _ => False } w { e' with ob := fun _ => False } w' := ⟨h.β, h.G, h.ok, h.heap, fun b hb => hb.elim⟩
  exact RV.ob (e := { e' with ob := fun _ => False }) e'.ob (RV.ext hx (RV.ob (fun _ => False) hv))
theorem RCs.extO {p : Nat → Prop} {e e' : En} {w w' : World} (h : ExtO p e w e' w') {x : List Cl} {v : List Value} (hv : RCs e w x v) : RCs e' w' x v := by
  have hx : Ext { e with ob := fun _ => False } w { e' with ob := fun _ => False } w' := ⟨h.β, h.G, h.ok, h.heap, fun b hb => hb.elim⟩
  exact RCs.ob (e := { e' with ob := fun _ => False }) e'.ob (RCs.ext hx (RCs.ob (fun _ => False) hv))

theorem RCs.length {e : En} {w : World} : ∀ {xs : List Cl} {vs : List Value}, RCs e w xs vs → xs.length = vs.length
  | [], [], _ => rfl
  | _ :: _, _ :: _, h => by simp [RCs.length h.2]
  | [], _ :: _, h => h.elim
  | _ :: _, [], h => h.elim
theorem RCs.get {e : En} {w : World} : ∀ {xs : List Cl} {vs : List Value}, RCs e w xs vs → ∀ {i : Nat} {x : Cl}, xs[i]? = some x → ∃ v, vs[i]? = some v ∧ RC e w x v
  | [], [], _, i, x, hx => by simp at hx
  | _ :: _, v :: _, h, 0, x, hx => by
    simp only [List.getElem?_cons_zero, Option.some.injEq] at hx
    subst hx
    exact ⟨v, rfl, h.1⟩
  | _ :: _, _ :: _, h, i + 1, x, hx => by
    simp only [List.getElem?_cons_succ] at hx ⊢
    exact RCs.get h.2 hx
  | [], _ :: _, h, _, _, _ => h.elim
  | _ :: _, [], h, _, _, _ => h.elim
theorem RCs.of {e : En} {w : World} : ∀ {xs : List Cl} {vs : List Value}, xs.length = vs.length → (∀ (i : Nat) (x : Cl) (v : Value), xs[i]? = some x → vs[i]? = some v → RC e w x v) → RCs e w xs vs
  | [], [], _, _ => trivial
  | x :: xs, v :: vs, hl, h => ⟨h 0 x v rfl rfl, RCs.of (by simpa using hl) fun i y u hy hu => h (i + 1) y u (by simpa using hy) (by simpa using hu)⟩
  | [], _ :: _, hl, _ => by simp at hl
  | _ :: _, [], hl, _ => by simp at hl
theorem RCs.drop {e : En} {w : World} : ∀ {xs : List Cl} {vs : List Value} (n : Nat), RCs e w xs vs → RCs e w (xs.drop n) (vs.drop n)
  | xs, vs, 0, h => by simpa using h
  | [], [], n + 1, _ => by simp [RCs]
  | _ :: _, _ :: _, n + 1, h => by simpa using RCs.drop n h.2
  | [], _ :: _, _ + 1, h => h.elim
  | _ :: _, [], _ + 1, h => h.elim
theorem RCs.take {e : En} {w : World} : ∀ {xs : List Cl} {vs : List Value} (n : Nat), RCs e w xs vs → RCs e w (xs.take n) (vs.take n)
  | xs, vs, 0, h => by simp [RCs]
  | [], [], n + 1, _ => by simp [RCs]
  | _ :: _, _ :: _, n + 1, h => by simpa [RCs] using ⟨h.1, RCs.take n h.2⟩
  | [], _ :: _, _ + 1, h => h.elim
  | _ :: _, [], _ + 1, h => h.elim

end Go.Proofs.YtmmlolampgnamaaDoor.Ax
