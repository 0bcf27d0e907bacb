/- What is to be shown of a run, as a tree that is computed: conditions, turns, answers, and loops where it stops. -/
import Derived.Test.YtmmlolampgnamaaDoorAx17
namespace Go.Proofs.YtmmlolampgnamaaDoor.Ax
open Go.RowKit
set_option linter.unusedVariables false

/-- An answer as the shape of a value. -/
structure Gen where
  β : Type
  v : β
  sh : β → RR
/-- What is known of the functions that are called. -/
structure Sp where
  pre : FuncId → List A → Prop
  ans : FuncId → List A → RR
  ref : FuncId → List A → Bool
  off : Nat
  back : FuncId → Option (Option Nat × List Kd) := fun _ => none
  fz : List Nat := []
  gen : FuncId → List A → Option Gen := fun _ _ => none
  gok : ∀ f as g, gen f as = some g → g.sh g.v = ans f as := by intro f as g h; cases h

open Classical in
noncomputable def Sp.cx (sp : Sp) : Cx where
  off := sp.off
  call := fun f as => if sp.pre f as then some (sp.ans f as) else none
  calli := fun _ _ _ => none
  inl := fun _ => false
  back := sp.back
  fz := sp.fz

def Sp.sound (sp : Sp) (P : Program) : Prop := (∀ f as, sp.pre f as → ACalls P f as (sp.ans f as) ∧ Enters P f ∧ rrRef (sp.ans f as) = sp.ref f as) ∧ ∀ g sh, sp.back g = some sh → BackOK P g sh.1 ∧ Enters P g

theorem Sp.calls {sp : Sp} {P : Program} (h : sp.sound P) : CxOK P sp.cx := by
  refine ⟨?_, h.2⟩
  replace h := h.1
  intro g as r hr
  simp only [Sp.cx] at hr
  split at hr
  · rename_i hp
    simp only [Option.some.injEq] at hr; subst hr
    exact ⟨(h g as hp).1, (h g as hp).2.1⟩
  · cases hr

inductive VC : Type 1 where
  | ff
  | need (p : Prop) (k : VC)
  | all {β : Type} (v : β) (k : β → VC)
  | ret (r : Option RR)
  | cfg (c : ACode) (s : St) (F : List Fr)

def VC.br (b : Bool) (x y : VC) : VC := match b with
  | true => x
  | false => y

def VC.holds (cx : Cx) (rs : List RVar) (R : RR → Prop) : VC → Prop
  | .ff => False
  | .need p k => p ∧ k.holds cx rs R
  | .all v k => ∀ y, y = v → (k y).holds cx rs R
  | .ret (some r) => R r
  | .ret none => False
  | .cfg c s F => Aw cx c s (unw cx F fun e s => (∀ id, e ≠ .exit id) ∧ ∃ r, resA rs s = some r ∧ R r)

def asInt : D → Int
  | .int _ n => n
  | _ => 0
def asBool : D → Bool
  | .bool b => b
  | _ => false
def asStr : D → ByteArray
  | .str s => s
  | _ => ByteArray.empty
def asRows : D → List (List D)
  | .sl r => r
  | _ => []
def ofKd : Kd → D → D
  | .int k, d => .int k (asInt d)
  | .bool, d => .bool (asBool d)
  | .str, d => .str (asStr d)
  | .sl, d => .sl (asRows d)
  | .raw, d => d
def ofSh (r : List D) : List Kd → Nat → List D
  | [], _ => []
  | k :: ks, j => ofKd k (r.getD j .nilp) :: ofSh r ks (j + 1)
/-- The cells are of these kinds. -/
def okSh (sh : List Kd) (r : List D) : Prop := r.take sh.length = ofSh r sh 0
def rowAt (rows : List (List D)) (i : Nat) : List D := rows.getD i []
def pickSh (n : Option Nat) (sh : List Kd) (r : List D) : Option AV :=
  match n with
  | none => match sh with
    | [k] => some (.c (.d (ofKd k (r.getD 0 .nilp))))
    | _ => none
  | some n => if sh.length = n then some (.agg ((ofSh r sh 0).map .d)) else none

def loadW (lk : Nat → Option Blk) (n : Option Nat) (sh : List Kd) (v : AV) (k : Ef → VC) : VC :=
  match v with
  | .c (.d (.rptr r)) => match pickSh n sh r with
    | some y => .need (okSh sh r) (k ⟨y, [], []⟩)
    | none => .ff
  | .c (.aptr t g i j) => match lk t with
    | some ⟨g', _, .arr E rows⟩ => if g' = g then match pickSh n sh ((rowAt rows i).drop j) with
        | some y => .need (i < rows.length ∧ (rowAt rows i).length = E ∧ okSh sh ((rowAt rows i).drop j)) (k ⟨y, [], [t]⟩)
        | none => .ff
      else .ff
    | _ => .ff
  | v => match loadE lk n v with
    | some f => k f
    | none => .ff

def storeW (lk : Nat → Option Blk) (n : Nat) (v : AV) (p : AV) (k : Ef → VC) : VC :=
  match p with
  | .c (.aptr t g i j) => match lk t, cellsOf v with
    | some ⟨g', false, .arr E rows⟩, some l => match dsOf lk l with
      | some (ds, ts) => if g' = g ∧ ds.length = n ∧ ts.contains t = false then
          .need (i < rows.length ∧ (rowAt rows i).length = E ∧ j + n ≤ E) (k ⟨.c .undef, (t, ⟨g, false, .arr E (rows.set i (splice (rowAt rows i) j ds))⟩) :: freeze lk ts, []⟩) else .ff
      | none => .ff
    | _, _ => .ff
  | p => match storeE lk n v p with
    | some f => k f
    | none => .ff

def dbinW (op : BinOp) (a b : D) (k : D → VC) : VC :=
  match a, b with
  | .int kx x, .int ky y => match op with
    | .shl => .need (0 ≤ y) (k (.int kx (kx.wrap (x * 2 ^ min y.toNat kx.bits))))
    | .shr => .need (0 ≤ y) (k (.int kx (x.fdiv (2 ^ min y.toNat kx.bits))))
    | .quo => if kx = ky then .need (y ≠ 0) (k (.int kx (kx.wrap (x.tdiv y)))) else .ff
    | .rem => if kx = ky then .need (y ≠ 0) (k (.int kx (x.tmod y))) else .ff
    | op => match dbin op (.int kx x) (.int ky y) with
      | some d => k d
      | none => .ff
  | .str x, .str y => match op with
    | .add => .need (x.size + y.size ≤ 9223372036854775807) (k (.str (x ++ y)))
    | op => match dbin op (.str x) (.str y) with
      | some d => k d
      | none => .ff
  | _, _ => .ff

def sliceW (ev : Operand → AV) (lk : Nat → Option Blk) (T : Nat) (lo hi : Option Operand) (E : Nat) (v : AV) (k : Ef → VC) : VC :=
  match v with
  | .c (.d (.sl rows)) => match boundOr ev 0 lo, boundOr ev rows.length hi with
    | some l, some h => .need ((rows.all fun r => r.length == E) = true ∧ 0 ≤ l ∧ l ≤ h ∧ h ≤ rows.length) (k ⟨.c (.d (.sl ((rows.take h.toNat).drop l.toNat))), [], []⟩)
    | _, _ => .ff
  | .c (.own t g _) => match rowsOf lk t g with
    | some (fz, E', rows) => match boundOr ev 0 lo, boundOr ev rows.length hi with
      | some l, some h => if E' = E then match moves fz lo hi with
          | true => .need (0 ≤ h ∧ h ≤ rows.length) (k ⟨.c (.own T (genOf lk T + 1) h.toNat), kill lk [t] ++ [(T, ⟨genOf lk T + 1, false, .arr E (rows.take h.toNat)⟩)], [t]⟩)
          | false => .need (0 ≤ l ∧ l ≤ h ∧ h ≤ rows.length) (k ⟨.c (.d (.sl ((rows.take h.toNat).drop l.toNat))), freeze lk [t], [t]⟩) else .ff
      | _, _ => .ff
    | none => .ff
  | .c .nil => match boundOr ev 0 lo, boundOr ev 0 hi with
    | some l, some h => .need (l = 0 ∧ h = 0) (k ⟨.c (.d (.sl [])), [], []⟩)
    | _, _ => .ff
  | _ => .ff

def sliceSW (ev : Operand → AV) (lo hi : Option Operand) (v : AV) (k : Ef → VC) : VC :=
  match v with
  | .c (.d (.str s)) => match boundOr ev 0 lo, boundOr ev s.size hi with
    | some l, some h => .need (0 ≤ l ∧ l ≤ h ∧ h ≤ s.size) (k ⟨.c (.d (.str (s.extract l.toNat h.toNat))), [], []⟩)
    | _, _ => .ff
  | _ => .ff

/-- One of the first places of a row of cells, whichever: each in turn. -/
def eachW (i : Int) (k : Nat → VC) : Nat → Nat → VC
  | 0, _ => .ff
  | n + 1, c => VC.br (decide (i = (c : Int))) (k c) (eachW i k n (c + 1))

def clipW (c : Bool) (r : List (List D)) (k : VC) : VC := match c with
  | true => .need (r.isEmpty = false) k
  | false => k
def maxW (mx : Bool) : List Int → Int → (Int → VC) → VC
  | [], n, k => k n
  | a :: l, n, k => match mx with
    | true => maxW mx l (max n a) k
    | false => maxW mx l (min n a) k

/-- A turn at a temp: behind it the temp is told. -/
def turnS (s : St) (t : Nat) (b : Bool) : St := ⟨s.slots.set t (.c (.d (.bool b))), s.blk⟩
def VC.turn (b want : Bool) (x y : VC) : VC := match want with
  | true => VC.br b x y
  | false => VC.br b y x

def effW (sp : Sp) (ev : Operand → AV) (lk : Nat → Option Blk) (T : Nat) (op : AOp) (k : Ef → VC) : VC :=
  match op with
  | .pick c a b => match ev c with
    | .c (.d (.bool t)) => VC.br t (k ⟨ev a, [], []⟩) (k ⟨ev b, [], []⟩)
    | _ => .ff
  | .load n sh x => loadW lk n sh (ev x) k
  | .store n p x => storeW lk n (ev x) (ev p) k
  | .bin op x y => match ev x, ev y with
    | .c (.d a), .c (.d b) => dbinW op a b fun r => k ⟨.c (.d r), [], []⟩
    | _, _ => .ff
  | .mkslice z bytes l c => match dsOf lk z, ev l, ev c with
    | some (zd, []), .c (.d (.int .i64 n)), .c (.d (.int .i64 m)) =>
      .need (n = m ∧ 0 ≤ n ∧ (bytes + 1) * n ≤ 140737488355328) (k ⟨.c (.own T (genOf lk T + 1) n.toNat), [(T, ⟨genOf lk T + 1, false, .arr z.length (List.replicate n.toNat zd)⟩)], []⟩)
    | _, _, _ => .ff
  | .slice x lo hi E => sliceW ev lk T lo hi E (ev x) k
  | .sliceS x lo hi => sliceSW ev lo hi (ev x) k
  | .iaddrA len E x i => match ev i with
    | .c (.d (.int _ n)) => match ev x with
      | .c (.bptr t g j) => eachW n (fun c => k ⟨.c (.bptr t g (j + c * E)), [], []⟩) len 0
      | .c (.aptr t g q j) => eachW n (fun c => k ⟨.c (.aptr t g q (j + c * E)), [], []⟩) len 0
      | .c (.d (.rptr l)) => eachW n (fun c => k ⟨.c (.d (.rptr (l.drop (c * E)))), [], []⟩) len 0
      | _ => .ff
    | _ => .ff
  | .iaddrS E x i => match ev i with
    | .c (.d (.int _ n)) => match ev x with
      | .c (.d (.sl rows)) => .need (0 ≤ n ∧ n < rows.length ∧ (rowAt rows n.toNat).length = E) (k ⟨.c (.d (.rptr (rowAt rows n.toNat))), [], []⟩)
      | .c (.own t g m) => match rowsOf lk t g with
        | some (_, E', _) => if E' = E then .need (0 ≤ n ∧ n < m) (k ⟨.c (.aptr t g n.toNat 0), [], [t]⟩) else .ff
        | none => .ff
      | _ => .ff
    | _ => .ff
  | .idxA len E n x i => match ev i, ev x with
    | .c (.d (.int _ k')), .agg l => if l.length = len * E then eachW k' (fun c => match pickN n (l.drop (c * E)) with
        | some y => k ⟨y, [], []⟩
        | none => .ff) len 0 else .ff
    | _, _ => .ff
  | .next x => match ev x with
    | .c (.bptr t g 0) => match lk t with
      | some ⟨g', false, .iter s pos⟩ => if g' = g then VC.br (decide (pos < s.size))
          (k ⟨.tup [.inl (.d (.bool true)), .inl (.d (.int .i64 pos)), .inl (.d (.int .i32 (Utf8.decode s pos).1))], [(t, ⟨g, false, .iter s (pos + (Utf8.decode s pos).2)⟩)], [t]⟩)
          (k ⟨.tup [.inl (.d (.bool false))], [], [t]⟩) else .ff
      | _ => .ff
    | _ => .ff
  | .ofRunes x => match srcOf lk (ev x) with
    | some (rows, ts) => .need (rows = rows.map fun r => [.int .i32 (asInt (r.getD 0 .nilp))]) (k ⟨.c (.d (.str (runesBytes (rows.map fun r => asInt (r.getD 0 .nilp))))), [], ts⟩)
    | none => .ff
  | .ofBytes x => match srcOf lk (ev x) with
    | some (rows, ts) => .need (rows = rows.map fun r => [.int .u8 (asInt (r.getD 0 .nilp))]) (k ⟨.c (.d (.str (strOfNums (rows.map fun r => asInt (r.getD 0 .nilp))))), [], ts⟩)
    | none => .ff
  | .toBytes x => match ev x with
    | .c (.d (.str s)) => .need (s.size ≤ 1000000) (k ⟨.c (.own T (genOf lk T + 1) (bytesR s).length), [(T, ⟨genOf lk T + 1, false, .arr 1 (bytesR s)⟩)], []⟩)
    | _ => .ff
  | .idxS x i => match ev x, ev i with
    | .c (.d (.str s)), .c (.d (.int _ i)) => .need (0 ≤ i ∧ i < s.size) (k ⟨.c (.d (.int .u8 ((s[i.toNat]?).getD 0).toNat)), [], []⟩)
    | _, _ => .ff
  | .append E bytes x y => match baseOf lk E (ev x), srcOf lk (ev y) with
    | some (r1, ts1), some (r2, ts2) =>
      .need ((r2.all fun r => r.length == E) = true ∧ (r1.all fun r => r.length == E) = true ∧ (r1.length + r2.length + 100) * (bytes + 1) ≤ 70368744177664)
        (clipW (isClip (ev x)) r2 <| k ⟨.c (.own T (genOf lk T + 1) (r1.length + r2.length)), kill lk ts1 ++ [(T, ⟨genOf lk T + 1, false, .arr E (r1 ++ r2)⟩)], ts2⟩)
    | _, _ => .ff
  | .call f args => match ev f with
    | .c (.d (.fn f caps)) => match argsOf lk (args.map ev) with
      | some (as, ts) => .need (sp.pre f (as ++ caps.map .c)) (match sp.gen f (as ++ caps.map .c) with
          | some g => .all g.v fun y => k ⟨(imp lk T (g.sh y)).1, (if sp.ref f (as ++ caps.map .c) then freeze lk ts else []) ++ (imp lk T (g.sh y)).2, ts⟩
          | none => k ⟨(imp lk T (sp.ans f (as ++ caps.map .c))).1, (if sp.ref f (as ++ caps.map .c) then freeze lk ts else []) ++ (imp lk T (sp.ans f (as ++ caps.map .c))).2, ts⟩)
      | none => .ff
    | _ => .ff
  | .minmax mx x xs => match ev x, mapO asInt? (xs.map ev) with
    | .c (.d (.int kd n)), some l => maxW mx l n fun r => k ⟨.c (.d (.int kd r)), [], []⟩
    | _, _ => .ff
  | .alloc z => k ⟨.c (.bptr T (genOf lk T + 1) 0), [(T, ⟨genOf lk T + 1, false, .box z⟩)], []⟩
  | .mov x => k ⟨ev x, [], []⟩
  | op => match eff { off := sp.off, call := fun _ _ => none, calli := fun _ _ _ => none, inl := fun _ => true, fz := sp.fz } ev lk T op with
    | some f => k f
    | none => .ff

def regionW (sp : Sp) : List AInst → St → List Ef → (St → List Ef → VC) → VC
  | [], s, fs, k => k s fs.reverse
  | i :: is, s, fs, k =>
    match i.guard with
    | none => effW sp (evalF (slotsF s.slots)) (getL s.blk) i.tag i.op fun e => regionW sp is ⟨putS s.slots i.dst e.v, upd s.blk e.up⟩ (e :: fs) k
    | some (some t, want) => match slotsF s.slots t with
      | .c (.d (.bool b)) => VC.turn b want
        (effW sp (evalF (slotsF (turnS s t want).slots)) (getL s.blk) i.tag i.op fun e => regionW sp is ⟨putS (turnS s t want).slots i.dst e.v, upd s.blk e.up⟩ (e :: fs) k)
        (regionW sp is ⟨putS (turnS s t (!want)).slots i.dst (.tup []), s.blk⟩ (⟨.tup [], [], []⟩ :: fs) k)
      | .tup [] => regionW sp is ⟨putS s.slots i.dst (.tup []), s.blk⟩ (⟨.tup [], [], []⟩ :: fs) k
      | _ => .ff
    | some (none, _) => .ff

inductive Ctl where
  | run (c : ACode)
  | un (e : Ex)

/-- So many steps; at a loop it stops. -/
def goW (sp : Sp) (rs : List RVar) : Nat → Ctl → St → List Fr → VC
  | 0, _, _, _ => .ff
  | n + 1, .run .skip, s, F => goW sp rs n (.un .normal) s F
  | n + 1, .run (.region is), s, F => regionW sp is s [] fun s' _ => goW sp rs n (.un .normal) s' F
  | n + 1, .run (.draw is after), s, F => regionW sp is s [] fun s' fs => if okDraw after is fs = true then goW sp rs n (.un .normal) s' F else .ff
  | n + 1, .run (.seq x y), s, F => goW sp rs n (.run x) s (.s y :: F)
  | n + 1, .run (.cond c x y), s, F => match evalF (slotsF s.slots) c with
    | .c (.d (.bool b)) => match c with
      | .tmp t => VC.br b (goW sp rs n (.run x) (turnS s t true) F) (goW sp rs n (.run y) (turnS s t false) F)
      | _ => VC.br b (goW sp rs n (.run x) s F) (goW sp rs n (.run y) s F)
    | _ => .ff
  | n + 1, .run (.block id x), s, F => goW sp rs n (.run x) s (.b id :: F)
  | _ + 1, .run (.loop (.forget keep x)), s, F => .cfg x (forget keep s) (.l (.forget keep x) :: F)
  | n + 1, .run (.loop x), s, F => goW sp rs n (.run x) s (.l x :: F)
  | _ + 1, .run (.forget keep x), s, F => .cfg x (forget keep s) F
  | n + 1, .run (.exit id), s, F => goW sp rs n (.un (.exit id)) s F
  | n + 1, .run .ret, s, F => goW sp rs n (.un .ret) s F
  | n + 1, .run (.inl d m body rs' xs), s, F => goW sp rs n (.run body) (inlStart m xs s) (.i d s.slots rs' :: F)
  | _ + 1, .run (.back g p q x y), s, F => match evalF (slotsF s.slots) g with
    | .c (.d (.fn f [.rptr [.sl rows]])) => match sp.back f with
      | some sh => .need (okBack sh.1 rows = true) (.cfg (.rnd rows.length rows sh p q x y s.blk) s F)
      | none => .ff
    | _ => .ff
  | n + 1, .run (.rnd 0 _ _ _ _ _ _ _), s, F => goW sp rs n (.un .normal) s F
  | n + 1, .run (.rnd (k + 1) rows sh p q x y blk0), s, F => match pickSh sh.1 sh.2 (rowAt rows k) with
    | some v => .need (k < rows.length ∧ okSh sh.2 (rowAt rows k)) (goW sp rs n (.run x) ⟨(s.slots.set p (.c (.d (.int .i64 k)))).set q v, s.blk⟩ (.a y :: .r k rows sh p q x y blk0 s.slots :: F))
    | none => .ff
  | _ + 1, .un (.exit _), _, [] => .ff
  | _ + 1, .un _, s, [] => .ret (resA rs s)
  | n + 1, .un .normal, s, .s y :: F => goW sp rs n (.run y) s F
  | n + 1, .un e, s, .s _ :: F => goW sp rs n (.un e) s F
  | n + 1, .un (.exit j), s, .b id :: F => goW sp rs n (.un (if j = id then .normal else .exit j)) s F
  | n + 1, .un e, s, .b _ :: F => goW sp rs n (.un e) s F
  | n + 1, .un .normal, s, .l x :: F => goW sp rs n (.run (.loop x)) s F
  | n + 1, .un e, s, .l _ :: F => goW sp rs n (.un e) s F
  | _ + 1, .un (.exit _), _, .i _ _ _ :: _ => .ff
  | n + 1, .un _, s, .i d slots rs' :: F => match inlS d rs' slots s with
    | some s' => goW sp rs n (.un .normal) s' F
    | none => .ff
  | n + 1, .un .normal, s, .a y :: F => goW sp rs n (.run y) s F
  | _ + 1, .un _, _, .a _ :: _ => .ff
  | _ + 1, .un .normal, s, .r k rows sh p q x y blk0 slots :: F => .cfg (.rnd k rows sh p q x y blk0) ⟨slots, resetB blk0 s.blk⟩ F
  | n + 1, .un e, s, .r _ _ _ _ _ _ _ _ slots :: F => goW sp rs n (.un e) ⟨slots, s.blk⟩ F

end Go.Proofs.YtmmlolampgnamaaDoor.Ax
