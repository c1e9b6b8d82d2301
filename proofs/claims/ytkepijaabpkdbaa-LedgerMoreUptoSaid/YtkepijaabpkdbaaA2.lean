/- Small programs run straight, and the relation of a whole state. Loads, stores and places: the evaluator's against the model's. Data out of values (with the rows that they lie in), freezing, stores. Stores. Addresses of parts, parts of values, cuts. Cuts, indexes, picks. '==' on data. Arithmetic, comparisons, conversions, indexes of values, picks. -/
import Derived.Test.YtkepijaabpkdbaaA1
import Derived.Lib.Strings
import Derived.ChangeKeysEq
set_option linter.unusedVariables false
set_option linter.unusedSimpArgs false

/- Small programs run straight, and the relation of a whole state. -/
namespace Go.Ev
open Go

/-! ### Small programs, run straight -/

def Prog.exec {α : Type} : Prog α → H → Log → Option (α × H × Log)
  | .ret a, h, l => some (a, h, l)
  | .fail, _, _ => none
  | .cond b x y, h, l => if b then x.exec h l else y.exec h l
  | .get i k, h, l => match look h.bs i with
    | some b => (k b).exec h ((i, false) :: l)
    | none => none
  | .set i b k, h, l => k.exec ⟨h.next, (i, b) :: h.bs⟩ ((i, true) :: l)
  | .new b k, h, l => (k h.next).exec ⟨h.next + 1, (h.next, b) :: h.bs⟩ ((h.next, true) :: l)

theorem Prog.run_eq {α R : Type} : ∀ (p : Prog α) (h : H) (l : Log) (K : α → H → Log → Option R), p.run h l K = match p.exec h l with
    | some r => K r.1 r.2.1 r.2.2
    | none => none
  | .ret a, h, l, K => rfl
  | .fail, _, _, _ => rfl
  | .cond b x y, h, l, K => by
    cases b
    · simp only [Prog.run, Prog.exec, cond_false, Bool.false_eq_true, if_false]; exact Prog.run_eq y h l K
    · simp only [Prog.run, Prog.exec, cond_true, if_true]; exact Prog.run_eq x h l K
  | .get i k, h, l, K => by
    simp only [Prog.run, Prog.exec]
    cases look h.bs i with
    | none => rfl
    | some b => exact Prog.run_eq (k b) h _ K
  | .set i b k, h, l, K => by simp only [Prog.run, Prog.exec]; exact Prog.run_eq k _ _ K
  | .new b k, h, l, K => by simp only [Prog.run, Prog.exec]; exact Prog.run_eq (k h.next) _ _ K

theorem exec_chk {α : Type} {b : Bool} {k : Prog α} {h : H} {l : Log} {r : α × H × Log} (hx : (Prog.chk b k).exec h l = some r) : b = true ∧ k.exec h l = some r := by
  cases b
  · simp [Prog.chk, Prog.exec] at hx
  · exact ⟨rfl, hx⟩
theorem exec_need {α : Type} {b : Bool} {k : Prog α} {h : H} {l : Log} {r : α × H × Log} (hx : (Prog.need b k).exec h l = some r) : b = true ∧ k.exec h l = some r := by
  cases b
  · simp [Prog.need, Prog.exec] at hx
  · exact ⟨rfl, hx⟩
theorem exec_get {α : Type} {i : Nat} {k : Blk → Prog α} {h : H} {l : Log} {r : α × H × Log} (hx : (Prog.get i k).exec h l = some r) : ∃ b, look h.bs i = some b ∧ (k b).exec h ((i, false) :: l) = some r := by
  simp only [Prog.exec] at hx
  cases hb : look h.bs i with
  | none => simp [hb] at hx
  | some b => exact ⟨b, rfl, by simpa [hb] using hx⟩
theorem exec_fail {α : Type} {h : H} {l : Log} {r : α × H × Log} (hx : (Prog.fail : Prog α).exec h l = some r) : False := by simp [Prog.exec] at hx
theorem exec_bind {α β : Type} : ∀ (p : Prog α) (f : α → Prog β) (h : H) (l : Log), (p.bind f).exec h l = match p.exec h l with
    | some r => (f r.1).exec r.2.1 r.2.2
    | none => none
  | .ret a, f, h, l => rfl
  | .fail, _, _, _ => rfl
  | .cond b x y, f, h, l => by
    cases b
    · simp only [Prog.bind, Prog.exec, Bool.false_eq_true, if_false]; exact exec_bind y f h l
    · simp only [Prog.bind, Prog.exec, if_true]; exact exec_bind x f h l
  | .get i k, f, h, l => by
    simp only [Prog.bind, Prog.exec]
    cases look h.bs i with
    | none => rfl
    | some b => exact exec_bind (k b) f h _
  | .set i b k, f, h, l => by simp only [Prog.bind, Prog.exec]; exact exec_bind k f _ _
  | .new b k, f, h, l => by simp only [Prog.bind, Prog.exec]; exact exec_bind (k h.next) f _ _

/-! ### Blocks in memory -/

/-- the block that a handle owns -/
def Hdl.blk : Hdl → Option Nat
  | .box b _ => some b
  | .row (some a) _ cap _ => if cap = 0 then none else some a.block
  | .row none _ _ _ => none
  | .map r => some r

/-- a row's handle: where it begins, if it has anything -/
def Hdl.ok : Hdl → Prop
  | .row a len cap _ => len ≤ cap ∧ cap ≤ most ∧ (0 < cap → ∃ ad, a = some ad ∧ ad.spot = none)
  | _ => True

def Blk.live : Blk → Bool
  | .box .. => true
  | .row .. => true
  | .map .. => true
  | _ => false

def MapRel (w : World) (Im : Nat → Prop) (kt vt : Ty) : List MapEntry → List (D × D) → Prop
  | [], es => es = []
  | e :: l, es => ∃ k v es', es = (k, v) :: es' ∧ Rep w Im kt [e.key] k ∧ (∃ cs, e.val = mkVal vt cs ∧ Rep w Im vt cs v) ∧ MapRel w Im kt vt l es'

theorem MapRel.mono {w w' : World} {Im Im' : Nat → Prop} (hi : ∀ b, Im b → Im' b) (hw : ∀ b, Im b → w'.heap[b]? = w.heap[b]?) {kt vt : Ty} : ∀ {l : List MapEntry} {es : List (D × D)}, MapRel w Im kt vt l es → MapRel w' Im' kt vt l es
  | [], _, h => h
  | _ :: _, _, ⟨k, v, es', h, hk, ⟨cs, hc, hv⟩, hr⟩ => ⟨k, v, es', h, hk.mono hi hw, ⟨cs, hc, hv.mono hi hw⟩, hr.mono hi hw⟩

/-- a row as it lies in memory -/
def RowAt (w : World) (Im : Nat → Prop) (a : Option Addr) (cap : Nat) (t : Ty) (xs : List D) : Prop :=
  xs.length ≤ cap ∧ cap ≤ most ∧ (cap = 0 ∨ ∃ ad c e f, a = some ad ∧ ad.spot = none ∧ w.heap[ad.block]? = some (.cells c e f) ∧ Fz c f ∧ ad.off + cap * t.size ≤ c.size ∧
    RepN (Rep w Im t) t.size ((c.toList.drop ad.off).take (xs.length * t.size)) xs)

theorem RowAt.mono {w w' : World} {Im Im' : Nat → Prop} (hi : ∀ b, Im b → Im' b) (hw : ∀ b, Im b → w'.heap[b]? = w.heap[b]?) {a : Option Addr} {cap : Nat} {t : Ty} {xs : List D}
    (hb : ∀ x, (Hdl.row a xs.length cap t).blk = some x → w'.heap[x]? = w.heap[x]?) (h : RowAt w Im a cap t xs) : RowAt w' Im' a cap t xs := by
  obtain ⟨h1, h2, h3⟩ := h
  refine ⟨h1, h2, ?_⟩
  rcases h3 with h3 | ⟨ad, c, e, f, ha, hs, hh, hf, ho, hr⟩
  · exact .inl h3
  · by_cases hc : cap = 0
    · exact .inl hc
    · refine .inr ⟨ad, c, e, f, ha, hs, ?_, hf, ho, hr.mono fun _ _ => Rep.mono hi hw⟩
      rw [← hh]
      exact hb _ (by simp [Hdl.blk, ha, hc])

def brel (w : World) (μ : Mu) (Im : Nat → Prop) (i : Nat) : Blk → Prop
  | .box t v => ∃ b c e f x, μ i = some (.box b t) ∧ w.heap[b]? = some (.cells c e f) ∧ Fz c f ∧ v.fits t = true ∧ vrel w μ Im v x ∧ cellsOf x = c.toList
  | .row t xs => ∃ a cap, μ i = some (.row a xs.length cap t) ∧ RowAt w Im a cap t xs
  | .rrow t xs => ∃ a cap, μ i = some (.row a xs.length cap t) ∧ RowAt w Im a cap t xs ∧ ∀ x, (Hdl.row a xs.length cap t).blk = some x → Im x
  | .map kt vt es => ∃ r ents clock, μ i = some (.map r) ∧ w.heap[r]? = some (.map ents clock) ∧ MapRel w Im kt vt ents.toList es
  | .gone => True

theorem brel.later {w w' : World} {μ μ' : Mu} {Im Im' : Nat → Prop} (hl : Later w μ Im w' μ' Im') {i : Nat} {b : Blk}
    (hb : b.live = true → ∀ h x, μ i = some h → h.blk = some x → w'.heap[x]? = w.heap[x]?) (h : brel w μ Im i b) : brel w' μ' Im' i b := by
  cases b with
  | box t v =>
    obtain ⟨b, c, e, f, x, hm, hh, hf, hv, hr, hc⟩ := h
    exact ⟨b, c, e, f, x, hl.mu _ _ hm, (hb rfl _ _ hm rfl).trans hh, hf, hv, hr.later hl, hc⟩
  | row t xs =>
    obtain ⟨a, cap, hm, hr⟩ := h
    exact ⟨a, cap, hl.mu _ _ hm, hr.mono hl.im hl.heap fun x hx => hb rfl _ _ hm hx⟩
  | rrow t xs =>
    obtain ⟨a, cap, hm, hr, hi⟩ := h
    exact ⟨a, cap, hl.mu _ _ hm, hr.mono hl.im hl.heap fun x hx => hl.heap _ (hi x hx), fun x hx => hl.im _ (hi x hx)⟩
  | map kt vt es =>
    obtain ⟨r, ents, clock, hm, hh, hr⟩ := h
    exact ⟨r, ents, clock, hl.mu _ _ hm, (hb rfl _ _ hm rfl).trans hh, hr.mono hl.im hl.heap⟩
  | gone => trivial

/-! ### A whole state -/

structure Cx where
  n : Nat
  w0 : World
  F : Nat → Prop
  Im0 : Nat → Prop

/-- the heap's part -/
structure HRel (C : Cx) (hp : Nat → Option Blk) (w : World) (μ : Mu) (Im : Nat → Prop) : Prop where
  ok : ∀ i k, μ i = some k → k.ok
  blk : ∀ i b, hp i = some b → brel w μ Im i b
  dis : ∀ i j b c h k x, hp i = some b → b.live = true → hp j = some c → c.live = true → μ i = some h → μ j = some k → h.blk = some x → k.blk = some x → i = j
  own : ∀ i b h x, hp i = some b → b.live = true → μ i = some h → h.blk = some x → ¬ Im x ∧ x < w.heap.size ∧ (C.F x ∨ C.w0.heap.size ≤ x)
  im : ∀ x, Im x → x < w.heap.size ∧ (C.Im0 x ∨ C.F x ∨ C.w0.heap.size ≤ x)
  im0 : ∀ x, C.Im0 x → Im x
  frame : ∀ x, x < C.w0.heap.size → ¬ C.F x → w.heap[x]? = C.w0.heap[x]?
  size : C.w0.heap.size ≤ w.heap.size
  os : w.os = C.w0.os
  tape : w.tape = C.w0.tape
  output : w.output = C.w0.output

/-- the slots' part -/
structure SRel (C : Cx) (fr : Nat → Option V) (a : Act) (w : World) (μ : Mu) (Im : Nat → Prop) : Prop where
  slot : ∀ d v, fr d = some v → vrel w μ Im v (a.tmps.getD d undef)
  n : a.tmps.size = C.n
  defers : a.defers = []

theorem SRel.later {C : Cx} {fr : Nat → Option V} {a : Act} {w w' : World} {μ μ' : Mu} {Im Im' : Nat → Prop} (h : SRel C fr a w μ Im) (hl : Later w μ Im w' μ' Im') : SRel C fr a w' μ' Im' :=
  ⟨fun d v hd => (h.slot d v hd).later hl, h.n, h.defers⟩

/-- a change of the world that leaves the owned blocks of all but one place, and what nobody writes -/
structure Chg (w w' : World) (x : Option Nat) : Prop where
  size : w'.heap.size = w.heap.size
  heap : ∀ y, some y ≠ x → w'.heap[y]? = w.heap[y]?
  os : w'.os = w.os
  tape : w'.tape = w.tape
  output : w'.output = w.output

theorem Chg.none {w w' : World} (h : w'.heap = w.heap) (ho : w'.os = w.os) (ht : w'.tape = w.tape) (hu : w'.output = w.output) : Chg w w' Option.none :=
  ⟨by rw [h], fun y _ => by rw [h], ho, ht, hu⟩

section
variable {C : Cx} {hp hp' : Nat → Option Blk} {w w' : World} {μ μ' : Mu} {Im : Nat → Prop}

/-- the block of a live place is written -/
theorem HRel.write (h : HRel C hp w μ Im) {i : Nat} {b b' : Blk} (hb : hp i = some b) (hlv : b.live = true) {k : Hdl} (hk : μ i = some k) (hc : Chg w w' k.blk)
    (hp' : Nat → Option Blk) (he : ∀ j, hp' j = if i = j then some b' else hp j) (hb' : b'.live = true) (hn : (∀ y, Im y → w'.heap[y]? = w.heap[y]?) → brel w' μ Im i b') : HRel C hp' w' μ Im ∧ Later w μ Im w' μ Im := by
  have him : ∀ y, Im y → w'.heap[y]? = w.heap[y]? := fun y hy => hc.heap y fun e => (h.own i b k y hb hlv hk e.symm).1 hy
  have hl : Later w μ Im w' μ Im := ⟨fun _ _ h => h, fun _ h => h, him⟩
  refine ⟨⟨h.ok, ?_, ?_, ?_, ?_, h.im0, ?_, by rw [hc.size]; exact h.size, hc.os.trans h.os, hc.tape.trans h.tape, hc.output.trans h.output⟩, hl⟩
  · intro j c hj
    rw [he] at hj
    by_cases hij : i = j
    · rw [if_pos hij] at hj
      injection hj with hj; subst hj; subst hij
      exact hn him
    · rw [if_neg hij] at hj
      refine (h.blk j c hj).later hl fun hcl hh x hx hxb => hc.heap x fun e => hij ?_
      exact h.dis i j b c k hh x hb hlv hj hcl hk hx e.symm hxb
  · intro j1 j2 c1 c2 h1 h2 x e1 l1 e2 l2 m1 m2 b1 b2
    rw [he] at e1 e2
    by_cases i1 : i = j1
    · by_cases i2 : i = j2
      · exact i1.symm.trans i2
      · rw [if_neg i2] at e2
        subst i1
        exact h.dis i j2 b c2 h1 h2 x hb hlv e2 l2 m1 m2 b1 b2
    · rw [if_neg i1] at e1
      by_cases i2 : i = j2
      · subst i2
        exact h.dis j1 i c1 b h1 h2 x e1 l1 hb hlv m1 m2 b1 b2
      · rw [if_neg i2] at e2
        exact h.dis j1 j2 c1 c2 h1 h2 x e1 l1 e2 l2 m1 m2 b1 b2
  · intro j c hh x e1 l1 m1 b1
    rw [he] at e1
    rw [hc.size]
    by_cases i1 : i = j
    · subst i1; exact h.own i b hh x hb hlv m1 b1
    · rw [if_neg i1] at e1; exact h.own j c hh x e1 l1 m1 b1
  · intro x hx; rw [hc.size]; exact h.im x hx
  · intro x hx hF
    refine (hc.heap x fun e => ?_).trans (h.frame x hx hF)
    rcases (h.own i b k x hb hlv hk e.symm).2.2 with h1 | h1
    · exact hF h1
    · omega

/-- nothing that lies is written -/
theorem HRel.same (h : HRel C hp w μ Im) (hc : Chg w w' none) : HRel C hp w' μ Im ∧ Later w μ Im w' μ Im := by
  have hl : Later w μ Im w' μ Im := ⟨fun _ _ h => h, fun _ h => h, fun y _ => hc.heap y (by simp)⟩
  exact ⟨⟨h.ok, fun j c hj => (h.blk j c hj).later hl fun _ _ x _ _ => hc.heap x (by simp), h.dis, fun j c hh x e l m b => by rw [hc.size]; exact h.own j c hh x e l m b, fun x hx => by rw [hc.size]; exact h.im x hx, h.im0,
    fun x hx hF => (hc.heap x (by simp)).trans (h.frame x hx hF), by rw [hc.size]; exact h.size, hc.os.trans h.os, hc.tape.trans h.tape, hc.output.trans h.output⟩, hl⟩

/-- a place is dropped -/
theorem HRel.drop (h : HRel C hp w μ Im) (hs : ∀ j b, hp' j = some b → b.live = true → hp j = some b) (hd : ∀ j b, hp' j = some b → b.live = false → hp j = some b ∨ b = .gone) : HRel C hp' w μ Im :=
  ⟨h.ok, fun j b hj => by
    cases hb : b.live with
    | true => exact h.blk j b (hs j b hj hb)
    | false => rcases hd j b hj hb with h1 | rfl
               · exact h.blk j b h1
               · trivial,
   fun i j b c hh k x e l e' l' => h.dis i j b c hh k x (hs i b e l) l (hs j c e' l') l', fun i b hh x e l => h.own i b hh x (hs i b e l) l, h.im, h.im0, h.frame, h.size, h.os, h.tape, h.output⟩

/-- a new block -/
theorem HRel.new (h : HRel C hp w μ Im) {i : Nat} (hi : μ i = none) {b : Blk} {k : Hdl} (hsz : w.heap.size ≤ w'.heap.size) (hold : ∀ y, y < w.heap.size → w'.heap[y]? = w.heap[y]?)
    (ho : w'.os = w.os) (ht : w'.tape = w.tape) (hu : w'.output = w.output)
    (hko : k.ok) (hkb : ∀ x, k.blk = some x → w.heap.size ≤ x ∧ x < w'.heap.size) (hp' : Nat → Option Blk) (he : ∀ j, hp' j = if i = j then some b else hp j)
    (hb : Later w μ Im w' (fun j => if i = j then some k else μ j) Im → brel w' (fun j => if i = j then some k else μ j) Im i b) :
    HRel C hp' w' (fun j => if i = j then some k else μ j) Im ∧ Later w μ Im w' (fun j => if i = j then some k else μ j) Im := by
  have hl : Later w μ Im w' (fun j => if i = j then some k else μ j) Im := by
    refine ⟨fun j hh hj => ?_, fun _ h => h, fun y hy => hold y (h.im y hy).1⟩
    by_cases e : i = j
    · subst e; rw [hi] at hj; simp at hj
    · simp only [if_neg e]; exact hj
  refine ⟨⟨?_, ?_, ?_, ?_, fun x hx => ⟨Nat.lt_of_lt_of_le (h.im x hx).1 hsz, (h.im x hx).2⟩, h.im0, fun x hx hF => (hold x (Nat.lt_of_lt_of_le hx h.size)).trans (h.frame x hx hF), Nat.le_trans h.size hsz, ho.trans h.os, ht.trans h.tape, hu.trans h.output⟩, hl⟩
  · intro j k' hj
    by_cases e : i = j
    · simp only [if_pos e, Option.some.injEq] at hj; subst hj; exact hko
    · simp only [if_neg e] at hj; exact h.ok j k' hj
  · intro j c hj
    rw [he] at hj
    by_cases e : i = j
    · rw [if_pos e] at hj; injection hj with hj; subst hj; subst e; exact hb hl
    · rw [if_neg e] at hj
      exact (h.blk j c hj).later hl fun hcl hh x hx hxb => hold x (h.own j c hh x hj hcl hx hxb).2.1
  · intro j1 j2 c1 c2 h1 h2 x e1 l1 e2 l2 m1 m2 b1 b2
    rw [he] at e1 e2
    by_cases i1 : i = j1
    · by_cases i2 : i = j2
      · exact i1.symm.trans i2
      · rw [if_neg i2] at e2
        simp only [if_pos i1, Option.some.injEq] at m1
        simp only [if_neg i2] at m2
        subst m1
        have := (hkb x b1).1
        have := (h.own j2 c2 h2 x e2 l2 m2 b2).2.1
        omega
    · rw [if_neg i1] at e1
      simp only [if_neg i1] at m1
      by_cases i2 : i = j2
      · simp only [if_pos i2, Option.some.injEq] at m2
        subst m2
        have := (hkb x b2).1
        have := (h.own j1 c1 h1 x e1 l1 m1 b1).2.1
        omega
      · rw [if_neg i2] at e2
        simp only [if_neg i2] at m2
        exact h.dis j1 j2 c1 c2 h1 h2 x e1 l1 e2 l2 m1 m2 b1 b2
  · intro j c hh x e1 l1 m1 b1
    rw [he] at e1
    by_cases i1 : i = j
    · simp only [if_pos i1, Option.some.injEq] at m1
      subst m1
      have h1 := hkb x b1
      refine ⟨fun hx => ?_, h1.2, .inr (Nat.le_trans h.size h1.1)⟩
      have := (h.im x hx).1
      omega
    · rw [if_neg i1] at e1
      simp only [if_neg i1] at m1
      have h1 := h.own j c hh x e1 l1 m1 b1
      exact ⟨h1.1, Nat.lt_of_lt_of_le h1.2.1 hsz, h1.2.2⟩

/-- a row is frozen: from now on nobody writes it -/
theorem HRel.freeze (h : HRel C hp w μ Im) {i : Nat} {t : Ty} {xs : List D} (hi : hp i = some (.row t xs)) (hp' : Nat → Option Blk) (he : ∀ j, hp' j = if i = j then some (.rrow t xs) else hp j) :
    ∃ Im', HRel C hp' w μ Im' ∧ Later w μ Im w μ Im' ∧ ∀ x, Im' x → Im x ∨ ∃ k, μ i = some k ∧ k.blk = some x := by
  obtain ⟨a, cap, hm, hr⟩ := h.blk i _ hi
  refine ⟨fun x => Im x ∨ (Hdl.row a xs.length cap t).blk = some x, ?_⟩
  have hl : Later w μ Im w μ (fun x => Im x ∨ (Hdl.row a xs.length cap t).blk = some x) := ⟨fun _ _ h => h, fun _ h => .inl h, fun _ _ => rfl⟩
  refine ⟨⟨h.ok, ?_, ?_, ?_, ?_, fun x hx => .inl (h.im0 x hx), h.frame, h.size, h.os, h.tape, h.output⟩, hl, fun x hx => hx.imp id fun hb => ⟨_, hm, hb⟩⟩
  · intro j c hj
    rw [he] at hj
    by_cases e : i = j
    · rw [if_pos e] at hj; injection hj with hj; subst hj; subst e
      exact ⟨a, cap, hm, hr.mono hl.im hl.heap (fun _ _ => rfl), fun x hx => .inr hx⟩
    · rw [if_neg e] at hj
      exact (h.blk j c hj).later hl fun _ _ _ _ _ => rfl
  · intro j1 j2 c1 c2 h1 h2 x e1 l1 e2 l2
    rw [he] at e1 e2
    by_cases i1 : i = j1
    · rw [if_pos i1] at e1; injection e1 with e1; subst e1; simp [Blk.live] at l1
    · by_cases i2 : i = j2
      · rw [if_pos i2] at e2; injection e2 with e2; subst e2; simp [Blk.live] at l2
      · rw [if_neg i1] at e1; rw [if_neg i2] at e2
        exact h.dis j1 j2 c1 c2 h1 h2 x e1 l1 e2 l2
  · intro j c hh x e1 l1 m1 b1
    rw [he] at e1
    by_cases i1 : i = j
    · rw [if_pos i1] at e1; injection e1 with e1; subst e1; simp [Blk.live] at l1
    · rw [if_neg i1] at e1
      have h1 := h.own j c hh x e1 l1 m1 b1
      refine ⟨fun hx => ?_, h1.2⟩
      rcases hx with hx | hx
      · exact h1.1 hx
      · exact i1 (h.dis i j _ c _ hh x hi rfl e1 l1 hm m1 hx b1)
  · intro x hx
    rcases hx with hx | hx
    · exact h.im x hx
    · have h1 := h.own i _ _ x hi rfl hm hx
      exact ⟨h1.2.1, .inr h1.2.2⟩
end
end Go.Ev

/- Loads, stores and places: the evaluator's against the model's. -/
namespace Go.Ev
open Go

mutual
theorem Rep.one {w : World} {Im : Nat → Prop} : ∀ {t : Ty} {cs : List Value} {d : D}, Rep w Im t cs d → ∀ c ∈ cs, c.oneCell' = true
  | .int _, _, _, ⟨_, h, _⟩ => by subst h; simp [Value.oneCell']
  | .bool, _, _, ⟨_, h, _⟩ => by subst h; simp [Value.oneCell']
  | .str, _, _, ⟨_, h, _⟩ => by subst h; simp [Value.oneCell']
  | .struct ts, _, _, ⟨_, _, h⟩ => Reps.one h
  | .arr n t, _, _, ⟨ds, _, _, h⟩ => go t ds _ h
  | .slice _, _, _, ⟨_, _, _, _, h, _⟩ => by subst h; simp [Value.oneCell']
  | .ptr, _, _, h => by simp [Rep] at h
  | .map _ _, _, _, h => by simp [Rep] at h
  | .fn, _, _, h => by simp [Rep] at h
  | .ifc, _, _, h => by simp [Rep] at h
where
  go (t : Ty) : ∀ (ds : List D) (cs : List Value), RepN (Rep w Im t) t.size cs ds → ∀ c ∈ cs, c.oneCell' = true
  | [], cs, h => by simp only [RepN] at h; simp [h]
  | d :: ds, cs, ⟨_, h, hr⟩ => by
    intro c hc
    rw [← List.take_append_drop t.size cs, List.mem_append] at hc
    exact hc.elim (Rep.one h c) (go t ds _ hr c)
theorem Reps.one {w : World} {Im : Nat → Prop} : ∀ {ts : List Ty} {cs : List Value} {ds : List D}, Reps w Im ts cs ds → ∀ c ∈ cs, c.oneCell' = true
  | [], _, _, ⟨h, _⟩ => by simp [h]
  | t :: ts, cs, _, ⟨_, _, _, _, h, hr⟩ => by
    intro c hc
    rw [← List.take_append_drop t.size cs, List.mem_append] at hc
    exact hc.elim (Rep.one h c) (Reps.one hr c)
end

section
variable {P : Program} {C : Cx} {w : World} {μ : Mu} {Im : Nat → Prop} {h : H} {l : Log}

theorem fits_one : ∀ {v : V} {t : Ty} {x : Value}, vrel w μ Im v x → v.fits t = true → ∀ c ∈ cellsOf x, c.oneCell' = true
  | .any, t, x, _, hf => by simp [V.fits] at hf
  | .dat t' d, t, x, ⟨cs, hv, hr⟩, _ => by subst hv; rw [cells_mkVal hr]; exact hr.one
  | .agg ts vs, t, x, ⟨xs, hv, ha, hr⟩, _ => by
    subst hv
    simp only [cellsOf, Value.cells]
    exact go ts vs xs ha hr
  | .nil, t, x, hv, _ => by simp only [vrel] at hv; subst hv; simp [cellsOf, Value.cells, Value.oneCell']
  | .emp _, t, x, ⟨_, hv⟩, _ => by subst hv; simp [cellsOf, Value.cells, Value.oneCell']
  | .all .., t, x, ⟨_, _, _, hv⟩, _ => by subst hv; simp [cellsOf, Value.cells, Value.oneCell']
  | .sub .., t, x, ⟨_, _, _, _, _, _, _, hv, _⟩, _ => by subst hv; simp [cellsOf, Value.cells, Value.oneCell']
  | .asl .., t, x, ⟨_, _, _, _, _, _, _, hv, _⟩, _ => by subst hv; simp [cellsOf, Value.cells, Value.oneCell']
  | .ptr .., t, x, ⟨_, hv, _⟩, _ => by subst hv; simp [cellsOf, Value.cells, Value.oneCell']
  | .rop .., t, x, ⟨_, _, _, _, hv, _⟩, _ => by subst hv; simp [cellsOf, Value.cells, Value.oneCell']
  | .map _, t, x, ⟨_, _, hv⟩, _ => by subst hv; simp [cellsOf, Value.cells, Value.oneCell']
  | .fn .., t, x, ⟨_, hv, _⟩, _ => by subst hv; simp [cellsOf, Value.cells, Value.oneCell']
  | .ifc .., t, x, ⟨_, hv, _⟩, _ => by subst hv; simp [cellsOf, Value.cells, Value.oneCell']
  | .nilp, t, x, hv, _ => by simp only [vrel] at hv; subst hv; simp [cellsOf, Value.cells, Value.oneCell']
  | .nilm, t, x, hv, _ => by simp only [vrel] at hv; subst hv; simp [cellsOf, Value.cells, Value.oneCell']
  | .nilf, t, x, hv, _ => by simp only [vrel] at hv; subst hv; simp [cellsOf, Value.cells, Value.oneCell']
  | .nili, t, x, hv, _ => by simp only [vrel] at hv; subst hv; simp [cellsOf, Value.cells, Value.oneCell']
  | .tup _, t, x, _, hf => by simp [V.fits] at hf
where
  go : ∀ (ts : List Ty) (vs : List V) (xs : List Value), allFit ts vs = true → vrels w μ Im vs xs → ∀ c ∈ flat xs, c.oneCell' = true
  | [], [], xs, _, h => by simp only [vrels] at h; subst h; simp [flat]
  | t :: ts, v :: vs, xs, ha, h => by
    obtain ⟨x, xs', rfl, hv, hr⟩ := h
    simp only [allFit, Bool.and_eq_true] at ha
    intro c hc
    simp only [flat, List.flatMap_cons, List.mem_append] at hc
    exact hc.elim (fits_one hv ha.1 c) (go ts vs xs' ha.2 hr c)
  | [], _ :: _, _, ha, _ => by simp [allFit] at ha
  | _ :: _, [], _, ha, _ => by simp [allFit] at ha

/-! ### Rows -/

/-- what is known of an element of a row -/
theorem RowAt.elem {a : Option Addr} {cap : Nat} {t : Ty} {xs : List D} (hr : RowAt w Im a cap t xs) {k : Nat} (hk : k < xs.length) :
    ∃ ad c e f, a = some ad ∧ ad.spot = none ∧ w.heap[ad.block]? = some (.cells c e f) ∧ Fz c f ∧ ad.off + cap * t.size ≤ c.size ∧ ad.off + (k * t.size + t.size) ≤ c.size ∧
      Rep w Im t ((c.toList.drop (ad.off + k * t.size)).take t.size) (dnth xs k) ∧ RepN (Rep w Im t) t.size ((c.toList.drop ad.off).take (xs.length * t.size)) xs := by
  obtain ⟨h1, h2, h3⟩ := hr
  rcases h3 with h3 | ⟨ad, c, e, f, ha, hs, hh, hf, ho, hn⟩
  · omega
  · have hm : (k + 1) * t.size ≤ xs.length * t.size := Nat.mul_le_mul_right _ hk
    have hm2 : xs.length * t.size ≤ cap * t.size := Nat.mul_le_mul_right _ h1
    rw [Nat.succ_mul] at hm
    refine ⟨ad, c, e, f, ha, hs, hh, hf, ho, by omega, ?_, hn⟩
    have := hn.get hk
    rwa [drop_take_drop _ _ _ _ _ (by omega)] at this

theorem ok_load {ty : Ty} {t : TypeId} {av v : V} {a : Value} {h' : H} {l' : Log} (hty : TyOK P ty t) (hR : HRel C (look h.bs) w μ Im) (ha : vrel w μ Im av a)
    (hx : (evLoad ty av).exec h l = some (v, h', l')) : h' = h ∧ v.fits ty = true ∧ ∃ x, (Instr.loadAt t a).run P w = .ok x w ∧ vrel w μ Im v x := by
  cases av <;> simp only [evLoad] at hx <;> try exact (exec_fail hx).elim
  case ptr t' i p =>
    replace hx := exec_chk hx; obtain ⟨hc, hx⟩ := hx
    rw [Ty.beq_iff] at hc; subst hc
    replace hx := exec_get hx; obtain ⟨b, hb, hx⟩ := hx
    have hbr := hR.blk i b hb
    obtain ⟨ad, rfl, hspot, hptr⟩ := ha
    obtain ⟨ab, ao, as⟩ := ad
    simp only at hspot; subst hspot
    have hrow : ∀ (te : Ty) (xs : List D), (∃ a cap, μ i = some (.row a xs.length cap te) ∧ RowAt w Im a cap te xs) →
        (match p with
          | k :: p => match dget te (dnth xs k) p with
            | some (t'', d) => Prog.chk (ty.beq t'') (.ret (V.ofD t'' d))
            | none => .fail
          | [] => .fail).exec h ((i, false) :: l) = some (v, h', l') →
        h' = h ∧ v.fits ty = true ∧ ∃ x, (Instr.loadAt t (.pointer (some ⟨ab, ao, none⟩))).run P w = .ok x w ∧ vrel w μ Im v x := by
      intro te xs ⟨a, cap, hm, hr⟩ hx
      rcases hptr with ⟨b, tb, hm', _⟩ | ⟨ad, L, cap', te', k, p', o, hm', rfl, hk, hpl, hbl, hof⟩
      · rw [hm] at hm'; simp at hm'
      · rw [hm] at hm'
        simp only [Option.some.injEq, Hdl.row.injEq] at hm'
        obtain ⟨rfl, rfl, rfl, rfl⟩ := hm'
        obtain ⟨ad', c, e, f, ha', hs, hh, hf, ho, ho2, hrep, _⟩ := hr.elem hk
        simp only [Option.some.injEq] at ha'; subst ha'
        obtain ⟨d, hd, hrd⟩ := dget_rep hrep hpl
        simp only [hd] at hx
        replace hx := exec_chk hx; obtain ⟨_, hx⟩ := hx
        simp only [Prog.exec, Option.some.injEq, Prod.mk.injEq] at hx
        obtain ⟨rfl, rfl, _⟩ := hx
        have hle := place_le hpl
        simp only at hbl hof; subst hbl; subst hof
        refine ⟨rfl, ofD_fits _ _, _, ?_, ofD_rel hrd⟩
        simp only [Instr.loadAt, Instr.sureAddr, Sem.run_bind, Sem.run_pure, Result.andThen_ok]
        rw [run_loadVar hty hh (by omega), drop_take_drop _ _ _ _ _ hle, Nat.add_assoc]
    cases b with
    | box tb bv =>
      simp only at hx
      cases hg : vget bv p with
      | none => simp [hg, Prog.exec] at hx
      | some y =>
        simp only [hg] at hx
        replace hx := exec_chk hx; obtain ⟨hf, hx⟩ := hx
        simp only [Prog.exec, Option.some.injEq, Prod.mk.injEq] at hx
        obtain ⟨rfl, rfl, _⟩ := hx
        obtain ⟨b, c, e, f, x, hm, hh, hfz, hft, hvr, hc⟩ := hbr
        rcases hptr with ⟨b', tb', hm', hbl, hpl⟩ | ⟨ad, L, cap', te', k, p', o, hm', _⟩
        · rw [hm] at hm'
          simp only [Option.some.injEq, Hdl.box.injEq] at hm'
          obtain ⟨rfl, rfl⟩ := hm'
          simp only at hbl hpl; subst hbl
          obtain ⟨z, hz, hfz', hcz⟩ := vget_rel hvr hft hpl hg
          have hle := place_le hpl
          have hsz := (fits_size hvr hft).1
          refine ⟨rfl, hf, z, ?_, hz⟩
          simp only [Instr.loadAt, Instr.sureAddr, Sem.run_bind, Sem.run_pure, Result.andThen_ok]
          rw [run_loadVar hty hh (by rw [← Array.length_toList, ← hc]; omega), ← hc, ← hcz]
          rw [← (fits_size hz hfz').2]
        · rw [hm] at hm'; simp at hm'
    | row te xs => exact hrow te xs hbr hx
    | rrow te xs => obtain ⟨a, cap, hm, hr, _⟩ := hbr; exact hrow te xs ⟨a, cap, hm, hr⟩ hx
    | map _ _ _ => exact (exec_fail hx).elim
    | gone => exact (exec_fail hx).elim
  case rop t' d =>
    replace hx := exec_chk hx; obtain ⟨hc, hx⟩ := hx
    rw [Ty.beq_iff] at hc; subst hc
    simp only [Prog.exec, Option.some.injEq, Prod.mk.injEq] at hx
    obtain ⟨rfl, rfl, _⟩ := hx
    obtain ⟨ad, c, e, f, rfl, hs, hi, hh, ho, hr⟩ := ha
    obtain ⟨ab, ao, as⟩ := ad
    simp only at hs; subst hs
    refine ⟨rfl, ofD_fits _ _, _, ?_, ofD_rel hr⟩
    simp only [Instr.loadAt, Instr.sureAddr, Sem.run_bind, Sem.run_pure, Result.andThen_ok]
    exact run_loadVar hty hh ho

end
end Go.Ev

/- Data out of values (with the rows that they lie in), freezing, stores. -/
namespace Go.Ev
open Go

section
variable {P : Program} {C : Cx} {w : World} {μ : Mu} {Im : Nat → Prop}

/-- a value reads as a datum wherever the rows that it lies in are no longer written -/
def AbOk (hp : Nat → Option Blk) (w : World) (μ : Mu) (Im : Nat → Prop) (t : Ty) (cs : List Value) (d : D) (new : List Nat) : Prop :=
  (∀ i ∈ new, ∃ te xs, hp i = some (.row te xs)) ∧
  ∀ Im' : Nat → Prop, (∀ y, Im y → Im' y) → (∀ i ∈ new, ∀ k y, μ i = some k → k.blk = some y → Im' y) → Rep w Im' t cs d

theorem rowRep {a : Option Addr} {cap : Nat} {t : Ty} {xs : List D} (hr : RowAt w Im a cap t xs) {Im' : Nat → Prop} (hi : ∀ y, Im y → Im' y) (hb : ∀ y, (Hdl.row a xs.length cap t).blk = some y → Im' y) :
    Rep w Im' (.slice t) [.slice a xs.length cap] (.r xs) := by
  refine ⟨a, xs.length, cap, xs, rfl, rfl, rfl, hr.1, hr.2.1, ?_⟩
  rcases hr.2.2 with h | ⟨ad, c, e, f, ha, hs, hh, _, ho, hn⟩
  · have := hr.1; exact .inl (by omega)
  · by_cases hc : cap = 0
    · have := hr.1; exact .inl (by omega)
    · have hm : xs.length * t.size ≤ cap * t.size := Nat.mul_le_mul_right _ hr.1
      exact .inr ⟨ad, c, e, f, ha, hs, hb _ (by simp [Hdl.blk, ha, hc]), hh, by omega, hn.mono fun _ _ => Rep.mono hi fun _ _ => rfl⟩

theorem subRep {a a' : Option Addr} {cap off len : Nat} {t : Ty} {xs : List D} (hr : RowAt w Im a cap t xs) (hl : off + len ≤ xs.length) (ha' : off < cap → a' = a.map (·.add (off * t.size))) {Im' : Nat → Prop}
    (hi : ∀ y, Im y → Im' y) (hb : ∀ y, (Hdl.row a xs.length cap t).blk = some y → Im' y) : Rep w Im' (.slice t) [.slice a' len (cap - off)] (.r ((xs.drop off).take len)) := by
  have hlen : ((xs.drop off).take len).length = len := by simp; omega
  refine ⟨a', len, cap - off, _, rfl, rfl, hlen, by have := hr.1; omega, by have := hr.2.1; omega, ?_⟩
  by_cases h0 : len = 0
  · exact .inl h0
  · rcases hr.2.2 with h | ⟨ad, c, e, f, ha, hs, hh, _, ho, hn⟩
    · have := hr.1; omega
    · have hc : off < cap := by have := hr.1; omega
      have hm : (off + len) * t.size ≤ cap * t.size := Nat.mul_le_mul_right _ (by have := hr.1; omega)
      rw [Nat.add_mul] at hm
      refine .inr ⟨⟨ad.block, ad.off + off * t.size, none⟩, c, e, f, ?_, rfl, hb _ (by simp [Hdl.blk, ha]; omega), hh, by simp only; omega, ?_⟩
      · rw [ha' hc, ha]; simp [addr_add' hs]
      · have h2 := ((hn.drop off).take len).mono fun cs d => Rep.mono (Im' := Im') hi (fun _ _ => rfl) (t := t) (cs := cs) (d := d)
        have hm2 : xs.length * t.size ≤ cap * t.size := Nat.mul_le_mul_right _ hr.1
        have hm3 : (off + len) * t.size ≤ xs.length * t.size := Nat.mul_le_mul_right _ hl
        rw [Nat.add_mul] at hm3
        rw [drop_take_drop _ _ _ _ _ (by omega)] at h2
        exact h2

mutual
theorem exec_abD {β : Type} {h : H} (hR : HRel C (look h.bs) w μ Im) : ∀ {v : V} {t : Ty} {s : AS} {f : D → AS → Prog β} {l : Log} {r : β × H × Log}, (abD v t s f).exec h l = some r →
    ∀ {x : Value}, vrel w μ Im v x → ∃ d new l', (f d { s with frz := new ++ s.frz }).exec h l' = some r ∧ v.fits t = true ∧ AbOk (look h.bs) w μ Im t (cellsOf x) d new
  | .dat t' d, t, s, f, l, r, hx, x, hv => by
    simp only [abD] at hx
    replace hx := exec_chk hx; obtain ⟨hc, hx⟩ := hx
    obtain ⟨cs, rfl, hr⟩ := hv
    have hc' := hc
    rw [Ty.beq_iff] at hc; subst hc
    refine ⟨d, [], l, hx, hc', by simp, fun Im' hi _ => ?_⟩
    rw [cells_mkVal hr]
    exact hr.mono hi fun _ _ => rfl
  | .nil, t, s, f, l, r, hx, x, hv => by
    cases t <;> simp only [abD] at hx <;> try exact (exec_fail hx).elim
    simp only [vrel] at hv; subst hv
    exact ⟨.r [], [], l, hx, rfl, by simp, fun Im' hi _ => ⟨none, 0, 0, [], rfl, rfl, rfl, Nat.le_refl _, by decide, .inl rfl⟩⟩
  | .emp _, t, s, f, l, r, hx, x, hv => by
    cases t <;> simp only [abD] at hx <;> try exact (exec_fail hx).elim
    obtain ⟨a, rfl⟩ := hv
    exact ⟨.r [], [], l, hx, rfl, by simp, fun Im' hi _ => ⟨a, 0, 0, [], rfl, rfl, rfl, Nat.le_refl _, by decide, .inl rfl⟩⟩
  | .all t' i len, t, s, f, l, r, hx, x, hv => by
    simp only [abD] at hx
    replace hx := exec_chk hx; obtain ⟨hc, hx⟩ := hx
    have hc' := hc
    rw [Ty.beq_iff] at hc; subst hc
    replace hx := exec_get hx; obtain ⟨b, hb, hx⟩ := hx
    have hbr := hR.blk i b hb
    obtain ⟨a, cap, hm, rfl⟩ := hv
    cases b <;> simp only at hx <;> try exact (exec_fail hx).elim
    case row te xs =>
      replace hx := exec_chk hx; obtain ⟨hc, hx⟩ := hx
      rw [Ty.beq_iff] at hc; subst hc
      obtain ⟨a', cap', hm', hr⟩ := hbr
      rw [hm] at hm'
      simp only [Option.some.injEq, Hdl.row.injEq] at hm'
      obtain ⟨rfl, rfl, rfl, _⟩ := hm'
      exact ⟨.r xs, [i], _, hx, hc', by simp [hb], fun Im' hi hf => rowRep hr hi fun y hy => hf i (by simp) _ _ hm hy⟩
    case rrow te xs =>
      replace hx := exec_chk hx; obtain ⟨hc, hx⟩ := hx
      rw [Ty.beq_iff] at hc; subst hc
      obtain ⟨a', cap', hm', hr, hi0⟩ := hbr
      rw [hm] at hm'
      simp only [Option.some.injEq, Hdl.row.injEq] at hm'
      obtain ⟨rfl, rfl, rfl, _⟩ := hm'
      exact ⟨.r xs, [], _, hx, hc', by simp, fun Im' hi hf => rowRep hr hi fun y hy => hi _ (hi0 y hy)⟩
  | .sub t' i off len, t, s, f, l, r, hx, x, hv => by
    simp only [abD] at hx
    replace hx := exec_chk hx; obtain ⟨hc, hx⟩ := hx
    have hc' := hc
    rw [Ty.beq_iff] at hc; subst hc
    replace hx := exec_get hx; obtain ⟨b, hb, hx⟩ := hx
    have hbr := hR.blk i b hb
    obtain ⟨a, L, cap, a1, hm, hlen, hcap, rfl, ha1⟩ := hv
    cases b <;> simp only at hx <;> try exact (exec_fail hx).elim
    case row te xs =>
      replace hx := exec_chk hx; obtain ⟨hc, hx⟩ := hx
      rw [Ty.beq_iff] at hc; subst hc
      obtain ⟨a', cap', hm', hr⟩ := hbr
      rw [hm] at hm'
      simp only [Option.some.injEq, Hdl.row.injEq] at hm'
      obtain ⟨rfl, rfl, rfl, _⟩ := hm'
      exact ⟨_, [i], _, hx, hc', by simp [hb], fun Im' hi hf => subRep hr hlen ha1 hi fun y hy => hf i (by simp) _ _ hm hy⟩
    case rrow te xs =>
      replace hx := exec_chk hx; obtain ⟨hc, hx⟩ := hx
      rw [Ty.beq_iff] at hc; subst hc
      obtain ⟨a', cap', hm', hr, hi0⟩ := hbr
      rw [hm] at hm'
      simp only [Option.some.injEq, Hdl.row.injEq] at hm'
      obtain ⟨rfl, rfl, rfl, _⟩ := hm'
      exact ⟨_, [], _, hx, hc', by simp, fun Im' hi hf => subRep hr hlen ha1 hi fun y hy => hi _ (hi0 y hy)⟩
  | .agg ts vs, t, s, f, l, r, hx, x, hv => by
    simp only [abD] at hx
    replace hx := exec_chk hx; obtain ⟨hc, hx⟩ := hx
    have hc' := hc
    rw [Ty.beq_iff] at hc; subst hc
    obtain ⟨xs, rfl, ha, hr⟩ := hv
    obtain ⟨ds, new, l', hx', hab⟩ := exec_abDs hR hx hr
    refine ⟨.r ds, new, l', hx', hc', hab.1, fun Im' hi hf => ⟨ds, rfl, ?_⟩⟩
    simpa [cellsOf, Value.cells] using hab.2 Im' hi hf
  | .asl .., t, s, f, l, r, hx, x, hv => by simp only [abD] at hx; exact (exec_fail hx).elim
  | .ptr .., t, s, f, l, r, hx, x, hv => by simp only [abD] at hx; exact (exec_fail hx).elim
  | .rop .., t, s, f, l, r, hx, x, hv => by simp only [abD] at hx; exact (exec_fail hx).elim
  | .map _, t, s, f, l, r, hx, x, hv => by simp only [abD] at hx; exact (exec_fail hx).elim
  | .fn .., t, s, f, l, r, hx, x, hv => by simp only [abD] at hx; exact (exec_fail hx).elim
  | .ifc .., t, s, f, l, r, hx, x, hv => by simp only [abD] at hx; exact (exec_fail hx).elim
  | .nilp, t, s, f, l, r, hx, x, hv => by simp only [abD] at hx; exact (exec_fail hx).elim
  | .nilm, t, s, f, l, r, hx, x, hv => by simp only [abD] at hx; exact (exec_fail hx).elim
  | .nilf, t, s, f, l, r, hx, x, hv => by simp only [abD] at hx; exact (exec_fail hx).elim
  | .nili, t, s, f, l, r, hx, x, hv => by simp only [abD] at hx; exact (exec_fail hx).elim
  | .tup _, t, s, f, l, r, hx, x, hv => by simp only [abD] at hx; exact (exec_fail hx).elim
  | .any, t, s, f, l, r, hx, x, hv => by simp only [abD] at hx; exact (exec_fail hx).elim
theorem exec_abDs {β : Type} {h : H} (hR : HRel C (look h.bs) w μ Im) : ∀ {vs : List V} {ts : List Ty} {s : AS} {f : List D → AS → Prog β} {l : Log} {r : β × H × Log}, (abDs vs ts s f).exec h l = some r →
    ∀ {xs : List Value}, vrels w μ Im vs xs → ∃ ds new l', (f ds { s with frz := new ++ s.frz }).exec h l' = some r ∧
      (∀ i ∈ new, ∃ te xs, look h.bs i = some (.row te xs)) ∧
      ∀ Im' : Nat → Prop, (∀ y, Im y → Im' y) → (∀ i ∈ new, ∀ k y, μ i = some k → k.blk = some y → Im' y) → Reps w Im' ts (flat xs) ds
  | [], [], s, f, l, r, hx, xs, hv => by
    simp only [abDs] at hx
    simp only [vrels] at hv; subst hv
    exact ⟨[], [], l, hx, by simp, fun _ _ _ => ⟨rfl, rfl⟩⟩
  | v :: vs, t :: ts, s, f, l, r, hx, xs, hv => by
    simp only [abDs] at hx
    obtain ⟨x, xs', rfl, hv1, hv2⟩ := hv
    obtain ⟨d, new, l1, hx1, hf1, ha1, hb1⟩ := exec_abD hR hx hv1
    obtain ⟨ds, new2, l2, hx2, ha2, hb2⟩ := exec_abDs hR hx1 hv2
    have hsz := (fits_size hv1 hf1).1
    refine ⟨d :: ds, new2 ++ new, l2, by simpa [List.append_assoc] using hx2, fun i hi => (List.mem_append.1 hi).elim (ha2 i) (ha1 i), fun Im' hi hf => ?_⟩
    have h1 := hb1 Im' hi fun i hi' => hf i (List.mem_append.2 (.inr hi'))
    have h2 := hb2 Im' hi fun i hi' => hf i (List.mem_append.2 (.inl hi'))
    refine ⟨d, ds, rfl, ?_, ?_, ?_⟩
    · simp only [flat, List.flatMap_cons, List.length_append]; omega
    · simp only [flat, List.flatMap_cons]
      rw [List.take_append_of_le_length (by omega), List.take_of_length_le (by omega)]; exact h1
    · simp only [flat, List.flatMap_cons] at h2 ⊢
      rw [List.drop_append_of_le_length (by omega), List.drop_of_length_le (by omega)]; simpa using h2
  | [], _ :: _, s, f, l, r, hx, xs, hv => by simp only [abDs] at hx; exact (exec_fail hx).elim
  | _ :: _, [], s, f, l, r, hx, xs, hv => by simp only [abDs] at hx; exact (exec_fail hx).elim
end

/-- rows are frozen, one by one -/
theorem exec_freezeAll {β : Type} : ∀ {is : List Nat} {p : Prog β} {h : H} {l : Log} {r : β × H × Log} {Im : Nat → Prop}, (freezeAll is p).exec h l = some r → HRel C (look h.bs) w μ Im →
    ∃ h2 l2 Im', p.exec h2 l2 = some r ∧ HRel C (look h2.bs) w μ Im' ∧ Later w μ Im w μ Im' ∧ h2.next = h.next ∧ (∀ j, j ∉ is → look h2.bs j = look h.bs j) ∧
      (∀ i ∈ is, ∀ te xs, look h.bs i = some (.row te xs) → ∀ k y, μ i = some k → k.blk = some y → Im' y) ∧ (∀ x, Im' x → Im x ∨ ∃ i ∈ is, ∃ k, μ i = some k ∧ k.blk = some x)
  | [], p, h, l, r, Im, hx, hR => ⟨h, l, Im, hx, hR, .refl _ _ _, rfl, fun _ _ => rfl, by simp, fun _ h => .inl h⟩
  | i :: is, p, h, l, r, Im, hx, hR => by
    simp only [freezeAll] at hx
    replace hx := exec_get hx; obtain ⟨b, hb, hx⟩ := hx
    have hskip : (∀ te xs, b ≠ .row te xs) → (freezeAll is p).exec h ((i, false) :: l) = some r → ∃ h2 l2 Im', p.exec h2 l2 = some r ∧ HRel C (look h2.bs) w μ Im' ∧ Later w μ Im w μ Im' ∧ h2.next = h.next ∧ (∀ j, j ∉ i :: is → look h2.bs j = look h.bs j) ∧
      (∀ j ∈ i :: is, ∀ te xs, look h.bs j = some (.row te xs) → ∀ k y, μ j = some k → k.blk = some y → Im' y) ∧ (∀ x, Im' x → Im x ∨ ∃ j ∈ i :: is, ∃ k, μ j = some k ∧ k.blk = some x) := by
      intro hne hx
      obtain ⟨h2, l2, Im', hp, hR', hl, hn, hlk, hf, hup⟩ := exec_freezeAll hx hR
      refine ⟨h2, l2, Im', hp, hR', hl, hn, fun j hj => hlk j (by simp at hj; exact hj.2), fun j hj te xs hrow k y hk hy => ?_, fun x hx => (hup x hx).imp id fun ⟨j, hj, hk⟩ => ⟨j, List.mem_cons_of_mem _ hj, hk⟩⟩
      simp only [List.mem_cons] at hj
      rcases hj with rfl | hj
      · rw [hb] at hrow; simp only [Option.some.injEq] at hrow; exact (hne _ _ hrow).elim
      · exact hf j hj te xs hrow k y hk hy
    cases b <;> simp only at hx
    case row te xs =>
      simp only [Prog.exec] at hx
      obtain ⟨Im1, hR1, hl1, hup1⟩ := hR.freeze hb (hp' := look ((i, .rrow te xs) :: h.bs)) (fun j => by rw [look_cons])
      have hIm1 : ∀ k y, μ i = some k → k.blk = some y → Im1 y := by
        intro k y hk hy
        obtain ⟨a, cap, hm, _, hi⟩ := hR1.blk i (.rrow te xs) (by simp [look_cons])
        rw [hm] at hk
        simp only [Option.some.injEq] at hk
        exact hi y (hk ▸ hy)
      obtain ⟨h2, l2, Im', hp, hR', hl, hn, hlk, hf, hup⟩ := exec_freezeAll (h := ⟨h.next, (i, .rrow te xs) :: h.bs⟩) hx hR1
      refine ⟨h2, l2, Im', hp, hR', hl1.trans hl, hn, fun j hj => ?_, fun j hj te' xs' hrow k y hk hy => ?_, fun x hx => ?_⟩
      · simp only [List.mem_cons, not_or] at hj
        rw [hlk j hj.2, look_cons, if_neg (fun e => hj.1 e.symm)]
      · simp only [List.mem_cons] at hj
        by_cases hij : i = j
        · subst hij; exact hl.im _ (hIm1 k y hk hy)
        · rcases hj with e | hj
          · exact (hij e.symm).elim
          · exact hf j hj te' xs' (by rw [look_cons, if_neg hij]; exact hrow) k y hk hy
      · rcases hup x hx with hx | ⟨j, hj, hk⟩
        · exact (hup1 x hx).imp id fun hk => ⟨i, List.mem_cons_self, hk⟩
        · exact .inr ⟨j, List.mem_cons_of_mem _ hj, hk⟩
    all_goals exact hskip (by simp) hx

end
end Go.Ev

/- Stores. -/
namespace Go.Ev
open Go

theorem setRow_other (w : World) (g y : Nat) (cs : Array Value) (h : y ≠ g) : (w.setRow g cs).heap[y]? = w.heap[y]? := by
  unfold World.setRow
  simp only
  by_cases hy : y < w.heap.size
  · rw [Array.getElem?_eq_getElem (by simpa using hy), Array.getElem?_eq_getElem hy, Array.getElem_modify]
    rw [if_neg (fun e => h e.symm)]
  · rw [Array.getElem?_eq_none (by simp; omega), Array.getElem?_eq_none (by omega)]

theorem chg_setRow (w : World) (g : Nat) (cs : Array Value) : Chg w (w.setRow g cs) (some g) :=
  ⟨by simp [World.setRow], fun y hy => setRow_other w g y cs (fun e => hy (by rw [e])), rfl, rfl, rfl⟩

section
variable {P : Program} {C : Cx} {w : World} {μ : Mu} {Im : Nat → Prop}

/-- a store into a variable -/
theorem store_box {ty : Ty} {t : TypeId} (hty : TyOK P ty t) {h : H} (hR : HRel C (look h.bs) w μ Im) {i : Nat} {tb : Ty} {bv : V} (hb : look h.bs i = some (.box tb bv)) {b o : Nat} (hm : μ i = some (.box b tb))
    {p : List Nat} (hpl : place tb p = some (o, ty)) {q : V} {y x : Value} (hq : vrel w μ Im q y) (hqf : q.fits ty = true) (hyx : cellsOf y = cellsOf x) {v' : V} (hs : vset bv p q = some v') :
    ∃ w', (Instr.storeAt t (.pointer (some ⟨b, o, none⟩)) x).run P w = .ok () w' ∧ HRel C (look ((i, .box tb v') :: h.bs)) w' μ Im ∧ Later w μ Im w' μ Im := by
  obtain ⟨b', c, e, f, x0, hm', hh, hfz, hft, hvr, hc⟩ := hR.blk i _ hb
  rw [hm] at hm'
  simp only [Option.some.injEq, Hdl.box.injEq] at hm'
  obtain ⟨rfl, _⟩ := hm'
  obtain ⟨hf', z, hz, hcz⟩ := vset_rel hvr hft hpl hq hqf hs
  have hle := place_le hpl
  have hsz := (fits_size hvr hft).1
  have hyl := (fits_size hq hqf).1
  have hcs : tb.size = c.size := by rw [← hsz, hc]; simp
  have hrun := run_storeVar (P := P) hty hh hfz (v := x) (o := o) (by rw [← hyx]; exact hyl) (by omega) (by rw [← hyx]; exact fits_one hq hqf)
  refine ⟨_, by simpa only [Instr.storeAt, Instr.sureAddr, Sem.run_bind, Sem.run_pure, Result.andThen_ok] using hrun, ?_⟩
  refine hR.write hb rfl hm (chg_setRow w b _) _ (fun j => by rw [look_cons]) rfl fun him => ?_
  have hl : Later w μ Im (w.setRow b (splice c.toList o (cellsOf x)).toArray) μ Im := ⟨fun _ _ h => h, fun _ h => h, him⟩
  refine ⟨b, (splice c.toList o (cellsOf x)).toArray, e, f, z, hm, setRow_heap w b c _ e f hh, hfz.congr ?_, hf', hz.later hl, by rw [hcz, hc, hyx]⟩
  rw [List.size_toArray, splice_length _ _ _ (by rw [← hyx, hyl]; simp; omega)]
  simp

/-- a store into an element of a row -/
theorem store_row {ty : Ty} {t : TypeId} (hty : TyOK P ty t) {h : H} (hR : HRel C (look h.bs) w μ Im) {i : Nat} {te : Ty} {xs : List D} (hb : look h.bs i = some (.row te xs)) {ad : Addr} {L cap : Nat} {te' : Ty}
    (hm : μ i = some (.row (some ad) L cap te')) {k o : Nat} (hk : k < L) {p : List Nat} (hpl : place te' p = some (o, ty)) {a : Addr} (hbl : a.block = ad.block) (hof : a.off = ad.off + (k * te'.size + o)) (hsp : a.spot = none)
    {x : Value} {d : D} (hd : Rep w Im ty (cellsOf x) d) :
    ∃ w', (Instr.storeAt t (.pointer (some a)) x).run P w = .ok () w' ∧ HRel C (look ((i, .row te (dput xs k (dset (dnth xs k) p d))) :: h.bs)) w' μ Im ∧ Later w μ Im w' μ Im := by
  obtain ⟨a0, cap0, hm', hr⟩ := hR.blk i _ hb
  rw [hm] at hm'
  simp only [Option.some.injEq, Hdl.row.injEq] at hm'
  obtain ⟨rfl, rfl, rfl, rfl⟩ := hm'
  obtain ⟨ad', c, e, f, ha', hs, hh, hf, ho, ho2, hrep, hn⟩ := hr.elem hk
  simp only [Option.some.injEq] at ha'; subst ha'
  obtain ⟨ab, ao, as⟩ := a
  simp only at hbl hof hsp; subst hbl; subst hof; subst hsp
  have hle := place_le hpl
  have hdl := hd.len
  have hrun := run_storeVar (P := P) hty hh hf (v := x) (o := ad.off + (k * te'.size + o)) hdl (by omega) hd.one
  refine ⟨_, by simpa only [Instr.storeAt, Instr.sureAddr, Sem.run_bind, Sem.run_pure, Result.andThen_ok] using hrun, ?_⟩
  have hcap : cap ≠ 0 := by have := hr.1; omega
  have hblk : (Hdl.row (some ad) xs.length cap te').blk = some ad.block := by simp [Hdl.blk, hcap]
  refine hR.write hb rfl hm (by rw [hblk]; exact chg_setRow w ad.block _) _ (fun j => by rw [look_cons]) rfl fun him => ?_
  have hl : Later w μ Im (w.setRow ad.block (splice c.toList (ad.off + (k * te'.size + o)) (cellsOf x)).toArray) μ Im := ⟨fun _ _ h => h, fun _ h => h, him⟩
  have hlen : (dput xs k (dset (dnth xs k) p d)).length = xs.length := by rw [dput_eq]; simp
  have hsl : (splice c.toList (ad.off + (k * te'.size + o)) (cellsOf x)).length = c.size := by rw [splice_length _ _ _ (by simp; omega)]; simp
  have hm1 : (k + 1) * te'.size ≤ xs.length * te'.size := Nat.mul_le_mul_right _ hk
  have hm2 : xs.length * te'.size ≤ cap * te'.size := Nat.mul_le_mul_right _ hr.1
  rw [Nat.succ_mul] at hm1
  refine ⟨some ad, cap, by rw [hlen]; exact hm, by rw [hlen]; exact hr.1, hr.2.1, .inr ⟨ad, _, e, f, rfl, hs, setRow_heap w ad.block c _ e f hh, hf.congr (by simp [hsl]), by simpa [hsl] using ho, ?_⟩⟩
  rw [hlen]
  have hnl := hn.len
  have e1 : (((splice c.toList (ad.off + (k * te'.size + o)) (cellsOf x)).toArray.toList.drop ad.off).take (xs.length * te'.size)) = splice ((c.toList.drop ad.off).take (xs.length * te'.size)) (k * te'.size + o) (cellsOf x) := by
    exact splice_mid _ _ _ _ _ (by omega) (by simp; omega)
  have hk2 := hn.get hk
  have h3 := dset_rep hk2 hpl hd
  have h4 := hn.set h3 h3.len k hk
  have e2 := splice_splice ((c.toList.drop ad.off).take (xs.length * te'.size)) (k * te'.size) te'.size o (cellsOf x) (by omega) (by omega)
  rw [e1, e2, dput_eq]
  exact h4.mono fun _ _ => Rep.mono hl.im hl.heap

theorem ok_store {ty : Ty} {t : TypeId} {av xv v : V} {a x : Value} {h h' : H} {l l' : Log} (hty : TyOK P ty t) (hR : HRel C (look h.bs) w μ Im) (ha : vrel w μ Im av a) (hxv : vrel w μ Im xv x)
    (hx : (evStore ty av xv).exec h l = some (v, h', l')) : v = .any ∧ h'.next = h.next ∧ ∃ w' Im', (Instr.storeAt t a x).run P w = .ok () w' ∧ HRel C (look h'.bs) w' μ Im' ∧ Later w μ Im w' μ Im' := by
  cases av <;> simp only [evStore] at hx <;> try exact (exec_fail hx).elim
  case ptr t' i p =>
    replace hx := exec_chk hx; obtain ⟨hc, hx⟩ := hx
    simp only [Bool.and_eq_true, Ty.beq_iff] at hc
    obtain ⟨rfl, hxf⟩ := hc
    replace hx := exec_get hx; obtain ⟨b, hb, hx⟩ := hx
    obtain ⟨ad, rfl, hspot, hptr⟩ := ha
    cases b <;> simp only at hx <;> try exact (exec_fail hx).elim
    case box tb bv =>
      obtain ⟨b', c, e, f, x0, hm', hh, hfz, hft, hvr, hc⟩ := hR.blk i _ hb
      rcases hptr with ⟨b, tb', hm, hbl, hpl⟩ | ⟨ad', L, cap', te', k, p', o, hm, _⟩
      · rw [hm'] at hm
        simp only [Option.some.injEq, Hdl.box.injEq] at hm
        obtain ⟨rfl, rfl⟩ := hm
        obtain ⟨ab, ao, as⟩ := ad
        simp only at hbl hpl hspot; subst hbl; subst hspot
        cases hs : vset bv p xv with
        | some v' =>
          simp only [hs, Prog.exec, Option.some.injEq, Prod.mk.injEq] at hx
          obtain ⟨rfl, rfl, _⟩ := hx
          obtain ⟨w', h1, h2, h3⟩ := store_box hty hR hb hm' hpl hxv hxf rfl hs
          exact ⟨rfl, rfl, w', Im, h1, h2, h3⟩
        | none =>
          simp only [hs] at hx
          obtain ⟨d, new, l1, hx, _, hab⟩ := exec_abD hR hx hxv
          simp only [List.append_nil] at hx
          obtain ⟨h2, l2, Im', hx, hR2, hl2, hn2, hlk, hfr, _⟩ := exec_freezeAll hx hR
          have hni : i ∉ new := fun hi => by
            obtain ⟨te, xs, hh⟩ := hab.1 i hi
            rw [hb] at hh; simp at hh
          have hrep : Rep w Im' ty (cellsOf x) d := hab.2 Im' hl2.im fun j hj k y hk hy => by
            obtain ⟨te, xs, hh⟩ := hab.1 j hj
            exact hfr j hj te xs hh k y hk hy
          cases hs2 : vset bv p (.dat ty d) with
          | none => simp only [hs2] at hx; exact (exec_fail hx).elim
          | some v' =>
            simp only [hs2, Prog.exec, Option.some.injEq, Prod.mk.injEq] at hx
            obtain ⟨rfl, rfl, _⟩ := hx
            obtain ⟨w', h3, h4, h5⟩ := store_box (x := x) hty hR2 (by rw [hlk i hni]; exact hb) hm' hpl (q := .dat ty d) (y := mkVal ty (cellsOf x)) ⟨_, rfl, hrep⟩ (by simp only [V.fits]; exact (Ty.beq_iff _ _).2 rfl) (cells_mkVal hrep) hs2
            exact ⟨rfl, hn2, w', Im', h3, h4, hl2.trans h5⟩
      · rw [hm'] at hm; simp at hm
    case row te xs =>
      cases p with
      | nil => simp only at hx; exact (exec_fail hx).elim
      | cons k p =>
        simp only at hx
        obtain ⟨d, new, l1, hx, _, hab⟩ := exec_abD hR hx hxv
        simp only [List.append_nil] at hx
        replace hx := exec_chk hx; obtain ⟨hmem, hx⟩ := hx
        obtain ⟨h2, l2, Im', hx, hR2, hl2, hn2, hlk, hfr, _⟩ := exec_freezeAll hx hR
        have hni : i ∉ new := fun hi => by
          rw [← memN_iff] at hi; simp [hi] at hmem
        have hrep : Rep w Im' ty (cellsOf x) d := hab.2 Im' hl2.im fun j hj k y hk hy => by
          obtain ⟨te, xs, hh⟩ := hab.1 j hj
          exact hfr j hj te xs hh k y hk hy
        simp only [Prog.exec, Option.some.injEq, Prod.mk.injEq] at hx
        obtain ⟨rfl, rfl, _⟩ := hx
        rcases hptr with ⟨b, tb, hm, _⟩ | ⟨ad', L, cap', te', k', p', o, hm, hpe, hk, hpl, hbl, hof⟩
        · obtain ⟨a', cap', hm', _⟩ := hR.blk i _ hb
          rw [hm] at hm'; simp at hm'
        · simp only [List.cons.injEq] at hpe
          obtain ⟨rfl, rfl⟩ := hpe
          obtain ⟨w', h3, h4, h5⟩ := store_row hty hR2 (by rw [hlk i hni]; exact hb) hm hk hpl hbl hof hspot hrep
          exact ⟨rfl, hn2, w', Im', h3, h4, hl2.trans h5⟩

end
end Go.Ev

/- Addresses of parts, parts of values, cuts. -/
namespace Go.Ev
open Go

section
variable {P : Program} {C : Cx} {w : World} {μ : Mu} {Im : Nat → Prop}

theorem TyOK.field {ts : List Ty} {s : TypeId} (h : TyOK P (.struct ts) s) {k : Nat} {t : Ty} (ht : vnth ts k = some t) :
    ∃ fs f, P.underlying s = some (.struct fs) ∧ fs[k]? = some f ∧ TyOK P t f.type ∧ f.offset = Ty.offs ts k := by
  obtain ⟨_, _, fs, hu, hf⟩ := h
  obtain ⟨f, hk, ho, hof⟩ := hf.get ht
  exact ⟨fs, f, hu, by simpa using hk, ho, by simpa using hof⟩

theorem place_snoc_field {tb : Ty} {ts : List Ty} {p : List Nat} {o k : Nat} {t : Ty} (h : place tb p = some (o, .struct ts)) (ht : vnth ts k = some t) : place tb (p ++ [k]) = some (o + Ty.offs ts k, t) := by
  refine place_append h ?_
  simp [place, ht]
theorem place_snoc_elem {tb te : Ty} {n : Nat} {p : List Nat} {o k : Nat} (h : place tb p = some (o, .arr n te)) (hk : k < n) : place tb (p ++ [k]) = some (o + k * te.size, te) := by
  refine place_append h ?_
  simp [place, hk]

theorem ok_fieldAddr {s : Ty} {st : TypeId} {av v : V} {a : Value} {k : Nat} {h h' : H} {l l' : Log} (hty : TyOK P s st) (ha : vrel w μ Im av a) (hx : (evFieldAddr s av k).exec h l = some (v, h', l')) :
    h' = h ∧ ∃ x, (Instr.fieldAt st a k).run P w = .ok x w ∧ vrel w μ Im v x := by
  cases s <;> simp only [evFieldAddr] at hx <;> try exact (exec_fail hx).elim
  rename_i ts
  have hrun : ∀ (t : Ty) (ad : Addr), vnth ts k = some t → ad.spot = none → (Instr.fieldAt st (.pointer (some ad)) k).run P w = .ok (.pointer (some ⟨ad.block, ad.off + Ty.offs ts k, none⟩)) w := by
    intro t ad ht hs
    obtain ⟨fs, f, hu, hk, ho, hof⟩ := hty.field ht
    have hsz : t.size ≠ 0 := by obtain ⟨_, _, _, _, _, h⟩ := ho.base.ex; exact h
    simp only [Instr.fieldAt, Sem.run_bind, run_underlying hu, Result.andThen_ok, hk, Instr.sureAddr, Sem.run_pure, fieldPlace, ho.base.run_size, hsz, if_false, addr_add' hs, hof]
  cases av <;> simp only at hx <;> try exact (exec_fail hx).elim
  case ptr t i p =>
    replace hx := exec_chk hx; obtain ⟨hc, hx⟩ := hx
    rw [Ty.beq_iff] at hc; subst hc
    cases ht : vnth ts k with
    | none => simp only [ht] at hx; exact (exec_fail hx).elim
    | some t =>
      simp only [ht, Prog.exec, Option.some.injEq, Prod.mk.injEq] at hx
      obtain ⟨rfl, rfl, _⟩ := hx
      obtain ⟨ad, rfl, hs, hp⟩ := ha
      refine ⟨rfl, _, hrun t ad ht hs, _, rfl, rfl, ?_⟩
      rw [vapp_eq]
      rcases hp with ⟨b, tb, hm, hb, hpl⟩ | ⟨ad', L, cap, te, k', p', o, hm, rfl, hk', hpl, hb, ho⟩
      · exact .inl ⟨b, tb, hm, hb, place_snoc_field hpl ht⟩
      · exact .inr ⟨ad', L, cap, te, k', p' ++ [k], o + Ty.offs ts k, hm, rfl, hk', place_snoc_field hpl ht, hb, by simp only; omega⟩
  case rop t d =>
    replace hx := exec_chk hx; obtain ⟨hc, hx⟩ := hx
    rw [Ty.beq_iff] at hc; subst hc
    cases ht : vnth ts k with
    | none => simp only [ht] at hx; exact (exec_fail hx).elim
    | some t =>
      simp only [ht, Prog.exec, Option.some.injEq, Prod.mk.injEq] at hx
      obtain ⟨rfl, rfl, _⟩ := hx
      obtain ⟨ad, c, e, f, rfl, hs, hi, hh, ho, ds, rfl, hr⟩ := ha
      have hle := offs_le ht
      have := hr.get ht
      simp only [Ty.size] at ho this
      refine ⟨rfl, _, hrun t ad ht hs, _, c, e, f, rfl, rfl, hi, hh, by simp only; omega, ?_⟩
      rw [drop_take_drop _ _ _ _ _ (by omega)] at this
      exact this

theorem run_part {t : Ty} {tid : TypeId} (h : TyOK P t tid) (cs : List Value) (o : Nat) (ho : o + t.size ≤ cs.length) : (part tid cs.toArray o).run P w = .ok (mkVal t ((cs.drop o).take t.size)) w := by
  unfold part
  simp only [Sem.run_bind, h.run_isAgg, Result.andThen_ok]
  cases ha : t.isAgg with
  | true =>
    simp only [if_true, Sem.run_bind, h.base.run_size, Result.andThen_ok, Sem.run_pure, mkVal, ha]
    congr 2
    apply Array.toList_inj.1
    simp [List.extract_eq_take_drop]
  | false =>
    have h1 := size_one_of_not_agg ha
    have hlt : o < cs.length := by omega
    have e1 : (cs.drop o).take t.size = [cs[o]] := by
      rw [h1, List.take_one, List.head?_drop]
      simp [hlt]
    simp [mkVal, ha, hlt, e1]

theorem ok_field {s : Ty} {st : TypeId} {xv v : V} {x : Value} {k : Nat} {h h' : H} {l l' : Log} (hty : TyOK P s st) (ha : vrel w μ Im xv x) (hx : (evField s xv k).exec h l = some (v, h', l')) :
    h' = h ∧ ∃ y, (Instr.field st x k).run P w = .ok y w ∧ vrel w μ Im v y := by
  cases s <;> simp only [evField] at hx <;> try exact (exec_fail hx).elim
  rename_i ts
  have hrun : ∀ (t : Ty) (cs : List Value), vnth ts k = some t → cs.length = Ty.sizes ts → (Instr.field st (.agg cs.toArray) k).run P w = .ok (mkVal t ((cs.drop (Ty.offs ts k)).take t.size)) w := by
    intro t cs ht hl
    obtain ⟨fs, f, hu, hk, ho, hof⟩ := hty.field ht
    have hle := offs_le ht
    simp only [Instr.field, Sem.run_bind, run_underlying hu, Result.andThen_ok, hk, asAgg, Sem.run_pure, hof]
    exact run_part ho cs _ (by omega)
  cases xv <;> simp only at hx <;> try exact (exec_fail hx).elim
  case dat t d =>
    replace hx := exec_chk hx; obtain ⟨hc, hx⟩ := hx
    rw [Ty.beq_iff] at hc; subst hc
    cases ht : vnth ts k with
    | none => simp only [ht] at hx; exact (exec_fail hx).elim
    | some t =>
      simp only [ht, Prog.exec, Option.some.injEq, Prod.mk.injEq] at hx
      obtain ⟨rfl, rfl, _⟩ := hx
      obtain ⟨cs, rfl, ds, rfl, hr⟩ := ha
      have := hr.get ht
      exact ⟨rfl, _, by simpa [mkVal, Ty.isAgg] using hrun t cs ht hr.len, ofD_rel this⟩
  case agg ts' vs =>
    replace hx := exec_chk hx; obtain ⟨hc, hx⟩ := hx
    rw [Ty.beqs_iff] at hc; subst hc
    cases hv : vnth vs k with
    | none => simp only [hv] at hx; exact (exec_fail hx).elim
    | some u =>
      simp only [hv, Prog.exec, Option.some.injEq, Prod.mk.injEq] at hx
      obtain ⟨rfl, rfl, _⟩ := hx
      obtain ⟨xs, rfl, hfit, hr⟩ := ha
      obtain ⟨y, hy, hyr⟩ := hr.get hv
      have hlen : ∀ {ts : List Ty} {vs : List V}, allFit ts vs = true → ∀ {k : Nat} {v : V}, vnth vs k = some v → ∃ t, vnth ts k = some t := by
        intro ts
        induction ts with
        | nil => intro vs h k v hv; cases vs <;> simp [allFit, vnth] at h hv
        | cons t ts ih =>
          intro vs h k v hv
          cases vs with
          | nil => simp [vnth] at hv
          | cons v' vs =>
            simp only [allFit, Bool.and_eq_true] at h
            cases k with
            | zero => exact ⟨t, rfl⟩
            | succ k => exact ih h.2 (k := k) hv
      obtain ⟨t, ht⟩ := hlen hfit hv
      have hfu := allFit_get hfit ht hv
      have hp := flat_part hfit hr ht hy
      refine ⟨rfl, y, ?_, hyr⟩
      rw [hrun t (flat xs) ht (fits_size.go ts vs xs hfit hr), hp, ← (fits_size hyr hfu).2]

theorem inb_iff {k : Int} {n : Nat} : inb k n = true ↔ 0 ≤ k ∧ k < n := by simp [inb]
theorem V.num_rel {v : V} {x : Value} {k : Int} (h : v.num = some k) (hr : vrel w μ Im v x) : ∃ kd, x = .int kd k := by
  unfold V.num at h
  split at h
  · simp only [Option.some.injEq] at h; subst h
    obtain ⟨cs, rfl, n, rfl, hd, _⟩ := hr
    simp only [D.i.injEq] at hd; subst hd
    exact ⟨_, rfl⟩
  · simp at h

theorem ok_indexAddr {t : Ty} {tid : TypeId} {xv iv v : V} {x ix : Value} {h h' : H} {l l' : Log} (hty : TyOK P t tid) (hR : HRel C (look h.bs) w μ Im) (ha : vrel w μ Im xv x) (hi : vrel w μ Im iv ix)
    (hx : (evIndexAddr t xv iv).exec h l = some (v, h', l')) : h' = h ∧ ∃ y, (Instr.indexAt tid x ix).run P w = .ok y w ∧ vrel w μ Im v y := by
  unfold evIndexAddr at hx
  cases hk : iv.num with
  | none => simp only [hk] at hx; exact (exec_fail hx).elim
  | some k =>
    simp only [hk] at hx
    obtain ⟨kd, rfl⟩ := V.num_rel hk hi
    cases t <;> (try simp only at hx) <;> try exact (exec_fail hx).elim
    case arr n te =>
      obtain ⟨_, tid', hu, hte⟩ := hty
      have hrun : ∀ ad : Addr, ad.spot = none → 0 ≤ k → k < (n : Int) → (Instr.indexAt tid (.pointer (some ad)) (.int kd k)).run P w = .ok (.pointer (some ⟨ad.block, ad.off + k.toNat * te.size, none⟩)) w := by
        intro ad hs h0 h1
        simp only [Instr.indexAt, asIntOf, Sem.run_bind, Sem.run_pure, Result.andThen_ok, run_underlying hu, Instr.sureAddr, h0, h1, and_self, if_true, hte.base.run_size, addr_add' hs]
      cases xv <;> simp only at hx <;> try exact (exec_fail hx).elim
      case ptr t' i p =>
        replace hx := exec_chk hx; obtain ⟨hc, hx⟩ := hx
        rw [Ty.beq_iff] at hc; subst hc
        replace hx := exec_need hx; obtain ⟨hb, hx⟩ := hx
        rw [inb_iff] at hb
        simp only [Prog.exec, Option.some.injEq, Prod.mk.injEq] at hx
        obtain ⟨rfl, rfl, _⟩ := hx
        obtain ⟨ad, rfl, hs, hp⟩ := ha
        refine ⟨rfl, _, hrun ad hs hb.1 hb.2, _, rfl, rfl, ?_⟩
        rw [vapp_eq]
        have hkn : k.toNat < n := by omega
        rcases hp with ⟨b, tb, hm, hbl, hpl⟩ | ⟨ad', L, cap, te', k', p', o, hm, rfl, hk', hpl, hbl, ho⟩
        · exact .inl ⟨b, tb, hm, hbl, place_snoc_elem hpl hkn⟩
        · exact .inr ⟨ad', L, cap, te', k', p' ++ [k.toNat], o + k.toNat * te.size, hm, rfl, hk', place_snoc_elem hpl hkn, hbl, by simp only; omega⟩
      case rop t' d =>
        replace hx := exec_chk hx; obtain ⟨hc, hx⟩ := hx
        rw [Ty.beq_iff] at hc; subst hc
        replace hx := exec_need hx; obtain ⟨hb, hx⟩ := hx
        rw [inb_iff] at hb
        simp only [Prog.exec, Option.some.injEq, Prod.mk.injEq] at hx
        obtain ⟨rfl, rfl, _⟩ := hx
        obtain ⟨ad, c, e, f, rfl, hs, him, hh, ho, ds, rfl, hn, hr⟩ := ha
        have hkn : k.toNat < ds.length := by omega
        have := hr.get hkn
        have hm1 : (k.toNat + 1) * te.size ≤ n * te.size := Nat.mul_le_mul_right _ (by omega)
        rw [Nat.succ_mul] at hm1
        simp only [Ty.size] at ho this
        refine ⟨rfl, _, hrun ad hs hb.1 hb.2, _, c, e, f, rfl, rfl, him, hh, by simp only; omega, ?_⟩
        rw [drop_take_drop _ _ _ _ _ (by omega)] at this
        exact this
    case slice te =>
      obtain ⟨_, tid', hu, hte⟩ := hty
      have hrun : ∀ (ad : Addr) (len cap : Nat), ad.spot = none → 0 ≤ k → k < (len : Int) → (Instr.indexAt tid (.slice (some ad) len cap) (.int kd k)).run P w = .ok (.pointer (some ⟨ad.block, ad.off + k.toNat * te.size, none⟩)) w := by
        intro ad len cap hs h0 h1
        simp only [Instr.indexAt, asIntOf, Sem.run_bind, Sem.run_pure, Result.andThen_ok, run_underlying hu, h0, h1, and_self, if_true, hte.base.run_size, addr_add' hs]
      cases xv <;> simp only at hx <;> try exact (exec_fail hx).elim
      case dat t' d =>
        replace hx := exec_chk hx; obtain ⟨hc, hx⟩ := hx
        rw [Ty.beq_iff] at hc; subst hc
        replace hx := exec_need hx; obtain ⟨hb, hx⟩ := hx
        rw [inb_iff] at hb
        simp only [Prog.exec, Option.some.injEq, Prod.mk.injEq] at hx
        obtain ⟨rfl, rfl, _⟩ := hx
        obtain ⟨cs, rfl, a, len, cap, ds, rfl, rfl, hl, hlc, _, hz⟩ := ha
        simp only [D.list] at hb
        rcases hz with h0 | ⟨ad, c, e, f, rfl, hs, him, hh, ho, hr⟩
        · omega
        · have hkn : k.toNat < ds.length := by omega
          have := hr.get hkn
          have hm1 : (k.toNat + 1) * te.size ≤ len * te.size := Nat.mul_le_mul_right _ (by omega)
          rw [Nat.succ_mul] at hm1
          refine ⟨rfl, _, hrun ad len cap hs hb.1 (by omega), _, c, e, f, rfl, rfl, him, hh, by simp only; omega, ?_⟩
          rw [drop_take_drop _ _ _ _ _ (by omega)] at this
          exact this
      case all t' i len =>
        replace hx := exec_chk hx; obtain ⟨hc, hx⟩ := hx
        rw [Ty.beq_iff] at hc; subst hc
        replace hx := exec_need hx; obtain ⟨hb, hx⟩ := hx
        rw [inb_iff] at hb
        simp only [Prog.exec, Option.some.injEq, Prod.mk.injEq] at hx
        obtain ⟨rfl, rfl, _⟩ := hx
        obtain ⟨a, cap, hm, rfl⟩ := ha
        obtain ⟨hlc, _, hz⟩ := hR.ok _ _ hm
        obtain ⟨ad, rfl, hs⟩ := hz (by omega)
        refine ⟨rfl, _, hrun ad len cap hs hb.1 hb.2, _, rfl, rfl, .inr ⟨ad, len, cap, t', k.toNat, [], 0, hm, rfl, by omega, rfl, rfl, by simp⟩⟩
      case sub t' i off len =>
        replace hx := exec_chk hx; obtain ⟨hc, hx⟩ := hx
        rw [Ty.beq_iff] at hc; subst hc
        replace hx := exec_need hx; obtain ⟨hb, hx⟩ := hx
        rw [inb_iff] at hb
        simp only [Prog.exec, Option.some.injEq, Prod.mk.injEq] at hx
        obtain ⟨rfl, rfl, _⟩ := hx
        obtain ⟨a, L, cap, a', hm, hlen, hLc, rfl, ha'⟩ := ha
        obtain ⟨_, _, hz⟩ := hR.ok _ _ hm
        obtain ⟨ad, rfl, hs⟩ := hz (by omega)
        rw [ha' (by omega), Option.map_some, addr_add' hs]
        refine ⟨rfl, _, hrun _ len _ rfl hb.1 hb.2, _, rfl, rfl, .inr ⟨ad, L, cap, t', off + k.toNat, [], 0, hm, rfl, by omega, rfl, rfl, ?_⟩⟩
        simp only [Nat.add_mul]; omega
      case asl t' i p n off len =>
        replace hx := exec_chk hx; obtain ⟨hc, hx⟩ := hx
        rw [Ty.beq_iff] at hc; subst hc
        replace hx := exec_need hx; obtain ⟨hb, hx⟩ := hx
        rw [inb_iff] at hb
        simp only [Prog.exec, Option.some.injEq, Prod.mk.injEq] at hx
        obtain ⟨rfl, rfl, _⟩ := hx
        obtain ⟨b, tb, o, a, hm, hpl, hlen, rfl, ha'⟩ := ha
        rw [ha' (by omega)]
        refine ⟨rfl, _, hrun _ len _ rfl hb.1 hb.2, _, rfl, rfl, .inl ⟨b, tb, hm, rfl, ?_⟩⟩
        rw [vapp_eq, place_snoc_elem hpl (by omega : off + k.toNat < n)]
        congr 2
        simp only [Nat.add_mul]; omega

end
end Go.Ev

/- Cuts, indexes, picks. -/
namespace Go.Ev
open Go

section
variable {P : Program} {C : Cx} {w : World} {μ : Mu} {Im : Nat → Prop}

def orel (w : World) (μ : Mu) (Im : Nat → Prop) : Option V → Option Value → Prop
  | none, x => x = none
  | some v, x => ∃ y, x = some y ∧ vrel w μ Im v y

theorem run_sliceBound {k : IntKind} {i : Int} {y : Nat} {code : BoundsCode} (h0 : 0 ≤ i) (h1 : i ≤ y) : (Instr.sliceBound (.int k i) y code).run P w = .ok i.toNat w := by
  simp only [Instr.sliceBound, asIntOf, Sem.run_bind, Sem.run_pure, Result.andThen_ok, h0, h1, and_self, if_true]

theorem exec_cut {lo hi : Option V} {lo' hi' : Option Value} {len mst : Nat} {f : Nat → Nat → Prog V} {h : H} {l : Log} {r : V × H × Log} (hx : (cutIn lo hi (len : Int) (mst : Int) f).exec h l = some r)
    (hlo : orel w μ Im lo lo') (hhi : orel w μ Im hi hi') (hle : len ≤ mst) :
    ∃ a b, (f a b).exec h l = some r ∧ a ≤ b ∧ b ≤ mst ∧ ∀ cap, mst ≤ cap → ∀ s, (Instr.sliceBounds s len cap lo' hi' none).run P w = .ok (a, b, cap) w := by
  cases lo with
  | none =>
    simp only [orel] at hlo; subst hlo
    cases hi with
    | none =>
      simp only [orel] at hhi; subst hhi
      simp only [cutIn] at hx
      refine ⟨0, len, by simpa using hx, by omega, hle, fun cap hc s => ?_⟩
      simp only [Instr.sliceBounds, Sem.run_bind, Sem.run_pure, Result.andThen_ok]
    | some hv =>
      obtain ⟨y, rfl, hy⟩ := hhi
      simp only [cutIn] at hx
      cases hn : hv.num with
      | none => simp only [hn] at hx; exact (exec_fail hx).elim
      | some n =>
        simp only [hn] at hx
        obtain ⟨kd, rfl⟩ := V.num_rel hn hy
        replace hx := exec_need hx; obtain ⟨hb, hx⟩ := hx
        simp only [Bool.and_eq_true, decide_eq_true_eq] at hb
        refine ⟨0, n.toNat, hx, by omega, by omega, fun cap hc s => ?_⟩
        simp only [Instr.sliceBounds, Sem.run_bind, Sem.run_pure, Result.andThen_ok]
        rw [run_sliceBound (by omega) (by omega)]
        simp
  | some lv =>
    obtain ⟨z, rfl, hz⟩ := hlo
    cases hi with
    | none =>
      simp only [orel] at hhi; subst hhi
      simp only [cutIn] at hx
      cases hn : lv.num with
      | none => simp only [hn] at hx; exact (exec_fail hx).elim
      | some n =>
        simp only [hn] at hx
        obtain ⟨kd, rfl⟩ := V.num_rel hn hz
        replace hx := exec_need hx; obtain ⟨hb, hx⟩ := hx
        simp only [Bool.and_eq_true, decide_eq_true_eq] at hb
        refine ⟨n.toNat, len, by simpa using hx, by omega, hle, fun cap hc s => ?_⟩
        simp only [Instr.sliceBounds, Sem.run_bind, Sem.run_pure, Result.andThen_ok]
        rw [run_sliceBound (by omega) (by omega)]
        simp
    | some hv =>
      obtain ⟨y, rfl, hy⟩ := hhi
      simp only [cutIn] at hx
      cases hn : lv.num with
      | none => simp only [hn] at hx; exact (exec_fail hx).elim
      | some n =>
        cases hm : hv.num with
        | none => simp only [hn, hm] at hx; exact (exec_fail hx).elim
        | some m =>
          simp only [hn, hm] at hx
          obtain ⟨kd, rfl⟩ := V.num_rel hn hz
          obtain ⟨kd', rfl⟩ := V.num_rel hm hy
          replace hx := exec_need hx; obtain ⟨hb, hx⟩ := hx
          simp only [Bool.and_eq_true, decide_eq_true_eq] at hb
          refine ⟨n.toNat, m.toNat, hx, by omega, by omega, fun cap hc s => ?_⟩
          simp only [Instr.sliceBounds, Sem.run_bind, Sem.run_pure, Result.andThen_ok]
          rw [run_sliceBound (by omega) (by omega)]
          simp only [Result.andThen_ok]
          rw [run_sliceBound (by omega) (by omega)]
          simp

theorem extract_list (s : ByteArray) (a b : Nat) : (s.extract a b).data.toList = (s.data.toList.take b).drop a := by
  rw [Lib.extract_data, List.drop_take]

theorem ok_slice {t : Ty} {tid : TypeId} {xv v : V} {x : Value} {lo hi mx : Option V} {lo' hi' mx' : Option Value} {h h' : H} {l l' : Log} (hty : TyOK P t tid) (hR : HRel C (look h.bs) w μ Im) (ha : vrel w μ Im xv x)
    (hlo : orel w μ Im lo lo') (hhi : orel w μ Im hi hi') (hmx : orel w μ Im mx mx') (hx : (evSlice t xv lo hi mx).exec h l = some (v, h', l')) :
    h' = h ∧ ∃ y, (Instr.sliceAt tid x lo' hi' mx').run P w = .ok y w ∧ vrel w μ Im v y := by
  cases mx with
  | some m =>
    obtain ⟨m', rfl, hm⟩ := hmx
    simp only [evSlice] at hx
    cases t <;> (try simp only at hx) <;> try exact (exec_fail hx).elim
    rename_i te
    cases lo <;> (try simp only at hx) <;> try exact (exec_fail hx).elim
    cases hi <;> (try simp only at hx) <;> try exact (exec_fail hx).elim
    rename_i hv
    simp only [orel] at hlo; subst hlo
    obtain ⟨y, rfl, hy⟩ := hhi
    cases hn : m.num with
    | none => simp only [hn] at hx; exact (exec_fail hx).elim
    | some n =>
      simp only [hn] at hx
      cases hn2 : hv.num with
      | none => simp only [hn2] at hx; exact (exec_fail hx).elim
      | some n2 =>
        simp only [hn2] at hx
        replace hx := exec_chk hx; obtain ⟨hb, hx⟩ := hx
        simp only [Bool.and_eq_true, decide_eq_true_eq] at hb
        obtain ⟨⟨rfl, rfl⟩, hf⟩ := hb
        simp only [Prog.exec, Option.some.injEq, Prod.mk.injEq] at hx
        obtain ⟨rfl, rfl, _⟩ := hx
        obtain ⟨kd, rfl⟩ := V.num_rel hn hm
        obtain ⟨kd', rfl⟩ := V.num_rel hn2 hy
        have hsl : ∃ a len cap, x = .slice a len cap := by
          have := (fits_size ha hf).2
          have h1 := (fits_size ha hf).1
          cases xv <;> simp only [V.fits, Bool.false_eq_true] at hf
          · obtain ⟨cs, rfl, hr⟩ := ha
            rw [Ty.beq_iff] at hf; subst hf
            obtain ⟨a, len, cap, ds, rfl, _⟩ := hr
            exact ⟨a, len, cap, rfl⟩
          · rw [Ty.beq_iff] at hf; simp at hf
          · exact ⟨_, _, _, ha⟩
          · obtain ⟨a, ha⟩ := ha; exact ⟨_, _, _, ha⟩
          · obtain ⟨a, cap, _, ha⟩ := ha; exact ⟨_, _, _, ha⟩
          · obtain ⟨a, L, cap, a', _, _, _, ha, _⟩ := ha; exact ⟨_, _, _, ha⟩
          · obtain ⟨_, _, _, _, _, _, _, ha, _⟩ := ha; exact ⟨_, _, _, ha⟩
        obtain ⟨a, len, cap, rfl⟩ := hsl
        obtain ⟨_, tid', hu, hte⟩ := hty
        refine ⟨rfl, .slice a 0 0, ?_, a, rfl⟩
        simp only [Instr.sliceAt, Sem.run_bind, run_underlying hu, Result.andThen_ok, Instr.slice, Instr.sliceBounds, run_sliceBound (P := P) (w := w) (k := kd) (i := 0) (y := cap) (by omega) (by omega)]
        rw [run_sliceBound (by omega) (by simp)]
        simp [hte.base.run_size]
  | none =>
    simp only [orel] at hmx; subst hmx
    simp only [evSlice] at hx
    have hslice : ∀ (te : Ty), t = .slice te → ∀ (a : Option Addr) (len cap n m : Nat), (Instr.sliceBounds true len cap lo' hi' none).run P w = .ok (n, m, cap) w →
        (Instr.sliceAt tid (.slice a len cap) lo' hi' none).run P w = .ok (.slice (if cap = n then a else a.map (·.add (n * te.size))) (m - n) (cap - n)) w := by
      intro te ht a len cap n m hb
      subst ht
      obtain ⟨_, tid', hu, hte⟩ := hty
      simp only [Instr.sliceAt, Sem.run_bind, run_underlying hu, Result.andThen_ok, Instr.slice, hb, hte.base.run_size, Sem.run_pure]
    cases t <;> (try simp only at hx) <;> try exact (exec_fail hx).elim
    case str =>
      cases xv <;> (try simp only at hx) <;> try exact (exec_fail hx).elim
      rename_i t' d
      cases t' <;> (try simp only at hx) <;> try exact (exec_fail hx).elim
      cases d <;> (try simp only at hx) <;> try exact (exec_fail hx).elim
      rename_i bs
      obtain ⟨cs, rfl, s, rfl, hd, hm⟩ := ha
      simp only [D.s.injEq] at hd; subst hd
      obtain ⟨_, hu⟩ := hty
      have hsz : s.data.toList.length = s.size := (Lib.size_eq s).symm
      have fin : ∀ (r : V × H × Log), (cutIn lo hi (s.data.toList.length : Int) (s.data.toList.length : Int) fun a b => Prog.ret (V.dat .str (.s ((s.data.toList.take b).drop a)))).exec h l = some r → r = (v, h', l') →
          h' = h ∧ ∃ y, (Instr.sliceAt tid (mkVal .str [.string s]) lo' hi' none).run P w = .ok y w ∧ vrel w μ Im v y := by
        intro r hx hr
        subst hr
        obtain ⟨a, b, hx, hab, hb, hrun⟩ := exec_cut (P := P) hx hlo hhi (Nat.le_refl _)
        simp only [Prog.exec, Option.some.injEq, Prod.mk.injEq] at hx
        obtain ⟨rfl, rfl, _⟩ := hx
        have h1 := hrun s.size (by omega) false
        rw [hsz] at h1
        refine ⟨rfl, .string (s.extract a b), ?_, [.string (s.extract a b)], rfl, s.extract a b, rfl, by rw [extract_list], ?_⟩
        · simp [Instr.sliceAt, run_underlying hu, Instr.slice, mkVal, Ty.isAgg, h1]
        · rw [Lib.size_eq, extract_list, List.length_drop, List.length_take]
          omega
      cases hlo' : lo with
      | none =>
        cases hhi' : hi with
        | none =>
          subst hlo'; subst hhi'
          simp only [Prog.exec, Option.some.injEq, Prod.mk.injEq] at hx
          obtain ⟨rfl, rfl, rfl⟩ := hx
          refine fin _ ?_ rfl
          simp [cutIn, Prog.exec, List.take_of_length_le]
        | some hv => subst hlo'; subst hhi'; exact fin _ hx rfl
      | some lv =>
        cases hhi' : hi with
        | none => subst hlo'; subst hhi'; exact fin _ hx rfl
        | some hv => subst hlo'; subst hhi'; exact fin _ hx rfl
    case arr n te =>
      cases xv <;> simp only at hx <;> try exact (exec_fail hx).elim
      rename_i t' i p
      replace hx := exec_chk hx; obtain ⟨hc, hx⟩ := hx
      rw [Ty.beq_iff] at hc; subst hc
      replace hx := exec_get hx; obtain ⟨bk, hbk, hx⟩ := hx
      have hbr := hR.blk i bk hbk
      cases bk <;> (try simp only at hx) <;> try exact (exec_fail hx).elim
      obtain ⟨b0, _, _, _, _, hm0, _⟩ := hbr
      obtain ⟨a, b, hx, hab, hb, hrun⟩ := exec_cut (P := P) hx hlo hhi (Nat.le_refl _)
      simp only [Prog.exec, Option.some.injEq, Prod.mk.injEq] at hx
      obtain ⟨rfl, rfl, _⟩ := hx
      obtain ⟨ad, rfl, hs, hp⟩ := ha
      obtain ⟨_, tid', hu, hte⟩ := hty
      have h1 := hrun n (Nat.le_refl _) false
      rcases hp with ⟨b', tb, hm, hbl, hpl⟩ | ⟨ad', L, cap, te', k', p', o, hm, rfl, hk', hpl, hbl, ho⟩
      · refine ⟨rfl, .slice (some (if n = a then ad else ad.add (a * te.size))) (b - a) (n - a), ?_, b', tb, ad.off, _, hm, hpl, by omega, rfl, fun hlt => ?_⟩
        · simp [Instr.sliceAt, run_underlying hu, Instr.sureAddr, h1, hte.base.run_size]
        · rw [if_neg (by omega), addr_add' hs, hbl]
      · rw [hm0] at hm; simp at hm
    case slice te =>
      have hsl := hslice te rfl
      cases xv <;> simp only at hx <;> try exact (exec_fail hx).elim
      case dat t' d =>
        replace hx := exec_chk hx; obtain ⟨hc, hx⟩ := hx
        rw [Ty.beq_iff] at hc; subst hc
        obtain ⟨cs, rfl, a, len, cap, ds, rfl, rfl, hl, hlc, hcm, hz⟩ := ha
        simp only [D.list] at hx
        rw [hl] at hx
        obtain ⟨n, m, hx, hab, hb, hrun⟩ := exec_cut (P := P) hx hlo hhi (Nat.le_refl _)
        simp only [Prog.exec, Option.some.injEq, Prod.mk.injEq] at hx
        obtain ⟨rfl, rfl, _⟩ := hx
        refine ⟨rfl, _, hsl a len cap n m (hrun cap hlc true), [_], rfl, _, m - n, cap - n, _, rfl, rfl, by simp; omega, by omega, by omega, ?_⟩
        by_cases h0 : m - n = 0
        · exact .inl h0
        · rcases hz with h1 | ⟨ad, c, e, f, rfl, hs, him, hh, ho, hr⟩
          · omega
          · refine .inr ⟨⟨ad.block, ad.off + n * te.size, none⟩, c, e, f, ?_, rfl, him, hh, ?_, ?_⟩
            · rw [if_neg (by omega)]; simp [addr_add' hs]
            · have hm1 : m * te.size ≤ len * te.size := Nat.mul_le_mul_right _ (by omega)
              simp only [Nat.sub_mul]
              have : n * te.size ≤ m * te.size := Nat.mul_le_mul_right _ hab
              omega
            · have h2 := (hr.take m).drop n
              have hm1 : m * te.size ≤ len * te.size := Nat.mul_le_mul_right _ (by omega)
              rw [List.take_take, Nat.min_eq_left hm1, List.drop_take, List.drop_drop, ← Nat.sub_mul] at h2
              exact h2
      case nil =>
        simp only [vrel] at ha; subst ha
        obtain ⟨n, m, hx, hab, hb, hrun⟩ := exec_cut (P := P) (len := 0) (mst := 0) hx hlo hhi (Nat.le_refl _)
        simp only [Prog.exec, Option.some.injEq, Prod.mk.injEq] at hx
        obtain ⟨rfl, rfl, _⟩ := hx
        have := hsl none 0 0 n m (hrun 0 (Nat.le_refl _) true)
        obtain rfl : m = 0 := by omega
        obtain rfl : n = 0 := by omega
        exact ⟨rfl, _, this, none, by simp⟩
      case emp _ =>
        obtain ⟨a, rfl⟩ := ha
        obtain ⟨n, m, hx, hab, hb, hrun⟩ := exec_cut (P := P) (len := 0) (mst := 0) hx hlo hhi (Nat.le_refl _)
        simp only [Prog.exec, Option.some.injEq, Prod.mk.injEq] at hx
        obtain ⟨rfl, rfl, _⟩ := hx
        have := hsl a 0 0 n m (hrun 0 (Nat.le_refl _) true)
        obtain rfl : m = 0 := by omega
        obtain rfl : n = 0 := by omega
        exact ⟨rfl, _, this, a, by simp⟩
      case all t' i len =>
        replace hx := exec_chk hx; obtain ⟨hc, hx⟩ := hx
        rw [Ty.beq_iff] at hc; subst hc
        obtain ⟨a, cap, hm, rfl⟩ := ha
        obtain ⟨hlc, _, _⟩ := hR.ok _ _ hm
        obtain ⟨n, m, hx, hab, hb, hrun⟩ := exec_cut (P := P) hx hlo hhi (Nat.le_refl _)
        simp only [Prog.exec, Option.some.injEq, Prod.mk.injEq] at hx
        obtain ⟨rfl, rfl, _⟩ := hx
        exact ⟨rfl, _, hsl a len cap n m (hrun cap hlc true), a, len, cap, _, hm, by omega, hlc, rfl, fun hlt => by rw [if_neg (by omega)]⟩
      case sub t' i off len =>
        replace hx := exec_chk hx; obtain ⟨hc, hx⟩ := hx
        rw [Ty.beq_iff] at hc; subst hc
        replace hx := exec_get hx; obtain ⟨b, hb, hx⟩ := hx
        obtain ⟨a, L, cap, a', hm, hlen, hLc, rfl, ha'⟩ := ha
        obtain ⟨_, _, hz⟩ := hR.ok _ _ hm
        have fin : ∀ (xs : List D), xs.length = L → (cutIn lo hi (len : Int) ((xs.length - off : Nat) : Int) fun a b => Prog.ret (V.sub t' i (off + a) (b - a))).exec h ((i, false) :: l) = some (v, h', l') →
            h' = h ∧ ∃ y, (Instr.sliceAt tid (.slice a' len (cap - off)) lo' hi' none).run P w = .ok y w ∧ vrel w μ Im v y := by
          intro xs hxs hx
          obtain ⟨n, m, hx, hab, hb, hrun⟩ := exec_cut (P := P) hx hlo hhi (by omega)
          simp only [Prog.exec, Option.some.injEq, Prod.mk.injEq] at hx
          obtain ⟨rfl, rfl, _⟩ := hx
          refine ⟨rfl, _, hsl a' len (cap - off) n m (hrun (cap - off) (by omega) true), a, L, cap, _, hm, by omega, hLc, by rw [Nat.sub_sub], fun hlt => ?_⟩
          rw [if_neg (by omega), ha' (by omega)]
          by_cases hL : 0 < cap
          · obtain ⟨ad, rfl, hs⟩ := hz hL
            simp only [Option.map_some, addr_add' hs, addr_add, Nat.add_mul, Nat.add_assoc]
          · omega
        have hbr := hR.blk i b hb
        cases b <;> (try simp only at hx) <;> try exact (exec_fail hx).elim
        · obtain ⟨a2, cap2, hm2, _⟩ := hbr
          rw [hm] at hm2
          simp only [Option.some.injEq, Hdl.row.injEq] at hm2
          exact fin _ hm2.2.1.symm hx
        · obtain ⟨a2, cap2, hm2, _⟩ := hbr
          rw [hm] at hm2
          simp only [Option.some.injEq, Hdl.row.injEq] at hm2
          exact fin _ hm2.2.1.symm hx
      case asl t' i p n' off len =>
        replace hx := exec_chk hx; obtain ⟨hc, hx⟩ := hx
        rw [Ty.beq_iff] at hc; subst hc
        obtain ⟨b, tb, o, a, hm, hpl, hlen, rfl, ha'⟩ := ha
        obtain ⟨n, m, hx, hab, hb, hrun⟩ := exec_cut (P := P) hx hlo hhi (by omega)
        simp only [Prog.exec, Option.some.injEq, Prod.mk.injEq] at hx
        obtain ⟨rfl, rfl, _⟩ := hx
        have := hsl (some a) len (n' - off) n m (hrun (n' - off) (Nat.le_refl _) true)
        by_cases hlt : n' - off = n
        · rw [if_pos hlt] at this
          exact ⟨rfl, _, this, b, tb, o, a, hm, hpl, by omega, by rw [Nat.sub_sub], fun h => by omega⟩
        · rw [if_neg hlt] at this
          refine ⟨rfl, _, this, b, tb, o, a.add (n * t'.size), hm, hpl, by omega, by rw [Nat.sub_sub]; rfl, fun h => ?_⟩
          rw [ha' (by omega), addr_add, Nat.add_mul]
          congr 1
          omega

end
end Go.Ev

/- '==' on data. -/
namespace Go.Ev
open Go

section
variable {P : Program} {w : World} {Im : Nat → Prop}

theorem dnth_ext : ∀ {xs ys : List D}, xs.length = ys.length → (∀ i, i < xs.length → dnth xs i = dnth ys i) → xs = ys := by
  intro xs ys hl h
  apply List.ext_getElem hl
  intro i h1 h2
  have := h i h1
  rwa [dnth_get h1, dnth_get h2] at this

mutual
theorem run_eq_rep : ∀ {t : Ty} {tid : TypeId} {n : Nat} {cs cs' : List Value} {d d' : D}, t.cmp = true → TyOK P t tid → t.height ≤ n → Rep w Im t cs d → Rep w Im t cs' d' →
    (Op.equalIn n tid (mkVal t cs) (mkVal t cs')).run P w = .ok (decide (d = d')) w
  | .int k, tid, n + 1, _, _, _, _, _, hty, _, ⟨a, rfl, rfl, _⟩, ⟨b, rfl, rfl, _⟩ => by
    show (Op.equalIn (n + 1) tid (.int k a) (.int k b)).run P w = _
    rw [run_equalIn_int w n tid k k a b hty.2]
    congr 1
    rw [Bool.eq_iff_iff]
    simp
  | .bool, tid, n + 1, _, _, _, _, _, hty, _, ⟨a, rfl, rfl⟩, ⟨b, rfl, rfl⟩ => by
    show (Op.equalIn (n + 1) tid (.bool a) (.bool b)).run P w = _
    rw [run_equalIn_bool' w n tid a b hty.2]
    congr 1
    rw [Bool.eq_iff_iff]
    simp
  | .str, tid, n + 1, _, _, _, _, _, hty, _, ⟨a, rfl, rfl, _⟩, ⟨b, rfl, rfl, _⟩ => by
    show (Op.equalIn (n + 1) tid (.string a) (.string b)).run P w = _
    rw [run_equalIn_string w n tid a b hty.2]
    congr 1
    rw [Bool.eq_iff_iff, Lib.toList_data, Lib.toList_data]
    simp
  | .struct ts, tid, n + 1, cs, cs', _, _, hc, hty, hh, ⟨ds, rfl, hr⟩, ⟨ds', rfl, hr'⟩ => by
    obtain ⟨_, hst, fs, hu, hf⟩ := hty
    have hfo : P.fieldsOf tid = fs := by simp [Program.fieldsOf, hu]
    show (Op.equalIn (n + 1) tid (.agg cs.toArray) (.agg cs'.toArray)).run P w = _
    rw [run_equalIn_struct w n tid _ _ (by rw [hfo]; exact hu) hst, hfo]
    rw [run_eq_reps (o := 0) (by simpa [Ty.cmp] using hc) hf (by simp only [Ty.height] at hh; omega) (by simpa using hr) (by simpa using hr') (by simp [hr.len]) (by simp [hr'.len])]
    congr 1
    rw [Bool.eq_iff_iff]
    simp
  | .arr m t, tid, n + 1, cs, cs', _, _, hc, hty, hh, ⟨ds, rfl, hn, hr⟩, ⟨ds', rfl, hn', hr'⟩ => by
    obtain ⟨_, te, hu, hte⟩ := hty
    obtain ⟨i, hi, hsz, _⟩ := hte.base.ex
    have hco : P.cellsOf te = t.size := by simp [Program.cellsOf, hi, hsz]
    show (Op.equalIn (n + 1) tid (.agg cs.toArray) (.agg cs'.toArray)).run P w = _
    rw [run_equalIn_array w n _ _ hu hi, hco]
    have hl := hr.len
    have hl' := hr'.len
    have key : ∀ is : List Nat, (∀ i ∈ is, i < m) → (Op.eqItems n te t.size cs.toArray cs'.toArray is).run P w = .ok (decide (∀ i ∈ is, dnth ds i = dnth ds' i)) w := by
      intro is
      induction is with
      | nil => intro _; simp [Op.eqItems]
      | cons i is ih =>
        intro him
        have hi' := him i (by simp)
        have hm1 : (i + 1) * t.size ≤ m * t.size := Nat.mul_le_mul_right _ hi'
        rw [Nat.succ_mul] at hm1
        simp only [Op.eqItems, Sem.run_bind]
        rw [run_part hte cs _ (by rw [hl, hn]; omega)]
        simp only [Result.andThen_ok]
        rw [run_part hte cs' _ (by rw [hl', hn']; omega)]
        simp only [Result.andThen_ok]
        rw [run_eq_rep (by simpa [Ty.cmp] using hc) hte (by simp only [Ty.height] at hh; omega) (hr.get (by omega)) (hr'.get (by omega))]
        simp only [Result.andThen_ok]
        by_cases he : dnth ds i = dnth ds' i
        · simp only [he, decide_true, Bool.not_true, Bool.false_eq_true, if_false]
          rw [ih fun j hj => him j (by simp [hj])]
          congr 1
          rw [Bool.eq_iff_iff]
          simp [he]
        · simp [he]
    rw [key _ (by simp)]
    congr 1
    rw [Bool.eq_iff_iff]
    simp only [List.mem_range, decide_eq_true_eq, D.r.injEq]
    constructor
    · intro h; exact dnth_ext (by omega) fun i hi => h i (by omega)
    · rintro rfl; intros; rfl
  | .slice _, _, _, _, _, _, _, hc, _, _, _, _ => by simp [Ty.cmp] at hc
  | .ptr, _, _, _, _, _, _, hc, _, _, _, _ => by simp [Ty.cmp] at hc
  | .map _ _, _, _, _, _, _, _, hc, _, _, _, _ => by simp [Ty.cmp] at hc
  | .fn, _, _, _, _, _, _, hc, _, _, _, _ => by simp [Ty.cmp] at hc
  | .ifc, _, _, _, _, _, _, hc, _, _, _, _ => by simp [Ty.cmp] at hc
  | .int _, _, 0, _, _, _, _, _, _, hh, _, _ => by simp [Ty.height] at hh
  | .bool, _, 0, _, _, _, _, _, _, hh, _, _ => by simp [Ty.height] at hh
  | .str, _, 0, _, _, _, _, _, _, hh, _, _ => by simp [Ty.height] at hh
  | .struct _, _, 0, _, _, _, _, _, _, hh, _, _ => by simp [Ty.height] at hh
  | .arr _ _, _, 0, _, _, _, _, _, _, hh, _, _ => by simp [Ty.height] at hh
theorem run_eq_reps : ∀ {ts : List Ty} {fs : List Field} {o n : Nat} {cs cs' : List Value} {ds ds' : List D}, Ty.cmps ts = true → FieldsOK P ts fs o → Ty.heights ts ≤ n → Reps w Im ts (cs.drop o) ds → Reps w Im ts (cs'.drop o) ds' →
    o + Ty.sizes ts ≤ cs.length → o + Ty.sizes ts ≤ cs'.length → (Op.eqFields n cs.toArray cs'.toArray fs).run P w = .ok (decide (ds = ds')) w
  | [], _, o, n, cs, cs', _, _, _, hf, _, ⟨_, rfl⟩, ⟨_, rfl⟩, _, _ => by
    simp only [FieldsOK] at hf; subst hf
    simp [Op.eqFields]
  | t :: ts, _, o, n, cs, cs', _, _, hc, ⟨f, fs', rfl, hty, hof, hnm, hf⟩, hh, ⟨d, ds, rfl, hl, hr, hrs⟩, ⟨d', ds', rfl, hl', hr', hrs'⟩, hle, hle' => by
    simp only [Ty.cmps, Bool.and_eq_true] at hc
    simp only [Ty.heights] at hh
    simp only [Ty.sizes] at hle hle'
    simp only [Op.eqFields, hnm, ne_eq, not_false_eq_true, if_true, Sem.run_bind, hof]
    rw [run_part hty cs o (by omega)]
    simp only [Result.andThen_ok]
    rw [run_part hty cs' o (by omega)]
    simp only [Result.andThen_ok]
    rw [run_eq_rep hc.1 hty (by omega) hr hr']
    simp only [Result.andThen_ok]
    by_cases he : d = d'
    · subst he
      simp only [decide_true, Bool.not_true, Bool.false_eq_true, if_false]
      rw [List.drop_drop] at hrs hrs'
      rw [run_eq_reps hc.2 hf (by omega) hrs hrs' (by omega) (by omega)]
      congr 1
      rw [Bool.eq_iff_iff]
      simp
    · simp [he]
end


mutual
theorem guard_free : ∀ {t : Ty} {tid : TypeId} {n : Nat}, t.cmp = true → TyOK P t tid → t.height ≤ n → P.eqGuardType n tid = false
  | .int _, tid, n + 1, _, hty, _ => by simp [Program.eqGuardType, hty.2]
  | .bool, tid, n + 1, _, hty, _ => by simp [Program.eqGuardType, hty.2]
  | .str, tid, n + 1, _, hty, _ => by simp [Program.eqGuardType, hty.2]
  | .struct ts, tid, n + 1, hc, hty, hh => by
    obtain ⟨_, hst, fs, hu, hf⟩ := hty
    simp only [Program.eqGuardType, hu]
    rw [← Array.any_toList]
    exact guards_free (by simpa [Ty.cmp] using hc) hf (by simp only [Ty.height] at hh; omega)
  | .arr m t, tid, n + 1, hc, hty, hh => by
    obtain ⟨_, te, hu, hte⟩ := hty
    simp only [Program.eqGuardType, hu]
    exact guard_free (by simpa [Ty.cmp] using hc) hte (by simp only [Ty.height] at hh; omega)
  | .slice _, _, _, hc, _, _ => by simp [Ty.cmp] at hc
  | .ptr, _, _, hc, _, _ => by simp [Ty.cmp] at hc
  | .map _ _, _, _, hc, _, _ => by simp [Ty.cmp] at hc
  | .fn, _, _, hc, _, _ => by simp [Ty.cmp] at hc
  | .ifc, _, _, hc, _, _ => by simp [Ty.cmp] at hc
  | .int _, _, 0, _, _, hh => by simp [Ty.height] at hh
  | .bool, _, 0, _, _, hh => by simp [Ty.height] at hh
  | .str, _, 0, _, _, hh => by simp [Ty.height] at hh
  | .struct _, _, 0, _, _, hh => by simp [Ty.height] at hh
  | .arr _ _, _, 0, _, _, hh => by simp [Ty.height] at hh
theorem guards_free : ∀ {ts : List Ty} {fs : List Field} {o n : Nat}, Ty.cmps ts = true → FieldsOK P ts fs o → Ty.heights ts ≤ n → (fs.any fun f => f.name != "_" && P.eqGuardType n f.type) = false
  | [], _, o, n, _, hf, _ => by simp only [FieldsOK] at hf; subst hf; rfl
  | t :: ts, _, o, n, hc, ⟨f, fs', rfl, hty, _, _, hf⟩, hh => by
    simp only [Ty.cmps, Bool.and_eq_true] at hc
    simp only [Ty.heights] at hh
    simp only [List.any_cons]
    rw [guard_free hc.1 hty (by omega), guards_free hc.2 hf (by omega)]
    simp
end

end
end Go.Ev

/- Arithmetic, comparisons, conversions, indexes of values, picks. -/
namespace Go.Ev
open Go

section
variable {P : Program} {C : Cx} {w : World} {μ : Mu} {Im : Nat → Prop}

theorem kmin_le (k : IntKind) : k.min ≤ 0 := by cases k <;> decide
theorem kmax_ge (k : IntKind) : 0 ≤ k.max := by cases k <;> decide

theorem int_rel {k : IntKind} {n : Int} (h0 : k.min ≤ n) (h1 : n ≤ k.max) : vrel w μ Im (V.int k n) (.int k n) := ⟨[.int k n], rfl, n, rfl, rfl, h0, h1⟩
theorem wrap_rel (k : IntKind) (n : Int) : vrel w μ Im (V.int k (k.wrap n)) (.int k (k.wrap n)) := int_rel (wrap_within k n).1 (wrap_within k n).2
theorem bool_rel (b : Bool) : vrel w μ Im (V.bool b) (.bool b) := ⟨[.bool b], rfl, b, rfl, rfl⟩

theorem dat_int {k : IntKind} {n : Int} {x : Value} (h : vrel w μ Im (.dat (.int k) (.i n)) x) : x = .int k n ∧ k.min ≤ n ∧ n ≤ k.max := by
  obtain ⟨cs, rfl, m, rfl, hd, h⟩ := h
  simp only [D.i.injEq] at hd; subst hd
  exact ⟨rfl, h⟩
theorem dat_bool {b : Bool} {x : Value} (h : vrel w μ Im (.dat .bool (.b b)) x) : x = .bool b := by
  obtain ⟨cs, rfl, m, rfl, hd⟩ := h
  simp only [D.b.injEq] at hd; subst hd
  rfl
theorem dat_str {l : List UInt8} {x : Value} (h : vrel w μ Im (.dat .str (.s l)) x) : ∃ s : ByteArray, x = .string s ∧ s.data.toList = l ∧ s.size ≤ most := by
  obtain ⟨cs, rfl, s, rfl, hd, h⟩ := h
  simp only [D.s.injEq] at hd
  exact ⟨s, rfl, hd.symm, h⟩

theorem tmod_within {k : IntKind} {a b : Int} (h0 : k.min ≤ a) (h1 : a ≤ k.max) : k.min ≤ a.tmod b ∧ a.tmod b ≤ k.max := by
  have hk0 := kmin_le k
  have hk1 := kmax_ge k
  by_cases ha : 0 ≤ a
  · have h2 : 0 ≤ a.tmod b := Int.tmod_nonneg b ha
    have h3 : (a.tmod b).natAbs ≤ a.natAbs := by rw [Int.natAbs_tmod]; exact Nat.mod_le _ _
    omega
  · have e : a.tmod b = -((-a).tmod b) := by rw [Int.neg_tmod, Int.neg_neg]
    have h2 : 0 ≤ (-a).tmod b := Int.tmod_nonneg b (by omega)
    have h3 : ((-a).tmod b).natAbs ≤ (-a).natAbs := by rw [Int.natAbs_tmod]; exact Nat.mod_le _ _
    omega

theorem fdiv_within {k : IntKind} {a : Int} (n : Nat) (h0 : k.min ≤ a) (h1 : a ≤ k.max) : k.min ≤ a.fdiv (2 ^ n) ∧ a.fdiv (2 ^ n) ≤ k.max := by
  have hk0 := kmin_le k
  have hk1 := kmax_ge k
  have hp : (1 : Int) ≤ 2 ^ n := by
    have : (1 : Nat) ≤ 2 ^ n := Nat.one_le_two_pow
    exact_mod_cast this
  rw [Int.fdiv_eq_ediv_of_nonneg _ (by omega)]
  by_cases ha : 0 ≤ a
  · have h2 := Int.ediv_nonneg ha (show (0 : Int) ≤ 2 ^ n by omega)
    have h3 := Int.ediv_le_self (2 ^ n) ha
    omega
  · have h2 : a ≤ a / 2 ^ n := by
      rw [Int.le_ediv_iff_mul_le (by omega)]
      have : a * 2 ^ n ≤ a * 1 := Int.mul_le_mul_of_nonpos_left (by omega) hp
      omega
    have h3 : a / 2 ^ n < 0 := Int.ediv_neg_of_neg_of_pos (by omega) (by omega)
    omega

theorem ok_binInt {op : BinOp} {xt : TypeId} {k k' : IntKind} {a b : Int} {v : V} {h h' : H} {l l' : Log} (hk : isShift op = true ∨ k = k') (h0 : k.min ≤ a) (h1 : a ≤ k.max) (hx : (binInt op k a b).exec h l = some (v, h', l')) :
    h' = h ∧ ∃ y, (binOp op xt (.int k a) (.int k' b)).run P w = .ok y w ∧ vrel w μ Im v y := by
  cases op <;> simp only [isShift, Bool.false_eq_true, false_or, true_or] at hk <;> (try subst hk) <;> simp only [binInt, Prog.exec] at hx
  case add => simp only [Option.some.injEq, Prod.mk.injEq] at hx; obtain ⟨rfl, rfl, _⟩ := hx; exact ⟨rfl, _, by simp [binOp, Op.intArith], wrap_rel _ _⟩
  case sub => simp only [Option.some.injEq, Prod.mk.injEq] at hx; obtain ⟨rfl, rfl, _⟩ := hx; exact ⟨rfl, _, by simp [binOp, Op.intArith], wrap_rel _ _⟩
  case mul => simp only [Option.some.injEq, Prod.mk.injEq] at hx; obtain ⟨rfl, rfl, _⟩ := hx; exact ⟨rfl, _, by simp [binOp, Op.intArith], wrap_rel _ _⟩
  case quo =>
    by_cases hb : b = 0
    · simp [hb] at hx
    · simp only [hb, decide_false, Bool.false_eq_true, if_false, Option.some.injEq, Prod.mk.injEq] at hx
      obtain ⟨rfl, rfl, _⟩ := hx; exact ⟨rfl, _, by simp [binOp, Op.intDiv, hb], wrap_rel _ _⟩
  case rem =>
    by_cases hb : b = 0
    · simp [hb] at hx
    · simp only [hb, decide_false, Bool.false_eq_true, if_false, Option.some.injEq, Prod.mk.injEq] at hx
      obtain ⟨rfl, rfl, _⟩ := hx; exact ⟨rfl, _, by simp [binOp, Op.intDiv, hb], int_rel (tmod_within h0 h1).1 (tmod_within h0 h1).2⟩
  case and => simp only [Option.some.injEq, Prod.mk.injEq] at hx; obtain ⟨rfl, rfl, _⟩ := hx; exact ⟨rfl, _, by simp [binOp, Op.intBits, iand], wrap_rel _ _⟩
  case or => simp only [Option.some.injEq, Prod.mk.injEq] at hx; obtain ⟨rfl, rfl, _⟩ := hx; exact ⟨rfl, _, by simp [binOp, Op.intBits, ior], wrap_rel _ _⟩
  case xor => simp only [Option.some.injEq, Prod.mk.injEq] at hx; obtain ⟨rfl, rfl, _⟩ := hx; exact ⟨rfl, _, by simp [binOp, Op.intBits, ixor], wrap_rel _ _⟩
  case andNot => simp only [Option.some.injEq, Prod.mk.injEq] at hx; obtain ⟨rfl, rfl, _⟩ := hx; exact ⟨rfl, _, by simp [binOp, Op.intBits, iandNot], wrap_rel _ _⟩
  case shl =>
    by_cases hb : b < 0
    · simp [hb] at hx
    · simp only [hb, decide_false, Bool.false_eq_true, if_false, Option.some.injEq, Prod.mk.injEq] at hx
      obtain ⟨rfl, rfl, _⟩ := hx; exact ⟨rfl, _, by simp [binOp, Op.shift, hb, ishl], wrap_rel _ _⟩
  case shr =>
    by_cases hb : b < 0
    · simp [hb] at hx
    · simp only [hb, decide_false, Bool.false_eq_true, if_false, Option.some.injEq, Prod.mk.injEq] at hx
      obtain ⟨rfl, rfl, _⟩ := hx; exact ⟨rfl, _, by simp [binOp, Op.shift, hb, ishr], int_rel (fdiv_within _ h0 h1).1 (fdiv_within _ h0 h1).2⟩
  case eql => simp only [Option.some.injEq, Prod.mk.injEq] at hx; obtain ⟨rfl, rfl, _⟩ := hx; exact ⟨rfl, _, by simp [binOp, Op.intCmp]; rfl, bool_rel _⟩
  case neq => simp only [Option.some.injEq, Prod.mk.injEq] at hx; obtain ⟨rfl, rfl, _⟩ := hx; exact ⟨rfl, _, by simp [binOp, Op.intCmp]; rfl, bool_rel _⟩
  case lss => simp only [Option.some.injEq, Prod.mk.injEq] at hx; obtain ⟨rfl, rfl, _⟩ := hx; exact ⟨rfl, _, by simp [binOp, Op.intCmp], bool_rel _⟩
  case leq => simp only [Option.some.injEq, Prod.mk.injEq] at hx; obtain ⟨rfl, rfl, _⟩ := hx; exact ⟨rfl, _, by simp [binOp, Op.intCmp], bool_rel _⟩
  case gtr => simp only [Option.some.injEq, Prod.mk.injEq] at hx; obtain ⟨rfl, rfl, _⟩ := hx; exact ⟨rfl, _, by simp [binOp, Op.intCmp], bool_rel _⟩
  case geq => simp only [Option.some.injEq, Prod.mk.injEq] at hx; obtain ⟨rfl, rfl, _⟩ := hx; exact ⟨rfl, _, by simp [binOp, Op.intCmp], bool_rel _⟩

theorem size_append (a b : ByteArray) : (a ++ b).data.toList = a.data.toList ++ b.data.toList := by
  cases a; cases b; rw [← Array.toList_append]; congr 1; exact ByteArray.data_append

theorem ok_binStr {op : BinOp} {xt : TypeId} {a b : ByteArray} {v : V} {h h' : H} {l l' : Log} (hx : (binStr op a.data.toList b.data.toList).exec h l = some (v, h', l')) :
    h' = h ∧ ∃ y, (binOp op xt (.string a) (.string b)).run P w = .ok y w ∧ vrel w μ Im v y := by
  cases op <;> simp only [binStr] at hx <;> try exact (exec_fail hx).elim
  case add =>
    replace hx := exec_need hx; obtain ⟨hb, hx⟩ := hx
    have hb' : a.size + b.size ≤ 4611686018427387904 := by rw [Lib.size_eq a, Lib.size_eq b]; exact of_decide_eq_true hb
    simp only [Prog.exec, Option.some.injEq, Prod.mk.injEq] at hx
    obtain ⟨rfl, rfl, _⟩ := hx
    have hmax : IntKind.i64.max = 9223372036854775807 := by decide
    refine ⟨rfl, .string (a ++ b), ?_, [.string (a ++ b)], rfl, a ++ b, rfl, by rw [size_append], ?_⟩
    · simp only [binOp, Op.stringOp]
      rw [if_neg (by rw [hmax]; omega)]
      rfl
    · rw [Lib.size_eq, size_append, List.length_append, ← Lib.size_eq, ← Lib.size_eq]
      unfold most; omega
  case eql =>
    simp only [Prog.exec, Option.some.injEq, Prod.mk.injEq] at hx; obtain ⟨rfl, rfl, _⟩ := hx
    refine ⟨rfl, _, by simp only [binOp, Op.stringOp, Sem.run_pure]; rfl, ?_⟩
    rw [Lib.toList_data, Lib.toList_data]
    have : (a.data.toList == b.data.toList) = decide (a.data.toList = b.data.toList) := by rw [Bool.eq_iff_iff]; simp
    rw [this]; exact bool_rel _
  case neq =>
    simp only [Prog.exec, Option.some.injEq, Prod.mk.injEq] at hx; obtain ⟨rfl, rfl, _⟩ := hx
    refine ⟨rfl, _, by simp only [binOp, Op.stringOp, Sem.run_pure]; rfl, ?_⟩
    rw [Lib.toList_data, Lib.toList_data]
    have : (a.data.toList == b.data.toList) = decide (a.data.toList = b.data.toList) := by rw [Bool.eq_iff_iff]; simp
    rw [this]; exact bool_rel _

theorem run_eqGuard_plain {op : BinOp} {t : TypeId} {x y : Operand} {a b : Value} (h : ∀ c d, ¬ (a = .agg c ∧ b = .agg d)) (hn : a = .nilIface → b = .nilIface → isConst x = true ∨ isConst y = true) : (eqGuard op t x y a b).run P w = .ok () w := by
  unfold eqGuard
  cases op <;> simp only [Bool.not_true, Bool.not_false, if_true, Bool.false_eq_true, if_false, Sem.run_bind, Sem.run_pure, Result.andThen_ok] <;> (first | rfl | skip)
  all_goals
    split
    · have := hn rfl rfl
      rcases this with h | h
      · cases x <;> simp [isConst] at h; simp
      · cases y <;> simp [isConst] at h; simp
    · exact absurd ⟨rfl, rfl⟩ (h _ _)
    · rfl

theorem run_equalIn_ifc {xt : TypeId} {ms : Array (String × TypeId)} (hu : P.underlying xt = some (.interface ms)) (n : Nat) {it : TypeId} {z : Value} : (Op.equalIn (n + 1) xt (.iface it z) .nilIface).run P w = .ok false w := by
  simp [Op.equalIn, run_underlying hu]
theorem run_equalIn_nil {xt : TypeId} {ms : Array (String × TypeId)} (hu : P.underlying xt = some (.interface ms)) (n : Nat) : (Op.equalIn (n + 1) xt .nilIface .nilIface).run P w = .ok true w := by
  simp [Op.equalIn, run_underlying hu]

theorem ok_bin {op : BinOp} {t : Ty} {xt : TypeId} {x y : Operand} {xv yv v : V} {a b : Value} {h h' : H} {l l' : Log} (hty : TyOK P t xt) (hd : 64 ≤ P.depth) (ha : vrel w μ Im xv a) (hb : vrel w μ Im yv b)
    (hx : (evBin op t (isConst x || isConst y) xv yv).exec h l = some (v, h', l')) :
    h' = h ∧ ∃ z, (do eqGuard op xt x y a b; binOp op xt a b : Sem Value).run P w = .ok z w ∧ vrel w μ Im v z := by
  have step : ∀ {a b z : Value}, (eqGuard op xt x y a b).run P w = .ok () w → (binOp op xt a b).run P w = .ok z w → (do eqGuard op xt x y a b; binOp op xt a b : Sem Value).run P w = .ok z w := by
    intro a b z h1 h2
    simp only [Sem.run_bind, h1, Result.andThen_ok, h2]
  unfold evBin at hx
  split at hx
  · rename_i k a' k' b'
    obtain ⟨rfl, h0, h1⟩ := dat_int ha
    obtain ⟨rfl, _, _⟩ := dat_int hb
    split at hx
    · rename_i hs
      simp only [Bool.or_eq_true, decide_eq_true_eq] at hs
      obtain ⟨rfl, z, hz, hr⟩ := ok_binInt (P := P) (w := w) (μ := μ) (Im := Im) (xt := xt) (k' := k') hs h0 h1 hx
      exact ⟨rfl, z, step (run_eqGuard_plain (by simp) (by simp)) hz, hr⟩
    · exact (exec_fail hx).elim
  · rename_i a' b'
    obtain ⟨s, rfl, rfl, _⟩ := dat_str ha
    obtain ⟨s', rfl, rfl, _⟩ := dat_str hb
    obtain ⟨rfl, z, hz, hr⟩ := ok_binStr (P := P) (w := w) (μ := μ) (Im := Im) (xt := xt) hx
    exact ⟨rfl, z, step (run_eqGuard_plain (by simp) (by simp)) hz, hr⟩
  · rename_i a' b'
    obtain rfl := dat_bool ha
    obtain rfl := dat_bool hb
    replace hx := exec_chk hx; obtain ⟨hc, hx⟩ := hx
    rw [Ty.beq_iff] at hc; subst hc
    have heq : (Op.equal xt (.bool a') (.bool b')).run P w = .ok (a' == b') w := run_equalIn_bool' w 9999 xt a' b' hty.2
    cases op <;> simp only at hx <;> try exact (exec_fail hx).elim
    · simp only [Prog.exec, Option.some.injEq, Prod.mk.injEq] at hx; obtain ⟨rfl, rfl, _⟩ := hx
      exact ⟨rfl, .bool (a' == b'), step (run_eqGuard_plain (by simp) (by simp)) (by simp only [binOp, Sem.run_bind, heq, Result.andThen_ok, Sem.run_pure]), bool_rel _⟩
    · simp only [Prog.exec, Option.some.injEq, Prod.mk.injEq] at hx; obtain ⟨rfl, rfl, _⟩ := hx
      exact ⟨rfl, .bool (!(a' == b')), step (run_eqGuard_plain (by simp) (by simp)) (by simp only [binOp, Sem.run_bind, heq, Result.andThen_ok, Sem.run_pure]), bool_rel _⟩
  · rename_i t1 a' t2 b' _ _ _
    replace hx := exec_chk hx; obtain ⟨hc, hx⟩ := hx
    simp only [Bool.and_eq_true, Ty.beq_iff] at hc
    obtain ⟨⟨⟨⟨rfl, hcmp⟩, hagg⟩, rfl⟩, hh⟩ := hc
    have hh' : t.height ≤ 64 := Nat.le_of_ble_eq_true hh
    obtain ⟨cs, rfl, hr⟩ := ha
    obtain ⟨cs', rfl, hr'⟩ := hb
    have heq := run_eq_rep (n := 10000) hcmp hty (by omega) hr hr'
    have hg := guard_free (n := P.depth) hcmp hty (by omega)
    have e1 : mkVal t cs = .agg cs.toArray := by simp [mkVal, hagg]
    have e2 : mkVal t cs' = .agg cs'.toArray := by simp [mkVal, hagg]
    rw [e1, e2] at heq ⊢
    cases op <;> simp only at hx <;> try exact (exec_fail hx).elim
    · simp only [Prog.exec, Option.some.injEq, Prod.mk.injEq] at hx; obtain ⟨rfl, rfl, _⟩ := hx
      refine ⟨rfl, .bool (decide (a' = b')), step (run_eqGuard_agg w _ _ _ _ _ _ hg) ?_, by rw [D.beq_eq]; exact bool_rel _⟩
      rw [run_eql_struct, heq]; rfl
    · simp only [Prog.exec, Option.some.injEq, Prod.mk.injEq] at hx; obtain ⟨rfl, rfl, _⟩ := hx
      refine ⟨rfl, .bool (!decide (a' = b')), step (run_eqGuard_agg w _ _ _ _ _ _ hg) ?_, by rw [D.beq_eq]; exact bool_rel _⟩
      rw [run_neq_struct, heq]; rfl
  · rename_i it iv
    replace hx := exec_chk hx; obtain ⟨hc, hx⟩ := hx
    rw [Ty.beq_iff] at hc; subst hc
    obtain ⟨z, rfl, _⟩ := ha
    simp only [vrel] at hb; subst hb
    obtain ⟨_, ms, hu⟩ := hty
    have heq : (Op.equal xt (.iface it z) .nilIface).run P w = .ok false w := by
      exact run_equalIn_ifc hu 9999
    cases op <;> simp only at hx <;> try exact (exec_fail hx).elim
    · simp only [Prog.exec, Option.some.injEq, Prod.mk.injEq] at hx; obtain ⟨rfl, rfl, _⟩ := hx
      exact ⟨rfl, .bool false, step (run_eqGuard_plain (by simp) (by simp)) (by simp only [binOp, Sem.run_bind, heq, Result.andThen_ok, Sem.run_pure]), bool_rel _⟩
    · simp only [Prog.exec, Option.some.injEq, Prod.mk.injEq] at hx; obtain ⟨rfl, rfl, _⟩ := hx
      exact ⟨rfl, .bool true, step (run_eqGuard_plain (by simp) (by simp)) (by simp only [binOp, Sem.run_bind, heq, Result.andThen_ok, Sem.run_pure, Bool.not_false]), bool_rel _⟩
  · replace hx := exec_chk hx; obtain ⟨hc, hx⟩ := hx
    simp only [Bool.and_eq_true, Ty.beq_iff, Bool.or_eq_true] at hc
    obtain ⟨rfl, hcst⟩ := hc
    simp only [vrel] at ha hb; subst ha; subst hb
    obtain ⟨_, ms, hu⟩ := hty
    have heq : (Op.equal xt .nilIface .nilIface).run P w = .ok true w := by
      exact run_equalIn_nil hu 9999
    cases op <;> simp only at hx <;> try exact (exec_fail hx).elim
    · simp only [Prog.exec, Option.some.injEq, Prod.mk.injEq] at hx; obtain ⟨rfl, rfl, _⟩ := hx
      exact ⟨rfl, .bool true, step (run_eqGuard_plain (by simp) (fun _ _ => hcst)) (by simp only [binOp, Sem.run_bind, heq, Result.andThen_ok, Sem.run_pure]), bool_rel _⟩
    · simp only [Prog.exec, Option.some.injEq, Prod.mk.injEq] at hx; obtain ⟨rfl, rfl, _⟩ := hx
      exact ⟨rfl, .bool false, step (run_eqGuard_plain (by simp) (fun _ _ => hcst)) (by simp only [binOp, Sem.run_bind, heq, Result.andThen_ok, Sem.run_pure, Bool.not_true]), bool_rel _⟩
  · exact (exec_fail hx).elim

theorem ok_un {op : UnOp} {xv v : V} {x : Value} {h h' : H} {l l' : Log} (ha : vrel w μ Im xv x) (hx : (evUn op xv).exec h l = some (v, h', l')) :
    h' = h ∧ ∃ z, (Op.unary op x).run P w = .ok z w ∧ vrel w μ Im v z := by
  unfold evUn at hx
  split at hx
  · obtain rfl := dat_bool ha
    simp only [Prog.exec, Option.some.injEq, Prod.mk.injEq] at hx; obtain ⟨rfl, rfl, _⟩ := hx
    exact ⟨rfl, _, by simp only [Op.unary, Sem.run_pure], bool_rel _⟩
  · obtain ⟨rfl, _, _⟩ := dat_int ha
    simp only [Prog.exec, Option.some.injEq, Prod.mk.injEq] at hx; obtain ⟨rfl, rfl, _⟩ := hx
    exact ⟨rfl, _, by simp [Op.unary, Op.intArith]; rfl, by rw [show ∀ n : Int, (0 : Int) - n = -n from fun n => by omega]; exact wrap_rel _ _⟩
  · obtain ⟨rfl, _, _⟩ := dat_int ha
    simp only [Prog.exec, Option.some.injEq, Prod.mk.injEq] at hx; obtain ⟨rfl, rfl, _⟩ := hx
    exact ⟨rfl, _, by simp only [Op.unary, Op.intBits, Sem.run_pure]; rfl, wrap_rel _ _⟩
  · exact (exec_fail hx).elim

theorem ok_pick {cv av bv v : V} {c a b : Value} {h h' : H} {l l' : Log} (hc : vrel w μ Im cv c) (ha : vrel w μ Im av a) (hb : vrel w μ Im bv b) (hx : (evPick cv av bv).exec h l = some (v, h', l')) :
    h' = h ∧ ∃ z, (do pure (.value (if ← asBool c then a else b)) : Sem Next).run P w = .ok (.value z) w ∧ vrel w μ Im v z := by
  unfold evPick at hx
  split at hx
  · rename_i x
    obtain rfl := dat_bool hc
    refine ⟨?_, if x then a else b, by simp [asBool], ?_⟩
    · split at hx
      · simp only [Prog.exec, Option.some.injEq, Prod.mk.injEq] at hx; exact hx.2.1.symm
      · cases x <;> simp only [Prog.exec, Bool.false_eq_true, if_false, if_true, Option.some.injEq, Prod.mk.injEq] at hx <;> exact hx.2.1.symm
    · split at hx
      · simp only [Prog.exec, Option.some.injEq, Prod.mk.injEq] at hx
        obtain ⟨rfl, _⟩ := hx
        obtain rfl := dat_bool ha
        obtain rfl := dat_bool hb
        cases x <;> exact bool_rel _
      · cases x <;> simp only [Prog.exec, Bool.false_eq_true, if_false, if_true, Option.some.injEq, Prod.mk.injEq] at hx
        · obtain ⟨rfl, _⟩ := hx; exact hb
        · obtain ⟨rfl, _⟩ := hx; exact ha
  · exact (exec_fail hx).elim

theorem ok_index {t : Ty} {tid : TypeId} {xv iv v : V} {x ix : Value} {h h' : H} {l l' : Log} (hty : TyOK P t tid) (ha : vrel w μ Im xv x) (hi : vrel w μ Im iv ix) (hx : (evIndex t xv iv).exec h l = some (v, h', l')) :
    h' = h ∧ ∃ y, (Instr.index tid x ix).run P w = .ok y w ∧ vrel w μ Im v y := by
  unfold evIndex at hx
  cases hk : iv.num with
  | none => simp only [hk] at hx; exact (exec_fail hx).elim
  | some k =>
    simp only [hk] at hx
    obtain ⟨kd, rfl⟩ := V.num_rel hk hi
    split at hx
    · rename_i n te t' d
      replace hx := exec_chk hx; obtain ⟨hc, hx⟩ := hx
      rw [Ty.beq_iff] at hc; subst hc
      replace hx := exec_need hx; obtain ⟨hb, hx⟩ := hx
      rw [inb_iff] at hb
      simp only [Prog.exec, Option.some.injEq, Prod.mk.injEq] at hx
      obtain ⟨rfl, rfl, _⟩ := hx
      obtain ⟨cs, rfl, ds, rfl, hn, hr⟩ := ha
      obtain ⟨_, te', hu, hte⟩ := hty
      have hl := hr.len
      have hkn : k.toNat < ds.length := by omega
      have hm1 : (k.toNat + 1) * te.size ≤ ds.length * te.size := Nat.mul_le_mul_right _ hkn
      rw [Nat.succ_mul] at hm1
      refine ⟨rfl, _, ?_, ofD_rel (hr.get hkn)⟩
      simp only [Instr.index, asIntOf, Sem.run_bind, Sem.run_pure, Result.andThen_ok, run_underlying hu, mkVal, Ty.isAgg, if_true, hb.1, hb.2, and_self, hte.base.run_size]
      exact run_part hte cs _ (by omega)
    · rename_i bs
      replace hx := exec_need hx; obtain ⟨hb, hx⟩ := hx
      rw [inb_iff] at hb
      simp only [Prog.exec, Option.some.injEq, Prod.mk.injEq] at hx
      obtain ⟨rfl, rfl, _⟩ := hx
      obtain ⟨s, rfl, rfl, _⟩ := dat_str ha
      have hlt : k.toNat < s.data.toList.length := by omega
      have hlt' : k.toNat < s.size := by rw [Lib.size_eq]; exact hlt
      have hg : s[k.toNat]? = some (s.data.toList[k.toNat]) := by
        rw [getElem?_pos s k.toNat hlt']
        rfl
      refine ⟨rfl, .int .u8 ((s.data.toList[k.toNat]).toNat : Int), ?_, ?_⟩
      · simp only [Instr.index, asIntOf, Sem.run_bind, Sem.run_pure, Result.andThen_ok, run_underlying hty.2, hb.1, if_true, hg]
      · have : s.data.toList.getD k.toNat 0 = s.data.toList[k.toNat] := by rw [List.getD_eq_getElem?_getD, List.getElem?_eq_getElem hlt]; rfl
        rw [this]
        have h255 : (s.data.toList[k.toNat]).toNat < 256 := UInt8.toNat_lt _
        exact int_rel (by show (0 : Int) ≤ _; omega) (by show _ ≤ (255 : Int); omega)
    · exact (exec_fail hx).elim

end
end Go.Ev
