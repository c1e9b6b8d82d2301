/- Environments out of tables of contracts; loops by their number; contracts out of residual models. Small laws for the proofs over data: selectors, well-made data, walks over lists by an index. From a claim's reading of the arguments to data, and from a law's contract to its row's post-condition. The types of this translation, as the evaluator names them. Printed by mktypes.py. -/
import Derived.Test.YtkepijaabpkdbaaA5
import Derived.JoinedCond
import Derived.ChangeStays
import Derived.OpenShut
import Derived.ReadAgain
import Derived.ProofKit
import Derived.WalkKit
set_option linter.unusedVariables false
set_option linter.unusedSimpArgs false

/- Environments out of tables of contracts; loops by their number; contracts out of residual models. -/
namespace Go.Ev
open Go

abbrev Phi := List D → List D → T (List D × List D)
abbrev Tab := List (Nat × (Sig × Phi))

/-- a decision out of an option -/
def T.ofO {α : Type} : Option α → T α
  | some a => .ret a
  | none => .fail
theorem T.ofO_val {α : Type} : ∀ o : Option α, (T.ofO o).val = o
  | some _ => rfl
  | none => rfl
/-- answers under a premise -/
def T.pre {α : Type} (b : Bool) (a : α) : T α := .cond b (.ret a) .fail
theorem T.pre_val {α : Type} {b : Bool} {a r : α} (h : (T.pre b a).val = some r) : b = true ∧ a = r := by
  unfold T.pre at h
  cases b <;> simp_all [T.val]

/-- does a signature take these arguments? Told by functions, dynamic types and what is nil alone -/
def fitsSig : List Sh → List V → Bool
  | [], [] => true
  | s :: l, v :: vs => (match s, v with
    | .fn g _, .fn g' _ => Nat.beq g g'
    | .fn _ _, _ => false
    | .nilf, .nilf => true
    | .nilf, _ => false
    | .ifc t _, .ifc t' _ => Nat.beq t t'
    | .ifc _ _, _ => false
    | .nili, .nili => true
    | .nili, _ => false
    | .nilp, .nilp => true
    | .nilp, _ => false
    | .nilm, .nilm => true
    | .nilm, _ => false
    | .ref _ _, .ptr _ _ _ => true
    | .ref _ _, _ => false
    | .mref _, .map _ => true
    | .mref _, _ => false
    | _, _ => true) && fitsSig l vs
  | _, _ => false

def tabFind : Tab → Nat → List V → Option (Sig × Phi)
  | [], _, _ => none
  | (g, e) :: t, f, vs => match Nat.beq g f && fitsSig e.1.ins vs with
    | true => some e
    | false => tabFind t f vs

def tabSig (t : Tab) (f : Nat) (vs : List V) : Option Sig := match tabFind t f vs with
  | some e => some e.1
  | none => none
def tabPhi (t : Tab) (f : Nat) (vs : List V) : Phi := match tabFind t f vs with
  | some e => e.2
  | none => fun _ _ => .fail

abbrev Loops := List (Nat × LoopInfo)

def mkEnv (ty : TypeId → Option Ty) (t : Tab) (meth : TypeId → String → Option FuncId) (nt np : Nat) (loops : Loops) : Env :=
  { ty := ty, sig := tabSig t, phi := tabPhi t, meth := meth, ntmps := nt, npins := np, loops := look loops }

def noMeth : TypeId → String → Option FuncId := fun _ _ => none

inductive TabOK (P : Program) : Tab → Prop
  | nil : TabOK P []
  | cons {f : Nat} {sg : Sig} {phi : Phi} {t : Tab} : SpecOK P f sg phi → sg.wf = true → TabOK P t → TabOK P ((f, (sg, phi)) :: t)

theorem TabOK.find {P : Program} : ∀ {t : Tab}, TabOK P t → ∀ {f : Nat} {vs : List V} {e : Sig × Phi}, tabFind t f vs = some e → SpecOK P f e.1 e.2 ∧ e.1.wf = true
  | _, .nil, f, vs, e, h => by simp [tabFind] at h
  | _, .cons h1 h2 ht, f, vs, e, h => by
    simp only [tabFind] at h
    split at h
    · rename_i he
      simp only [Bool.and_eq_true] at he
      have := Nat.eq_of_beq_eq_true he.1
      subst this
      injection h with h
      subst h
      exact ⟨h1, h2⟩
    · exact ht.find h

def MethOK (P : Program) (m : TypeId → String → Option FuncId) : Prop :=
  ∀ t name g, m t name = some g → ∀ v w, (method (P.types.size + Made.depth) t v name).run P w = .ok (g, v) w
theorem noMeth_ok {P : Program} : MethOK P noMeth := fun _ _ _ h => by simp [noMeth] at h

structure TypesOK (P : Program) (ty : TypeId → Option Ty) : Prop where
  ty : ∀ t x, ty t = some x → TyOK P x t
  depth : 64 ≤ P.depth
  mixed : P.follows .mixedOrders = true

theorem setting_of {P : Program} {ty : TypeId → Option Ty} {t : Tab} {meth : TypeId → String → Option FuncId} {nt np : Nat} {loops : Loops} (h : TypesOK P ty) (ht : TabOK P t) (hm : MethOK P meth) : Setting P (mkEnv ty t meth nt np loops) := by
  refine ⟨⟨h.ty, h.depth⟩, ⟨fun f vs sg hs => ?_, fun f vs sg hs => ?_, hm⟩, h.mixed⟩
  all_goals
    simp only [mkEnv, tabSig] at hs
    split at hs <;> simp only [Option.some.injEq, reduceCtorEq] at hs
    rename_i e he
    subst hs
    have := ht.find he
  · simp only [mkEnv, tabPhi, he]; exact this.1
  · exact this.2

/-! ### Loops by their number -/

def loopsIn : Code → List Code
  | .seq a b => vapp (loopsIn a) (loopsIn b)
  | .cond _ a b => vapp (loopsIn a) (loopsIn b)
  | .block _ a => loopsIn a
  | .scope a => loopsIn a
  | .loop a => a :: loopsIn a
  | _ => []

def loopN (c : Code) (k : Nat) : Code := (vnth (loopsIn c) k).getD .skip

def LoopGood (E : Env) (np : Nat) (a : Code) : Prop := ∀ i li, firstReg a = some i → E.loops i = some li → LoopJust E np a li

theorem LoopGood.of {E : Env} {np : Nat} {a : Code} {i : Nat} {li : LoopInfo} (h1 : firstReg a = some i) (h2 : E.loops i = some li) (h : LoopJust E np a li) : LoopGood E np a := by
  intro j lj hj hl
  rw [h1] at hj; injection hj with hj; subst hj
  rw [h2] at hl; injection hl with hl; subst hl
  exact h

def AllGood (E : Env) (np : Nat) : List Code → Prop
  | [] => True
  | a :: l => LoopGood E np a ∧ AllGood E np l

theorem AllGood.append {E : Env} {np : Nat} : ∀ {a b : List Code}, AllGood E np (vapp a b) → AllGood E np a ∧ AllGood E np b
  | [], b, h => ⟨trivial, h⟩
  | x :: a, b, h => ⟨⟨h.1, (AllGood.append h.2).1⟩, (AllGood.append h.2).2⟩

theorem loopsOK_of {E : Env} {np : Nat} : ∀ {c : Code}, AllGood E np (loopsIn c) → LoopsOK E np c
  | .seq a b, h => ⟨loopsOK_of (AllGood.append h).1, loopsOK_of (AllGood.append h).2⟩
  | .cond _ a b, h => ⟨loopsOK_of (AllGood.append (a := loopsIn a) h).1, loopsOK_of (AllGood.append (a := loopsIn a) h).2⟩
  | .block _ a, h => loopsOK_of (c := a) h
  | .scope a, h => loopsOK_of (c := a) h
  | .loop a, h => ⟨loopsOK_of h.2, h.1⟩
  | .skip, _ => trivial
  | .region .., _ => trivial
  | .rangeFunc .., _ => trivial
  | .exit _, _ => trivial
  | .label _, _ => trivial
  | .goto _, _ => trivial
  | .ret, _ => trivial
  | .refuse _, _ => trivial

theorem loopsOK_list {E : Env} {np : Nat} {c : Code} {l : List Code} (h : loopsIn c = l) (hg : AllGood E np l) : LoopsOK E np c := loopsOK_of (h ▸ hg)

/-! ### Contracts -/

def bodyOf (fn : Func) : Code := fn.body.getD .skip

theorem spec_of {P : Program} {ty : TypeId → Option Ty} {t : Tab} {meth : TypeId → String → Option FuncId} {loops : Loops} {fn : Func} {f : FuncId} {sg : Sig} {phi : Phi}
    (h : TypesOK P ty) (hm : MethOK P meth) (ht : TabOK P t) (hf : P.funcs[f]? = some fn) (hname : (fn.name == "runtime.NumGoroutine") = false) (hb : fn.body.isSome = true) (hwf : sg.wf = true) (hin : Nat.ble (vlen sg.ins) fn.ntmps = true)
    (hl : LoopsOK (mkEnv ty t meth fn.ntmps (vlen sg.heap) loops) (vlen sg.heap) (bodyOf fn))
    (hphi : ∀ hs as r, wfAll sg.heap sg.ins hs as = true → (phi hs as).val = some r → evF (mkEnv ty t meth fn.ntmps (vlen sg.heap) loops) fn sg hs as = some r) : SpecOK P f sg phi := by
  obtain ⟨c, hc⟩ := Option.isSome_iff_exists.1 hb
  have hcb : bodyOf fn = c := by unfold bodyOf; rw [hc]; rfl
  have e : vlen sg.heap = sg.heap.length := vlen_eq _
  rw [hcb, e] at hl
  rw [e] at hphi
  rw [vlen_eq] at hin
  exact spec_of_evF (setting_of h ht hm) hf hname hc rfl rfl hwf (Nat.le_of_ble_eq_true hin) hl hphi

theorem SpecOK.weaken {P : Program} {f : FuncId} {sg : Sig} {phi psi : Phi} (h : SpecOK P f sg phi) (hp : ∀ hs as r, (psi hs as).val = some r → (phi hs as).val = some r) : SpecOK P f sg psi :=
  fun hs as hs' outs hv => h hs as hs' outs (hp _ _ _ hv)

/-! ### A table of types -/

def rowsTab (rows : List (List (Option Ty))) (t : Nat) : Option Ty := match vnth rows (t / 16) with
  | some l => match vnth l (t % 16) with
    | some x => x
    | none => none
  | none => none

def rowChk (P : Program) : List (Option Ty) → Nat → Bool
  | [], _ => true
  | none :: l, k => rowChk P l (k + 1)
  | some x :: l, k => tyChk P x k && rowChk P l (k + 1)
def rowsChk (P : Program) : List (List (Option Ty)) → Nat → Bool
  | [], _ => true
  | r :: l, k => rowChk P r (k * 16) && rowsChk P l (k + 1)

theorem rowChk_ok {P : Program} : ∀ {l : List (Option Ty)} {k : Nat}, rowChk P l k = true → ∀ {j : Nat} {x : Ty}, vnth l j = some (some x) → TyOK P x (k + j)
  | [], k, _, j, x, hj => by simp [vnth] at hj
  | none :: l, k, h, 0, x, hj => by simp [vnth] at hj
  | none :: l, k, h, j + 1, x, hj => by
    have := rowChk_ok (l := l) (k := k + 1) h (j := j) hj
    rwa [Nat.add_assoc, Nat.add_comm 1 j] at this
  | some y :: l, k, h, 0, x, hj => by
    simp only [rowChk, Bool.and_eq_true] at h
    simp only [vnth, Option.some.injEq] at hj
    subst hj
    exact tyChk_ok h.1
  | some y :: l, k, h, j + 1, x, hj => by
    simp only [rowChk, Bool.and_eq_true] at h
    have := rowChk_ok h.2 (j := j) hj
    rwa [Nat.add_assoc, Nat.add_comm 1 j] at this
theorem rowsChk_ok {P : Program} : ∀ {rows : List (List (Option Ty))} {k : Nat}, rowsChk P rows k = true → ∀ {j : Nat} {l : List (Option Ty)}, vnth rows j = some l → rowChk P l ((k + j) * 16) = true
  | [], k, _, j, l, hj => by simp [vnth] at hj
  | r :: rows, k, h, 0, l, hj => by
    simp only [rowsChk, Bool.and_eq_true] at h
    simp only [vnth, Option.some.injEq] at hj
    subst hj
    exact h.1
  | r :: rows, k, h, j + 1, l, hj => by
    simp only [rowsChk, Bool.and_eq_true] at h
    have := rowsChk_ok h.2 (j := j) hj
    rwa [Nat.add_assoc, Nat.add_comm 1 j] at this

theorem typesOK_of {P : Program} {rows : List (List (Option Ty))} (h : rowsChk P rows 0 = true) (hd : Nat.ble 64 P.depth = true) (hm : P.follows .mixedOrders = true) : TypesOK P (rowsTab rows) := by
  refine ⟨fun t x hx => ?_, Nat.le_of_ble_eq_true hd, hm⟩
  unfold rowsTab at hx
  split at hx
  · rename_i l hl
    have h1 := rowsChk_ok h hl
    split at hx
    · rename_i y hy
      subst hx
      have := rowChk_ok h1 hy
      rw [Nat.zero_add] at this
      have e : t / 16 * 16 + t % 16 = t := Nat.div_add_mod' t 16
      rwa [e] at this
    · simp at hx
  · simp at hx

/-! ### Loops by a measure -/

theorem loopJust_of {E : Env} {np : Nat} {a : Code} {li : LoopInfo} (μ : List D → List D → Nat) (hk : li.keep.wf np = true) (he : (li.ends.all fun e => e.2.wf np) = true)
    (h : ∀ go hs as p, li.wf hs as = true → (li.phi hs as).val = some p → (∀ hs' as', μ hs' as' < μ hs as → (li.wf hs' as' = true → (li.phi hs' as').val = some p) → go hs' as' = some p) → stepOf E np a li go hs as = some p) : LoopJust E np a li := by
  refine ⟨hk, fun c kp hc => ?_, fun hs as p hw hp => ?_⟩
  · rw [List.all_eq_true] at he
    have : ∀ {l : List (Nat × Keep)}, look l c = some kp → (c, kp) ∈ l := by
      intro l
      induction l with
      | nil => intro h; simp [look] at h
      | cons x l ih =>
        obtain ⟨k, v⟩ := x
        intro h
        rw [look_cons] at h
        split at h
        · rename_i e; subst e; injection h with h; subst h; exact List.mem_cons_self
        · exact List.mem_cons_of_mem _ (ih h)
    exact he _ (this hc)
  · have key : ∀ m hs as, μ hs as < m → (li.wf hs as = true → (li.phi hs as).val = some p) → roundsP li.wf p (stepOf E np a li) m hs as = some p := by
      intro m
      induction m with
      | zero => intro hs as h; exact absurd h (Nat.not_lt_zero _)
      | succ m ih =>
        intro hs as hm hp
        simp only [roundsP]
        split
        · rename_i hw
          exact h _ hs as p hw (hp hw) fun hs' as' hlt hp' => ih hs' as' (Nat.lt_of_lt_of_le hlt (Nat.le_of_lt_succ hm)) hp'
        · rfl
    exact ⟨μ hs as + 1, key _ hs as (Nat.lt_succ_self _) fun _ => hp⟩

end Go.Ev

/- Small laws for the proofs over data: selectors, well-made data, walks over lists by an index. -/
namespace Go.Ev
open Go

/-! ### Selectors -/

@[simp] theorem dnth_zero (x : D) (l : List D) : dnth (x :: l) 0 = x := id rfl
@[simp] theorem dnth_succ (x : D) (l : List D) (k : Nat) : dnth (x :: l) (k + 1) = dnth l k := id rfl
@[simp] theorem dnth_one (x y : D) (l : List D) : dnth (x :: y :: l) 1 = y := id rfl
@[simp] theorem dnth_two (x y z : D) (l : List D) : dnth (x :: y :: z :: l) 2 = z := id rfl
@[simp] theorem dnth_nil (k : Nat) : dnth [] k = .i 0 := by cases k <;> rfl
@[simp] theorem int_i (n : Int) : D.int (.i n) = n := id rfl
@[simp] theorem bool_b (b : Bool) : D.bool (.b b) = b := id rfl
@[simp] theorem str_s (l : List UInt8) : D.str (.s l) = l := id rfl
@[simp] theorem list_r (l : List D) : D.list (.r l) = l := id rfl
@[simp] theorem f_r (l : List D) (k : Nat) : D.f (.r l) k = dnth l k := id rfl
@[simp] theorem dput_zero (x y : D) (l : List D) : dput (x :: l) 0 y = y :: l := id rfl
@[simp] theorem dput_succ (x y : D) (l : List D) (k : Nat) : dput (x :: l) (k + 1) y = x :: dput l k y := id rfl
@[simp] theorem set1_r (l : List D) (k : Nat) (x : D) : D.set1 (.r l) k x = .r (dput l k x) := id rfl

@[simp] theorem dset_nil (d x : D) : dset d [] x = x := id rfl
@[simp] theorem dset_cons (d x : D) (k : Nat) (p : List Nat) : dset d (k :: p) x = d.set1 k (dset (d.f k) p x) := id rfl
theorem dnth_mem {l : List D} {k : Nat} (h : k < l.length) : dnth l k ∈ l := by
  rw [dnth_eq, List.getElem?_eq_getElem h]; exact List.getElem_mem h
@[simp] theorem dput_length : ∀ (l : List D) (k : Nat) (x : D), (dput l k x).length = l.length
  | [], _, _ => rfl
  | _ :: _, 0, _ => rfl
  | _ :: l, k + 1, x => by simp [dput_length l k x]
@[simp] theorem D.beq_self (x : D) : D.beq x x = true := (D.beq_iff _ _).2 rfl
theorem D.beq_ne {x y : D} (h : x ≠ y) : D.beq x y = false := by
  cases e : D.beq x y
  · rfl
  · exact (h ((D.beq_iff _ _).1 e)).elim

/-! ### Maps as data -/

@[simp] theorem mapOf_ofMap (es : List (D × D)) : mapOf (ofMap es) = es := by
  simp [mapOf, ofMap, Function.comp_def]

theorem entry_set : ∀ (es : List (D × D)) (k v j : D), entry (setEntry es k v) j = if k = j then some v else entry es j
  | [], k, v, j => by
    simp only [setEntry, entry]
    by_cases h : k = j
    · subst h; simp
    · rw [D.beq_ne h, if_neg h]; rfl
  | (k', v') :: r, k, v, j => by
    simp only [setEntry]
    by_cases h : k' = k
    · subst h
      rw [D.beq_self, if_pos rfl]
      simp only [entry]
      by_cases h2 : k' = j
      · subst h2; simp
      · simp [D.beq_ne h2, h2]
    · rw [D.beq_ne h, if_neg (by simp)]
      simp only [entry]
      by_cases h2 : k' = j
      · subst h2
        have h3 : ¬ k = k' := fun e => h e.symm
        simp [h3]
      · simp [D.beq_ne h2, entry_set r k v j]

/-! ### Well-made data, opened -/

theorem wfs_cons {s : Sh} {l : List Sh} {as : List D} : wfShs (s :: l) as = true ↔ ∃ d ds, as = d :: ds ∧ wfSh s d = true ∧ wfShs l ds = true := by
  cases as with
  | nil => simp [wfShs]
  | cons d ds =>
    simp only [wfShs, Bool.and_eq_true]
    constructor
    · exact fun h => ⟨d, ds, rfl, h⟩
    · rintro ⟨_, _, h, h2⟩; injection h with h1 h3; subst h1; subst h3; exact h2
theorem wfs_nil {as : List D} : wfShs [] as = true ↔ as = [] := by cases as <;> simp [wfShs]
theorem wfh_cons {s : HSh} {l : List HSh} {as : List D} : wfHShs (s :: l) as = true ↔ ∃ d ds, as = d :: ds ∧ wfHSh s d = true ∧ wfHShs l ds = true := by
  cases as with
  | nil => simp [wfHShs]
  | cons d ds =>
    simp only [wfHShs, Bool.and_eq_true]
    constructor
    · exact fun h => ⟨d, ds, rfl, h⟩
    · rintro ⟨_, _, h, h2⟩; injection h with h1 h3; subst h1; subst h3; exact h2
theorem wfh_nil {as : List D} : wfHShs [] as = true ↔ as = [] := by cases as <;> simp [wfHShs]
theorem wfd_cons {t : Ty} {l : List Ty} {as : List D} : wfDs (t :: l) as = true ↔ ∃ d ds, as = d :: ds ∧ wfD t d = true ∧ wfDs l ds = true := by
  cases as with
  | nil => simp [wfDs]
  | cons d ds =>
    simp only [wfDs, Bool.and_eq_true]
    constructor
    · exact fun h => ⟨d, ds, rfl, h⟩
    · rintro ⟨_, _, h, h2⟩; injection h with h1 h3; subst h1; subst h3; exact h2
theorem wfd_nil {as : List D} : wfDs [] as = true ↔ as = [] := by cases as <;> simp [wfDs]
theorem wf_dat {t : Ty} {d : D} : (wfSh (.dat t) d = true) = (wfD t d = true) := rfl
theorem wf_int {k : IntKind} {d : D} : wfD (.int k) d = true ↔ ∃ n, d = .i n ∧ k.min ≤ n ∧ n ≤ k.max := by
  cases d <;> simp [wfD]
theorem wf_bool {d : D} : wfD .bool d = true ↔ ∃ b, d = .b b := by cases d <;> simp [wfD]
theorem wf_str {d : D} : wfD .str d = true ↔ ∃ l, d = .s l ∧ l.length ≤ most := by cases d <;> simp [wfD]
theorem wf_slice {t : Ty} {d : D} : wfD (.slice t) d = true ↔ ∃ l, d = .r l ∧ l.length ≤ most ∧ l.all (wfD t) = true := by
  cases d <;> simp [wfD]
theorem wf_arr {n : Nat} {t : Ty} {d : D} : wfD (.arr n t) d = true ↔ ∃ l, d = .r l ∧ l.length = n ∧ l.all (wfD t) = true := by
  cases d <;> simp [wfD]
theorem wf_struct {ts : List Ty} {d : D} : wfD (.struct ts) d = true ↔ ∃ l, d = .r l ∧ wfDs ts l = true := by
  cases d <;> simp [wfD]
theorem wf_own {t : Ty} {d : D} : wfSh (.own t) d = true ↔ ∃ l, d = .r l ∧ l.length ≤ most ∧ l.all (wfD t) = true := by
  cases d <;> simp [wfSh]
theorem wf_agg {ts : List Ty} {s : List Sh} {d : D} : wfSh (.agg ts s) d = true ↔ ∃ l, d = .r l ∧ wfShs s l = true := by
  cases d <;> simp [wfSh]
theorem wf_fn {g : Nat} {s : List Sh} {d : D} : wfSh (.fn g s) d = true ↔ ∃ l, d = .r l ∧ wfShs s l = true := by
  cases d <;> simp [wfSh]
theorem wf_ref {k : Nat} {t : Ty} {d : D} : (wfSh (.ref k t) d = true) ↔ True := by cases d <;> simp [wfSh]
theorem wf_rall {k : Nat} {t : Ty} {d : D} : (wfSh (.rall k t) d = true) ↔ True := by cases d <;> simp [wfSh]
theorem wf_mref {k : Nat} {d : D} : (wfSh (.mref k) d = true) ↔ True := by cases d <;> simp [wfSh]
theorem wf_rsub {k : Nat} {t : Ty} {d : D} : wfSh (.rsub k t) d = true ↔ ∃ o n : Int, d = .r [.i o, .i n] ∧ 0 ≤ o ∧ 0 ≤ n ∧ o + n ≤ (most : Int) := by
  constructor
  · intro h
    unfold wfSh at h
    split at h <;> simp_all
    exact ⟨_, _, ⟨rfl, rfl⟩, h.1.1, h.1.2, h.2⟩
  · rintro ⟨o, n, rfl, h1, h2, h3⟩
    simp [wfSh, h1, h2, h3]
theorem wf_any {d : D} : (wfSh .any d = true) ↔ True := by cases d <;> simp [wfSh]
theorem wf_hbox {t : Ty} {s : Sh} {d : D} : (wfHSh (.box t s) d = true) = (wfSh s d = true) := rfl
theorem wf_hrow {t : Ty} {d : D} : wfHSh (.row t) d = true ↔ ∃ l, d = .r l ∧ l.length ≤ most ∧ l.all (wfD t) = true := by
  cases d <;> simp [wfHSh]
theorem wf_hmap {k v : Ty} {d : D} : wfHSh (.map k v) d = true ↔ ∃ es, d = ofMap es ∧ ∀ e ∈ es, wfD k e.1 = true ∧ wfD v e.2 = true := by
  cases d with
  | r l =>
    simp only [wfHSh]
    constructor
    · intro h
      refine ⟨mapOf (.r l), ?_, ?_⟩
      · simp only [ofMap, mapOf, list_r, List.map_map, D.r.injEq]
        rw [List.all_eq_true] at h
        refine ((List.map_congr_left fun e he => ?_).trans (List.map_id _)).symm
        have := h e he
        unfold wfEnt at this
        split at this
        · rfl
        · simp at this
      · intro e he
        simp only [mapOf, list_r, List.mem_map] at he
        obtain ⟨x, hx, rfl⟩ := he
        rw [List.all_eq_true] at h
        have := h x hx
        unfold wfEnt at this
        split at this
        · simpa using this
        · simp at this
    · rintro ⟨es, h, he⟩
      simp only [ofMap, D.r.injEq] at h
      subst h
      rw [List.all_eq_true]
      intro x hx
      simp only [List.mem_map] at hx
      obtain ⟨e, hm, rfl⟩ := hx
      simpa [wfEnt] using he e hm
  | _ => simp [wfHSh, ofMap]
theorem wf_all {heap : List HSh} {sh : List Sh} {hs as : List D} : wfAll heap sh hs as = true ↔ wfHShs heap hs = true ∧ wfShs sh as = true := by
  simp [wfAll]
theorem wf_loop {li : LoopInfo} {hs as : List D} : li.wf hs as = true ↔ wfHShs li.keep.heap hs = true ∧ wfShs (slotShapes li.keep.slots) as = true := by
  simp [LoopInfo.wf, wfAll]

/-! ### Decisions with a premise -/

theorem cond_fail {α : Type} {b : Bool} {t : T α} {p : α} (h : (T.cond b t .fail).val = some p) : b = true ∧ t.val = some p := by
  cases b
  · simp [T.val] at h
  · exact ⟨rfl, h⟩
theorem cond_ok {α : Type} {b : Bool} {t : T α} {p : α} (hb : b = true) (h : t.val = some p) : (T.cond b t .fail).val = some p := by
  subst hb; exact h

/-! ### Walks by an index -/

theorem most_eq : most = 9223372036854775807 := rfl
theorem i64min : IntKind.i64.min = -9223372036854775808 := rfl
theorem i64max : IntKind.i64.max = 9223372036854775807 := rfl

theorem wrap_i64 {n : Int} (h1 : -9223372036854775808 ≤ n) (h2 : n ≤ 9223372036854775807) : IntKind.wrap .i64 n = n := by
  unfold IntKind.wrap
  simp [IntKind.bits, IntKind.signed]
  omega
theorem wrap_idem (k : IntKind) (n : Int) (h1 : k.min ≤ n) (h2 : n ≤ k.max) : k.wrap n = n := by
  cases k <;> simp [IntKind.wrap, IntKind.bits, IntKind.signed, IntKind.min, IntKind.max] at * <;> omega

theorem drop_step {l : List D} {i : Int} (h0 : 0 ≤ i) (h : i < (l.length : Int)) : l.drop i.toNat = dnth l i.toNat :: l.drop (i + 1).toNat := by
  have hlt : i.toNat < l.length := by omega
  have e : (i + 1).toNat = i.toNat + 1 := by omega
  rw [e, dnth_eq, List.getElem?_eq_getElem hlt]
  exact (List.drop_eq_getElem_cons hlt)
theorem drop_end {l : List D} {i : Int} (h0 : 0 ≤ i) (h : ¬ i < (l.length : Int)) : l.drop i.toNat = [] := by
  apply List.drop_eq_nil_of_le; omega
theorem wrap_next {l : List D} {i : Int} (h0 : 0 ≤ i) (h : i < (l.length : Int)) (hl : l.length ≤ most) : IntKind.wrap .i64 (i + 1) = i + 1 := by
  rw [most_eq] at hl
  exact wrap_i64 (by omega) (by omega)

end Go.Ev

/- From a claim's reading of the arguments to data, and from a law's contract to its row's post-condition. -/
namespace Go.Ev
open Go Go.ChangeShapes Go.WideShapes Go.ChangeAt Go.RowKit

/-! ### How much a datum holds -/

mutual
def bulkD : D → Nat
  | .b _ => 1
  | .i _ => 1
  | .s l => l.length + 1
  | .r ds => bulkDs ds + 1
def bulkDs : List D → Nat
  | [] => 0
  | d :: ds => bulkD d + bulkDs ds
end
mutual
def bulkW {H : Type} : DataW H → Nat
  | .lit (.string bytes) => bytes.length + 1
  | .lit _ => 1
  | .nil => 1
  | .ptr d => bulkW d + 1
  | .slice elems spare => bulkWs elems + bulkWs spare + 1
  | .agg parts => bulkWs parts + 1
  | .iface _ d => bulkW d + 1
  | .map _ => 1
  | .held _ => 1
def bulkWs {H : Type} : List (DataW H) → Nat
  | [] => 0
  | d :: r => bulkW d + bulkWs r
end
theorem bulkD_pos : ∀ d : D, 1 ≤ bulkD d
  | .b _ => by simp [bulkD]
  | .i _ => by simp [bulkD]
  | .s l => by simp [bulkD]
  | .r ds => by simp [bulkD]
theorem bulkDs_length : ∀ ds : List D, ds.length ≤ bulkDs ds
  | [] => by simp [bulkDs]
  | d :: ds => by
    have := bulkDs_length ds
    have := bulkD_pos d
    simp only [bulkDs, List.length_cons]; omega

section
variable {H : Type} {enc : TypeId × Value → H} {P : Program} {w : World} {sp : Nat → Bool}

theorem cells_ok {a : Addr} {n : Nat} {cs : List Value} (h : w.cells? 0 a n = some cs) (hn : 0 < n) : a.spot = none ∧ ∃ c e f, w.heap[a.block]? = some (.cells c e f) ∧ a.off + n ≤ c.size ∧ cs = (c.toList.drop a.off).take n := by
  unfold World.cells? at h
  rw [if_pos (Nat.zero_le _)] at h
  have hl := mapM_some_length h
  simp only [List.length_range] at hl
  have hg : ∀ j, j < n → w.cell? (a.add j) = cs[j]? := fun j hj => mapM_some_get h j j (by simp [hj])
  have h0 := hg 0 hn
  rw [List.getElem?_eq_getElem (by omega)] at h0
  have ha : a.add 0 = a := by simp [Addr.add]
  rw [ha] at h0
  unfold World.cell? at h0
  split at h0
  · rename_i c e f hb
    split at h0
    · simp at h0
    · rename_i hs
      have hs' : a.spot = none := by simpa using hs
      have hget : ∀ j, j < n → c[a.off + j]? = cs[j]? := fun j hj => by
        have := hg j hj
        unfold World.cell? Addr.add at this
        by_cases hj0 : j = 0
        · subst hj0
          simp only [if_true, hb, hs', Option.isSome_none, Bool.false_eq_true, if_false] at this
          simpa using this
        · rw [if_neg hj0] at this
          simpa [hb] using this
      have hlt : a.off + n ≤ c.size := by
        have := hget (n - 1) (by omega)
        rw [List.getElem?_eq_getElem (by omega)] at this
        have := (Array.getElem?_eq_some_iff.1 this).1
        omega
      refine ⟨hs', c, e, f, hb, hlt, ?_⟩
      apply List.ext_getElem?
      intro j
      rw [List.getElem?_take]
      by_cases hj : j < n
      · rw [if_pos hj, List.getElem?_drop, ← hget j hj]; simp
      · rw [if_neg hj, List.getElem?_eq_none (by omega)]
  · simp at h0

theorem cellsOf_ty {t : Ty} {tid : TypeId} (h : TyOK P t tid) : P.cellsOf tid = t.size := by
  obtain ⟨i, hi, hs, _⟩ := h.base.ex
  unfold Program.cellsOf
  rw [hi]; simpa using hs

/-- rows of elements -/
theorem rep_row {R : List Value → D → Prop} {sz : Nat} (hz : 0 < sz) : ∀ (xs : List (DataW H × List MemPlace)) (cs : List Value), cs.length = xs.length * sz →
    (∀ i y, xs[i]? = some y → ∃ d, R ((cs.drop (i * sz)).take sz) d ∧ bulkD d ≤ bulkW y.1) → ∃ ds, ds.length = xs.length ∧ RepN R sz cs ds ∧ bulkDs ds ≤ bulkWs (xs.map (·.1))
  | [], cs, hl, _ => ⟨[], rfl, by simp only [RepN]; exact List.eq_nil_of_length_eq_zero (by simpa using hl), by simp [bulkDs]⟩
  | y :: xs, cs, hl, h => by
    simp only [List.length_cons, Nat.succ_mul] at hl
    obtain ⟨d, hd, hb⟩ := h 0 y rfl
    obtain ⟨ds, h1, h2, h3⟩ := rep_row hz xs (cs.drop sz) (by simp; omega) fun i z hi => by
      have := h (i + 1) z (by simpa using hi)
      rw [List.drop_drop]
      rwa [show sz + i * sz = (i + 1) * sz by rw [Nat.succ_mul]; omega]
    refine ⟨d :: ds, by simp [h1], ⟨by omega, by simpa using hd, h2⟩, ?_⟩
    simp only [bulkDs, List.map_cons, bulkWs]; omega

/-- a row of elements in memory -/
theorem elems_row {R : List Value → D → Prop} {sz n : Nat} {a : Addr} (hz : 0 < sz) (hn : 0 < n) {f : List Value → Option (DataW H × List MemPlace)} {xs : List (DataW H × List MemPlace)} (hl : xs.length = n)
    (he : ∀ i, i < n → (w.cells? 0 (a.add (i * sz)) sz).bind f = xs[i]?) (hf : ∀ cs y, f cs = some y → ∃ d, R cs d ∧ bulkD d ≤ bulkW y.1) :
    a.spot = none ∧ ∃ c e fz ds, w.heap[a.block]? = some (.cells c e fz) ∧ a.off + n * sz ≤ c.size ∧ ds.length = n ∧ RepN R sz ((c.toList.drop a.off).take (n * sz)) ds ∧ bulkDs ds ≤ bulkWs (xs.map (·.1)) := by
  have hg : ∀ i, i < n → ∃ cs y, w.cells? 0 (a.add (i * sz)) sz = some cs ∧ f cs = some y ∧ xs[i]? = some y := fun i hi => by
    have := he i hi
    rw [List.getElem?_eq_getElem (by omega)] at this
    obtain ⟨cs, h1, h2⟩ := Option.bind_eq_some_iff.1 this
    exact ⟨cs, _, h1, h2, List.getElem?_eq_getElem (by omega)⟩
  obtain ⟨cs0, y0, h0, _, _⟩ := hg 0 hn
  have ha : a.add (0 * sz) = a := by simp [Addr.add]
  rw [ha] at h0
  obtain ⟨hs, c, e, fz, hb, _, _⟩ := cells_ok h0 hz
  have hoff : ∀ i, i < n → a.off + i * sz + sz ≤ c.size ∧ ∃ y, f ((c.toList.drop (a.off + i * sz)).take sz) = some y ∧ xs[i]? = some y := fun i hi => by
    obtain ⟨cs, y, h1, h2, h3⟩ := hg i hi
    obtain ⟨hs1, c1, e1, f1, hb1, hl1, hc1⟩ := cells_ok h1 hz
    have eb : (a.add (i * sz)).block = a.block := by unfold Addr.add; split <;> rfl
    have eo : (a.add (i * sz)).off = a.off + i * sz := by
      unfold Addr.add; split
      · rename_i h; rw [h]; rfl
      · rfl
    rw [eb, hb] at hb1
    injection hb1 with hb1; injection hb1 with q1 q2 q3
    subst q1
    rw [eo] at hl1 hc1
    exact ⟨hl1, y, hc1 ▸ h2, h3⟩
  have hlast := (hoff (n - 1) (by omega)).1
  have htot : a.off + n * sz ≤ c.size := by
    have : n * sz = (n - 1) * sz + sz := by
      obtain ⟨m, rfl⟩ : ∃ m, n = m + 1 := ⟨n - 1, by omega⟩
      rw [Nat.succ_mul]; simp
    omega
  obtain ⟨ds, k1, k2, k3⟩ := rep_row hz xs ((c.toList.drop a.off).take (n * sz)) (by simp; rw [hl]; omega) fun i y hi => by
    have hi' : i < n := by rw [← hl]; exact (List.getElem?_eq_some_iff.1 hi).1
    obtain ⟨q1, y', q2, q3⟩ := hoff i hi'
    rw [hi] at q3; injection q3 with q3; subst q3
    have hle : i * sz + sz ≤ n * sz := by
      have : (i + 1) * sz ≤ n * sz := Nat.mul_le_mul_right _ hi'
      rwa [Nat.succ_mul] at this
    have : (((c.toList.drop a.off).take (n * sz)).drop (i * sz)).take sz = (c.toList.drop (a.off + i * sz)).take sz := by
      rw [List.drop_take, List.take_take, List.drop_drop, Nat.min_eq_left (by omega)]
    rw [this]
    exact hf _ _ q2
  exact ⟨hs, c, e, fz, ds, hb, htot, k1.trans hl, k2, k3⟩

mutual
/-- what reads as data is data in memory -/
theorem trod_rep : ∀ {ty : Ty} {t : TypeId} {fuel : Nat} {cs : List Value} {x : DataW H × List MemPlace}, TyOK P ty t → ty.isPure = true → DataW.trod enc P w 0 sp true fuel t cs = some x →
    ∃ d, Rep w (fun b => b < w.heap.size) ty cs d ∧ bulkD d ≤ bulkW x.1
  | .int k, t, fuel, cs, x, hty, _, h => by
    obtain ⟨n, rfl, rfl, hw⟩ := DataW.trod_int hty.2 h
    simp only [Lit.wf, Bool.and_eq_true, decide_eq_true_eq] at hw
    exact ⟨.i n, ⟨n, rfl, rfl, hw.1, hw.2⟩, by simp [bulkD, bulkW]⟩
  | .bool, t, fuel, cs, x, hty, _, h => by
    obtain ⟨b, rfl, rfl⟩ := DataW.trod_bool hty.2 h
    exact ⟨.b b, ⟨b, rfl, rfl⟩, by simp [bulkD, bulkW]⟩
  | .str, t, fuel, cs, x, hty, _, h => by
    obtain ⟨s, rfl, rfl, hm⟩ := DataW.trod_string hty.2 h
    exact ⟨.s s.data.toList, ⟨s, rfl, rfl, by have e1 : maxLen = 2 ^ 63 - 1 := rfl
                                              have e2 : most = 9223372036854775807 := rfl
                                              omega⟩, by simp [bulkD, bulkW]⟩
  | .struct ts, t, fuel, cs, x, hty, hp, h => by
    have hsz := cellsOf_ty hty
    obtain ⟨_, _, fs, hu, hf⟩ := hty
    obtain ⟨xs, n, _, rfl, hl, hlen, hg⟩ := DataW.trod_struct hu h
    obtain ⟨ds, h1, h2⟩ := trod_reps (ts := ts) (fl := fs.toList) (o := 0) (xs := xs) (cs := cs) (n := n) hf (by simpa [Ty.isPure] using hp) (by simpa using hlen) (by rw [hl, hsz]; simp [Ty.size])
      (fun i f hi => hg i f (by simpa using hi))
    exact ⟨.r ds, ⟨ds, rfl, by simpa using h1⟩, by simp only [bulkD, bulkW]; omega⟩
  | .arr m te, t, fuel, cs, x, hty, hp, h => by
    have hsz := cellsOf_ty hty
    obtain ⟨_, te', hu, hte⟩ := hty
    obtain ⟨xs, n, _, rfl, hl, hlen, hg⟩ := DataW.trod_array hu h
    have hse := cellsOf_ty hte
    have hz : 0 < te.size := by obtain ⟨_, _, _, _, _, hne⟩ := hte.base.ex; omega
    obtain ⟨ds, h1, h2, h3⟩ := rep_row (R := Rep w (fun b => b < w.heap.size) te) hz xs cs (by rw [hl, hsz, hlen]; simp [Ty.size]) fun i y hi => by
      have hi' : i < m := by rw [← hlen]; exact (List.getElem?_eq_some_iff.1 hi).1
      have := hg i hi'
      rw [hi, hse] at this
      exact trod_rep hte (by simpa [Ty.isPure] using hp) this
    exact ⟨.r ds, ⟨ds, rfl, h1.trans hlen, h2⟩, by simp only [bulkD, bulkW]; omega⟩
  | .slice te, t, fuel, cs, x, hty, hp, h => by
    obtain ⟨_, te', hu, hte⟩ := hty
    have hse := cellsOf_ty hte
    have hz : 0 < te.size := by obtain ⟨_, _, _, _, _, hne⟩ := hte.base.ex; omega
    rcases DataW.trod_slice hu h with ⟨rfl, rfl⟩ | ⟨a, len, cap, elems, rest, n, _, rfl, rfl, _, hlc, hcm, hlen, hg, _, _⟩
    · exact ⟨.r [], ⟨none, 0, 0, [], rfl, rfl, rfl, Nat.le_refl _, Nat.zero_le _, .inl rfl⟩, by simp [bulkD, bulkDs, bulkW]⟩
    · have hcm' : cap ≤ most := by
        have e1 : maxLen = 2 ^ 63 - 1 := rfl
        have e2 : most = 9223372036854775807 := rfl
        omega
      by_cases h0 : len = 0
      · subst h0
        exact ⟨.r [], ⟨some a, 0, cap, [], rfl, rfl, rfl, hlc, hcm', .inl rfl⟩, by simp [bulkD, bulkDs, bulkW]⟩
      · rw [hse] at hg
        obtain ⟨hs, c, e, fz, ds, hb, htot, hdl, hrep, hbk⟩ := elems_row (R := Rep w (fun b => b < w.heap.size) te) hz (by omega) hlen hg fun cs y hy => trod_rep hte (by simpa [Ty.isPure] using hp) hy
        refine ⟨.r ds, ⟨some a, len, cap, ds, rfl, rfl, hdl, hlc, hcm', .inr ⟨a, c, e, fz, rfl, hs, ?_, hb, htot, hrep⟩⟩, by simp only [bulkD, bulkW]; omega⟩
        exact (Array.getElem?_eq_some_iff.1 hb).1
  | .ptr, _, _, _, _, _, hp, _ => by simp [Ty.isPure] at hp
  | .map _ _, _, _, _, _, _, hp, _ => by simp [Ty.isPure] at hp
  | .fn, _, _, _, _, _, hp, _ => by simp [Ty.isPure] at hp
  | .ifc, _, _, _, _, _, hp, _ => by simp [Ty.isPure] at hp
theorem trod_reps : ∀ {ts : List Ty} {fl : List Field} {o : Nat} {xs : List (DataW H × List MemPlace)} {cs : List Value} {n : Nat}, FieldsOK P ts fl o → Ty.arePure ts = true → xs.length = fl.length → cs.length = o + Ty.sizes ts →
    (∀ (i : Nat) (f : Field), fl[i]? = some f → DataW.trod enc P w 0 sp true n f.type ((cs.drop f.offset).take (P.cellsOf f.type)) = xs[i]?) →
    ∃ ds, Reps w (fun b => b < w.heap.size) ts (cs.drop o) ds ∧ bulkDs ds ≤ bulkWs (xs.map (·.1))
  | [], fl, o, xs, cs, n, hf, _, hl, hc, _ => by
    simp only [FieldsOK] at hf
    subst hf
    have : xs = [] := List.eq_nil_of_length_eq_zero (by simpa using hl)
    subst this
    exact ⟨[], ⟨List.drop_eq_nil_of_le (by simp [Ty.sizes] at hc; omega), rfl⟩, by simp [bulkDs]⟩
  | ty :: ts, fl, o, xs, cs, n, hf, hp, hl, hc, hg => by
    obtain ⟨f, fl', rfl, hty, ho, _, hf'⟩ := hf
    simp only [Ty.arePure, Bool.and_eq_true] at hp
    simp only [Ty.sizes] at hc
    cases xs with
    | nil => simp at hl
    | cons y xs =>
      have h0 := hg 0 f rfl
      simp only [List.getElem?_cons_zero] at h0
      rw [cellsOf_ty hty, ho] at h0
      obtain ⟨d, hd, hb⟩ := trod_rep hty hp.1 h0
      obtain ⟨ds, hds, hbs⟩ := trod_reps (ts := ts) (fl := fl') (o := o + ty.size) (xs := xs) (cs := cs) (n := n) hf' hp.2 (by simpa using hl) (by omega) (fun i g hi => by
        have := hg (i + 1) g (by simpa using hi)
        simpa using this)
      refine ⟨d :: ds, ⟨d, ds, rfl, by simp; omega, hd, ?_⟩, by simp only [bulkDs, List.map_cons, bulkWs]; omega⟩
      rwa [List.drop_drop]
end

/-- types of parameters -/
inductive TysOK (P : Program) : List Ty → List TypeId → Prop
  | nil : TysOK P [] []
  | cons {ty : Ty} {t : TypeId} {tys : List Ty} {ts : List TypeId} : TyOK P ty t → ty.isPure = true → TysOK P tys ts → TysOK P (ty :: tys) (t :: ts)

theorem okWide_val {ty : Ty} {t : TypeId} {base : Nat} {v : Value} (hty : TyOK P ty t) (h : Value.okWide P w .any base t v) : v = mkVal ty v.cells.toList := by
  cases ty with
  | struct ts =>
    obtain ⟨_, _, fs, hu, _⟩ := hty
    unfold Value.okWide at h
    rw [hu] at h
    obtain ⟨cs, rfl, _⟩ := h
    simp [mkVal, Ty.isAgg, Value.cells]
  | arr n te =>
    obtain ⟨_, te', hu, _⟩ := hty
    unfold Value.okWide at h
    rw [hu] at h
    obtain ⟨cs, rfl, _⟩ := h
    simp [mkVal, Ty.isAgg, Value.cells]
  | int k => have hu := hty.2; unfold Value.okWide at h; rw [hu] at h; cases v <;> simp_all [Cell.okWide, Cell.ok, mkVal, Ty.isAgg, Value.cells]
  | bool => have hu := hty.2; unfold Value.okWide at h; rw [hu] at h; cases v <;> simp_all [Cell.okWide, Cell.ok, mkVal, Ty.isAgg, Value.cells]
  | str => have hu := hty.2; unfold Value.okWide at h; rw [hu] at h; cases v <;> simp_all [Cell.okWide, Cell.ok, mkVal, Ty.isAgg, Value.cells]
  | slice te => obtain ⟨_, te', hu, _⟩ := hty; unfold Value.okWide at h; rw [hu] at h; cases v <;> simp_all [Cell.okWide, Cell.ok, mkVal, Ty.isAgg, Value.cells]
  | ptr => obtain ⟨_, te', hu⟩ := hty; unfold Value.okWide at h; rw [hu] at h; cases v <;> simp_all [Cell.okWide, Cell.ok, mkVal, Ty.isAgg, Value.cells]
  | map k e => obtain ⟨_, a, b, hu, _⟩ := hty; unfold Value.okWide at h; rw [hu] at h; cases v <;> simp_all [Cell.okWide, Cell.ok, mkVal, Ty.isAgg, Value.cells]
  | fn => obtain ⟨_, a, b, c, hu⟩ := hty; unfold Value.okWide at h; rw [hu] at h; cases v <;> simp_all [Cell.okWide, Cell.ok, mkVal, Ty.isAgg, Value.cells]
  | ifc => obtain ⟨_, a, hu⟩ := hty; unfold Value.okWide at h; rw [hu] at h; cases v <;> simp_all [Cell.okWide, Cell.ok, mkVal, Ty.isAgg, Value.cells]

theorem args_rel {hs : List D} {ks : List Hdl} : ∀ {tys : List Ty} {ts : List TypeId} {vs : List Value} {ds : List (DataW H)} {ps : List MemPlace} {base : Nat}, TysOK P tys ts → DataW.TrodAll enc P w 0 sp true ts vs ds ps →
    (∀ (j : Nat) t v, ts[j]? = some t → vs[j]? = some v → Value.okWide P w .any base t v) →
    ∃ as, shrels w (fun b => b < w.heap.size) ks hs (tys.map Sh.dat) as vs [] ∧ bulkDs as ≤ bulkWs ds
  | _, _, vs, ds, ps, base, .nil, h, _ => by
    obtain ⟨rfl, rfl, rfl⟩ := trodAll_nil h
    exact ⟨[], ⟨rfl, rfl, rfl⟩, by simp [bulkDs]⟩
  | _, _, vs, ds, ps, base, .cons hty hp hr, h, hok => by
    obtain ⟨v, vs', d, ds', p, q, rfl, rfl, rfl, ⟨fuel, h1⟩, h2⟩ := trodAll_cons h
    obtain ⟨a, ha, hb⟩ := trod_rep hty hp h1
    obtain ⟨as, has, hbs⟩ := args_rel hr h2 fun j t v hj hv => hok (j + 1) t v (by simpa using hj) (by simpa using hv)
    refine ⟨a :: as, ⟨a, as, v, vs', [], [], rfl, rfl, rfl, ⟨rfl, v.cells.toList, okWide_val hty (hok 0 _ v rfl rfl), ha⟩, has⟩, ?_⟩
    have hb' : bulkD a ≤ bulkW d := hb
    simp only [bulkDs, bulkWs]; omega

theorem trodAll_stays {w' : World} {sp' : Nat → Bool} (K : Kids P (· < P.types.size)) (hsl : ∀ t e, t < P.types.size → P.underlying t = some (.slice e) → 0 < P.cellsOf e) :
    ∀ {ts : List TypeId} {vs : List Value} {ds : List (DataW H)} {ps : List MemPlace}, (∀ t ∈ ts, t < P.types.size) → DataW.TrodAll enc P w 0 (fun _ => true) true ts vs ds ps → (∀ p ∈ ps, w.sameAt w' p) → (∀ p ∈ ps, sp' p.block = true) → DataW.TrodAll enc P w' 0 sp' true ts vs ds ps
  | [], vs, ds, ps, _, h, _, _ => by
    obtain ⟨rfl, rfl, rfl⟩ := trodAll_nil h
    rfl
  | t :: ts, vs, ds, ps, ht, h, hs, hp => by
    obtain ⟨v, vs', d, ds', p, q, rfl, rfl, rfl, ⟨fuel, h1⟩, h2⟩ := trodAll_cons h
    refine ⟨p, q, ⟨fuel, ?_⟩, trodAll_stays K hsl (fun t ht' => ht t (List.mem_cons_of_mem _ ht')) h2 (fun x hx => hs x (List.mem_append_right _ hx)) (fun x hx => hp x (List.mem_append_right _ hx)), rfl⟩
    exact DataW.trod_stays (x := (d, p)) K (fun {t e} h1 h2 => hsl t e h1 h2) (fun h => by cases h) (ht t List.mem_cons_self) h1 (fun x hx => hs x (List.mem_append_left _ hx)) (fun x hx => hp x (List.mem_append_left _ hx))

theorem trodAll_len : ∀ {ts : List TypeId} {vs : List Value} {ds : List (DataW H)} {ps : List MemPlace}, DataW.TrodAll enc P w 0 sp true ts vs ds ps → ds.length = ts.length
  | [], vs, ds, ps, h => by
    obtain ⟨rfl, rfl, rfl⟩ := trodAll_nil h
    rfl
  | t :: ts, vs, ds, ps, h => by
    obtain ⟨v, vs', d, ds', p, q, rfl, rfl, rfl, _, h2⟩ := trodAll_cons h
    simp [trodAll_len h2]

/-- A LAW's CONTRACT, as its row asks it -/
theorem law_contract {W : World} {f : FuncId} {fn : Func} {tys : List Ty} {phi : List D → List D → T (List D × List D)} {tb : TypeId} {s : ChangeSpec} {most_ : Nat}
    (hspec : SpecOK P f ⟨[], tys.map Sh.dat, [], [.dat .bool]⟩ phi)
    (hphi : ∀ as, wfShs (tys.map Sh.dat) as = true → bulkDs as ≤ most_ → (phi [] as).val = some ([], [.b true]))
    (hty : TysOK P tys fn.params.toList) (hf : P.funcs[f]? = some fn) (hname : (fn.name == "runtime.NumGoroutine") = false) (hb : fn.body.isSome = true)
    (K : Kids P (· < P.types.size)) (hsl : ∀ t e, t < P.types.size → P.underlying t = some (.slice e) → 0 < P.cellsOf e) (hT : ∀ t ∈ fn.params.toList, t < P.types.size)
    (hres : fn.resultTypes = #[tb]) (htb : P.underlying tb = some .bool) (hvars : s.vars = [])
    (hfn : ∀ ds : List (DataW H), ds.length = fn.params.toList.length → (s.fn H ds).results = [.lit (.bool true)] ∧ (s.fn H ds).args = ds ∧ (s.fn H ds).vars = [])
    {base : Nat} {args : Array Value} {ds gs : List (DataW H)} {before : List MemPlace}
    (hval : ∀ (j : Nat) t v, fn.params[j]? = some t → args[j]? = some v → Value.okWide P W .any base t v)
    (hW : DataW.Whole enc P fn.params.toList s.vars false W args.toList ds gs before) (hk : bulkWs (ds ++ gs) ≤ most_) :
    Calls P f args W fun e W' => ∃ v, e = .returned v ∧ s.post enc P fn false true false false W args v W' := by
  have hlt := hW.lt
  have hW' := hW
  obtain ⟨p, q, hA, hV, rfl, hfz, _⟩ := hW
  rw [hvars] at hV
  obtain ⟨rfl, rfl⟩ := trodVars_none hV
  simp only [List.append_nil] at hk hlt
  obtain ⟨as, has, hbk⟩ := args_rel (w := W) (hs := []) (ks := []) hty hA (fun j t v hj hv => hval j t v (by simpa using hj) (by simpa using hv))
  have hlen := trodAll_len hA
  have hbd : Bd W (fun b => b < W.heap.size) [] (tys.map Sh.dat) [] as args.toList [] [] := ⟨[], [], has, rfl, rfl, List.nodup_nil, by simp, rfl, rfl⟩
  have hwf := hbd.wf
  simp only [wfAll, wfHShs, Bool.true_and] at hwf
  have hv := hphi as hwf (by omega)
  have hans := hspec [] as [] [.b true] hv rfl rfl W (fun b => b < W.heap.size) args.toList [] [] hbd (fun x hx => hx)
  have hcall : Calls P f args W (PostOK ⟨[], tys.map Sh.dat, [], [.dat .bool]⟩ [] [.b true] W (fun b => b < W.heap.size) [] []) := by
    have e : args.toList.toArray = args := by simp
    rw [e] at hans
    rcases hans with ⟨_, h⟩ | ⟨y, w', h, _⟩
    · exact h
    · exfalso
      obtain ⟨c, hc⟩ := Option.isSome_iff_exists.1 hb
      have h1 : fn.name ≠ "runtime.NumGoroutine" := by simpa using hname
      simp [callFunc, hf, h1, hc] at h
  refine hcall.mono fun e W' he => ?_
  cases e with
  | panicked c => exact he.elim
  | outgrown => exact he.elim
  | returned v =>
    obtain ⟨Im', ys, ks', o', rfl, hbd2, fr⟩ := he
    obtain ⟨o1, o2, hout, _⟩ := hbd2
    obtain ⟨d, ds2, x, xs2, _, _, hd, rfl, _, hsh, hrest⟩ := hout
    obtain ⟨rfl, rfl, _⟩ := hrest
    injection hd with hd1 hd2
    subst hd1
    obtain ⟨_, cs, rfl, hrep⟩ := hsh
    obtain ⟨b, rfl, hb2⟩ := hrep
    injection hb2 with hb2
    subst hb2
    have hheap : ∀ x, x < W.heap.size → W'.heap[x]? = W.heap[x]? := fun x hx => fr.heap x hx (by simp)
    have hsame : ∀ pl ∈ p, W.sameAt W' pl := by
      intro pl hpl
      have hb := hlt pl (by simpa using hpl)
      cases pl with
      | cell b off => simp only [World.sameAt, World.cell?]; rw [hheap b hb]
      | map b => simp only [World.sameAt]; rw [hheap b hb]
    have h3 := hfn ds hlen
    refine ⟨_, rfl, ds, [], p ++ [], [], p, [], hW', ?_, ?_, ?_, ?_, fun h => by cases h⟩
    · rw [hres]
      simp only [List.append_nil, h3.1]
      exact trodAll_cons_mk (shut_bool htb true) trodAll_mk0
    · simp only [List.append_nil, h3.2.1]
      exact trodAll_stays K hsl hT hA hsame (fun x hx => by simpa using hlt x (by simpa using hx))
    · rw [hvars]
      simp only [List.append_nil, h3.2.2]
      rfl
    · refine ⟨fr.os, fr.output, fun i hi => ?_⟩
      rw [hheap i hi]
      cases hO : W.heap[i]? with
      | none => trivial
      | some o => cases o <;> simp

end
end Go.Ev

/- The types of this translation, as the evaluator names them. Printed by mktypes.py. -/
namespace Go.Proofs.Ytkepijaabpkdbaa
open Go.Ev

@[reducible] def ty7 : Ty := .struct [.int .i64, .int .i64, .bool, .int .u8]
@[reducible] def ty62 : Ty := .struct [.int .i64, .int .i64, .int .i64, .arr 32 (.int .u8), .str]
@[reducible] def ty23 : Ty := .struct [.int .i64, .int .i64]
@[reducible] def ty37 : Ty := .struct [.bool, .int .i64, .int .i64, .arr 32 (.int .u8)]
@[reducible] def ty28 : Ty := .struct [.int .i64, .int .i64, .slice (ty37)]
@[reducible] def ty56 : Ty := .struct [.int .i64, .int .i64, .int .i64]
@[reducible] def ty53 : Ty := .struct [.arr 2 (.slice (ty62)), .arr 2 (.int .i64), .arr 2 (.int .i64)]
@[reducible] def ty69 : Ty := .struct [.int .i64, .int .i64]
@[reducible] def ty79 : Ty := .struct [.int .i64, .int .i64]
abbrev T_abi_BoundsErrorCode : Ty := .int .u8
abbrev T_runtime_boundsError : Ty := ty7
abbrev T_runtime_errorString : Ty := .str
abbrev T_runtime_plainError : Ty := .str
abbrev T_api_Counts : Ty := ty23
abbrev T_api_Ledger : Ty := ty28
abbrev T_api_Errno : Ty := .int .i64
abbrev T_api_Hash : Ty := .arr 32 (.int .u8)
abbrev T_api_Pending : Ty := ty37
abbrev T_escrowlaw13_book : Ty := ty53
abbrev T_escrowlaw13_Step : Ty := ty56
abbrev T_api_Update : Ty := ty62
abbrev T_ledger_wide : Ty := ty69
abbrev T_escrowref13_Wide : Ty := ty79
abbrev T_abi_TFlag : Ty := .int .u8
abbrev T_abi_Kind : Ty := .int .u8
abbrev T_abi_NameOff : Ty := .int .i32
abbrev T_abi_TypeOff : Ty := .int .i32
def tyRows : List (List (Option Ty)) := [
  [none, some (.fn), some (.int .i64), some (.int .i64), some (.bool), some (.int .u8), some (.int .u8), some (ty7), some (ty7), some (.str), some (.str), some (.str), some (.int .u64), none, none, some (.ptr)],
  [some (.ptr), some (.ptr), none, none, some (.ifc), some (.int .i32), some (.slice (ty62)), some (ty23), some (ty23), some (.fn), some (.fn), some (.slice (ty37)), some (ty28), some (ty28), some (.int .i64), none],
  [some (.fn), some (.fn), some (.fn), some (.arr 32 (.int .u8)), some (.arr 32 (.int .u8)), some (ty37), some (ty37), some (.fn), some (.fn), some (.fn), some (.fn), none, some (.fn), some (.fn), some (.fn), some (.fn)],
  [some (.slice (ty56)), some (.ptr), some (.arr 2 (.slice (ty62))), some (.arr 2 (.int .i64)), some (.arr 2 (.int .i64)), some (ty53), some (ty53), some (.fn), some (ty56), some (ty56), some (.fn), some (.fn), some (.int .u64), some (.fn), some (ty62), some (ty62)],
  [some (.fn), none, some (.fn), some (.fn), some (.fn), some (ty69), some (ty69), none, some (.fn), some (.map (.int .i64) (.int .i64)), some (.fn), some (.fn), some (.fn), some (.fn), some (.fn), some (ty79)],
  [some (ty79), none, some (.fn), some (.fn), some (.fn), some (.fn), some (.slice (.int .i64)), some (.fn), some (.fn), some (.fn), some (.fn), some (.fn), some (.int .u64), some (.fn), some (.fn), some (.fn)],
  [some (.fn), some (.fn), none, some (.fn), some (.fn), some (.fn), some (.fn), some (.fn), none, none, none, none, none, some (.fn), some (.int .u32), some (.int .u8)],
  [some (.int .u8), some (.fn), some (.ptr), some (.int .i32), some (.int .i32), none, none, none]]
def tyTab : Nat → Option Ty := rowsTab tyRows
end Go.Proofs.Ytkepijaabpkdbaa
