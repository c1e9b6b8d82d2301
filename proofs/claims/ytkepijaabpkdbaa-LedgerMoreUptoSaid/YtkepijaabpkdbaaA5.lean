/- Regions in the text's order. Regions whose order is drawn: first part, what one operation hangs on. Regions whose order is drawn: the trace of the text's order. Regions whose order is drawn: every order comes to the text's. States to data and back, within one function. What is known of all data that stand at a boundary: their form, the numbers' bounds, the lists' lengths. Regions, code, loops, functions. A function's contract out of its evaluation. -/
import Derived.Test.YtkepijaabpkdbaaA4
import Derived.CheckFast
import Derived.Scope
set_option linter.unusedVariables false
set_option linter.unusedSimpArgs false

/- Regions in the text's order. -/
namespace Go.Ev
open Go

/-- a state of the walk, and the machine's -/
structure StRel (C : Cx) (ks : List Hdl) (st : St) (a : Act) (w : World) (μ : Mu) (Im : Nat → Prop) : Prop where
  heap : HRel C (look st.h.bs) w μ Im
  slots : SRel C (look st.fr) a w μ Im
  fresh : ∀ i, st.h.next ≤ i → μ i = none
  pinLen : st.pins.length = ks.length
  pins : ∀ k i : Nat, st.pins[k]? = some i → μ i = ks[k]?
  pinNd : st.pins.Nodup

section
variable {P : Program} {C : Cx} {w : World} {μ : Mu} {Im : Nat → Prop}

theorem opAt_eq (ops : Array Oper) (j : Nat) : opAt ops j = ops[j]? := by
  unfold opAt; rw [vnth_eq, Array.getElem?_toList]

theorem slot_bool {fr : List (Nat × V)} {a : Act} {ops : Array Oper} {j d : Nat} {x : Bool} (hS : SRel C (look fr) a w μ Im) (h : slotBool fr ops j = some (d, x)) : a.tmps.getD d undef = .bool x ∧ yielded ops a.tmps j = some x ∧ (ops[j]?).bind (·.dst) = some d := by
  unfold slotBool at h
  rw [opAt_eq] at h
  cases ho : ops[j]? with
  | none => simp [ho] at h
  | some o =>
    simp only [ho] at h
    cases hd : o.dst with
    | none => simp [hd] at h
    | some d' =>
      simp only [hd] at h
      split at h
      · rename_i b hl
        simp only [Option.some.injEq, Prod.mk.injEq] at h
        obtain ⟨rfl, rfl⟩ := h
        have hv := hS.slot _ _ hl
        have hv := dat_bool hv
        refine ⟨hv, ?_, by simp [hd]⟩
        unfold yielded
        simp only [ho, Option.bind_some, hd]
        rw [Array.getD_eq_getD_getElem?] at hv
        cases ht : a.tmps[d']? with
        | none => rw [ht] at hv; simp [undef] at hv
        | some y => rw [ht] at hv; simp only [Option.getD_some] at hv; subst hv; rfl
      · simp at h

theorem vrel_none (w : World) (μ : Mu) (Im : Nat → Prop) : vrel w μ Im (.tup []) undef := ⟨[], rfl, rfl⟩
theorem slot_undef {fr : List (Nat × V)} {a : Act} {ops : Array Oper} {j : Nat} (hS : SRel C (look fr) a w μ Im) (h : slotUndef fr ops j = true) : yielded ops a.tmps j = none := by
  unfold slotUndef at h
  rw [opAt_eq] at h
  cases ho : ops[j]? with
  | none => simp [ho] at h
  | some o =>
    simp only [ho] at h
    cases hd : o.dst with
    | none => simp [hd] at h
    | some d' =>
      simp only [hd] at h
      split at h
      · rename_i hl
        obtain ⟨xs, hv, hx⟩ := hS.slot _ _ hl
        obtain rfl : xs = [] := hx
        unfold yielded
        simp only [ho, Option.bind_some, hd]
        rw [Array.getD_eq_getD_getElem?] at hv
        cases ht : a.tmps[d']? with
        | none => rfl
        | some y => rw [ht] at hv; simp only [Option.getD_some] at hv; subst hv; rfl
      · simp at h

theorem SRel.put {fr : List (Nat × V)} {a : Act} {d : Nat} {v : V} {y : Value} (hS : SRel C (look fr) a w μ Im) (hd : d < C.n) (hv : vrel w μ Im v y) : SRel C (look ((d, v) :: fr)) (a.put (some d) y) w μ Im := by
  refine ⟨fun d' v' h => ?_, by simp [Act.put, hS.n], hS.defers⟩
  rw [look_cons] at h
  simp only [Act.put, Array.getD_eq_getD_getElem?]
  by_cases e : d = d'
  · subst e
    rw [if_pos rfl] at h; injection h with h; subst h
    rw [Array.getElem?_setIfInBounds, if_pos rfl, if_pos (by rw [hS.n]; exact hd)]; exact hv
  · rw [if_neg e] at h
    rw [Array.getElem?_setIfInBounds_ne e, ← Array.getD_eq_getD_getElem?]
    exact hS.slot d' v' h

theorem SRel.know {fr : List (Nat × V)} {a : Act} {d : Nat} {v : V} (hS : SRel C (look fr) a w μ Im) (hv : vrel w μ Im v (a.tmps.getD d undef)) : SRel C (look ((d, v) :: fr)) a w μ Im := by
  refine ⟨fun d' v' h => ?_, hS.n, hS.defers⟩
  rw [look_cons] at h
  by_cases e : d = d'
  · subst e
    rw [if_pos rfl] at h; injection h with h; subst h; exact hv
  · rw [if_neg e] at h; exact hS.slot d' v' h

theorem putSlot_rel {n : Nat} {fr fr' : List (Nat × V)} {a : Act} {dst : Option Nat} {v : V} {y : Value} (hn : n = C.n) (hS : SRel C (look fr) a w μ Im) (hv : vrel w μ Im v y) (h : putSlot n fr dst v = some fr') : SRel C (look fr') (a.put dst y) w μ Im := by
  subst hn
  unfold putSlot at h
  cases dst with
  | none => simp only [Option.some.injEq] at h; subst h; exact hS
  | some d =>
    simp only at h
    split at h
    · rename_i hb
      simp only [Option.some.injEq] at h; subst h
      exact hS.put (by simpa [Nat.blt_eq] using hb) hv
    · simp at h

theorem ok_ops {E : Env} (hE : EnvOK P E) (hC : CallEnv P E) {ops : Array Oper} {Q : Exit → Act → World → Prop} {R : Type} {r : R} {K : List (Nat × V) → H → List (Nat × Log) → Option R} {pins : List Nat} {ks : List Hdl} (hn : E.ntmps = C.n)
    (hK : ∀ fr h ls a w μ Im, K fr h ls = some r → StRel C ks ⟨fr, h, pins⟩ a w μ Im → Q .normal a w) :
    ∀ {os : List Oper} {k : Nat} {fr : List (Nat × V)} {h : H} {ls : List (Nat × Log)} {a : Act} {w : World} {μ : Mu} {Im : Nat → Prop}, ops.toList.drop k = os → evOps E ops pins os k fr h ls K = some r → StRel C ks ⟨fr, h, pins⟩ a w μ Im → wpOps P ops Q (List.range' k os.length) a w
  | [], k, fr, h, ls, a, w, μ, Im, hos, hx, hst => by
    simp only [evOps] at hx
    exact hK _ _ _ _ _ _ _ hx hst
  | o :: os, k, fr, h, ls, a, w, μ, Im, hos, hx, hst => by
    have hk : ops[k]? = some o := by
      have : (ops.toList.drop k)[0]? = some o := by rw [hos]; rfl
      rw [List.getElem?_drop, Nat.add_zero, Array.getElem?_toList] at this
      exact this
    have hos' : ops.toList.drop (k + 1) = os := by
      rw [← List.drop_drop, hos]; rfl
    rw [List.length_cons, List.range'_succ, wpOps_cons]
    unfold wpOp
    simp only [hk]
    have step : ∀ {fr1 : List (Nat × V)}, SRel C (look fr1) a w μ Im → ((evOp E (opval fr1) o).run h [] fun v h l => match putSlot E.ntmps fr1 o.dst v with
          | some fr => evOps E ops pins os (k + 1) fr h ((k, l) :: ls) K
          | none => none) = some r → o.wp P a w (wpOps P ops Q (List.range' (k + 1) os.length)) Q := by
      intro fr1 hS hx
      rw [Prog.run_eq] at hx
      cases hr : (evOp E (opval fr1) o).exec h [] with
      | none => simp [hr] at hx
      | some res =>
        obtain ⟨v, h', l'⟩ := res
        simp only [hr] at hx
        refine wp_op hE hC hst.heap hS (fun i hi _ => hst.fresh i hi) hr fun y w' μ' Im' hg hv => ?_
        cases hp : putSlot E.ntmps fr1 o.dst v with
        | none => simp [hp] at hx
        | some fr' =>
          simp only [hp] at hx
          refine ok_ops hE hC hn hK hos' hx ⟨hg.rel, putSlot_rel hn (hS.later hg.later) hv hp, fun i hi => ?_, hst.pinLen, fun j i hj => ?_, hst.pinNd⟩
          · cases hm : μ' i with
            | none => rfl
            | some kk =>
              have h1 := hst.fresh i (Nat.le_trans hg.next hi)
              have := hg.ids i h1 (by rw [hm]; simp)
              simp only at hi; omega
          · have h1 := hst.pins j i hj
            have hj' : j < pins.length := (List.getElem?_eq_some_iff.1 hj).1
            have hlen : pins.length = ks.length := hst.pinLen
            rw [List.getElem?_eq_getElem (by omega)] at h1 ⊢
            exact hg.later.mu _ _ h1
    simp only [evOps] at hx
    cases hg : o.guard with
    | none =>
      simp only [hg] at hx
      rw [if_pos (by simp [Region.wanted, hg])]
      exact .inl (step hst.slots hx)
    | some g =>
      obtain ⟨j, want⟩ := g
      simp only [hg] at hx
      cases hb : slotBool fr ops j with
      | none =>
        simp only [hb] at hx
        cases hu : slotUndef fr ops j with
        | false => simp [hu] at hx
        | true =>
          simp only [hu] at hx
          have hy := slot_undef hst.slots hu
          have hw : Region.wanted o (yielded ops a.tmps) = false := by
            simp [Region.wanted, hg, hy]
          rw [hw, if_neg (by simp)]
          cases hp : putSlot E.ntmps fr o.dst (.tup []) with
          | none => simp [hp] at hx
          | some fr' =>
            simp only [hp] at hx
            refine ok_ops hE hC hn hK hos' hx ⟨hst.heap, putSlot_rel hn hst.slots (v := .tup []) (vrel_none _ _ _) hp, hst.fresh, hst.pinLen, hst.pins, hst.pinNd⟩
      | some dx =>
        obtain ⟨d, x⟩ := dx
        simp only [hb] at hx
        obtain ⟨hd, hy, _⟩ := slot_bool hst.slots hb
        have hw : Region.wanted o (yielded ops a.tmps) = (x == want) := by
          simp [Region.wanted, hg, hy]
        have hcond : (cond want x (!x)) = (x == want) := by cases want <;> cases x <;> rfl
        rw [hcond] at hx
        rw [hw]
        cases hxw : (x == want) with
        | true =>
          have : x = want := by simpa using hxw
          subst this
          rw [hxw] at hx
          simp only [cond_true] at hx
          rw [if_pos rfl]
          exact .inl (step (hst.slots.know (by rw [hd]; exact bool_rel x)) hx)
        | false =>
          rw [hxw] at hx
          simp only [cond_false] at hx
          rw [if_neg (by simp)]
          have hne : x = !want := by cases want <;> cases x <;> simp at hxw ⊢
          cases hp : putSlot E.ntmps ((d, V.bool (!want)) :: fr) o.dst (.tup []) with
          | none => simp [hp] at hx
          | some fr' =>
            simp only [hp] at hx
            refine ok_ops hE hC hn hK hos' hx ⟨hst.heap, putSlot_rel hn (hst.slots.know (by rw [hd, hne]; exact bool_rel _)) (v := .tup []) (vrel_none _ _ _) hp, hst.fresh, hst.pinLen, hst.pins, hst.pinNd⟩

end
end Go.Ev

/- Regions whose order is drawn: first part, what one operation hangs on. -/
namespace Go.Ev
open Go

theorem look_append {α : Type} : ∀ (a b : List (Nat × α)) (i : Nat), look (a ++ b) i = match look a i with
    | some x => some x
    | none => look b i
  | [], b, i => rfl
  | (k, v) :: a, b, i => by
    rw [List.cons_append, look_cons, look_cons, look_append a b i]
    split <;> rfl

theorem look_mem {α : Type} : ∀ {a : List (Nat × α)} {i : Nat} {x : α}, look a i = some x → (i, x) ∈ a
  | [], i, x, h => by simp [look] at h
  | (k, v) :: a, i, x, h => by
    rw [look_cons] at h
    split at h
    · rename_i e; subst e; injection h with h; subst h; exact List.mem_cons_self
    · exact List.mem_cons_of_mem _ (look_mem h)

/-- a small program does the same wherever what it touches is the same -/
theorem exec_local {α : Type} : ∀ {p : Prog α} {h : H} {l : Log} {r : α × H × Log}, p.exec h l = some r → ∃ (δ : List (Nat × Blk)) (lg : Log), r.2.1.bs = δ ++ h.bs ∧ r.2.2 = lg ++ l ∧ (∀ i b, (i, b) ∈ δ → (i, true) ∈ lg) ∧
    ∀ (g : H) (l2 : Log), g.next = h.next → (∀ i v, (i, v) ∈ lg → look g.bs i = look h.bs i) → p.exec g l2 = some (r.1, ⟨r.2.1.next, δ ++ g.bs⟩, lg ++ l2)
  | .ret a, h, l, r, hx => by
    simp only [Prog.exec, Option.some.injEq] at hx; subst hx
    exact ⟨[], [], rfl, rfl, by simp, fun g l2 hn _ => by simp only [Prog.exec, List.nil_append]; rw [← hn]⟩
  | .fail, h, l, r, hx => (exec_fail hx).elim
  | .cond b x y, h, l, r, hx => by
    cases b with
    | true =>
      simp only [Prog.exec, if_true] at hx
      obtain ⟨δ, lg, h1, h2, h3, h4⟩ := exec_local (p := x) hx
      exact ⟨δ, lg, h1, h2, h3, fun g l2 hn ha => by simp only [Prog.exec, if_true]; exact h4 g l2 hn ha⟩
    | false =>
      simp only [Prog.exec, Bool.false_eq_true, if_false] at hx
      obtain ⟨δ, lg, h1, h2, h3, h4⟩ := exec_local (p := y) hx
      exact ⟨δ, lg, h1, h2, h3, fun g l2 hn ha => by simp only [Prog.exec, Bool.false_eq_true, if_false]; exact h4 g l2 hn ha⟩
  | .get i k, h, l, r, hx => by
    obtain ⟨b, hb, hx⟩ := exec_get hx
    obtain ⟨δ, lg, h1, h2, h3, h4⟩ := exec_local (p := k b) hx
    refine ⟨δ, lg ++ [(i, false)], h1, by rw [h2]; simp, fun i b hi => List.mem_append.2 (.inl (h3 i b hi)), fun g l2 hn ha => ?_⟩
    have hg : look g.bs i = some b := by rw [ha i false (by simp), hb]
    simp only [Prog.exec, hg]
    rw [h4 g _ hn fun j v hj => ha j v (List.mem_append.2 (.inl hj))]
    simp
  | .set i b k, h, l, r, hx => by
    simp only [Prog.exec] at hx
    obtain ⟨δ, lg, h1, h2, h3, h4⟩ := exec_local (p := k) hx
    refine ⟨δ ++ [(i, b)], lg ++ [(i, true)], by rw [h1]; simp, by rw [h2]; simp, fun j c hj => ?_, fun g l2 hn ha => ?_⟩
    · rcases List.mem_append.1 hj with hj | hj
      · exact List.mem_append.2 (.inl (h3 j c hj))
      · simp at hj; simp [hj.1]
    · simp only [Prog.exec]
      rw [h4 ⟨g.next, (i, b) :: g.bs⟩ _ hn fun j v hj => by simp only [look_cons]; rw [ha j v (List.mem_append.2 (.inl hj))]]
      simp
  | .new b k, h, l, r, hx => by
    simp only [Prog.exec] at hx
    obtain ⟨δ, lg, h1, h2, h3, h4⟩ := exec_local (p := k h.next) hx
    refine ⟨δ ++ [(h.next, b)], lg ++ [(h.next, true)], by rw [h1]; simp, by rw [h2]; simp, fun j c hj => ?_, fun g l2 hn ha => ?_⟩
    · rcases List.mem_append.1 hj with hj | hj
      · exact List.mem_append.2 (.inl (h3 j c hj))
      · simp at hj; simp [hj.1]
    · simp only [Prog.exec, hn]
      rw [h4 ⟨h.next + 1, (h.next, b) :: g.bs⟩ _ rfl fun j v hj => by simp only [look_cons]; rw [ha j v (List.mem_append.2 (.inl hj))]]
      simp

theorem vmap_congr {ρ ρ' : Operand → V} : ∀ {l : List Operand}, (∀ x ∈ l, ρ x = ρ' x) → vmap ρ l = vmap ρ' l
  | [], _ => rfl
  | x :: l, h => by
    simp only [vmap]
    rw [h x List.mem_cons_self, vmap_congr fun y hy => h y (List.mem_cons_of_mem _ hy)]

theorem vmap_congr2 {ρ ρ' : Operand → V} : ∀ {l : List (Nat × Operand)}, (∀ x ∈ l, ρ x.2 = ρ' x.2) → vmap (fun p => (p.1, ρ p.2)) l = vmap (fun p => (p.1, ρ' p.2)) l
  | [], _ => rfl
  | x :: l, h => by
    simp only [vmap]
    rw [h x List.mem_cons_self, vmap_congr2 fun y hy => h y (List.mem_cons_of_mem _ hy)]

theorem evOp_congr {E : Env} {ρ ρ' : Operand → V} {o : Oper} (h : ∀ x ∈ o.op.operands, ρ x = ρ' x) : evOp E ρ o = evOp E ρ' o := by
  obtain ⟨dst, op, type, pos, after, guard⟩ := o
  cases op <;> simp only [Op.operands] at h <;> simp only [evOp]
  case build t ps => rw [vmap_congr2 (l := ps.toList) fun p hp => h p.2 (by simp; exact ⟨p.1, by simpa using hp⟩)]
  case buildSlice t n ps => rw [vmap_congr2 (l := ps.toList) fun p hp => h p.2 (by simp; exact ⟨p.1, by simpa using hp⟩)]
  case makeFunc fn first captured => rw [vmap_congr (l := captured.toList) fun x hx => h x (by simp at hx ⊢; exact .inr hx)]
  case makeMap t r =>
    cases r with
    | none => cases E.ty t <;> rfl
    | some x =>
      have hx := h x (by simp)
      cases E.ty t with
      | none => rfl
      | some t => simp only [hx]
  case slice t x lo hi mx => cases lo <;> cases hi <;> cases mx <;> simp_all
  case call c =>
    obtain ⟨callee, args, ats⟩ := c
    cases callee with
    | builtin b => simp only; rw [vmap_congr (l := args.toList) fun x hx => h x (by simp [Call.operands] at hx ⊢; exact hx)]
    | value f =>
      simp only
      rw [vmap_congr (l := args.toList) fun x hx => h x (by simp [Call.operands] at hx ⊢; exact .inr hx), h f (by simp [Call.operands])]
    | invoke r n =>
      simp only
      rw [vmap_congr (l := args.toList) fun x hx => h x (by simp [Call.operands] at hx ⊢; exact .inr hx), h r (by simp [Call.operands])]
  all_goals (first | rfl | (simp_all; done))

/-! ### Clashes -/

theorem touches_false {i : Nat} {w : Bool} : ∀ {l : Log}, touches i w l = false → ∀ v, (i, v) ∈ l → w = false ∧ v = false
  | [], _, v, h => by simp at h
  | (j, u) :: l, h, v, hm => by
    simp only [touches] at h
    split at h
    · simp at h
    · rename_i hb
      simp only [List.mem_cons, Prod.mk.injEq] at hm
      rcases hm with ⟨rfl, rfl⟩ | hm
      · have : Nat.beq i i = true := Nat.beq_refl i
        simp [this] at hb
        exact hb
      · exact touches_false h v hm

theorem clash_false : ∀ {l m : Log}, clash l m = false → ∀ i w v, (i, w) ∈ l → (i, v) ∈ m → w = false ∧ v = false
  | [], m, _, i, w, v, h, _ => by simp at h
  | (j, u) :: l, m, h, i, w, v, hl, hm => by
    simp only [clash] at h
    split at h
    · simp at h
    · rename_i hb
      simp only [List.mem_cons, Prod.mk.injEq] at hl
      rcases hl with ⟨rfl, rfl⟩ | hl
      · exact touches_false (by simpa using hb) v hm
      · exact clash_false h i w v hl hm

theorem memO_iff {d : Nat} : ∀ {l : List Operand}, memO d l = true ↔ Operand.tmp d ∈ l
  | [] => by simp [memO]
  | x :: l => by
    cases x with
    | tmp t =>
      simp only [memO]
      split
      · rename_i hb
        have : d = t := Nat.eq_of_beq_eq_true hb
        subst this; simp
      · rename_i hb
        rw [memO_iff]
        have : d ≠ t := fun e => by subst e; simp at hb
        simp [this]
    | const v => simp only [memO]; rw [memO_iff]; simp
    | global g => simp only [memO]; rw [memO_iff]; simp
    | func f => simp only [memO]; rw [memO_iff]; simp

/-! ### What stands before what -/

theorem fold_before {acc : Array Nat} {i : Nat} : ∀ (l : List Edge) (s : Nat), (l.foldl (fun s e => if Region.binds .any e then s ||| 2 ^ e.on ||| acc.getD e.on 0 else s) s).testBit i = true →
    s.testBit i = true ∨ ∃ e ∈ l, Region.binds .any e = true ∧ (i = e.on ∨ (acc.getD e.on 0).testBit i = true)
  | [], s, h => .inl h
  | e :: l, s, h => by
    simp only [List.foldl_cons] at h
    rcases fold_before l _ h with h1 | ⟨e', he, h2⟩
    · split at h1
      · rename_i hb
        simp only [Nat.testBit_or, Bool.or_eq_true] at h1
        rcases h1 with (h1 | h1) | h1
        · exact .inl h1
        · rw [Nat.testBit_two_pow] at h1
          have : e.on = i := by simpa using h1
          exact .inr ⟨e, List.mem_cons_self, hb, .inl this.symm⟩
        · exact .inr ⟨e, List.mem_cons_self, hb, .inr h1⟩
      · exact .inl h1
    · exact .inr ⟨e', List.mem_cons_of_mem _ he, h2⟩

theorem before_fold : ∀ (l : List Oper) (acc : Array Nat) (pre : List Oper), acc.size = pre.length →
    (∀ j o, pre[j]? = some o → ∀ i, (acc.getD j 0).testBit i = true → ∃ e ∈ o.after.toList, Region.binds .any e = true ∧ (i = e.on ∨ (acc.getD e.on 0).testBit i = true)) →
    ∀ j o, (pre ++ l)[j]? = some o → ∀ i, ((l.foldl (fun acc o => acc.push (o.after.foldl (fun s e => if Region.binds .any e then s ||| 2 ^ e.on ||| acc.getD e.on 0 else s) 0)) acc).getD j 0).testBit i = true →
      ∃ e ∈ o.after.toList, Region.binds .any e = true ∧ (i = e.on ∨ ((l.foldl (fun acc o => acc.push (o.after.foldl (fun s e => if Region.binds .any e then s ||| 2 ^ e.on ||| acc.getD e.on 0 else s) 0)) acc).getD e.on 0).testBit i = true)
  | [], acc, pre, hs, hp, j, o, ho, i, h => by simp only [List.append_nil] at ho; exact hp j o ho i h
  | o1 :: l, acc, pre, hs, hp, j, o, ho, i, h => by
    simp only [List.foldl_cons] at h ⊢
    have hmono : ∀ (x : Nat) (k i : Nat), (acc.getD k 0).testBit i = true → ((acc.push x).getD k 0).testBit i = true := fun x k i hk => by
      by_cases hlt : k < acc.size
      · rw [Array.getD_eq_getD_getElem?] at hk ⊢
        rw [Array.getElem?_push, if_neg (by omega)]; exact hk
      · rw [Array.getD_eq_getD_getElem?, Array.getElem?_eq_none (by omega)] at hk; simp at hk
    refine before_fold l _ (pre ++ [o1]) (by simp [hs]) (fun j' o' ho' i' hi' => ?_) j o (by simpa using ho) i h
    by_cases hj : j' < pre.length
    · rw [List.getElem?_append_left hj] at ho'
      rw [Array.getD_eq_getD_getElem?, Array.getElem?_push, if_neg (by omega), ← Array.getD_eq_getD_getElem?] at hi'
      obtain ⟨e, he, hb, hc⟩ := hp j' o' ho' i' hi'
      exact ⟨e, he, hb, hc.imp id (hmono _ _ _)⟩
    · rw [List.getElem?_append_right (by omega)] at ho'
      have hj0 : j' - pre.length = 0 := by
        have := (List.getElem?_eq_some_iff.1 ho').1; simpa using this
      rw [hj0] at ho'
      simp only [List.getElem?_cons_zero, Option.some.injEq] at ho'; subst ho'
      rw [Array.getD_eq_getD_getElem?, Array.getElem?_push, if_pos (by omega)] at hi'
      simp only [Option.getD_some] at hi'
      rw [← Array.foldl_toList] at hi'
      rcases fold_before _ _ hi' with h1 | ⟨e, he, hb, hc⟩
      · simp at h1
      · exact ⟨e, he, hb, hc.imp id (hmono _ _ _)⟩

theorem before_spec {ops : Array Oper} {j : Nat} {o : Oper} (ho : ops[j]? = some o) {i : Nat} (h : ((Region.before ops).getD j 0).testBit i = true) :
    ∃ e ∈ o.after.toList, Region.binds .any e = true ∧ (i = e.on ∨ ((Region.before ops).getD e.on 0).testBit i = true) := by
  have := before_fold ops.toList #[] [] rfl (by simp) j o (by simpa using ho) i
  unfold Region.before at h ⊢
  rw [← Array.foldl_toList] at h ⊢
  exact this h

end Go.Ev

/- Regions whose order is drawn: the trace of the text's order. -/
namespace Go.Ev
open Go

/-- what a set of operations has laid, by the text's order -/
def bU {α : Type} (S : Nat → Bool) (base : List (Nat × α)) (δ : Nat → List (Nat × α)) : Nat → List (Nat × α)
  | 0 => base
  | k + 1 => if S k then δ k ++ bU S base δ k else bU S base δ k

theorem bU_congr {α : Type} {S : Nat → Bool} {base : List (Nat × α)} {δ δ' : Nat → List (Nat × α)} : ∀ {k : Nat}, (∀ j, j < k → δ j = δ' j) → bU S base δ k = bU S base δ' k
  | 0, _ => rfl
  | k + 1, h => by
    simp only [bU]
    rw [h k (Nat.lt_succ_self k), bU_congr fun j hj => h j (by omega)]

theorem bU_agree {α : Type} {S T : Nat → Bool} {base : List (Nat × α)} {δ : Nat → List (Nat × α)} {i : Nat} : ∀ {k : Nat}, (∀ j, j < k → S j ≠ T j → look (δ j) i = none) → look (bU S base δ k) i = look (bU T base δ k) i
  | 0, _ => rfl
  | k + 1, h => by
    have ih := bU_agree (k := k) (base := base) (S := S) (T := T) (δ := δ) (i := i) fun j hj => h j (by omega)
    simp only [bU]
    by_cases e : S k = T k
    · rw [e]
      split
      · rw [look_append, look_append, ih]
      · exact ih
    · have := h k (Nat.lt_succ_self k) e
      split <;> split
      · rw [look_append, look_append, ih]
      · rw [look_append, this]; exact ih
      · rw [look_append, this]; exact ih
      · exact ih

theorem bU_below {α : Type} {base : List (Nat × α)} {δ : Nat → List (Nat × α)} {k : Nat} : ∀ {n : Nat}, k ≤ n → bU (fun j => decide (j < k)) base δ n = bU (fun _ => true) base δ k
  | n, h => by
    induction n with
    | zero => obtain rfl : k = 0 := by omega
              rfl
    | succ n ih =>
      by_cases e : k = n + 1
      · subst e
        have : ∀ m, m ≤ n + 1 → bU (fun j => decide (j < n + 1)) base δ m = bU (fun _ => true) base δ m := by
          intro m
          induction m with
          | zero => intro _; rfl
          | succ m ihm => intro hm; simp only [bU]; rw [ihm (by omega), if_pos (by simp; omega)]; simp
        exact this _ (Nat.le_refl _)
      · simp only [bU]
        rw [if_neg (by simp; omega)]
        exact ih (by omega)

def ins (S : Nat → Bool) (k : Nat) : Nat → Bool := fun j => if j = k then true else S j

theorem bU_ins {α : Type} {S : Nat → Bool} {base : List (Nat × α)} {δ : Nat → List (Nat × α)} {i k : Nat} (hk : S k = false) : ∀ {n : Nat}, k < n → ((look (δ k) i).isSome = true → ∀ j, k < j → j < n → S j = true → look (δ j) i = none) →
    look (bU (ins S k) base δ n) i = look (δ k ++ bU S base δ n) i := by
  intro n hn h
  cases hd : look (δ k) i with
  | none =>
    rw [look_append, hd]
    refine bU_agree fun j hj hne => ?_
    unfold ins at hne
    split at hne
    · rename_i e; subst e; exact hd
    · exact (hne rfl).elim
  | some x =>
    have h := h (by rw [hd]; rfl)
    rw [look_append, hd]
    have : ∀ m, k < m → m ≤ n → look (bU (ins S k) base δ m) i = some x := by
      intro m
      induction m with
      | zero => intro h0; omega
      | succ m ih =>
        intro h1 h2
        simp only [bU]
        by_cases e : m = k
        · subst e
          rw [if_pos (by simp [ins]), look_append, hd]
        · have hi : ins S k m = S m := by simp [ins, e]
          rw [hi]
          split
          · rename_i hs
            rw [look_append, h m (by omega) (by omega) hs]
            exact ih (by omega) (by omega)
          · exact ih (by omega) (by omega)
    exact this n hn (Nat.le_refl _)

section
variable {E : Env} {ops : Array Oper}

def guardIs (fr : List (Nat × V)) (ops : Array Oper) (o : Oper) : Prop :=
  o.guard = none ∨ ∃ j want d, o.guard = some (j, want) ∧ slotBool fr ops j = some (d, want)

/-- what one operation did, in the text's order -/
def StepOK (E : Env) (ops : Array Oper) (fr : List (Nat × V)) (bs : List (Nat × Blk)) (n n' : Nat) (o : Oper) (fd : List (Nat × V)) (δ : List (Nat × Blk)) (lg : Log) : Prop :=
  (∃ v, guardIs fr ops o ∧ (evOp E (opval fr) o).exec ⟨n, bs⟩ [] = some (v, ⟨n', δ ++ bs⟩, lg) ∧ putSlot E.ntmps [] o.dst v = some fd) ∨
  (∃ j want, o.guard = some (j, want) ∧ ((∃ d, slotBool fr ops j = some (d, !want)) ∨ slotUndef fr ops j = true) ∧ δ = [] ∧ lg = [] ∧ n' = n ∧ putSlot E.ntmps [] o.dst (.tup []) = some fd)

structure Tr (E : Env) (ops : Array Oper) (fr0 : List (Nat × V)) (h0 : H) (fd : Nat → List (Nat × V)) (δ : Nat → List (Nat × Blk)) (nx : Nat → Nat) (lg : Nat → Log) (k : Nat) : Prop where
  zero : nx 0 = h0.next
  step : ∀ j, j < k → ∃ o, ops[j]? = some o ∧ StepOK E ops (bU (fun _ => true) fr0 fd j) (bU (fun _ => true) h0.bs δ j) (nx j) (nx (j + 1)) o (fd j) (δ j) (lg j)

theorem opval_look {fr fr' : List (Nat × V)} (h : look fr = look fr') : opval fr = opval fr' := by
  funext x
  cases x <;> simp only [opval, h]
theorem slotBool_look {fr fr' : List (Nat × V)} (h : look fr = look fr') (j : Nat) : slotBool fr ops j = slotBool fr' ops j := by
  unfold slotBool; simp only [h]
theorem slotUndef_look {fr fr' : List (Nat × V)} (h : look fr = look fr') (j : Nat) : slotUndef fr ops j = slotUndef fr' ops j := by
  unfold slotUndef; simp only [h]
theorem putSlot_nil {n : Nat} {fr fr' : List (Nat × V)} {dst : Option Nat} {v : V} (h : putSlot n fr dst v = some fr') : ∃ fd, putSlot n [] dst v = some fd ∧ fr' = fd ++ fr := by
  unfold putSlot at h ⊢
  cases dst with
  | none => simp only [Option.some.injEq] at h; subst h; exact ⟨[], rfl, rfl⟩
  | some d =>
    simp only at h ⊢
    split at h
    · rename_i hb
      simp only [Option.some.injEq] at h; subst h
      exact ⟨[(d, v)], rfl, rfl⟩
    · simp at h

theorem look_know {fr : List (Nat × V)} {j d : Nat} {x : Bool} (h : slotBool fr ops j = some (d, x)) : look ((d, V.bool x) :: fr) = look fr := by
  unfold slotBool at h
  split at h
  · split at h
    · split at h
      · rename_i hl
        simp only [Option.some.injEq, Prod.mk.injEq] at h
        obtain ⟨rfl, rfl⟩ := h
        funext i
        rw [look_cons]
        split
        · rename_i e; subst e; exact hl.symm
        · rfl
      · simp at h
    · simp at h
  · simp at h

theorem evOps_trace {R : Type} {r : R} {K : List (Nat × V) → H → List (Nat × Log) → Option R} {pins : List Nat} {fr0 : List (Nat × V)} {h0 : H} :
    ∀ {os : List Oper} {k : Nat} {fr : List (Nat × V)} {h : H} {ls : List (Nat × Log)} {fd : Nat → List (Nat × V)} {δ : Nat → List (Nat × Blk)} {nx : Nat → Nat} {lg : Nat → Log}, ops.toList.drop k = os → k ≤ ops.size → Tr E ops fr0 h0 fd δ nx lg k →
    look fr = look (bU (fun _ => true) fr0 fd k) → h = ⟨nx k, bU (fun _ => true) h0.bs δ k⟩ → (∀ j, j < k → logOf ls j = lg j) → (∀ j, k ≤ j → look ls j = none) → evOps E ops pins os k fr h ls K = some r →
    ∃ fd' δ' nx' lg' fr' ls', Tr E ops fr0 h0 fd' δ' nx' lg' ops.size ∧ look fr' = look (bU (fun _ => true) fr0 fd' ops.size) ∧ K fr' ⟨nx' ops.size, bU (fun _ => true) h0.bs δ' ops.size⟩ ls' = some r ∧ ∀ j, j < ops.size → logOf ls' j = lg' j
  | [], k, fr, h, ls, fd, δ, nx, lg, hos, hk, ht, hfr, hh, hls, hls2, hx => by
    have hk' : k = ops.size := by
      have := congrArg List.length hos
      simp at this; omega
    subst hk'
    simp only [evOps] at hx
    subst hh
    exact ⟨fd, δ, nx, lg, fr, ls, ht, hfr, hx, hls⟩
  | o :: os, k, fr, h, ls, fd, δ, nx, lg, hos, hk, ht, hfr, hh, hls, hls2, hx => by
    have hko : ops[k]? = some o := by
      have : (ops.toList.drop k)[0]? = some o := by rw [hos]; rfl
      rw [List.getElem?_drop, Nat.add_zero, Array.getElem?_toList] at this
      exact this
    have hlt : k < ops.size := (Array.getElem?_eq_some_iff.1 hko).1
    have hos' : ops.toList.drop (k + 1) = os := by rw [← List.drop_drop, hos]; rfl
    -- one step further
    have go : ∀ (fr' : List (Nat × V)) (h' : H) (ls' : List (Nat × Log)) (fdk : List (Nat × V)) (δk : List (Nat × Blk)) (lgk : Log), StepOK E ops (bU (fun _ => true) fr0 fd k) (bU (fun _ => true) h0.bs δ k) (nx k) h'.next o fdk δk lgk →
        look fr' = look (fdk ++ bU (fun _ => true) fr0 fd k) → h'.bs = δk ++ bU (fun _ => true) h0.bs δ k → (∀ j, j ≠ k → look ls' j = look ls j) → logOf ls' k = lgk → evOps E ops pins os (k + 1) fr' h' ls' K = some r →
        ∃ fd' δ' nx' lg' fr' ls', Tr E ops fr0 h0 fd' δ' nx' lg' ops.size ∧ look fr' = look (bU (fun _ => true) fr0 fd' ops.size) ∧ K fr' ⟨nx' ops.size, bU (fun _ => true) h0.bs δ' ops.size⟩ ls' = some r ∧ ∀ j, j < ops.size → logOf ls' j = lg' j := by
      intro fr' h' ls' fdk δk lgk hstep hfr' hbs' hls1 hlsk hx
      have e1 : ∀ m, m ≤ k → bU (fun _ => true) fr0 (fun j => if j = k then fdk else fd j) m = bU (fun _ => true) fr0 fd m := fun m hm => bU_congr fun j hj => by rw [if_neg (by omega)]
      have e2 : ∀ m, m ≤ k → bU (fun _ => true) h0.bs (fun j => if j = k then δk else δ j) m = bU (fun _ => true) h0.bs δ m := fun m hm => bU_congr fun j hj => by rw [if_neg (by omega)]
      refine evOps_trace (fd := fun j => if j = k then fdk else fd j) (δ := fun j => if j = k then δk else δ j) (nx := fun j => if j = k + 1 then h'.next else nx j) (lg := fun j => if j = k then lgk else lg j) hos' (by omega) ⟨?_, fun j hj => ?_⟩ ?_ ?_ ?_ ?_ hx
      · simp only [if_neg (show ¬ 0 = k + 1 by omega)]; exact ht.zero
      · by_cases e : j = k
        · subst e
          refine ⟨o, hko, ?_⟩
          simp only [if_true, e1 j (Nat.le_refl _), e2 j (Nat.le_refl _), if_neg (show ¬ j = j + 1 by omega)]
          exact hstep
        · obtain ⟨o', ho', hs'⟩ := ht.step j (by omega)
          refine ⟨o', ho', ?_⟩
          simp only [if_neg e, e1 j (by omega), e2 j (by omega), if_neg (show ¬ j = k + 1 by omega), if_neg (show ¬ j + 1 = k + 1 by omega)]
          exact hs'
      · simp only [bU, if_true]; rw [e1 k (Nat.le_refl _)]; exact hfr'
      · simp only [bU, if_true]; rw [e2 k (Nat.le_refl _), ← hbs']
      · intro j hj
        by_cases e : j = k
        · subst e; simp only [if_true]; exact hlsk
        · simp only [if_neg e, logOf]
          rw [hls1 j e]; exact hls j (by omega)
      · intro j hj
        rw [hls1 j (by omega)]; exact hls2 j (by omega)
    have run : ∀ (fr1 : List (Nat × V)), look fr1 = look fr → guardIs fr ops o → ((evOp E (opval fr1) o).run h [] fun v h l => match putSlot E.ntmps fr1 o.dst v with
          | some fr => evOps E ops pins os (k + 1) fr h ((k, l) :: ls) K
          | none => none) = some r →
        ∃ fd' δ' nx' lg' fr' ls', Tr E ops fr0 h0 fd' δ' nx' lg' ops.size ∧ look fr' = look (bU (fun _ => true) fr0 fd' ops.size) ∧ K fr' ⟨nx' ops.size, bU (fun _ => true) h0.bs δ' ops.size⟩ ls' = some r ∧ ∀ j, j < ops.size → logOf ls' j = lg' j := by
      intro fr1 hl1 hg hy
      rw [Prog.run_eq] at hy
      cases hr : (evOp E (opval fr1) o).exec h [] with
      | none => simp [hr] at hy
      | some res =>
        obtain ⟨v, h', l'⟩ := res
        simp only [hr] at hy
        cases hp : putSlot E.ntmps fr1 o.dst v with
        | none => simp [hp] at hy
        | some fr' =>
          simp only [hp] at hy
          obtain ⟨fdk, hfd, rfl⟩ := putSlot_nil hp
          obtain ⟨δk, lgk, h1, h2, _, _⟩ := exec_local hr
          simp only [List.append_nil] at h1 h2
          subst hh
          have hg' : guardIs (bU (fun _ => true) fr0 fd k) ops o := by
            rcases hg with h | ⟨j, want, d, h3, h4⟩
            · exact .inl h
            · exact .inr ⟨j, want, d, h3, by rw [← slotBool_look hfr]; exact h4⟩
          refine go (fdk ++ fr1) h' ((k, l') :: ls) fdk δk lgk (.inl ⟨v, hg', ?_, hfd⟩) ?_ h1 (fun j hj => by rw [look_cons, if_neg (fun e => hj e.symm)]) (by simp [logOf, look_cons, h2]) hy
          · rw [← opval_look (hl1.trans hfr), hr]
            obtain ⟨n', bs'⟩ := h'
            simp only at h1 h2; subst h1; subst h2; rfl
          · funext i; rw [look_append, look_append, hl1, hfr]
    simp only [evOps] at hx
    cases hg : o.guard with
    | none => simp only [hg] at hx; exact run fr rfl (.inl hg) hx
    | some g =>
      obtain ⟨j, want⟩ := g
      simp only [hg] at hx
      cases hb : slotBool fr ops j with
      | none =>
        simp only [hb] at hx
        cases hu : slotUndef fr ops j with
        | false => simp [hu] at hx
        | true =>
          simp only [hu] at hx
          cases hp : putSlot E.ntmps fr o.dst (.tup []) with
          | none => simp [hp] at hx
          | some fr' =>
            simp only [hp] at hx
            obtain ⟨fdk, hfd, rfl⟩ := putSlot_nil hp
            subst hh
            refine go (fdk ++ fr) ⟨nx k, bU (fun _ => true) h0.bs δ k⟩ ls fdk [] [] (.inr ⟨j, want, hg, .inr (by rw [← slotUndef_look hfr]; exact hu), rfl, rfl, rfl, hfd⟩) ?_ rfl (fun _ _ => rfl) (by simp [logOf, hls2 k (Nat.le_refl _)]) hx
            funext i; rw [look_append, look_append, hfr]
      | some dx =>
        obtain ⟨d, x⟩ := dx
        simp only [hb] at hx
        have hcond : (cond want x (!x)) = (x == want) := by cases want <;> cases x <;> rfl
        rw [hcond] at hx
        cases hxw : (x == want) with
        | true =>
          have : x = want := by simpa using hxw
          subst this
          rw [hxw] at hx
          simp only [cond_true] at hx
          exact run _ (look_know hb) (.inr ⟨j, x, d, hg, hb⟩) hx
        | false =>
          rw [hxw] at hx
          simp only [cond_false] at hx
          have hne : x = !want := by cases want <;> cases x <;> simp at hxw ⊢
          subst hne
          cases hp : putSlot E.ntmps ((d, V.bool (!want)) :: fr) o.dst (.tup []) with
          | none => simp [hp] at hx
          | some fr' =>
            simp only [hp] at hx
            obtain ⟨fdk, hfd, rfl⟩ := putSlot_nil hp
            subst hh
            refine go (fdk ++ ((d, V.bool (!want)) :: fr)) ⟨nx k, bU (fun _ => true) h0.bs δ k⟩ ls fdk [] [] (.inr ⟨j, want, hg, .inl ⟨d, by rw [← slotBool_look hfr]; exact hb⟩, rfl, rfl, rfl, hfd⟩) ?_ rfl (fun _ _ => rfl) (by simp [logOf, hls2 k (Nat.le_refl _)]) hx
            funext i; rw [look_append, look_append, look_know hb, hfr]

end
end Go.Ev

/- Regions whose order is drawn: every order comes to the text's. -/
namespace Go.Ev
open Go

section
variable {E : Env} {ops : Array Oper}

theorem okPair_spec {b : Array Nat} {ls : List (Nat × Log)} {i j : Nat} (h : okPair ops b ls i j = true) : (b.getD j 0).testBit i = true ∨ (slotClash ops (ops.getD i default) (ops.getD j default) = false ∧ clash (logOf ls i) (logOf ls j) = false) := by
  have e0 : (vnth b.toList j).getD 0 = b.getD j 0 := by rw [vnth_eq, Array.getElem?_toList, Array.getD_eq_getD_getElem?]
  have e1 : ∀ m, (opAt ops m).getD default = ops.getD m default := fun m => by rw [opAt_eq, Array.getD_eq_getD_getElem?]
  unfold okPair at h
  rw [e0, e1, e1] at h
  split at h
  · rename_i hb; exact .inl hb
  · split at h
    · simp at h
    · rename_i hs; exact .inr ⟨hs, by simpa using h⟩

theorem okBelow_spec {b : Array Nat} {ls : List (Nat × Log)} {j : Nat} : ∀ {m : Nat}, okBelow ops b ls j m = true → ∀ i, i < m → okPair ops b ls i j = true
  | 0, _, i, hi => by omega
  | m + 1, h, i, hi => by
    simp only [okBelow] at h
    split at h
    · rename_i hp
      by_cases e : i = m
      · subst e; exact hp
      · exact okBelow_spec h i (by omega)
    · simp at h

theorem okAll_spec {b : Array Nat} {ls : List (Nat × Log)} : ∀ {m : Nat}, okAll ops b ls m = true → ∀ i j, i < j → j < m → okPair ops b ls i j = true
  | 0, _, i, j, _, hj => by omega
  | m + 1, h, i, j, hij, hj => by
    simp only [okAll] at h
    split at h
    · rename_i hp
      by_cases e : j = m
      · subst e; exact okBelow_spec hp i hij
      · exact okAll_spec h i j hij (by omega)
    · simp at h

theorem edges_spec : ∀ {l : List Oper} {k : Nat}, edgesOK l k = true → ∀ j o, l[j]? = some o → ∀ e ∈ o.after.toList, Region.binds .any e = true → e.on < k + j
  | [], k, _, j, o, ho, _, _, _ => by simp at ho
  | o1 :: l, k, h, j, o, ho, e, he, hb => by
    simp only [edgesOK, Bool.and_eq_true] at h
    cases j with
    | zero =>
      simp only [List.getElem?_cons_zero, Option.some.injEq] at ho; subst ho
      have := List.all_eq_true.1 h.1 e he
      rw [hb] at this
      simpa [Nat.blt_eq] using this
    | succ j =>
      have := edges_spec h.2 j o (by simpa using ho) e he hb
      omega

/-- two operations have nothing to do with each other -/
structure Apart (ops : Array Oper) (lg : Nat → Log) (i j : Nat) (oi oj : Oper) : Prop where
  s1 : ∀ d, oi.dst = some d → looksIn ops oj d = false
  s2 : ∀ d, oj.dst = some d → looksIn ops oi d = false
  s3 : ∀ d, oi.dst = some d → oj.dst ≠ some d
  l : ∀ m u v, (m, u) ∈ lg i → (m, v) ∈ lg j → u = false ∧ v = false

theorem Apart.symm {lg : Nat → Log} {i j : Nat} {oi oj : Oper} (h : Apart ops lg i j oi oj) : Apart ops lg j i oj oi :=
  ⟨h.s2, h.s1, fun d h1 h2 => h.s3 d h2 h1, fun m u v h1 h2 => (h.l m v u h2 h1).symm⟩

theorem slotClash_spec {a b : Oper} (h : slotClash ops a b = false) : (∀ d, a.dst = some d → looksIn ops b d = false) ∧ (∀ d, b.dst = some d → looksIn ops a d = false) ∧ ∀ d, a.dst = some d → b.dst ≠ some d := by
  unfold slotClash at h
  simp only [Bool.or_eq_false_iff] at h
  obtain ⟨h1, h2⟩ := h
  refine ⟨fun d hd => ?_, fun d hd => ?_, fun d hd hd2 => ?_⟩
  · rw [hd] at h1; simp only [Bool.or_eq_false_iff] at h1; exact h1.1
  · rw [hd] at h2; exact h2
  · rw [hd] at h1; simp only [Bool.or_eq_false_iff, hd2] at h1
    have := h1.2
    simp at this

theorem putSlot_keys {n : Nat} {dst : Option Nat} {v : V} {fd : List (Nat × V)} (h : putSlot n [] dst v = some fd) {d : Nat} (hd : look fd d ≠ none) : dst = some d := by
  unfold putSlot at h
  cases dst with
  | none => simp only [Option.some.injEq] at h; subst h; simp [look] at hd
  | some d' =>
    simp only at h
    split at h
    · simp only [Option.some.injEq] at h; subst h
      rw [look_cons] at hd
      by_cases e : d' = d
      · rw [e]
      · rw [if_neg e] at hd; simp [look] at hd
    · simp at h

theorem putSlot_any {n : Nat} {dst : Option Nat} {v : V} {fd fr : List (Nat × V)} (h : putSlot n [] dst v = some fd) : putSlot n fr dst v = some (fd ++ fr) := by
  unfold putSlot at h ⊢
  cases dst with
  | none => simp only [Option.some.injEq] at h; subst h; rfl
  | some d' =>
    simp only at h ⊢
    split at h
    · rename_i hb
      simp only [Option.some.injEq] at h; subst h
      rfl
    · simp at h

theorem looks_tmp {o : Oper} {t : Nat} (h : Operand.tmp t ∈ o.op.operands.toList) : looksIn ops o t = true := by
  unfold looksIn
  rw [memO_iff.2 h]; rfl
theorem looks_guard {o g : Oper} {j : Nat} {want : Bool} {d : Nat} (hg : o.guard = some (j, want)) (ho : ops[j]? = some g) (hd : g.dst = some d) : looksIn ops o d = true := by
  unfold looksIn
  simp [hg, opAt_eq, ho, hd]

theorem slotBool_at {fr fr' : List (Nat × V)} {o : Oper} {j : Nat} {want : Bool} (hg : o.guard = some (j, want)) (h : ∀ d, looksIn ops o d = true → look fr d = look fr' d) : slotBool fr ops j = slotBool fr' ops j := by
  unfold slotBool
  rw [opAt_eq]
  cases ho : ops[j]? with
  | none => rfl
  | some g =>
    simp only
    cases hd : g.dst with
    | none => rfl
    | some d => simp only; rw [h d (looks_guard hg ho hd)]

theorem slotUndef_at {fr fr' : List (Nat × V)} {o : Oper} {j : Nat} {want : Bool} (hg : o.guard = some (j, want)) (h : ∀ d, looksIn ops o d = true → look fr d = look fr' d) : slotUndef fr ops j = slotUndef fr' ops j := by
  unfold slotUndef
  rw [opAt_eq]
  cases ho : ops[j]? with
  | none => rfl
  | some g =>
    simp only
    cases hd : g.dst with
    | none => rfl
    | some d => simp only; rw [h d (looks_guard hg ho hd)]

variable {P : Program} {C : Cx} {fr0 : List (Nat × V)} {h0 : H} {fd : Nat → List (Nat × V)} {δ : Nat → List (Nat × Blk)} {nx : Nat → Nat} {lg : Nat → Log} {pins : List Nat} {ks : List Hdl}

theorem Tr.mono (ht : Tr E ops fr0 h0 fd δ nx lg ops.size) : ∀ {i j : Nat}, i ≤ j → j ≤ ops.size → nx i ≤ nx j := by
  intro i j hij hj
  induction j with
  | zero => obtain rfl : i = 0 := by omega
            exact Nat.le_refl _
  | succ j ih =>
    by_cases e : i = j + 1
    · subst e; exact Nat.le_refl _
    · have h1 := ih (by omega) (by omega)
      obtain ⟨o, _, hs⟩ := ht.step j (by omega)
      rcases hs with ⟨v, _, hx, _⟩ | ⟨_, _, _, _, _, _, hn, _⟩
      · have := exec_next hx; simp only at this; omega
      · omega

theorem Tr.fdKey (ht : Tr E ops fr0 h0 fd δ nx lg ops.size) {j : Nat} (hj : j < ops.size) {o : Oper} (ho : ops[j]? = some o) {d : Nat} (hd : look (fd j) d ≠ none) : o.dst = some d := by
  obtain ⟨o', ho', hs⟩ := ht.step j hj
  rw [ho] at ho'; injection ho' with ho'; subst ho'
  rcases hs with ⟨v, _, _, hp⟩ | ⟨_, _, _, _, _, _, _, hp⟩
  · exact putSlot_keys hp hd
  · exact putSlot_keys hp hd

theorem Tr.δKey (ht : Tr E ops fr0 h0 fd δ nx lg ops.size) {j : Nat} (hj : j < ops.size) {i : Nat} (hi : look (δ j) i ≠ none) : (i, true) ∈ lg j := by
  obtain ⟨o', ho', hs⟩ := ht.step j hj
  rcases hs with ⟨v, _, hx, _⟩ | ⟨_, _, _, _, hδ, _⟩
  · obtain ⟨δ', lg', h1, h2, h3, _⟩ := exec_local hx
    simp only [List.append_nil] at h1 h2
    have := List.append_cancel_right h1
    subst this; subst h2
    cases hb : look (δ j) i with
    | none => exact (hi hb).elim
    | some b => exact h3 i b (look_mem hb)
  · rw [hδ] at hi; simp [look] at hi

/-- what holds when a set of operations has been done -/
def Inv (C : Cx) (ops : Array Oper) (fr0 : List (Nat × V)) (h0 : H) (fd : Nat → List (Nat × V)) (δ : Nat → List (Nat × Blk)) (nx : Nat → Nat) (pins : List Nat) (ks : List Hdl) (S : Nat → Bool) (a : Act) (w : World) : Prop :=
  ∃ μ Im, HRel C (look (bU S h0.bs δ ops.size)) w μ Im ∧ SRel C (look (bU S fr0 fd ops.size)) a w μ Im ∧
    (∀ i, μ i ≠ none → i < nx 0 ∨ ∃ j, j < ops.size ∧ S j = true ∧ nx j ≤ i ∧ i < nx (j + 1)) ∧ ∀ m i : Nat, pins[m]? = some i → μ i = ks[m]?

theorem inv_step (hE : EnvOK P E) (hC : CallEnv P E) {Q : Exit → Act → World → Prop} (hn : E.ntmps = C.n) (hpl : pins.length = ks.length) (ht : Tr E ops fr0 h0 fd δ nx lg ops.size) {S : Nat → Bool} {k : Nat} {o : Oper} (hk : k < ops.size) (hko : ops[k]? = some o) (hSk : S k = false)
    (hap : ∀ j oj, j < ops.size → j ≠ k → ops[j]? = some oj → S j ≠ decide (j < k) → Apart ops lg j k oj o) {a : Act} {w : World} {K : Act → World → Prop} (hi : Inv C ops fr0 h0 fd δ nx pins ks S a w) (hK : ∀ a w, Inv C ops fr0 h0 fd δ nx pins ks (ins S k) a w → K a w) :
    wpOp P ops Q k K a w := by
  obtain ⟨μ, Im, hR, hS, hid, hpin⟩ := hi
  have hget : ∀ j, j < ops.size → ∃ oj, ops[j]? = some oj := fun j hj => ⟨ops[j], Array.getElem?_eq_getElem hj⟩
  have hne : ∀ j, S j ≠ decide (j < k) → j ≠ k := fun j h e => by subst e; simp [hSk] at h
  -- what it looks at is as in the text's order
  have hslot : ∀ d, looksIn ops o d = true → look (bU (fun _ => true) fr0 fd k) d = look (bU S fr0 fd ops.size) d := fun d hd => by
    rw [← bU_below (n := ops.size) (by omega)]
    refine (bU_agree fun j hj hjs => ?_).symm
    obtain ⟨oj, hoj⟩ := hget j hj
    have ha := hap j oj hj (hne j hjs) hoj hjs
    cases hl : look (fd j) d with
    | none => rfl
    | some v =>
      have := ht.fdKey hj hoj (d := d) (by rw [hl]; simp)
      rw [ha.s1 d this] at hd; simp at hd
  have hheap : ∀ i v, (i, v) ∈ lg k → look (bU S h0.bs δ ops.size) i = look (bU (fun _ => true) h0.bs δ k) i := fun i v hiv => by
    rw [← bU_below (n := ops.size) (k := k) (by omega)]
    refine bU_agree fun j hj hjs => ?_
    obtain ⟨oj, hoj⟩ := hget j hj
    have ha := hap j oj hj (hne j hjs) hoj hjs
    cases hl : look (δ j) i with
    | none => rfl
    | some b =>
      have h1 := ht.δKey hj (i := i) (by rw [hl]; simp)
      have := (ha.l i true v h1 hiv).1
      simp at this
  -- what it lays comes last
  have hfd : look (bU (ins S k) fr0 fd ops.size) = look (fd k ++ bU S fr0 fd ops.size) := by
    funext d
    refine bU_ins hSk hk fun hd j hkj hj hSj => ?_
    obtain ⟨oj, hoj⟩ := hget j hj
    have ha := hap j oj hj (by omega) hoj (by rw [hSj]; simp; omega)
    cases hl : look (fd j) d with
    | none => rfl
    | some v =>
      have h1 := ht.fdKey hj hoj (d := d) (by rw [hl]; simp)
      have h2 := ht.fdKey hk hko (d := d) (by intro e; rw [e] at hd; simp at hd)
      exact (ha.s3 d h1 h2).elim
  have hδ : look (bU (ins S k) h0.bs δ ops.size) = look (δ k ++ bU S h0.bs δ ops.size) := by
    funext i
    refine bU_ins hSk hk fun hd j hkj hj hSj => ?_
    obtain ⟨oj, hoj⟩ := hget j hj
    have ha := hap j oj hj (by omega) hoj (by rw [hSj]; simp; omega)
    cases hl : look (δ j) i with
    | none => rfl
    | some v =>
      have h1 := ht.δKey hj (i := i) (by rw [hl]; simp)
      have h2 := ht.δKey hk (i := i) (by intro e; rw [e] at hd; simp at hd)
      have := (ha.l i true true h1 h2).1
      simp at this
  obtain ⟨o', ho', hs⟩ := ht.step k hk
  rw [hko] at ho'; injection ho' with ho'; subst ho'
  unfold wpOp
  simp only [hko]
  rcases hs with ⟨v, hg, hx, hp⟩ | ⟨j, want, hg, hb, hδk, hlgk, hnk, hp⟩
  · -- it is done
    have hw : Region.wanted o (yielded ops a.tmps) = true := by
      rcases hg with hg | ⟨j, want, d, hg, hb⟩
      · simp [Region.wanted, hg]
      · rw [slotBool_at hg hslot] at hb
        obtain ⟨_, hy, _⟩ := slot_bool hS hb
        simp [Region.wanted, hg, hy]
    rw [hw, if_pos rfl]
    have hx2 : (evOp E (opval (bU S fr0 fd ops.size)) o).exec ⟨nx k, bU (fun _ => true) h0.bs δ k⟩ [] = some (v, ⟨nx (k + 1), δ k ++ bU (fun _ => true) h0.bs δ k⟩, lg k) := by
      rw [← evOp_congr (ρ := opval (bU (fun _ => true) fr0 fd k)) fun x hx => ?_]
      · exact hx
      · cases x with
        | tmp t => simp only [opval]; rw [hslot t (looks_tmp (by simpa using hx))]
        | _ => rfl
    obtain ⟨δ', lg', h1, h2, _, h4⟩ := exec_local hx2
    simp only [List.append_nil] at h1 h2
    have hde := List.append_cancel_right h1
    subst h2
    have hx3 := h4 ⟨nx k, bU S h0.bs δ ops.size⟩ [] rfl hheap
    rw [← hde, List.append_nil] at hx3
    refine .inl (wp_op hE hC hR hS (fun i h5 h6 => ?_) hx3 fun y w' μ' Im' hgr hv => hK _ _ ⟨μ', Im', ?_, ?_, fun i hi' => ?_, fun m i hm => ?_⟩)
    · cases hmu : μ i with
      | none => rfl
      | some kk =>
        simp only at h5 h6
        rcases hid i (by rw [hmu]; simp) with h7 | ⟨j, hj, hSj, h7, h8⟩
        · have := ht.mono (i := 0) (j := k) (by omega) (by omega); omega
        · by_cases hjk : j < k
          · have := ht.mono (i := j + 1) (j := k) (by omega) (by omega); omega
          · have hne' : j ≠ k := fun e => by subst e; rw [hSk] at hSj; simp at hSj
            have := ht.mono (i := k + 1) (j := j) (by omega) (by omega); omega
    · rw [hδ]; exact hgr.rel
    · rw [hfd]; exact putSlot_rel hn (hS.later hgr.later) hv (putSlot_any hp)
    · cases hmu : μ i with
      | none =>
        have := hgr.ids i hmu hi'
        simp only at this
        exact .inr ⟨k, hk, by simp [ins], this.1, this.2⟩
      | some kk =>
        rcases hid i (by rw [hmu]; simp) with h7 | ⟨j, hj, hSj, h7, h8⟩
        · exact .inl h7
        · exact .inr ⟨j, hj, by simp [ins, hSj], h7, h8⟩
    · have h9 := hpin m i hm
      have hm' : m < pins.length := (List.getElem?_eq_some_iff.1 hm).1
      rw [List.getElem?_eq_getElem (by omega)] at h9 ⊢
      exact hgr.later.mu _ _ h9
  · -- it is left out
    have hw : Region.wanted o (yielded ops a.tmps) = false := by
      rcases hb with ⟨d, hb⟩ | hb
      · rw [slotBool_at hg hslot] at hb
        obtain ⟨_, hy, _⟩ := slot_bool hS hb
        simp only [Region.wanted, hg, hy]
        cases want <;> rfl
      · rw [slotUndef_at hg hslot] at hb
        have hy := slot_undef hS hb
        simp [Region.wanted, hg, hy]
    rw [hw, if_neg (by simp)]
    refine hK _ _ ⟨μ, Im, ?_, ?_, fun i hi' => ?_, hpin⟩
    · rw [hδ, hδk]; exact hR
    · rw [hfd]; exact putSlot_rel hn hS (v := .tup []) (vrel_none _ _ _) (putSlot_any hp)
    · rcases hid i hi' with h7 | ⟨j, hj, hSj, h7, h8⟩
      · exact .inl h7
      · exact .inr ⟨j, hj, by simp [ins, hSj], h7, h8⟩

/-! ### All the orders -/

theorem count_ins {S : Nat → Bool} {k : Nat} (hk : S k = false) : ∀ {l : List Nat}, l.Nodup → k ∈ l → (l.countP fun j => !ins S k j) + 1 = l.countP fun j => !S j
  | [], _, h => by simp at h
  | x :: l, hn, h => by
    rw [List.nodup_cons] at hn
    simp only [List.countP_cons]
    by_cases e : x = k
    · subst e
      have : l.countP (fun j => !ins S x j) = l.countP (fun j => !S j) := by
        refine List.countP_congr fun j hj => ?_
        have hne : j ≠ x := fun e => by subst e; exact hn.1 hj
        simp [ins, hne]
      rw [this]; simp [ins, hk]
    · have hk' : k ∈ l := by
        rcases List.mem_cons.1 h with h | h
        · exact (e h.symm).elim
        · exact h
      have := count_ins hk hn.2 hk'
      simp only [ins, if_neg e] at this ⊢
      omega

def listedS (listed : Array Bool) : Nat → Bool := fun j => listed.getD j false

theorem listed_set {listed : Array Bool} {k : Nat} (hk : k < listed.size) : listedS (listed.setIfInBounds k true) = ins (listedS listed) k := by
  funext j
  unfold listedS ins
  rw [Array.getD_eq_getD_getElem?, Array.getElem?_setIfInBounds]
  by_cases e : k = j
  · subst e; simp [hk]
  · rw [if_neg e, if_neg (fun h => e h.symm), ← Array.getD_eq_getD_getElem?]

theorem mem_ready {listed : Array Bool} (hs : listed.size = ops.size) {k : Nat} : k ∈ Region.ready .any ops listed ↔ k < ops.size ∧ listedS listed k = false ∧ ∃ o, ops[k]? = some o ∧ ∀ e ∈ o.after.toList, Region.binds .any e = true → listedS listed e.on = true := by
  unfold Region.ready
  rw [List.mem_filter, List.mem_range]
  constructor
  · rintro ⟨h1, h2⟩
    have ho : ops[k]? = some ops[k] := Array.getElem?_eq_getElem h1
    simp only [ho, Option.map_some, Option.getD_some, Bool.and_eq_true, Bool.not_eq_true'] at h2
    refine ⟨h1, ?_, _, ho, fun e he hb => ?_⟩
    · have h3 := h2.1
      unfold listedS
      rw [Array.getD_eq_getD_getElem?] at h3 ⊢
      rw [Array.getElem?_eq_getElem (by omega)] at h3 ⊢
      exact h3
    · have h3 := Array.all_eq_true_iff_forall_mem.1 h2.2 e (by simpa using he)
      rw [hb] at h3
      simpa [listedS] using h3
  · rintro ⟨h1, h2, o, ho, h3⟩
    refine ⟨h1, ?_⟩
    simp only [ho, Option.map_some, Option.getD_some, Bool.and_eq_true, Bool.not_eq_true']
    refine ⟨?_, Array.all_eq_true_iff_forall_mem.2 fun e he => ?_⟩
    · unfold listedS at h2
      rw [Array.getD_eq_getD_getElem?] at h2 ⊢
      rw [Array.getElem?_eq_getElem (by omega)] at h2 ⊢
      exact h2
    · cases hb : Region.binds .any e with
      | false => rfl
      | true => simpa [listedS] using h3 e (by simpa using he) hb

theorem ok_any (hE : EnvOK P E) (hC : CallEnv P E) {Q : Exit → Act → World → Prop} (hn : E.ntmps = C.n) (hpl : pins.length = ks.length) (ht : Tr E ops fr0 h0 fd δ nx lg ops.size) (hed : edgesOK ops.toList 0 = true)
    (hok : ∀ i j, i < j → j < ops.size → ((Region.before ops).getD j 0).testBit i = true ∨ (slotClash ops (ops.getD i default) (ops.getD j default) = false ∧ clash (lg i) (lg j) = false))
    (hK : ∀ a w, Inv C ops fr0 h0 fd δ nx pins ks (fun _ => true) a w → Q .normal a w) :
    ∀ (fuel : Nat) (listed : Array Bool) (a : Act) (w : World), listed.size = ops.size → Inv C ops fr0 h0 fd δ nx pins ks (listedS listed) a w → (∀ j, listedS listed j = true → ∀ i, ((Region.before ops).getD j 0).testBit i = true → listedS listed i = true) →
      ((List.range ops.size).countP fun j => !listedS listed j) = fuel → wpAny P .any ops Q fuel listed a w := by
  have hall : ∀ {listed : Array Bool} {a : Act} {w : World}, (∀ j, j < ops.size → listedS listed j = true) → Inv C ops fr0 h0 fd δ nx pins ks (listedS listed) a w → Q .normal a w := by
    intro listed a w hl hi
    refine hK a w ?_
    have e1 : ∀ {α : Type} (base : List (Nat × α)) (f : Nat → List (Nat × α)) (m : Nat), m ≤ ops.size → bU (listedS listed) base f m = bU (fun _ => true) base f m := by
      intro α base f m
      induction m with
      | zero => intro _; rfl
      | succ m ih => intro hm; simp only [bU]; rw [ih (by omega), hl m (by omega)]; rfl
    obtain ⟨μ, Im, h1, h2, h3, h4⟩ := hi
    rw [e1 _ _ _ (Nat.le_refl _)] at h1 h2
    exact ⟨μ, Im, h1, h2, fun i hi => (h3 i hi).imp id fun ⟨j, hj, _, h5⟩ => ⟨j, hj, rfl, h5⟩, h4⟩
  intro fuel
  induction fuel with
  | zero =>
    intro listed a w hs hi hcl hcnt
    have hl : ∀ j, j < ops.size → listedS listed j = true := fun j hj => by
      have := List.countP_eq_zero.1 hcnt j (List.mem_range.2 hj)
      simpa using this
    refine ⟨?_, hall hl hi⟩
    rw [List.eq_nil_iff_forall_not_mem]
    intro k hk
    have := (mem_ready hs).1 hk
    rw [hl k this.1] at this
    simp at this
  | succ fuel ih =>
    intro listed a w hs hi hcl hcnt
    refine ⟨fun hr => ?_, fun k hk => ?_⟩
    · refine hall (fun j => ?_) hi
      induction j using Nat.strongRecOn with
      | ind j ihj =>
        intro hj
        cases hb : listedS listed j with
        | true => rfl
        | false =>
          have : j ∈ Region.ready .any ops listed := (mem_ready hs).2 ⟨hj, hb, ops[j], Array.getElem?_eq_getElem hj, fun e he hbi => by
            have := edges_spec hed j ops[j] (by rw [Array.getElem?_toList]; exact Array.getElem?_eq_getElem hj) e he hbi
            exact ihj e.on (by omega) (by omega)⟩
          rw [hr] at this; simp at this
    · obtain ⟨hk1, hk2, o, ho, hk3⟩ := (mem_ready hs).1 hk
      have hclk : ∀ i, ((Region.before ops).getD k 0).testBit i = true → listedS listed i = true := fun i hi' => by
        obtain ⟨e, he, hb, h5⟩ := before_spec ho hi'
        have h6 := hk3 e he hb
        rcases h5 with rfl | h5
        · exact h6
        · exact hcl _ h6 i h5
      refine inv_step hE hC hn hpl ht hk1 ho hk2 (fun j oj hj hjk hoj hne => ?_) hi fun a' w' hi' => ?_
      · have hgj : ops.getD j default = oj := by rw [Array.getD_eq_getD_getElem?, hoj]; rfl
        have hgk : ops.getD k default = o := by rw [Array.getD_eq_getD_getElem?, ho]; rfl
        by_cases hlt : j < k
        · rcases hok j k hlt hk1 with h5 | ⟨h5, h6⟩
          · have := hclk j h5
            rw [this] at hne; simp at hne; omega
          · rw [hgj, hgk] at h5
            obtain ⟨s1, s2, s3⟩ := slotClash_spec h5
            exact ⟨s1, s2, s3, fun m u v h7 h8 => clash_false h6 m u v h7 h8⟩
        · have hSj : listedS listed j = true := by
            cases hb : listedS listed j with
            | true => rfl
            | false => rw [hb] at hne; simp at hne; omega
          rcases hok k j (by omega) hj with h5 | ⟨h5, h6⟩
          · have := hcl j hSj k h5
            rw [hk2] at this; simp at this
          · rw [hgj, hgk] at h5
            obtain ⟨s1, s2, s3⟩ := slotClash_spec h5
            exact Apart.symm ⟨s1, s2, s3, fun m u v h7 h8 => clash_false h6 m u v h7 h8⟩
      · have hset := listed_set (listed := listed) (k := k) (by omega)
        refine ih _ a' w' (by simp [hs]) (by rw [hset]; exact hi') (fun j hj i hji => ?_) ?_
        · rw [hset] at hj ⊢
          unfold ins at hj ⊢
          split
          · rfl
          · split at hj
            · rename_i e; subst e; exact hclk i hji
            · exact hcl j hj i hji
        · rw [hset]
          have := count_ins (S := listedS listed) hk2 List.nodup_range (List.mem_range.2 hk1)
          omega

end
end Go.Ev

/- States to data and back, within one function. -/
namespace Go.Ev
open Go

/-- what is left of a state when all is forgotten -/
abbrev Base0 (C : Cx) (w : World) (Im : Nat → Prop) : Prop := HRel C (fun _ => none) w (fun _ => none) Im

def Keep.wf (np : Nat) (kp : Keep) : Bool := HSh.wfs kp.heap.length kp.heap && Sh.wfs kp.heap.length (slotShapes kp.slots) && Nat.ble np kp.heap.length

/-- a state that is told by its data -/
structure Told (C : Cx) (ks : List Hdl) (kp : Keep) (hs as : List D) (a : Act) (w : World) : Prop where
  n : a.tmps.size = C.n
  defers : a.defers = []
  ex : ∃ Im ks2 o, Bd w Im kp.heap (slotShapes kp.slots) hs as (kp.slots.map fun p => a.tmps.getD p.1 undef) ks2 o ∧ Base0 C w Im ∧ (∀ x ∈ o, C.F x ∨ C.w0.heap.size ≤ x) ∧ ∀ k, k < ks.length → ks2[k]? = ks[k]?

section
variable {P : Program} {C : Cx} {w : World} {μ : Mu} {Im : Nat → Prop}

theorem slotVals_rel {fr : List (Nat × V)} {a : Act} (hS : SRel C (look fr) a w μ Im) : ∀ l : List (Nat × Sh), vrels w μ Im (slotVals fr l) (l.map fun p => a.tmps.getD p.1 undef)
  | [] => rfl
  | (d, s) :: l => by
    refine ⟨_, _, rfl, ?_, slotVals_rel hS l⟩
    cases h : look fr d with
    | none => simp [vrel]
    | some v => exact hS.slot d v h

/-- from what was absorbed to what is told -/
theorem Took.told {h : H} (hR : HRel C (look h.bs) w μ Im) {pins : List Nat} {hsh : List HSh} {sh : List Sh} {hs as : List D} {xs : List Value} {s : AS} (tk : Took h w μ Im pins hsh sh hs as xs s) {ks : List Hdl} (hpl : pins.length = ks.length) (hp : ∀ k i : Nat, pins[k]? = some i → μ i = ks[k]?) (hle : ks.length ≤ hsh.length) :
    ∃ Im' ks2 o, Bd w Im' hsh sh hs as xs ks2 o ∧ Base0 C w Im' ∧ (∀ x ∈ o, C.F x ∨ C.w0.heap.size ≤ x) ∧ ∀ k, k < ks.length → ks2[k]? = ks[k]? := by
  obtain ⟨ks2, o, hbd, hks, hown⟩ := tk.bd (fun y => Im y ∨ ∃ i ∈ s.frz, ∃ k, μ i = some k ∧ k.blk = some y) (fun _ h => .inl h) (fun i hi k y hk hy => .inr ⟨i, hi, k, hk, hy⟩) (fun _ h => h)
  refine ⟨_, ks2, o, hbd, ⟨by simp, by simp, by simp, by simp, fun x hx => ?_, fun x hx => .inl (hR.im0 x hx), hR.frame, hR.size, hR.os, hR.tape, hR.output⟩, fun x hx => ?_, fun k hk => ?_⟩
  · rcases hx with hx | ⟨i, hi, k, hk, hkx⟩
    · exact hR.im x hx
    · obtain ⟨t, ys, hrow⟩ := tk.frzRow i hi
      have := hR.own i _ k x hrow rfl hk hkx
      exact ⟨this.2.1, .inr this.2.2⟩
  · obtain ⟨i, b, k, _, h1, h2, h3, h4⟩ := hown x hx
    exact (hR.own i b k x h1 h2 h3 h4).2.2
  · have hk' : k < pins.length := by omega
    have h1 := List.getElem?_eq_getElem hk'
    have h2 := tk.pins k _ h1
    rw [hks k _ h2 (by omega), hp k _ h1]

theorem ok_take {R : Type} {r : R} {kp : Keep} {st : St} {K : List D → List D → Option R} {ks : List Hdl} {a : Act} (hx : takeSt kp st K = some r) (hst : StRel C ks st a w μ Im) (hwf : kp.wf ks.length = true) :
    ∃ hs as, K hs as = some r ∧ Told C ks kp hs as a w := by
  simp only [Keep.wf, Bool.and_eq_true] at hwf
  obtain ⟨⟨w1, w2⟩, w3⟩ := hwf
  unfold takeSt at hx
  rw [Prog.run_eq] at hx
  cases hr : (absorb st.pins kp.heap (slotShapes kp.slots) (slotVals st.fr kp.slots) fun hs as _ => Prog.ret (hs, as)).exec st.h [] with
  | none => simp [hr] at hx
  | some res =>
    obtain ⟨p, h', l'⟩ := res
    simp only [hr] at hx
    obtain ⟨hs, as, s, l1, hx2, tk⟩ := exec_absorb hst.heap hr (slotVals_rel hst.slots kp.slots) hst.pinNd w1 w2
    simp only [Prog.exec, Option.some.injEq, Prod.mk.injEq] at hx2
    obtain ⟨rfl, _⟩ := hx2
    exact ⟨hs, as, hx, hst.slots.n, hst.slots.defers, tk.told hst.heap hst.pinLen hst.pins (Nat.le_of_ble_eq_true w3)⟩

theorem zip_rel {a : Act} : ∀ {sl : List (Nat × Sh)} {vs : List V}, vrels w μ Im vs (sl.map fun p => a.tmps.getD p.1 undef) → ∀ d v, look (zipSlots sl vs) d = some v → vrel w μ Im v (a.tmps.getD d undef)
  | [], _, _, d, v, h => by simp [zipSlots, look] at h
  | (k, s) :: sl, vs, hv, d, v, h => by
    cases vs with
    | nil => simp [zipSlots, look] at h
    | cons u vs =>
      obtain ⟨x, xs, hx, h1, h2⟩ := hv
      simp only [List.map_cons, List.cons.injEq] at hx
      obtain ⟨rfl, rfl⟩ := hx
      simp only [zipSlots, look_cons] at h
      split at h
      · rename_i e; subst e; injection h with h; subst h; exact h1
      · exact zip_rel h2 d v h

theorem shrels_len {ks : List Hdl} {hs : List D} : ∀ {s : List Sh} {ds : List D} {xs : List Value} {o : List Nat}, shrels w Im ks hs s ds xs o → ds.length = s.length
  | [], _, _, _, ⟨h, _, _⟩ => by subst h; rfl
  | _ :: _, _, _, _, ⟨_, _, _, _, _, _, h, _, _, _, h5⟩ => by subst h; simp [shrels_len h5]

theorem ok_make {R : Type} {r : R} {kp : Keep} {K : St → Option R} {ks : List Hdl} {hs as : List D} {a : Act} (hx : makeSt ks.length kp hs as K = some r) (ht : Told C ks kp hs as a w) (hwf : kp.wf ks.length = true) :
    ∃ st μ Im, K st = some r ∧ StRel C ks st a w μ Im := by
  simp only [Keep.wf, Bool.and_eq_true] at hwf
  obtain ⟨⟨w1, w2⟩, w3⟩ := hwf
  have w3' : ks.length ≤ kp.heap.length := Nat.le_of_ble_eq_true w3
  obtain ⟨hn, hdf, Im, ks2, o, ⟨o1, o2, hv, hh, rfl, hond, hoim, hkl, hhl⟩, hB, hown, hpre⟩ := ht
  unfold makeSt at hx
  rw [Prog.run_eq] at hx
  cases hr : (news (vlen kp.heap) fun refs => mkH refs hs kp.heap 0 (mks refs hs (slotShapes kp.slots) (.r as) 0 fun vs => .ret (refs, vs))).exec ⟨0, []⟩ [] with
  | none => simp [hr] at hx
  | some res =>
    obtain ⟨p, h', l'⟩ := res
    simp only [hr] at hx
    obtain ⟨h2, l2, hx2, hn2, hl2⟩ := exec_news hr
    rw [vlen_eq] at hx2 hn2 hl2
    have hR0 : HRel C (look (H.mk 0 []).bs) w (fun _ => none) Im := hB.congr fun _ => rfl
    have hkok : ∀ k ∈ ks2, k.ok := fun k hk => by
      obtain ⟨j, hj, he⟩ := List.getElem_of_mem hk
      exact hshrels_ok hh j k (by omega) (by omega) (by rw [List.getElem?_eq_getElem hj, he])
    obtain ⟨hR2, hlat2⟩ := hR0.names hl2 (fun _ _ _ => rfl) hkl hkok
    generalize hmu2 : (fun i => if (H.mk 0 []).next ≤ i ∧ i < (H.mk 0 []).next + kp.heap.length then ks2[i - (H.mk 0 []).next]? else none) = μ2 at hR2 hlat2
    have hmu2' : ∀ i, μ2 i = if i < kp.heap.length then ks2[i]? else none := fun i => by rw [← hmu2]; simp
    simp only [Nat.zero_le, true_and, Nat.zero_add] at hn2 hl2
    have hnth : ∀ k, k < kp.heap.length → nth (List.range' 0 kp.heap.length) k = k := fun k hk => by
      rw [nth_eq, List.getElem?_range' hk]; simp
    have hrf : ∀ k hd, ks2[k]? = some hd → μ2 (nth (List.range' 0 kp.heap.length) k) = some hd := fun k hd hk => by
      have := (List.getElem?_eq_some_iff.1 hk).1
      rw [hnth k (by omega), hmu2', if_pos (by omega), hk]
    have hav : Avail C (look h2.bs) w μ2 Im (o2 ++ o1) := by
      refine ⟨(List.perm_append_comm.nodup_iff).1 hond, fun x hx => ?_, fun i b k x e l' m hb' hx => ?_⟩
      · have hx' : x ∈ o1 ++ o2 := by simp only [List.mem_append] at hx ⊢; exact hx.symm
        exact ⟨(hoim x hx').1, (hoim x hx').2, hown x hx'⟩
      · rw [hl2] at e
        split at e
        · injection e with e; subst e; simp [Blk.live] at l'
        · simp [look] at e
    have hfr2 : ∀ i, h2.next ≤ i → i < h'.next → μ2 i = none := fun i h1 h3 => by rw [hmu2', if_neg (by omega)]
    obtain ⟨h3, l3, μ3, hx3, hg3, ht3⟩ := exec_mkH (n := kp.heap.length) (fun k k' h1 h3 he => by rwa [hnth k h1, hnth k' h3] at he) hx2 hR2 hrf w1 hh hav.left hfr2 (by simp) (fun j _ hj c hc => by
      simp only [Nat.zero_add] at hj
      rw [hnth j hj, hl2, if_pos hj] at hc
      injection hc with hc; subst hc; rfl) hkl
    obtain ⟨vs, h4, l4, μ4, hx4, hm4, hvs, _⟩ := exec_mks hx3 hg3.rel (fun k hd hk => hg3.later.mu _ _ (hrf k hd hk)) w2 (ds := as) (fun j _ => by simp [D.f]) hv (hav.right ht3) (hg3.fresh hfr2)
    simp only [Prog.exec, Option.some.injEq, Prod.mk.injEq] at hx4
    obtain ⟨rfl, rfl, _⟩ := hx4
    have hg := hg3.trans hm4.grows
    refine ⟨_, μ4, Im, hx, ⟨hg.rel, ⟨fun d v hd => zip_rel hvs d v hd, hn, hdf⟩, fun i hi => ?_, ?_, fun k i hk => ?_, ?_⟩⟩
    · cases hm : μ4 i with
      | none => rfl
      | some kk =>
        have h1 : μ2 i = none := by
          rw [hmu2', if_neg]
          have := hg.next
          simp only at hi; omega
        have := hg.ids i h1 (by rw [hm]; simp)
        simp only at hi; omega
    · simp only [vtake_eq, List.length_take, List.length_range']; omega
    · simp only [vtake_eq] at hk
      have hk1 : k < ks.length := by
        have := (List.getElem?_eq_some_iff.1 hk).1
        simp at this; omega
      rw [List.getElem?_take, if_pos hk1, List.getElem?_range' (by omega)] at hk
      simp only [Nat.one_mul, Nat.zero_add, Option.some.injEq] at hk; subst hk
      have h1 := hpre k hk1
      rw [← h1]
      have hk2 : k < ks2.length := by omega
      rw [List.getElem?_eq_getElem hk2]
      refine hg.later.mu _ _ ?_
      rw [hmu2', if_pos (by omega), List.getElem?_eq_getElem hk2]
    · simp only [vtake_eq]
      exact (List.take_sublist _ _).nodup List.nodup_range'

end
end Go.Ev

/- What is known of all data that stand at a boundary: their form, the numbers' bounds, the lists' lengths. -/
namespace Go.Ev
open Go

mutual
def wfD : Ty → D → Bool
  | .int k, .i n => decide (k.min ≤ n) && decide (n ≤ k.max)
  | .bool, .b _ => true
  | .str, .s l => decide (l.length ≤ most)
  | .struct ts, .r ds => wfDs ts ds
  | .arr n t, .r ds => decide (ds.length = n) && ds.all (wfD t)
  | .slice t, .r ds => decide (ds.length ≤ most) && ds.all (wfD t)
  | _, _ => false
def wfDs : List Ty → List D → Bool
  | [], [] => true
  | t :: ts, d :: ds => wfD t d && wfDs ts ds
  | _, _ => false
end

mutual
def wfSh : Sh → D → Bool
  | .any, _ => true
  | .dat t, d => wfD t d
  | .own t, .r xs => decide (xs.length ≤ most) && xs.all (wfD t)
  | .own _, _ => false
  | .agg _ l, .r ds => wfShs l ds
  | .agg _ _, _ => false
  | .fn _ l, .r ds => wfShs l ds
  | .fn _ _, _ => false
  | .ifc _ s, d => wfSh s d
  | .rsub _ _, .r [.i off, .i len] => decide (0 ≤ off) && decide (0 ≤ len) && decide (off + len ≤ (most : Int))
  | .rsub _ _, _ => false
  | _, _ => true
def wfShs : List Sh → List D → Bool
  | [], [] => true
  | s :: l, d :: ds => wfSh s d && wfShs l ds
  | _, _ => false
end

def wfEnt (k v : Ty) : D → Bool
  | .r [x, y] => wfD k x && wfD v y
  | _ => false
def wfHSh : HSh → D → Bool
  | .box _ s, d => wfSh s d
  | .row t, .r xs => decide (xs.length ≤ most) && xs.all (wfD t)
  | .row _, _ => false
  | .map k v, .r es => es.all (wfEnt k v)
  | .map _ _, _ => false
def wfHShs : List HSh → List D → Bool
  | [], [] => true
  | s :: l, d :: ds => wfHSh s d && wfHShs l ds
  | _, _ => false

def wfAll (heap : List HSh) (sh : List Sh) (hs as : List D) : Bool := wfHShs heap hs && wfShs sh as

section
variable {w : World} {Im : Nat → Prop}

theorem RepN.all {R : List Value → D → Prop} {sz : Nat} {p : D → Bool} (h : ∀ cs d, R cs d → p d = true) : ∀ {ds : List D} {cs : List Value}, RepN R sz cs ds → ds.all p = true
  | [], _, _ => rfl
  | d :: ds, cs, ⟨_, h1, h2⟩ => by
    simp only [List.all_cons, Bool.and_eq_true]
    exact ⟨h _ _ h1, RepN.all h h2⟩

mutual
theorem Rep.wfD : ∀ {t : Ty} {cs : List Value} {d : D}, Rep w Im t cs d → wfD t d = true
  | .int k, _, _, ⟨n, _, rfl, h1, h2⟩ => by simp [Ev.wfD, h1, h2]
  | .bool, _, _, ⟨b, _, rfl⟩ => by simp [Ev.wfD]
  | .str, _, _, ⟨s, _, rfl, h⟩ => by
    have : s.data.toList.length = s.size := rfl
    simp only [Ev.wfD, decide_eq_true_eq]; omega
  | .struct ts, _, _, ⟨ds, rfl, h⟩ => by simp only [Ev.wfD]; exact Reps.wfDs h
  | .arr n t, _, _, ⟨ds, rfl, hn, h⟩ => by
    simp only [Ev.wfD, Bool.and_eq_true, decide_eq_true_eq]
    exact ⟨hn, RepN.all (p := Ev.wfD t) (fun _ _ h => Rep.wfD h) h⟩
  | .slice t, _, _, ⟨a, len, cap, ds, _, rfl, hl, hc, hm, h⟩ => by
    simp only [Ev.wfD, Bool.and_eq_true, decide_eq_true_eq]
    refine ⟨by omega, ?_⟩
    rcases h with h | ⟨_, _, _, _, _, _, _, _, _, h⟩
    · have : ds = [] := List.eq_nil_of_length_eq_zero (by omega)
      subst this; rfl
    · exact RepN.all (p := Ev.wfD t) (fun _ _ h => Rep.wfD h) h
  | .ptr, _, _, h => by simp [Rep] at h
  | .map _ _, _, _, h => by simp [Rep] at h
  | .fn, _, _, h => by simp [Rep] at h
  | .ifc, _, _, h => by simp [Rep] at h
theorem Reps.wfDs : ∀ {ts : List Ty} {cs : List Value} {ds : List D}, Reps w Im ts cs ds → wfDs ts ds = true
  | [], _, _, ⟨_, rfl⟩ => rfl
  | t :: ts, _, _, ⟨d, ds', rfl, _, h, hr⟩ => by
    simp only [Ev.wfDs, Bool.and_eq_true]
    exact ⟨Rep.wfD h, Reps.wfDs hr⟩
end

theorem RowAt.wf {a : Option Addr} {cap : Nat} {t : Ty} {xs : List D} (h : RowAt w Im a cap t xs) : (decide (xs.length ≤ most) && xs.all (Ev.wfD t)) = true := by
  obtain ⟨h1, h2, h3⟩ := h
  simp only [Bool.and_eq_true, decide_eq_true_eq]
  refine ⟨by omega, ?_⟩
  rcases h3 with h3 | ⟨_, _, _, _, _, _, _, _, _, h⟩
  · have : xs = [] := List.eq_nil_of_length_eq_zero (by omega)
    subst this; rfl
  · exact RepN.all (p := Ev.wfD t) (fun _ _ h => Rep.wfD h) h

mutual
theorem shrel.wf {ks : List Hdl} {hs : List D} (hks : ∀ (k : Nat) (a : Option Addr) (L cap : Nat) (t : Ty), ks[k]? = some (.row a L cap t) → L ≤ most) : ∀ {s : Sh} {d : D} {x : Value} {o : List Nat}, shrel w Im ks hs s d x o → wfSh s d = true
  | .any, _, _, _, _ => rfl
  | .dat t, d, x, o, ⟨_, cs, _, h⟩ => by simp only [wfSh]; exact h.wfD
  | .own t, _, _, _, ⟨a, cap, xs, rfl, _, h, _⟩ => by simp only [wfSh]; exact h.wf
  | .agg ts l, _, _, _, ⟨ds, xs, rfl, _, h⟩ => by simp only [wfSh]; exact shrels.wf hks h
  | .ref k t, _, _, _, _ => rfl
  | .rall k t, _, _, _, _ => rfl
  | .rsub k t, _, _, _, ⟨_, a, L, cap, a', off, len, hk, rfl, h1, h2, _⟩ => by
    have := hks k a L cap t hk
    simp only [wfSh, Bool.and_eq_true, decide_eq_true_eq]
    omega
  | .mref k, _, _, _, _ => rfl
  | .fn g l, _, _, _, ⟨ds, xs, rfl, _, h⟩ => by simp only [wfSh]; exact shrels.wf hks h
  | .ifc t s, d, x, o, ⟨y, _, h⟩ => by simp only [wfSh]; exact shrel.wf hks h
  | .nilp, _, _, _, _ => rfl
  | .nilm, _, _, _, _ => rfl
  | .nilf, _, _, _, _ => rfl
  | .nili, _, _, _, _ => rfl
theorem shrels.wf {ks : List Hdl} {hs : List D} (hks : ∀ (k : Nat) (a : Option Addr) (L cap : Nat) (t : Ty), ks[k]? = some (.row a L cap t) → L ≤ most) : ∀ {s : List Sh} {ds : List D} {xs : List Value} {o : List Nat}, shrels w Im ks hs s ds xs o → wfShs s ds = true
  | [], _, _, _, ⟨rfl, _, _⟩ => rfl
  | s :: l, _, _, _, ⟨d, ds', x, xs', o1, o2, rfl, _, _, h4, h5⟩ => by
    simp only [wfShs, Bool.and_eq_true]
    exact ⟨shrel.wf hks h4, shrels.wf hks h5⟩
end

theorem MapRel.wf {kt vt : Ty} : ∀ {l : List MapEntry} {es : List (D × D)}, MapRel w Im kt vt l es → (es.map fun e => D.r [e.1, e.2]).all (wfEnt kt vt) = true
  | [], _, h => by simp only [MapRel] at h; subst h; rfl
  | _ :: _, _, ⟨k, v, es', rfl, h1, ⟨cs, _, h2⟩, hr⟩ => by
    simp only [List.map_cons, List.all_cons, Bool.and_eq_true]
    refine ⟨?_, hr.wf⟩
    simp only [wfEnt, Bool.and_eq_true]
    exact ⟨h1.wfD, h2.wfD⟩

theorem hshrel.wf {ks : List Hdl} {hs : List D} (hks : ∀ (k : Nat) (a : Option Addr) (L cap : Nat) (t : Ty), ks[k]? = some (.row a L cap t) → L ≤ most) {s : HSh} {d : D} {k : Hdl} {o : List Nat} (h : hshrel w Im ks hs s d k o) : wfHSh s d = true := by
  cases s with
  | box t s => obtain ⟨b, c, e, f, x, h1, h2, h3, h4, h5⟩ := h; simp only [wfHSh]; exact h5.wf hks
  | row t => obtain ⟨h1, xs, a, cap, rfl, h3, h4⟩ := h; simp only [wfHSh]; exact h4.wf
  | map kt vt => obtain ⟨h1, es, r, ents, clock, rfl, h3, h4, h5⟩ := h; simp only [wfHSh]; exact h5.wf

theorem hshrels.wf {ks : List Hdl} {hs : List D} (hks : ∀ (k : Nat) (a : Option Addr) (L cap : Nat) (t : Ty), ks[k]? = some (.row a L cap t) → L ≤ most) : ∀ {s : List HSh} {k : Nat} {o : List Nat} {ds : List D}, hshrels w Im ks hs s k o → ds.length = s.length → (∀ j, j < s.length → dnth ds j = dnth hs (k + j)) → wfHShs s ds = true
  | [], k, o, ds, _, hl, _ => by
    have : ds = [] := List.eq_nil_of_length_eq_zero hl
    subst this; rfl
  | s :: l, k, o, [], _, hl, _ => by simp at hl
  | s :: l, k, o, d :: ds, ⟨hd, o1, o2, h1, h2, h3, h4, h5⟩, hl, hn => by
    simp only [wfHShs, Bool.and_eq_true]
    have h0 := hn 0 (by simp)
    simp only [dnth, Nat.add_zero] at h0
    subst h0
    refine ⟨h3.wf hks, h4.wf hks (by simpa using hl) fun j hj => ?_⟩
    have := hn (j + 1) (by simpa using hj)
    simp only [dnth] at this
    rw [this]; congr 1; omega

theorem hshrels.rows {ks : List Hdl} {hs : List D} : ∀ {s : List HSh} {k : Nat} {o : List Nat}, hshrels w Im ks hs s k o → ∀ j, k ≤ j → j < k + s.length → ∀ (a : Option Addr) (L cap : Nat) (t : Ty), ks[j]? = some (.row a L cap t) → L ≤ most
  | [], k, o, _, j, h1, h2, a, L, cap, t, _ => by simp at h2; omega
  | s :: l, k, o, ⟨hd, o1, o2, h1, h2, h3, h4, h5⟩, j, hj1, hj2, a, L, cap, t, hj => by
    by_cases e : j = k
    · subst e
      rw [h1] at hj; injection hj with hj; subst hj
      cases s with
      | box t s => obtain ⟨b, c, e, f, x, h, _⟩ := h3; cases h
      | row t =>
        obtain ⟨_, xs, a', cap', _, h, hr⟩ := h3
        cases h
        have := hr.1
        have := hr.2.1
        omega
      | map kt vt => obtain ⟨_, es, r, ents, clock, _, h, _⟩ := h3; cases h
    · exact hshrels.rows h4 j (by omega) (by simp at hj2; omega) a L cap t hj

theorem Bd.wf {hsh : List HSh} {sh : List Sh} {hs as : List D} {xs : List Value} {ks : List Hdl} {o : List Nat} (h : Bd w Im hsh sh hs as xs ks o) : wfAll hsh sh hs as = true := by
  obtain ⟨o1, o2, hv, hh, _, _, _, hkl, hhl⟩ := h
  have hks : ∀ (k : Nat) (a : Option Addr) (L cap : Nat) (t : Ty), ks[k]? = some (.row a L cap t) → L ≤ most := fun k a L cap t hk => by
    have := (List.getElem?_eq_some_iff.1 hk).1
    exact hh.rows k (Nat.zero_le _) (by omega) a L cap t hk
  simp only [wfAll, Bool.and_eq_true]
  exact ⟨hh.wf hks hhl fun j _ => by rw [Nat.zero_add], hv.wf hks⟩

theorem Told.wf {C : Cx} {ks : List Hdl} {kp : Keep} {hs as : List D} {a : Act} (h : Told C ks kp hs as a w) : wfAll kp.heap (slotShapes kp.slots) hs as = true := by
  obtain ⟨_, _, _, h, _⟩ := h.ex
  exact h.wf

end
end Go.Ev

/- Regions, code, loops, functions. -/
namespace Go.Ev
open Go

def Ex.toExit : Ex → Exit
  | .normal => .normal
  | .exit i => .exit i
  | .ret => .ret

/-- one round of a loop's body -/
def stepOf (E : Env) (np : Nat) (a : Code) (li : LoopInfo) (go : List D → List D → Option (Ex × List D × List D)) (hs as : List D) : Option (Ex × List D × List D) :=
  makeSt np li.keep hs as fun st => evC E a st fun ex st => match ex with
    | .normal => takeSt li.keep st go
    | ex => match look li.ends ex.code with
      | some kp => takeSt kp st fun hs as => some (ex, hs, as)
      | none => none

/-- the rounds of a loop that ends so; told of well made data alone -/
def roundsP {X : Type} (wf : List D → List D → Bool) (p : X) (step : (List D → List D → Option X) → List D → List D → Option X) : Nat → List D → List D → Option X
  | 0, hs, as => if wf hs as then none else some p
  | n + 1, hs, as => if wf hs as then step (roundsP wf p step n) hs as else some p

def LoopInfo.wf (li : LoopInfo) : List D → List D → Bool := wfAll li.keep.heap (slotShapes li.keep.slots)

/-- what a loop's model is worth -/
structure LoopJust (E : Env) (np : Nat) (a : Code) (li : LoopInfo) : Prop where
  keep : li.keep.wf np = true
  ends : ∀ c kp, look li.ends c = some kp → kp.wf np = true
  just : ∀ hs as p, li.wf hs as = true → (li.phi hs as).val = some p → ∃ n, roundsP li.wf p (stepOf E np a li) n hs as = some p

def LoopsOK (E : Env) (np : Nat) : Code → Prop
  | .seq a b => LoopsOK E np a ∧ LoopsOK E np b
  | .cond _ a b => LoopsOK E np a ∧ LoopsOK E np b
  | .block _ a => LoopsOK E np a
  | .scope a => LoopsOK E np a
  | .loop a => LoopsOK E np a ∧ ∀ i li, firstReg a = some i → E.loops i = some li → LoopJust E np a li
  | _ => True

structure Setting (P : Program) (E : Env) : Prop where
  env : EnvOK P E
  calls : CallEnv P E
  mixed : P.follows .mixedOrders = true

theorem run_val {α R : Type} {r : R} : ∀ {t : T α} {K : α → Option R}, t.run K = some r → ∃ x, t.val = some x ∧ K x = some r
  | .ret a, K, h => ⟨a, rfl, h⟩
  | .fail, K, h => by simp [T.run] at h
  | .cond b x y, K, h => by
    cases b with
    | true => exact run_val (t := x) h
    | false => exact run_val (t := y) h

section
variable {P : Program} {C : Cx} {ks : List Hdl} {E : Env}

theorem ok_region {R : Type} {r : R} (hS : Setting P E) (hn : E.ntmps = C.n) {id : Nat} {ops : Array Oper} {draw : Bool} {st : St} {K : St → Option R} {Q : Exit → Act → World → Prop} {a : Act} {w : World} {μ : Mu} {Im : Nat → Prop} (hx : evRegion E ops draw st K = some r) (hst : StRel C ks st a w μ Im)
    (hK : ∀ st' a' w' μ' Im', K st' = some r → StRel C ks st' a' w' μ' Im' → Q .normal a' w') : (Code.region id ops draw).wp P Q a w := by
  unfold evRegion at hx
  cases draw with
  | false =>
    simp only [Bool.not_false, Bool.true_or] at hx
    refine wp_region ?_
    have := ok_ops hS.env hS.calls (ks := ks) (pins := st.pins) (Q := Q) (r := r) (K := fun fr h ls => K ⟨fr, h, st.pins⟩) hn (fun fr h ls a w μ Im h1 h2 => hK _ _ _ _ _ h1 h2) (os := ops.toList) (k := 0) rfl hx hst
    rw [List.range_eq_range', ← Array.length_toList]
    exact this
  | true =>
    refine wp_region_any hS.mixed ?_
    obtain ⟨fd, δ, nx, lg, fr', ls', ht, hfr', hx2, hls⟩ := evOps_trace (E := E) (fr0 := st.fr) (h0 := st.h) (fd := fun _ => []) (δ := fun _ => []) (nx := fun _ => st.h.next) (lg := fun _ => []) (os := ops.toList) (k := 0) rfl (Nat.zero_le _) ⟨rfl, fun j hj => by omega⟩ rfl rfl (fun j hj => by omega) (fun j _ => rfl) hx
    simp only [Bool.not_true, Bool.false_or] at hx2
    split at hx2
    · rename_i hb
      simp only [Bool.and_eq_true] at hb
      obtain ⟨hb1, hb2⟩ := hb
      rw [CheckFast.beforeF_eq] at hb2
      have hp := okAll_spec hb2
      have hw : HRel C (look st.h.bs) { w with drawn := w.drawn + 1 } μ Im ∧ Later w μ Im { w with drawn := w.drawn + 1 } μ Im := hst.heap.same ⟨rfl, fun _ _ => rfl, rfl, rfl, rfl⟩
      refine ok_any hS.env hS.calls hn hst.pinLen ht hb1 (fun i j hij hj => ?_) (fun a' w' hi => ?_) ops.size _ a _ (by simp) ?_ (fun j hj => ?_) ?_
      · rcases okPair_spec (hp i j hij hj) with h | ⟨h1, h2⟩
        · exact .inl h
        · exact .inr ⟨h1, by rw [← hls i (by omega), ← hls j hj]; exact h2⟩
      · obtain ⟨μ', Im', h1, h2, h3, h4⟩ := hi
        refine hK _ a' w' μ' Im' hx2 ⟨h1, ?_, fun i hi => ?_, hst.pinLen, h4, hst.pinNd⟩
        · have : SRel C (look (bU (fun _ => true) st.fr fd ops.size)) a' w' μ' Im' := h2
          rw [← hfr'] at this; exact this
        · cases hm : μ' i with
          | none => rfl
          | some kk =>
            simp only at hi
            rcases h3 i (by rw [hm]; simp) with h5 | ⟨j, hj, _, _, h6⟩
            · have := ht.mono (i := 0) (j := ops.size) (by omega) (by omega); omega
            · have := ht.mono (i := j + 1) (j := ops.size) (by omega) (by omega); omega
      · have hl0 : listedS (Array.replicate ops.size false) = fun _ => false := by
          funext j; unfold listedS
          rw [Array.getD_eq_getD_getElem?, Array.getElem?_replicate]
          split <;> rfl
        have hb0 : ∀ {α : Type} (base : List (Nat × α)) (f : Nat → List (Nat × α)) (m : Nat), bU (fun _ => false) base f m = base := by
          intro α base f m
          induction m with
          | zero => rfl
          | succ m ih => simp only [bU]; rw [if_neg (by simp)]; exact ih
        rw [hl0]
        refine ⟨μ, Im, ?_, ?_, fun i hi => .inl ?_, hst.pins⟩
        · rw [hb0]; exact hw.1
        · rw [hb0]; exact hst.slots.later hw.2
        · rw [ht.zero]
          by_cases h : i < st.h.next
          · exact h
          · exact (hi (hst.fresh i (by omega))).elim
      · unfold listedS at hj
        rw [Array.getD_eq_getD_getElem?, Array.getElem?_replicate] at hj
        split at hj <;> simp at hj
      · have : ∀ l : List Nat, (l.countP fun j => !listedS (Array.replicate ops.size false) j) = l.length := by
          intro l
          rw [List.countP_eq_length]
          intro j _
          unfold listedS
          rw [Array.getD_eq_getD_getElem?, Array.getElem?_replicate]
          split <;> rfl
        rw [this, List.length_range]
    · simp at hx2

theorem wp_loop_fuel {c : Code} {Q : Exit → Act → World → Prop} (I : Nat → Act → World → Prop) (round : ∀ n a w, I n a w → c.wp P (Exit.then (fun a' w' => ∃ m, m < n ∧ I m a' w') Q) a w) {n : Nat} {a : Act} {w : World} (h₀ : I n a w) : (Code.loop c).wp P Q a w := by
  intro b k cs
  have key : ∀ n a w, I n a w → ∃ e a' w', Q e a' w' ∧ Arrives P (lone (b.at a (.code c :: .inLoop c :: k)) cs w) b k cs e a' w' := by
    intro n
    induction n using Nat.strongRecOn with
    | _ n ih =>
      intro a w hI
      obtain ⟨e, a₁, w₁, hq, harr⟩ := round n a w hI b (.inLoop c :: k) cs
      cases e with
      | normal =>
        obtain ⟨m, hlt, hI₁⟩ := hq
        obtain ⟨e₂, a₂, w₂, hq₂, harr₂⟩ := ih m hlt a₁ w₁ hI₁
        exact ⟨e₂, a₂, w₂, hq₂, .of_steps (Steps.trans harr (.one step_inLoop)) harr₂⟩
      | exit id => exact ⟨_, a₁, w₁, hq, .pass (x := .inLoop c) rfl (fun _ _ => .inl (by simp)) harr⟩
      | goto l => exact ⟨_, a₁, w₁, hq, .pass (x := .inLoop c) rfl (fun _ _ => .inl (by simp)) harr⟩
      | ret => exact ⟨_, a₁, w₁, hq, .pass (x := .inLoop c) rfl (fun _ _ => .inl (by simp)) harr⟩
      | panic ch => exact ⟨_, a₁, w₁, hq, .pass (x := .inLoop c) rfl (fun _ _ => .inl (by simp)) harr⟩
      | outgrown => exact ⟨_, a₁, w₁, hq, .pass (x := .inLoop c) rfl (fun _ _ => .inl (by simp)) harr⟩
  obtain ⟨e, a', w', hq, harr⟩ := key _ a w h₀
  exact ⟨e, a', w', hq, .of_steps (.one step_loop) harr⟩

theorem ok_code (hS : Setting P E) (hn : E.ntmps = C.n) (hnp : E.npins = ks.length) : ∀ (c : Code) {R : Type} {r : R} {st : St} {K : Ex → St → Option R} {Q : Exit → Act → World → Prop} {a : Act} {w : World} {μ : Mu} {Im : Nat → Prop}, LoopsOK E ks.length c → evC E c st K = some r → StRel C ks st a w μ Im →
    (∀ ex st' a' w' μ' Im', K ex st' = some r → StRel C ks st' a' w' μ' Im' → Q ex.toExit a' w') → c.wp P Q a w
  | .skip, R, r, st, K, Q, a, w, μ, Im, hl, hx, hst, hK => wp_skip (hK .normal _ _ _ _ _ hx hst)
  | .region id ops draw, R, r, st, K, Q, a, w, μ, Im, hl, hx, hst, hK => ok_region hS hn hx hst fun st' a' w' μ' Im' h1 h2 => hK .normal _ _ _ _ _ h1 h2
  | .seq x y, R, r, st, K, Q, a, w, μ, Im, hl, hx, hst, hK => by
    refine wp_seq (ok_code hS hn hnp x hl.1 hx hst fun ex st' a' w' μ' Im' h1 h2 => ?_)
    cases ex with
    | normal => exact ok_code hS hn hnp y hl.2 h1 h2 hK
    | exit i => exact hK (.exit i) _ _ _ _ _ h1 h2
    | ret => exact hK .ret _ _ _ _ _ h1 h2
  | .cond c x y, R, r, st, K, Q, a, w, μ, Im, hl, hx, hst, hK => by
    simp only [evC] at hx
    split at hx
    · rename_i b hb
      have hv := opval_rel hst.slots c
      rw [hb] at hv
      refine wp_cond (dat_bool hv) ?_
      cases b with
      | true => exact ok_code hS hn hnp x hl.1 hx hst hK
      | false => exact ok_code hS hn hnp y hl.2 hx hst hK
    · simp at hx
  | .block id x, R, r, st, K, Q, a, w, μ, Im, hl, hx, hst, hK => by
    refine wp_block (ok_code hS hn hnp x hl hx hst (Q := Exit.inBlock id Q) fun ex st' a' w' μ' Im' h1 h2 => ?_)
    cases ex with
    | normal => exact hK .normal _ _ _ _ _ h1 h2
    | exit i =>
      simp only at h1
      show (if i = id then Q .normal a' w' else Q (.exit i) a' w')
      split at h1
      · rename_i hb
        rw [if_pos (Nat.eq_of_beq_eq_true hb)]
        exact hK .normal _ _ _ _ _ h1 h2
      · rename_i hb
        rw [if_neg (fun e => by subst e; simp at hb)]
        exact hK (.exit i) _ _ _ _ _ h1 h2
    | ret => exact hK .ret _ _ _ _ _ h1 h2
  | .loop x, R, r, st, K, Q, a, w, μ, Im, hl, hx, hst, hK => by
    simp only [evC] at hx
    split at hx
    · rename_i i hi
      split at hx
      · rename_i li hli
        have hj := hl.2 i li hi hli
        obtain ⟨hs, as, hx, ht⟩ := ok_take hx hst hj.keep
        obtain ⟨p, hval, hx⟩ := run_val hx
        obtain ⟨n, hr⟩ := hj.just hs as p ht.wf hval
        rw [hnp] at hx
        -- the rounds that are left
        refine wp_loop_fuel (fun n a w => ∃ hs as, roundsP li.wf p (stepOf E ks.length x li) n hs as = some p ∧ Told C ks li.keep hs as a w) ?_ ⟨hs, as, hr, ht⟩
        intro m a1 w1 hI
        obtain ⟨hs1, as1, hr1, ht1⟩ := hI
        have hw1 : li.wf hs1 as1 = true := ht1.wf
        cases m with
        | zero => simp [roundsP, hw1] at hr1
        | succ m =>
          simp only [roundsP, hw1, if_true, stepOf] at hr1
          obtain ⟨st1, μ1, Im1, hx1, hst1⟩ := ok_make hr1 ht1 hj.keep
          refine ok_code hS hn hnp x hl.1 hx1 hst1 (Q := Exit.then _ Q) fun ex st' a' w' μ' Im' h1 h2 => ?_
          have hend : ∀ (ex : Ex), ex ≠ .normal → (match look li.ends ex.code with
              | some kp => takeSt kp st' fun hs as => some (ex, hs, as)
              | none => none) = some p → Q ex.toExit a' w' := by
            intro ex hne h1
            cases hk : look li.ends ex.code with
            | none => simp [hk] at h1
            | some kp =>
              simp only [hk] at h1
              obtain ⟨hs2, as2, h3, ht2⟩ := ok_take h1 h2 (hj.ends _ _ hk)
              simp only [Option.some.injEq] at h3
              subst h3
              have hx' : makeSt ks.length kp hs2 as2 (K ex) = some r := by
                cases ex with
                | normal => exact (hne rfl).elim
                | exit i => simp only [hk] at hx; exact hx
                | ret => simp only [hk] at hx; exact hx
              obtain ⟨st3, μ3, Im3, hx3, hst3⟩ := ok_make hx' ht2 (hj.ends _ _ hk)
              exact hK ex _ _ _ _ _ hx3 hst3
          cases ex with
          | normal =>
            simp only at h1
            obtain ⟨hs2, as2, h3, ht2⟩ := ok_take h1 h2 hj.keep
            exact ⟨m, Nat.lt_succ_self m, hs2, as2, h3, ht2⟩
          | exit i => exact hend (.exit i) (by simp) h1
          | ret => exact hend .ret (by simp) h1
      · simp at hx
    · simp at hx
  | .exit id, R, r, st, K, Q, a, w, μ, Im, hl, hx, hst, hK => wp_exit (hK (.exit id) _ _ _ _ _ hx hst)
  | .ret, R, r, st, K, Q, a, w, μ, Im, hl, hx, hst, hK => wp_ret (hK .ret _ _ _ _ _ hx hst)
  | .scope x, R, r, st, K, Q, a, w, μ, Im, hl, hx, hst, hK => by
    refine wp_scope_straight (ok_code hS hn hnp x hl hx hst (Q := Exit.noGoto Q) fun ex st' a' w' μ' Im' h1 h2 => ?_)
    cases ex with
    | normal => exact hK .normal _ _ _ _ _ h1 h2
    | exit i => exact hK (.exit i) _ _ _ _ _ h1 h2
    | ret => exact hK .ret _ _ _ _ _ h1 h2
  | .rangeFunc _ _ _ _, R, r, st, K, Q, a, w, μ, Im, hl, hx, hst, hK => by simp [evC] at hx
  | .label _, R, r, st, K, Q, a, w, μ, Im, hl, hx, hst, hK => by simp [evC] at hx
  | .goto _, R, r, st, K, Q, a, w, μ, Im, hl, hx, hst, hK => by simp [evC] at hx
  | .refuse _, R, r, st, K, Q, a, w, μ, Im, hl, hx, hst, hK => by simp [evC] at hx

end
end Go.Ev

/- A function's contract out of its evaluation. -/
namespace Go.Ev
open Go

section
variable {P : Program} {C : Cx} {w : World} {μ : Mu} {Im : Nat → Prop} {E : Env}

def resVal (tmps : Array Value) : ResultVar → Sem Value
  | .tmp t => pure (tmps.getD t undef)
  | .cell a t => do loadVar t (← asAddr (tmps.getD a undef))

theorem exec_results (hE : EnvOK P E) {a : Act} {fr : List (Nat × V)} {h : H} (hR : HRel C (look h.bs) w μ Im) (hS : SRel C (look fr) a w μ Im) : ∀ {rv : List ResultVar} {f : List V → Prog (List D × List D)} {l : Log} {r : (List D × List D) × H × Log}, (resultVals E fr rv f).exec h l = some r →
    ∃ vs ys l', (f vs).exec h l' = some r ∧ vrels w μ Im vs ys ∧ (rv.mapM (resVal a.tmps)).run P w = .ok ys w
  | [], f, l, r, hx => ⟨[], [], l, by simpa only [resultVals] using hx, rfl, by simp [Sem.run_pure]⟩
  | .tmp t :: rv, f, l, r, hx => by
    simp only [resultVals] at hx
    obtain ⟨vs, ys, l', hx, hv, hrun⟩ := exec_results hE hR hS hx
    refine ⟨_, a.tmps.getD t undef :: ys, l', hx, ⟨_, _, rfl, ?_, hv⟩, by simp [resVal, hrun]⟩
    cases hk : look fr t with
    | none => simp [vrel]
    | some v => exact hS.slot t v hk
  | .cell c t :: rv, f, l, r, hx => by
    simp only [resultVals] at hx
    split at hx <;> try exact (exec_fail hx).elim
    rename_i ty hty
    rw [exec_bind] at hx
    cases hr : (evLoad ty ((look fr c).getD .any)).exec h l with
    | none => simp [hr] at hx
    | some res =>
      obtain ⟨v, h1, l1⟩ := res
      simp only [hr] at hx
      have hc : vrel w μ Im ((look fr c).getD .any) (a.tmps.getD c undef) := by
        cases hk : look fr c with
        | none => simp [vrel]
        | some v => exact hS.slot c v hk
      obtain ⟨rfl, _, x, hrun1, hv1⟩ := ok_load (hE.ty _ _ hty) hR hc hr
      obtain ⟨vs, ys, l', hx, hv, hrun⟩ := exec_results hE hR hS hx
      refine ⟨_, x :: ys, l', hx, ⟨_, _, rfl, hv1, hv⟩, ?_⟩
      have hrun2 : (resVal a.tmps (.cell c t)).run P w = .ok x w := by
        simp only [resVal]
        generalize a.tmps.getD c undef = z at hrun1
        cases z with
        | pointer p =>
          cases p with
          | none => simp [Instr.loadAt, Instr.sureAddr, stuck, Sem.run] at hrun1
          | some p => simpa [Instr.loadAt, Instr.sureAddr, asAddr] using hrun1
        | _ => simp [Instr.loadAt, Instr.sureAddr, stuck, Sem.run] at hrun1
      simp [hrun2, hrun]

theorem run_results {fn : Func} {tmps : Array Value} {ys : List Value} (h : (fn.results.toList.mapM (resVal tmps)).run P w = .ok ys w) : (results fn tmps).run P w = .ok (vret ys) w := by
  have e : results fn tmps = (do
      let vs ← fn.results.mapM (resVal tmps)
      pure (if h : vs.size = 1 then vs[0] else .tuple vs)) := by
    unfold results
    congr 1
  have hm : (fn.results.mapM (resVal tmps)).run P w = .ok ys.toArray w := by
    rw [Array.mapM_eq_mapM_toList]
    simp [h]
  rw [e, Sem.run_bind, hm, Result.andThen_ok, Sem.run_pure]
  congr 1
  match ys with
  | [] => rfl
  | [y] => rfl
  | y :: z :: ys => simp [vret]

theorem slotShapes_from : ∀ (k : Nat) (l : List Sh), slotShapes (slotsFrom k l) = l
  | _, [] => rfl
  | k, s :: l => by simp only [slotsFrom, slotShapes, slotShapes_from (k + 1) l]

theorem slots_map {f : Nat → Value} : ∀ {k : Nat} {l : List Sh} {xs : List Value}, xs.length = l.length → (∀ j, j < xs.length → xs[j]? = some (f (k + j))) → (slotsFrom k l).map (fun p => f p.1) = xs
  | _, [], xs, h, _ => by
    have : xs = [] := List.eq_nil_of_length_eq_zero h
    subst this; rfl
  | k, s :: l, [], h, _ => by simp at h
  | k, s :: l, x :: xs, h, hf => by
    simp only [slotsFrom, List.map_cons]
    have h0 := hf 0 (by simp)
    simp only [List.getElem?_cons_zero, Option.some.injEq, Nat.add_zero] at h0
    rw [h0]
    congr 1
    refine slots_map (by simpa using h) fun j hj => ?_
    have := hf (j + 1) (by simpa using hj)
    rw [List.getElem?_cons_succ] at this
    rw [this]; congr 2; omega

theorem shrels_vlen {ks : List Hdl} {hs : List D} : ∀ {s : List Sh} {ds : List D} {xs : List Value} {o : List Nat}, shrels w Im ks hs s ds xs o → xs.length = s.length
  | [], _, _, _, ⟨_, h, _⟩ => by subst h; rfl
  | _ :: _, _, _, _, ⟨_, _, _, _, _, _, _, h, _, _, h5⟩ => by subst h; simp [shrels_vlen h5]

theorem prefix_of {α : Type} {l m : List α} (hle : l.length ≤ m.length) (h : ∀ k, k < l.length → m[k]? = l[k]?) : ∃ r, m = l ++ r := by
  refine ⟨m.drop l.length, ?_⟩
  have : m.take l.length = l := by
    apply List.ext_getElem?
    intro k
    rw [List.getElem?_take]
    by_cases hk : k < l.length
    · rw [if_pos hk, h k hk]
    · rw [if_neg hk, List.getElem?_eq_none (by omega)]
  rw [← this, List.length_take]
  have : min l.length m.length = l.length := Nat.min_eq_left hle
  rw [this, List.take_append_drop]

/-- THE CONTRACT OF A FUNCTION, out of its evaluation -/
theorem spec_of_evF {fn : Func} {f : FuncId} {c : Code} {sg : Sig} {phi : List D → List D → T (List D × List D)} (hS : Setting P E) (hf : P.funcs[f]? = some fn) (hname : (fn.name == "runtime.NumGoroutine") = false) (hb : fn.body = some c) (hnt : E.ntmps = fn.ntmps) (hnp : E.npins = sg.heap.length)
    (hwf : sg.wf = true) (hin : sg.ins.length ≤ fn.ntmps) (hl : LoopsOK E sg.heap.length c) (hphi : ∀ hs as r, wfAll sg.heap sg.ins hs as = true → (phi hs as).val = some r → evF E fn sg hs as = some r) : SpecOK P f sg phi := by
  intro hs as hs' outs hval h1 h2 w Im xs ks o hbd him
  have hev := hphi hs as _ hbd.wf hval
  simp only [evF, hb] at hev
  simp only [Sig.wf, Bool.and_eq_true] at hwf
  obtain ⟨⟨⟨⟨wf1, wf2⟩, wf3⟩, wf4⟩, wf5⟩ := hwf
  have wf5' : sg.heap.length ≤ sg.heap'.length := Nat.le_of_ble_eq_true wf5
  have hbd' := hbd
  obtain ⟨o1, o2, hv, hh, ho, hond, hoim, hkl, hhl⟩ := hbd'
  have hxl := shrels_vlen hv
  left
  refine ⟨by
    have h1 : fn.name ≠ "runtime.NumGoroutine" := by simpa using hname
    simp [callFunc, hf, h1, hb], ?_⟩
  refine calls_of_wp hf hb ?_
  generalize ha : ({ tmps := xs.toArray ++ Array.replicate (fn.ntmps - xs.toArray.size) undef, defers := [] } : Act) = a
  have hsz : a.tmps.size = fn.ntmps := by subst ha; simp; omega
  have htold : Told ⟨fn.ntmps, w, fun x => x ∈ o, Im⟩ ks ⟨sg.heap, slotsFrom 0 sg.ins⟩ hs as a w := by
    refine ⟨hsz, by subst ha; rfl, Im, ks, o, ?_, ⟨by simp, by simp, by simp, by simp, fun x hx => ⟨him x hx, .inl hx⟩, fun x hx => hx, fun _ _ _ => rfl, Nat.le_refl _, rfl, rfl, rfl⟩, fun x hx => .inl hx, fun k _ => rfl⟩
    simp only [slotShapes_from]
    rw [slots_map (f := fun k => a.tmps.getD k undef) (xs := xs) hxl fun j hj => by
      subst ha
      simp only [Nat.zero_add, Array.getD_eq_getD_getElem?]
      rw [Array.getElem?_append_left (by simpa using hj)]
      simp [hj]]
    exact hbd
  have hkwf : (Keep.mk sg.heap (slotsFrom 0 sg.ins)).wf ks.length = true := by
    simp only [Keep.wf, slotShapes_from, Bool.and_eq_true]
    exact ⟨⟨wf1, wf2⟩, by rw [hkl]; simp [Nat.ble_eq]⟩
  rw [hnp, ← hkl] at hev
  obtain ⟨st, μ, Im1, hx, hst⟩ := ok_make hev htold hkwf
  have fin : ∀ st' a' w' μ' Im', finish E fn.results.toList sg st' = some (hs', outs) → StRel ⟨fn.ntmps, w, fun x => x ∈ o, Im⟩ ks st' a' w' μ' Im' → a'.defers = [] ∧ ∃ v, (results fn a'.tmps).run P w' = .ok v w' ∧ PostOK sg hs' outs w Im ks o (.returned v) w' := by
    intro st' a' w' μ' Im' hfi hst'
    unfold finish at hfi
    rw [Prog.run_eq] at hfi
    cases hr : (resultVals E st'.fr fn.results.toList fun vs => absorb st'.pins sg.heap' sg.outs vs fun hs as _ => Prog.ret (hs, as)).exec st'.h [] with
    | none => simp [hr] at hfi
    | some res =>
      obtain ⟨p, h', l'⟩ := res
      simp only [hr, Option.some.injEq] at hfi
      subst hfi
      obtain ⟨vs, ys, l1, hx2, hvs, hrun⟩ := exec_results hS.env hst'.heap hst'.slots hr
      obtain ⟨hs2, as2, s, l2, hx3, tk⟩ := exec_absorb hst'.heap hx2 hvs hst'.pinNd wf3 wf4
      simp only [Prog.exec, Option.some.injEq, Prod.mk.injEq] at hx3
      obtain ⟨⟨rfl, rfl⟩, _⟩ := hx3
      obtain ⟨Im2, ks2, o3, hbd2, hB, hown, hpre⟩ := tk.told hst'.heap hst'.pinLen hst'.pins (by omega)
      have hbd3 := hbd2
      obtain ⟨_, _, _, _, _, _, _, hkl2, _⟩ := hbd3
      obtain ⟨ks', rfl⟩ := prefix_of (by omega) hpre
      refine ⟨hst'.slots.defers, vret ys, run_results hrun, Im2, ys, ks', o3, rfl, hbd2, ⟨hB.im0, hB.im, hown, hB.frame, hB.size, hB.os, hB.tape, hB.output⟩⟩
  refine ok_code (C := ⟨fn.ntmps, w, fun x => x ∈ o, Im⟩) (ks := ks) hS hnt (by rw [hnp, hkl]) c (by rw [hkl]; exact hl) hx hst fun ex st' a' w' μ' Im' hk hst' => ?_
  cases ex with
  | normal => exact fin st' a' w' μ' Im' hk hst'
  | ret => exact fin st' a' w' μ' Im' hk hst'
  | exit i => simp at hk

end
end Go.Ev
