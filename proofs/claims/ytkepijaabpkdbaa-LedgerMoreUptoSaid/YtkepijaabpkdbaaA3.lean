/- New variables, rows and maps; values put together. Slices that are made, appended to, copied. Append and copy. Copy, len, min and max. Len, min and max, conversions. Conversions, makeSlice, buildSlice. Slice literals and maps. One operation that is no call of a function. -/
import Derived.Test.YtkepijaabpkdbaaA2
import Derived.Laws.BytesString
import Derived.Laws.MakeOwn
import Derived.Laws.IdiomStrings
import Derived.MapKept
import Derived.Great.BuildSlice
set_option linter.unusedVariables false
set_option linter.unusedSimpArgs false

/- New variables, rows and maps; values put together. -/
namespace Go.Ev
open Go

mutual
theorem zero_rep {w : World} {Im : Nat → Prop} : ∀ {t : Ty}, t.isPure = true → Rep w Im t (zcells t) t.zeroD
  | .int k, _ => ⟨0, rfl, rfl, kmin_le k, kmax_ge k⟩
  | .bool, _ => ⟨false, rfl, rfl⟩
  | .str, _ => ⟨ByteArray.empty, rfl, rfl, by decide⟩
  | .struct ts, h => ⟨_, rfl, zero_reps (by simpa [Ty.isPure] using h)⟩
  | .arr n t, h => by
    have hz : Rep w Im t (zcells t) t.zeroD := zero_rep (by simpa [Ty.isPure] using h)
    exact ⟨_, rfl, by simp, RepN.replicate hz hz.len n⟩
  | .slice t, _ => ⟨none, 0, 0, [], rfl, rfl, rfl, Nat.le_refl _, by decide, .inl rfl⟩
  | .ptr, h => by simp [Ty.isPure] at h
  | .map _ _, h => by simp [Ty.isPure] at h
  | .fn, h => by simp [Ty.isPure] at h
  | .ifc, h => by simp [Ty.isPure] at h
theorem zero_reps {w : World} {Im : Nat → Prop} : ∀ {ts : List Ty}, Ty.arePure ts = true → Reps w Im ts (zcellss ts) (Ty.zeroDs ts)
  | [], _ => ⟨rfl, rfl⟩
  | t :: ts, h => by
    simp only [Ty.arePure, Bool.and_eq_true] at h
    have h1 : Rep w Im t (zcells t) t.zeroD := zero_rep h.1
    have h2 : Reps w Im ts (zcellss ts) (Ty.zeroDs ts) := zero_reps h.2
    have hl := h1.len
    refine ⟨_, _, rfl, by simp only [zcellss, List.length_append]; omega, ?_, ?_⟩
    · simp only [zcellss]; rw [List.take_append_of_le_length (by omega), List.take_of_length_le (by omega)]; exact h1
    · simp only [zcellss]; rw [List.drop_append_of_le_length (by omega), List.drop_of_length_le (by omega)]; simpa using h2
end

def zvals : List Ty → List Value
  | [] => []
  | t :: ts => mkVal t (zcells t) :: zvals ts

theorem zcells_len : ∀ t : Ty, (zcells t).length = t.size
  | .int _ | .bool | .str | .slice _ | .ptr | .map _ _ | .fn | .ifc => by simp [zcells, Ty.size]
  | .struct ts => by simp only [zcells, Ty.size]; exact go ts
  | .arr n t => by simp [zcells, Ty.size, List.length_flatten, zcells_len t]
where
  go : ∀ ts : List Ty, (zcellss ts).length = Ty.sizes ts
  | [] => rfl
  | t :: ts => by simp [zcellss, Ty.sizes, zcells_len t, go ts]

theorem cells_zero (t : Ty) : cellsOf (mkVal t (zcells t)) = zcells t := by
  cases t <;> simp [mkVal, Ty.isAgg, cellsOf, Value.cells, zcells]

theorem flat_zvals : ∀ ts : List Ty, flat (zvals ts) = zcellss ts
  | [] => rfl
  | t :: ts => by
    have := flat_zvals ts
    simp only [flat, zvals, List.flatMap_cons, zcellss] at this ⊢
    rw [this, cells_zero]

section
variable {P : Program} {C : Cx} {w : World} {μ : Mu} {Im : Nat → Prop}

mutual
theorem zeroV_rel : ∀ t : Ty, vrel w μ Im t.zeroV (mkVal t (zcells t))
  | .int k => ⟨_, rfl, zero_rep rfl⟩
  | .bool => ⟨_, rfl, zero_rep rfl⟩
  | .str => ⟨_, rfl, zero_rep rfl⟩
  | .struct ts => by
    simp only [Ty.zeroV]
    cases hp : Ty.arePure ts && !Ty.anyRefs ts with
    | true => exact ⟨_, rfl, _, rfl, zero_reps (Bool.and_eq_true _ _ ▸ hp).1⟩
    | false =>
      simp only
      cases hf : allFit ts (Ty.zeroVs ts) with
      | true => exact ⟨zvals ts, by simp [mkVal, Ty.isAgg, zcells, flat_zvals], hf, zeroVs_rel ts⟩
      | false => trivial
  | .arr n t => by
    simp only [Ty.zeroV]
    cases hp : t.isPure with
    | true => exact ⟨_, rfl, zero_rep (t := .arr n t) hp⟩
    | false => trivial
  | .slice t => rfl
  | .ptr => rfl
  | .map _ _ => rfl
  | .fn => rfl
  | .ifc => rfl
theorem zeroVs_rel : ∀ ts : List Ty, vrels w μ Im (Ty.zeroVs ts) (zvals ts)
  | [] => rfl
  | t :: ts => ⟨_, _, rfl, zeroV_rel t, zeroVs_rel ts⟩
end

/-- what becomes of a state when a block comes in -/
structure Grows (C : Cx) (h h' : H) (w : World) (μ : Mu) (Im : Nat → Prop) (w' : World) (μ' : Mu) (Im' : Nat → Prop) : Prop where
  rel : HRel C (look h'.bs) w' μ' Im'
  later : Later w μ Im w' μ' Im'
  next : h.next ≤ h'.next
  ids : ∀ i, μ i = none → μ' i ≠ none → h.next ≤ i ∧ i < h'.next

theorem Grows.trans {h1 h2 h3 : H} {w1 w2 w3 : World} {μ1 μ2 μ3 : Mu} {I1 I2 I3 : Nat → Prop} (a : Grows C h1 h2 w1 μ1 I1 w2 μ2 I2) (b : Grows C h2 h3 w2 μ2 I2 w3 μ3 I3) : Grows C h1 h3 w1 μ1 I1 w3 μ3 I3 :=
  ⟨b.rel, a.later.trans b.later, Nat.le_trans a.next b.next, fun i hi hn => by
    by_cases h : μ2 i = none
    · have := b.ids i h hn; have := a.next; omega
    · have := a.ids i hi h; have := b.next; omega⟩

theorem Grows.refl {h : H} (hR : HRel C (look h.bs) w μ Im) : Grows C h h w μ Im w μ Im := ⟨hR, .refl _ _ _, Nat.le_refl _, fun _ h1 h2 => (h2 h1).elim⟩

/-- a new variable -/
theorem new_box {h : H} (hR : HRel C (look h.bs) w μ Im) (hfr : μ h.next = none) {t : Ty} {tid : TypeId} {v : V} {x : Value} (hf : v.fits t = true) (hv : vrel w μ Im v x) :
    ∃ μ', Grows C h ⟨h.next + 1, (h.next, .box t v) :: h.bs⟩ w μ Im (w.alloc (.cells x.cells tid)) μ' Im ∧ vrel (w.alloc (.cells x.cells tid)) μ' Im (.ptr t h.next []) (.pointer (some ⟨w.heap.size, 0, none⟩)) := by
  have key := hR.new (i := h.next) hfr (b := .box t v) (k := .box w.heap.size t) (w' := w.alloc (.cells x.cells tid)) (by simp) (fun y hy => heap_alloc_old w _ y hy) rfl rfl rfl trivial
    (fun y hy => by simp only [Hdl.blk, Option.some.injEq] at hy; subst hy; simp) (look ((h.next, .box t v) :: h.bs)) (fun j => by rw [look_cons])
    (fun hl => ⟨w.heap.size, x.cells, tid, (0, 0), x, by simp, heap_alloc_new w _, Fz.zero _, hf, hv.later hl, rfl⟩)
  exact ⟨_, ⟨key.1, key.2, Nat.le_succ _, fun i hi hn => by
    by_cases e : h.next = i
    · subst e; exact ⟨Nat.le_refl _, Nat.lt_succ_self _⟩
    · simp only [if_neg e] at hn; exact (hn hi).elim⟩, ⟨w.heap.size, 0, none⟩, rfl, rfl, .inl ⟨w.heap.size, t, by simp, rfl, rfl⟩⟩

theorem alloc_size (w : World) (o : Obj) : (w.alloc o).heap.size = w.heap.size + 1 := by simp

/-- a new row -/
theorem new_row {h : H} (hR : HRel C (look h.bs) w μ Im) (hfr : μ h.next = none) {t : Ty} {w' : World} {a : Option Addr} {cap : Nat} {xs : List D}
    (hsz : w.heap.size ≤ w'.heap.size) (hold : ∀ y, y < w.heap.size → w'.heap[y]? = w.heap[y]?) (ho : w'.os = w.os) (ht : w'.tape = w.tape) (hu : w'.output = w.output)
    (hb : ∀ x, (Hdl.row a xs.length cap t).blk = some x → w.heap.size ≤ x ∧ x < w'.heap.size) (hr : RowAt w' Im a cap t xs) :
    ∃ μ', Grows C h ⟨h.next + 1, (h.next, .row t xs) :: h.bs⟩ w μ Im w' μ' Im ∧ vrel w' μ' Im (.all t h.next xs.length) (.slice a xs.length cap) := by
  have hok : (Hdl.row a xs.length cap t).ok := by
    refine ⟨hr.1, hr.2.1, fun hc => ?_⟩
    rcases hr.2.2 with h0 | ⟨ad, c, e, f, ha, hs, _⟩
    · omega
    · exact ⟨ad, ha, hs⟩
  have key := hR.new (i := h.next) hfr (b := .row t xs) (k := .row a xs.length cap t) (w' := w') hsz hold ho ht hu hok hb
    (look ((h.next, .row t xs) :: h.bs)) (fun j => by rw [look_cons]) (fun hl => ⟨a, cap, by simp, hr⟩)
  exact ⟨_, ⟨key.1, key.2, Nat.le_succ _, fun i hi hn => by
    by_cases e : h.next = i
    · subst e; exact ⟨Nat.le_refl _, Nat.lt_succ_self _⟩
    · simp only [if_neg e] at hn; exact (hn hi).elim⟩, a, cap, by simp, rfl⟩

/-- a new block of cells as a row -/
theorem rowAt_alloc {t : Ty} {tid : TypeId} {c : Array Value} {cap : Nat} {xs : List D} (hl : xs.length ≤ cap) (hm : cap ≤ most) (hc : cap * t.size ≤ c.size) (hn : RepN (Rep w Im t) t.size (c.toList.take (xs.length * t.size)) xs)
    (him : ∀ y, Im y → y < w.heap.size) : RowAt (w.alloc (.cells c tid)) Im (some ⟨w.heap.size, 0, none⟩) cap t xs := by
  refine ⟨hl, hm, .inr ⟨⟨w.heap.size, 0, none⟩, c, tid, (0, 0), rfl, rfl, heap_alloc_new w _, Fz.zero _, by simpa using hc, ?_⟩⟩
  simpa using hn.mono fun cs d => Rep.mono (fun _ h => h) fun y hy => heap_alloc_old w _ y (him y hy)

/-! ### Parts -/

theorem fold_set (off : Nat) : ∀ (l : List Value) (j : Nat) (cells : Array Value), off + j + l.length ≤ cells.size →
    (l.zipIdx j).foldl (fun cs (x : Value × Nat) => cs.setIfInBounds (off + x.2) x.1) cells = (splice cells.toList (off + j) l).toArray
  | [], j, cells, _ => by simp [splice]
  | c :: l, j, cells, h => by
    simp only [List.length_cons] at h
    simp only [List.zipIdx_cons, List.foldl_cons]
    rw [fold_set off l (j + 1) _ (by simp; omega)]
    congr 1
    have := list_seg_step cells.toList (off + j) c l (by simp; omega)
    simpa [splice, Array.toList_setIfInBounds, Nat.add_assoc] using this

/-- parts and their values -/
def prel (w : World) (μ : Mu) (Im : Nat → Prop) : List (Nat × V) → List (Nat × Value) → Prop
  | [], xs => xs = []
  | (k, v) :: r, xs => ∃ x xs', xs = (k, x) :: xs' ∧ vrel w μ Im v x ∧ prel w μ Im r xs'

theorem fill_rel {pl : Nat → Option (Nat × Nat)} {ts : List Ty} (hpl : ∀ k t, vnth ts k = some t → pl k = some (Ty.offs ts k, t.size)) : ∀ {ps : List (Nat × V)} {qs : List (Nat × Value)} {vs vs' : List V} {xs : List Value} {cells : Array Value},
    prel w μ Im ps qs → allFit ts vs = true → vrels w μ Im vs xs → cells.toList = flat xs → putParts ts vs ps = some vs' →
    ∃ xs' cells', Instr.fill pl cells qs = some cells' ∧ allFit ts vs' = true ∧ vrels w μ Im vs' xs' ∧ cells'.toList = flat xs'
  | [], qs, vs, vs', xs, cells, hp, ha, hr, hc, hput => by
    simp only [prel] at hp; subst hp
    simp only [putParts, Option.some.injEq] at hput; subst hput
    exact ⟨xs, cells, rfl, ha, hr, hc⟩
  | (k, v) :: r, qs, vs, vs', xs, cells, ⟨x, qs', hqs, hv, hp⟩, ha, hr, hc, hput => by
    subst hqs
    simp only [putParts] at hput
    cases ht : vnth ts k with
    | none => simp [ht] at hput
    | some t =>
      simp only [ht] at hput
      cases hf : v.fits t with
      | false => simp [hf] at hput
      | true =>
        simp only [hf] at hput
        have hsz := (fits_size hv hf).1
        have hle := offs_le ht
        have hfl := fits_size.go ts vs xs ha hr
        have hcs : cells.size = Ty.sizes ts := by rw [← Array.length_toList, hc, hfl]
        have hxs : x.cells.size = t.size := by simpa [cellsOf] using hsz
        have hset := flat_set ha hr ht hsz
        obtain ⟨xs', cells', h1, h2, h3, h4⟩ := fill_rel hpl (cells := (splice cells.toList (Ty.offs ts k) (cellsOf x)).toArray) hp (allFit_set ha ht hf) (hr.set hv k) (by rw [hset, hc]) hput
        refine ⟨xs', cells', ?_, h2, h3, h4⟩
        simp only [Instr.fill, hpl k t ht]
        rw [if_neg (by simp only [hxs, ne_eq, not_true_eq_false, decide_false, Bool.false_or, decide_eq_true_eq]; omega)]
        rw [← h1]
        congr 1
        have := fold_set (Ty.offs ts k) x.cells.toList 0 cells (by simp only [Array.length_toList]; omega)
        rw [Nat.add_zero] at this
        rw [show cellsOf x = x.cells.toList from rfl, ← this, ← Array.foldl_toList]
        congr 1
        simp

theorem allPlain_rep : ∀ {ts : List Ty} {vs : List V} {xs : List Value} {ds : List D}, allFit ts vs = true → vrels w μ Im vs xs → allPlain vs = some ds → Reps w Im ts (flat xs) ds
  | [], [], xs, ds, _, hr, hp => by
    simp only [vrels] at hr; subst hr
    simp only [allPlain, Option.some.injEq] at hp; subst hp
    exact ⟨rfl, rfl⟩
  | t :: ts, v :: vs, xs, ds, ha, ⟨x, xs', hxs, hv, hr⟩, hp => by
    subst hxs
    simp only [allFit, Bool.and_eq_true] at ha
    simp only [allPlain] at hp
    cases h1 : v.plain with
    | none => simp [h1] at hp
    | some d =>
      cases h2 : allPlain vs with
      | none => simp [h1, h2] at hp
      | some ds' =>
        simp only [h1, h2, Option.some.injEq] at hp; subst hp
        have hrep := plain_rep h1 ha.1 hv
        have hl := hrep.len
        have hrest := allPlain_rep ha.2 hr h2
        refine ⟨d, ds', rfl, ?_, ?_, ?_⟩
        · simp only [flat, List.flatMap_cons, List.length_append]; omega
        · simp only [flat, List.flatMap_cons]
          rw [List.take_append_of_le_length (by omega), List.take_of_length_le (by omega)]; exact hrep
        · simp only [flat, List.flatMap_cons] at hrest ⊢
          rw [List.drop_append_of_le_length (by omega), List.drop_of_length_le (by omega)]; simpa using hrest
  | [], _ :: _, _, _, ha, _, _ => by simp [allFit] at ha
  | _ :: _, [], _, _, ha, _, _ => by simp [allFit] at ha

theorem FieldsOK.places {ts : List Ty} {fs : List Field} {o : Nat} : FieldsOK P ts fs o → ∃ pl, fs.mapM (fun f => (P.info? f.type).map fun i => (f.offset, i.size)) = some pl ∧ ∀ k t, vnth ts k = some t → pl[k]? = some (o + Ty.offs ts k, t.size) := by
  induction ts generalizing fs o with
  | nil =>
    intro h
    simp only [FieldsOK] at h; subst h
    exact ⟨[], by simp, fun k t h => by simp [vnth] at h⟩
  | cons t ts ih =>
    rintro ⟨f, fs', rfl, hty, hof, _, hf⟩
    obtain ⟨pl, hpl, hk⟩ := ih hf
    obtain ⟨i, hi, hsz, _⟩ := hty.base.ex
    refine ⟨(o, t.size) :: pl, ?_, fun k u hu => ?_⟩
    · simp [List.mapM_cons, hi, hpl, hof, hsz]
    · cases k with
      | zero => simp only [vnth, Option.some.injEq] at hu; subst hu; simp [Ty.offs]
      | succ k => simp only [vnth] at hu; simp [hk k u hu, Ty.offs, Nat.add_assoc]

theorem vnth_vrep {α : Type} {x y : α} : ∀ {n k : Nat}, vnth (vrep n x) k = some y → y = x ∧ k < n
  | 0, k, h => by simp [vrep, vnth] at h
  | n + 1, 0, h => by simp only [vrep, vnth, Option.some.injEq] at h; exact ⟨h.symm, by omega⟩
  | n + 1, k + 1, h => by
    have := vnth_vrep (n := n) (k := k) h
    exact ⟨this.1, by omega⟩
theorem offs_vrep (t : Ty) : ∀ {n k : Nat}, k < n → Ty.offs (vrep n t) k = k * t.size
  | 0, _, h => by omega
  | n + 1, 0, _ => by simp [vrep, Ty.offs]
  | n + 1, k + 1, h => by simp only [vrep, Ty.offs, offs_vrep t (n := n) (k := k) (by omega), Nat.succ_mul]; omega
theorem sizes_vrep (t : Ty) : ∀ n, Ty.sizes (vrep n t) = n * t.size
  | 0 => by simp [vrep, Ty.sizes]
  | n + 1 => by simp only [vrep, Ty.sizes, sizes_vrep t n, Nat.succ_mul]; omega
theorem allFit_vrep {t : Ty} {v : V} (h : v.fits t = true) : ∀ n, allFit (vrep n t) (vrep n v) = true
  | 0 => rfl
  | n + 1 => by simp [vrep, allFit, h, allFit_vrep h n]
theorem vrels_vrep {v : V} {x : Value} (h : vrel w μ Im v x) : ∀ n, vrels w μ Im (vrep n v) (List.replicate n x)
  | 0 => rfl
  | n + 1 => ⟨x, _, rfl, h, vrels_vrep h n⟩
theorem Reps_vrep {t : Ty} : ∀ {n : Nat} {cs : List Value} {ds : List D}, Reps w Im (vrep n t) cs ds → ds.length = n ∧ RepN (Rep w Im t) t.size cs ds
  | 0, _, _, ⟨h1, h2⟩ => by subst h1; subst h2; exact ⟨rfl, rfl⟩
  | n + 1, cs, _, ⟨d, ds, rfl, hl, h, hr⟩ => by
    obtain ⟨h1, h2⟩ := Reps_vrep hr
    exact ⟨by simp [h1], hl, h, h2⟩
theorem flat_replicate (x : Value) : ∀ n, flat (List.replicate n x) = (List.replicate n (cellsOf x)).flatten
  | 0 => rfl
  | n + 1 => by
    have := flat_replicate x n
    simp only [flat, List.replicate_succ, List.flatMap_cons, List.flatten_cons] at this ⊢
    rw [this]

theorem ok_build {t : Ty} {tid : TypeId} {ps : List (Nat × V)} {qs : Array (Nat × Value)} {v : V} {h h' : H} {l l' : Log} (hty : TyOK P t tid) (hp : prel w μ Im ps qs.toList) (hx : (evBuild t ps).exec h l = some (v, h', l')) :
    h' = h ∧ ∃ y, (Instr.build tid qs).run P w = .ok y w ∧ vrel w μ Im v y := by
  cases t <;> simp only [evBuild] at hx <;> try exact (exec_fail hx).elim
  case struct ts =>
    replace hx := exec_chk hx; obtain ⟨hc, hx⟩ := hx
    cases hput : putParts ts (Ty.zeroVs ts) ps with
    | none => simp only [hput] at hx; exact (exec_fail hx).elim
    | some vs =>
      simp only [hput] at hx
      have hty' := hty
      obtain ⟨hb, _, fs, hu, hf⟩ := hty
      obtain ⟨i, hi, _, hz, _⟩ := hb.ex
      obtain ⟨pl, hpl, hk⟩ := hf.places
      obtain ⟨xs', cells', h1, h2, h3, h4⟩ := fill_rel (pl := (pl.toArray[·]?)) (fun k t ht => by simpa using hk k t ht) (cells := (zcellss ts).toArray) hp hc (zeroVs_rel ts) (by simp [flat_zvals]) hput
      have hbuilt : P.built tid qs.toList = some cells' := by
        simp only [Program.built, hi, hu, hz, hpl]
        simpa [mkVal, Ty.isAgg, Value.cells, zcells] using h1
      have hrun := run_build w tid qs cells' hbuilt
      have e1 : cells' = (flat xs').toArray := by rw [← h4]
      have hagg : (Prog.ret (V.agg ts vs)).exec h l = some (v, h', l') → h' = h ∧ ∃ y, (Instr.build tid qs).run P w = .ok y w ∧ vrel w μ Im v y := by
        intro hx
        simp only [Prog.exec, Option.some.injEq, Prod.mk.injEq] at hx
        obtain ⟨rfl, rfl, _⟩ := hx
        exact ⟨rfl, _, hrun, xs', by rw [e1], h2, h3⟩
      cases hrf : Ty.anyRefs ts with
      | true => simp only [hrf] at hx; exact hagg hx
      | false =>
        simp only [hrf] at hx
        cases hpl2 : allPlain vs with
        | some ds =>
          simp only [hpl2, Prog.exec, Option.some.injEq, Prod.mk.injEq] at hx
          obtain ⟨rfl, rfl, _⟩ := hx
          exact ⟨rfl, _, hrun, flat xs', by simp [mkVal, Ty.isAgg, e1], ds, rfl, allPlain_rep h2 h3 hpl2⟩
        | none => simp only [hpl2] at hx; exact hagg hx
  case arr n te =>
    replace hx := exec_chk hx; obtain ⟨hc, hx⟩ := hx
    cases hput : putParts (vrep n te) (vrep n te.zeroV) ps with
    | none => simp only [hput] at hx; exact (exec_fail hx).elim
    | some vs =>
      simp only [hput] at hx
      obtain ⟨hb, te', hu, hte⟩ := hty
      obtain ⟨i, hi, _, hz, _⟩ := hb.ex
      obtain ⟨ie, hie, hse, _⟩ := hte.base.ex
      obtain ⟨xs', cells', h1, h2, h3, h4⟩ := fill_rel (w := w) (μ := μ) (Im := Im) (pl := fun i => some (i * te.size, te.size)) (ts := vrep n te) (fun k t ht => by
          obtain ⟨rfl, hk⟩ := vnth_vrep ht
          rw [offs_vrep t hk]) (cells := (zcells (.arr n te)).toArray) hp (allFit_vrep hc n) (vrels_vrep (zeroV_rel te) n) (by simp [flat_replicate, cells_zero, zcells]) hput
      have hbuilt : P.built tid qs.toList = some cells' := by
        simp only [Program.built, hi, hu, hz, hie, hse]
        simpa [mkVal, Ty.isAgg, Value.cells] using h1
      have hrun := run_build w tid qs cells' hbuilt
      have e1 : cells' = (flat xs').toArray := by rw [← h4]
      cases hpl2 : allPlain vs with
      | some ds =>
        simp only [hpl2, Prog.exec, Option.some.injEq, Prod.mk.injEq] at hx
        obtain ⟨rfl, rfl, _⟩ := hx
        obtain ⟨h5, h6⟩ := Reps_vrep (allPlain_rep h2 h3 hpl2)
        exact ⟨rfl, _, hrun, flat xs', by simp [mkVal, Ty.isAgg, e1], ds, rfl, h5, h6⟩
      | none => simp only [hpl2] at hx; exact (exec_fail hx).elim

end
end Go.Ev

/- Slices that are made, appended to, copied. -/
namespace Go.Ev
open Go

section
variable {P : Program} {C : Cx} {w : World} {μ : Mu} {Im : Nat → Prop}

/-- a live place is given up, and a new one has its block -/
theorem HRel.adopt {hp : Nat → Option Blk} {w' : World} (h : HRel C hp w μ Im) {i c : Nat} {b b' : Blk} (hb : hp i = some b) (hlv : b.live = true) {k k' : Hdl} (hk : μ i = some k) (hc : μ c = none) (hchg : Chg w w' k.blk) (hok : k'.ok)
    (hsub : ∀ y, k'.blk = some y → k.blk = some y) (hp' : Nat → Option Blk) (he : ∀ j, hp' j = if c = j then some b' else if i = j then some .gone else hp j)
    (hn : Later w μ Im w' (fun j => if c = j then some k' else μ j) Im → brel w' (fun j => if c = j then some k' else μ j) Im c b') :
    HRel C hp' w' (fun j => if c = j then some k' else μ j) Im ∧ Later w μ Im w' (fun j => if c = j then some k' else μ j) Im := by
  have hci : c ≠ i := fun e => by subst e; rw [hc] at hk; simp at hk
  have him : ∀ y, Im y → w'.heap[y]? = w.heap[y]? := fun y hy => hchg.heap y fun e => (h.own i b k y hb hlv hk e.symm).1 hy
  have hl : Later w μ Im w' (fun j => if c = j then some k' else μ j) Im := by
    refine ⟨fun j hh hj => ?_, fun _ h => h, him⟩
    by_cases e : c = j
    · subst e; rw [hc] at hj; simp at hj
    · simp only [if_neg e]; exact hj
  have hother : ∀ j d hh x, c ≠ j → i ≠ j → hp j = some d → d.live = true → μ j = some hh → hh.blk = some x → k.blk ≠ some x := fun j d hh x _ hij hj hd hm hx hkx => hij (h.dis i j b d k hh x hb hlv hj hd hk hm hkx hx)
  refine ⟨⟨?_, ?_, ?_, ?_, fun x hx => by rw [hchg.size]; exact h.im x hx, h.im0, ?_, by rw [hchg.size]; exact h.size, hchg.os.trans h.os, hchg.tape.trans h.tape, hchg.output.trans h.output⟩, hl⟩
  · intro j kk hj
    by_cases e : c = j
    · simp only [if_pos e, Option.some.injEq] at hj; subst hj; exact hok
    · simp only [if_neg e] at hj; exact h.ok j kk hj
  · intro j d hj
    rw [he] at hj
    by_cases e : c = j
    · rw [if_pos e] at hj; injection hj with hj; subst hj; subst e; exact hn hl
    · rw [if_neg e] at hj
      by_cases e2 : i = j
      · rw [if_pos e2] at hj; injection hj with hj; subst hj; trivial
      · rw [if_neg e2] at hj
        exact (h.blk j d hj).later hl fun hd hh x hx hxb => hchg.heap x fun e3 => hother j d hh x e e2 hj hd hx hxb e3.symm
  · intro j1 j2 c1 c2 h1 h2 x e1 l1 e2 l2 m1 m2 b1 b2
    rw [he] at e1 e2
    by_cases i1 : c = j1
    · by_cases i2 : c = j2
      · exact i1.symm.trans i2
      · rw [if_neg i2] at e2
        simp only [if_pos i1, Option.some.injEq] at m1
        simp only [if_neg i2] at m2
        subst m1
        by_cases i3 : i = j2
        · rw [if_pos i3] at e2; injection e2 with e2; subst e2; simp [Blk.live] at l2
        · rw [if_neg i3] at e2
          exact (hother j2 c2 h2 x i2 i3 e2 l2 m2 b2 (hsub x b1)).elim
    · rw [if_neg i1] at e1
      simp only [if_neg i1] at m1
      by_cases i4 : i = j1
      · rw [if_pos i4] at e1; injection e1 with e1; subst e1; simp [Blk.live] at l1
      · rw [if_neg i4] at e1
        by_cases i2 : c = j2
        · simp only [if_pos i2, Option.some.injEq] at m2
          subst m2
          exact (hother j1 c1 h1 x i1 i4 e1 l1 m1 b1 (hsub x b2)).elim
        · rw [if_neg i2] at e2
          simp only [if_neg i2] at m2
          by_cases i3 : i = j2
          · rw [if_pos i3] at e2; injection e2 with e2; subst e2; simp [Blk.live] at l2
          · rw [if_neg i3] at e2
            exact h.dis j1 j2 c1 c2 h1 h2 x e1 l1 e2 l2 m1 m2 b1 b2
  · intro j d hh x e1 l1 m1 b1
    rw [he] at e1
    rw [hchg.size]
    by_cases i1 : c = j
    · simp only [if_pos i1, Option.some.injEq] at m1; subst m1
      exact h.own i b k x hb hlv hk (hsub x b1)
    · rw [if_neg i1] at e1
      simp only [if_neg i1] at m1
      by_cases i2 : i = j
      · rw [if_pos i2] at e1; injection e1 with e1; subst e1; simp [Blk.live] at l1
      · rw [if_neg i2] at e1; exact h.own j d hh x e1 l1 m1 b1
  · intro x hx hF
    refine (hchg.heap x fun e => ?_).trans (h.frame x hx hF)
    rcases (h.own i b k x hb hlv hk e.symm).2.2 with h1 | h1
    · exact hF h1
    · omega

/-! ### What is appended or copied -/

/-- a value that gives elements: so many of them lie in the cells -/
def Src (P : Program) (w : World) (Im : Nat → Prop) (te : Ty) (x : Value) (ys : List D) : Prop :=
  ∃ cs, RepN (Rep w Im te) te.size cs ys ∧ ∀ w' : World, w'.heap = w.heap →
    (Builtin.lenOf x).run P w' = .ok ys.length w' ∧ ∀ m, m ≤ ys.length → (Builtin.firstCells te.size m x).run P w' = .ok (cs.take (m * te.size)).toArray w'

theorem bytes_rep : ∀ l : List UInt8, RepN (Rep w Im (.int .u8)) 1 (l.map fun b => Value.int .u8 (b.toNat : Int)) (l.map ofByte)
  | [] => rfl
  | b :: l => by
    have h255 : b.toNat < 256 := UInt8.toNat_lt _
    exact ⟨by simp, ⟨(b.toNat : Int), rfl, rfl, by show (0 : Int) ≤ _; omega, by show _ ≤ (255 : Int); omega⟩, by simpa using bytes_rep l⟩

theorem firstCells_some {a : Addr} (hs : a.spot = none) {c : Array Value} {e : TypeId} {f : Nat × Nat} {w' : World} (hh : w'.heap[a.block]? = some (.cells c e f)) (sz m len cap : Nat) (hm : a.off + m * sz ≤ c.size) :
    (Builtin.firstCells sz m (.slice (some a) len cap)).run P w' = .ok ((c.toList.drop a.off).take (m * sz)).toArray w' := by
  have hl : ((c.toList.drop a.off).take (m * sz)).length = m * sz := by simp; omega
  have := run_loadCells_list (P := P) w' a ((c.toList.drop a.off).take (m * sz)) (fun j v hj => by
    rw [addr_add' hs, cell_in hh]
    rw [List.getElem?_take, List.getElem?_drop] at hj
    split at hj
    · simpa using hj
    · simp at hj)
  rw [hl] at this
  simpa [Builtin.firstCells] using this

theorem src_none (te : Ty) (len cap : Nat) (a : Option Addr) : Src P w Im te (.slice a 0 cap) [] := by
  refine ⟨[], rfl, fun w' _ => ⟨by simp [Builtin.lenOf], fun m hm => ?_⟩⟩
  obtain rfl : m = 0 := by simpa using hm
  cases a with
  | none => simp [Builtin.firstCells]
  | some a =>
    simp [Builtin.firstCells, loadCells, loadCellsFrom]

theorem src_cells {te : Ty} {a : Addr} (hs : a.spot = none) {c : Array Value} {e : TypeId} {f : Nat × Nat} (hh : w.heap[a.block]? = some (.cells c e f)) {len cap : Nat} {ys : List D} (hl : ys.length = len) (hm : a.off + len * te.size ≤ c.size)
    (hn : RepN (Rep w Im te) te.size ((c.toList.drop a.off).take (len * te.size)) ys) : Src P w Im te (.slice (some a) len cap) ys := by
  refine ⟨_, hn, fun w' hw => ⟨by simp [Builtin.lenOf, hl], fun m hm' => ?_⟩⟩
  have hm1 : m * te.size ≤ len * te.size := Nat.mul_le_mul_right _ (by omega)
  rw [firstCells_some hs (by rw [hw]; exact hh) _ _ _ _ (by omega), List.take_take, Nat.min_eq_left hm1]

theorem src_row {a : Option Addr} {cap : Nat} {t : Ty} {xs : List D} (hr : RowAt w Im a cap t xs) : Src P w Im t (.slice a xs.length cap) xs := by
  rcases hr.2.2 with h0 | ⟨ad, c, e, f, rfl, hs, hh, _, ho, hn⟩
  · have hx : xs = [] := List.eq_nil_of_length_eq_zero (by have := hr.1; omega)
    subst hx; exact src_none t 0 cap a
  · have hm1 : xs.length * t.size ≤ cap * t.size := Nat.mul_le_mul_right _ hr.1
    exact src_cells hs hh rfl (by omega) hn

theorem src_sub {a a' : Option Addr} {cap off len : Nat} {t : Ty} {xs : List D} (hr : RowAt w Im a cap t xs) (hl : off + len ≤ xs.length) (ha' : off < cap → a' = a.map (·.add (off * t.size))) :
    Src P w Im t (.slice a' len (cap - off)) ((xs.drop off).take len) := by
  by_cases h0 : len = 0
  · subst h0; simpa using src_none t 0 (cap - off) a'
  · rcases hr.2.2 with h | ⟨ad, c, e, f, ha, hs, hh, _, ho, hn⟩
    · have := hr.1; omega
    · have hc : off < cap := by have := hr.1; omega
      have hm3 : (off + len) * t.size ≤ xs.length * t.size := Nat.mul_le_mul_right _ hl
      have hm4 : xs.length * t.size ≤ cap * t.size := Nat.mul_le_mul_right _ hr.1
      rw [Nat.add_mul] at hm3
      rw [ha' hc, ha]
      simp only [Option.map_some, addr_add' hs]
      refine src_cells (a := ⟨ad.block, ad.off + off * t.size, none⟩) rfl hh (by simp; omega) (by simp only; omega) ?_
      have h2 := (hn.drop off).take len
      rw [drop_take_drop _ _ _ _ _ (by omega)] at h2
      exact h2

theorem exec_elems {te : Ty} {v : V} {x : Value} {f : List D → Prog V} {h : H} {l : Log} {r : V × H × Log} (hR : HRel C (look h.bs) w μ Im) (hx : (elems v f).exec h l = some r) (hv : vrel w μ Im v x)
    (hte : (match v.elemTy with | some t => t.beq te | none => true) = true) : ∃ ys l', (f ys).exec h l' = some r ∧ Src P w Im te x ys := by
  cases v <;> simp only [elems] at hx <;> try exact (exec_fail hx).elim
  case nil => simp only [vrel] at hv; subst hv; exact ⟨[], l, hx, src_none te 0 0 none⟩
  case emp => obtain ⟨a, rfl⟩ := hv; exact ⟨[], l, hx, src_none te 0 0 a⟩
  case dat t d =>
    cases t <;> (try simp only at hx) <;> try exact (exec_fail hx).elim
    rename_i t
    simp only [V.elemTy, Ty.beq_iff] at hte; subst hte
    obtain ⟨cs, rfl, a, len, cap, ds, rfl, rfl, hl, hlc, hcm, hz⟩ := hv
    refine ⟨ds, l, hx, ?_⟩
    rcases hz with h0 | ⟨ad, c, e, f', rfl, hs, him, hh, ho, hr⟩
    · subst h0
      have : ds = [] := List.eq_nil_of_length_eq_zero hl
      subst this; exact src_none t 0 cap a
    · exact src_cells hs hh hl ho hr
  case all t i len =>
    simp only [V.elemTy, Ty.beq_iff] at hte; subst hte
    replace hx := exec_get hx; obtain ⟨b, hb, hx⟩ := hx
    have hbr := hR.blk i b hb
    obtain ⟨a, cap, hm, rfl⟩ := hv
    cases b <;> simp only at hx <;> try exact (exec_fail hx).elim
    · obtain ⟨a', cap', hm', hr⟩ := hbr
      rw [hm] at hm'
      simp only [Option.some.injEq, Hdl.row.injEq] at hm'
      obtain ⟨rfl, rfl, rfl, rfl⟩ := hm'
      exact ⟨_, _, hx, src_row hr⟩
    · obtain ⟨a', cap', hm', hr, _⟩ := hbr
      rw [hm] at hm'
      simp only [Option.some.injEq, Hdl.row.injEq] at hm'
      obtain ⟨rfl, rfl, rfl, rfl⟩ := hm'
      exact ⟨_, _, hx, src_row hr⟩
  case sub t i off len =>
    simp only [V.elemTy, Ty.beq_iff] at hte; subst hte
    replace hx := exec_get hx; obtain ⟨b, hb, hx⟩ := hx
    have hbr := hR.blk i b hb
    obtain ⟨a, L, cap, a1, hm, hlen, hcap, rfl, ha1⟩ := hv
    cases b <;> simp only at hx <;> try exact (exec_fail hx).elim
    · obtain ⟨a', cap', hm', hr⟩ := hbr
      rw [hm] at hm'
      simp only [Option.some.injEq, Hdl.row.injEq] at hm'
      obtain ⟨rfl, rfl, rfl, rfl⟩ := hm'
      exact ⟨_, _, hx, src_sub hr hlen ha1⟩
    · obtain ⟨a', cap', hm', hr, _⟩ := hbr
      rw [hm] at hm'
      simp only [Option.some.injEq, Hdl.row.injEq] at hm'
      obtain ⟨rfl, rfl, rfl, rfl⟩ := hm'
      exact ⟨_, _, hx, src_sub hr hlen ha1⟩
  case asl t i p n off len =>
    simp only [V.elemTy, Ty.beq_iff] at hte; subst hte
    replace hx := exec_get hx; obtain ⟨b, hb, hx⟩ := hx
    have hbr := hR.blk i b hb
    obtain ⟨b0, tb, o, a, hm, hpl, hlen, rfl, ha'⟩ := hv
    cases b <;> simp only at hx <;> try exact (exec_fail hx).elim
    rename_i tb' bv
    obtain ⟨b1, c, e, f', x0, hm', hh, hfz, hft, hvr, hc⟩ := hbr
    rw [hm] at hm'
    simp only [Option.some.injEq, Hdl.box.injEq] at hm'
    obtain ⟨rfl, rfl⟩ := hm'
    cases hg : vget bv p with
    | none => simp only [hg] at hx; exact (exec_fail hx).elim
    | some q =>
      obtain ⟨y, hy, hyf, hyc⟩ := vget_rel hvr hft hpl hg
      simp only [hg] at hx
      cases q <;> (try simp only at hx) <;> try exact (exec_fail hx).elim
      rename_i tq d
      simp only [V.fits, Ty.beq_iff] at hyf; subst hyf
      obtain ⟨cs, rfl, ds, rfl, hn, hr⟩ := hy
      rw [cells_mkVal (w := w) (Im := Im) (t := .arr n t) ⟨ds, rfl, hn, hr⟩] at hyc
      refine ⟨_, _, hx, ?_⟩
      simp only [D.list]
      have hle := place_le hpl
      have hcz : tb.size = c.size := by rw [← (fits_size hvr hft).1, hc]; simp
      simp only [Ty.size] at hle hyc
      by_cases h0 : len = 0
      · subst h0; simpa using src_none t 0 (n - off) (some a)
      · rw [ha' (by omega)]
        have hm3 : (off + len) * t.size ≤ n * t.size := Nat.mul_le_mul_right _ hlen
        rw [Nat.add_mul] at hm3
        refine src_cells (a := ⟨b0, o + off * t.size, none⟩) rfl hh (by simp; omega) (by simp only; omega) ?_
        have h2 := (hr.drop off).take len
        rw [hyc, hc, drop_take_drop _ _ _ _ _ (by omega)] at h2
        exact h2

theorem exec_srcElems {te t2 : Ty} {v : V} {x : Value} {f : List D → Prog V} {h : H} {l : Log} {r : V × H × Log} (hR : HRel C (look h.bs) w μ Im) (hx : (srcElems te t2 v f).exec h l = some r) (hv : vrel w μ Im v x) :
    (t2 = .str ∨ ∃ t, t2 = .slice t) ∧ ∃ ys l', (f ys).exec h l' = some r ∧ Src P w Im te x ys := by
  unfold srcElems at hx
  split at hx
  · rename_i bs
    replace hx := exec_chk hx; obtain ⟨hc, hx⟩ := hx
    rw [Ty.beq_iff] at hc; subst hc
    obtain ⟨s, rfl, rfl, _⟩ := dat_str hv
    refine ⟨.inl rfl, _, _, hx, s.data.toList.map (fun b => Value.int .u8 (b.toNat : Int)), bytes_rep _, fun w' _ => ⟨?_, fun m hm => ?_⟩⟩
    · simp only [Builtin.lenOf, Sem.run_pure, List.length_map, Lib.size_eq]
    · simp only [Builtin.firstCells, Sem.run_pure, Ty.size, Nat.mul_one]
      congr 1
      apply Array.toList_inj.1
      simp [Lib.extract_data, List.map_take]
  · replace hx := exec_chk hx; obtain ⟨hc, hx⟩ := hx
    simp only [Bool.and_eq_true] at hc
    exact ⟨.inr ⟨_, rfl⟩, exec_elems hR hx hv hc.2⟩
  · exact (exec_fail hx).elim

/-! ### Append -/

def putNew (base : Option Addr) (o : Nat) (cs : List Value) : Sem Unit :=
  match base with
  | some a => storeCells (a.add o) cs
  | none => pure ()

/-- the room that an append finds or makes -/
theorem run_append {te : Ty} {tid tid2 ty : TypeId} {t2 : Ty} (hty : TyOK P (.slice te) tid) (hty2 : TyOK P t2 tid2) (h2 : t2 = .str ∨ ∃ t, t2 = .slice t) (hsz : te.size ≤ 512) {base : Option Addr} {sLen sCap : Nat} {x : Value} {xs ys : List D} (hsx : xs.length = sLen)
    (hs : Src P w Im te (.slice base sLen sCap) xs) (hx : Src P w Im te x ys) (hb : (xs ++ ys).length ≤ mostElems) :
    (sLen + ys.length ≤ sCap ∧ ∃ cs, RepN (Rep w Im te) te.size cs ys ∧
      (Builtin.append_ #[tid, tid2] ty #[.slice base sLen sCap, x]).run P w = ((putNew base (sLen * te.size) cs).run P w).andThen fun _ w' => .ok (.slice base (sLen + ys.length) sCap) w') ∨
    (sCap < sLen + ys.length ∧ ∃ (c : Array Value) (cap : Nat) (e : TypeId), sLen + ys.length ≤ cap ∧ cap ≤ most ∧ cap * te.size ≤ c.size ∧ RepN (Rep w Im te) te.size (c.toList.take ((xs ++ ys).length * te.size)) (xs ++ ys) ∧
      (Builtin.append_ #[tid, tid2] ty #[.slice base sLen sCap, x]).run P w = .ok (.slice (some ⟨w.heap.size, 0, none⟩) (sLen + ys.length) cap) (w.drew.alloc (.cells c e))) := by
  subst hsx
  obtain ⟨_, te', hu, hte⟩ := hty
  obtain ⟨i, hi, hsz', hz, hby, hne⟩ := hte.base.ex
  obtain ⟨cs0, hr0, hrun0⟩ := hs
  obtain ⟨cs1, hr1, hrun1⟩ := hx
  have hl0 := hr0.len
  have hl1 := hr1.len
  have hzeros : ∃ d, P.underlying tid2 = some d ∧ ∀ k, d ≠ .int k := by
    rcases h2 with rfl | ⟨t, rfl⟩
    · exact ⟨_, hty2.2, by simp⟩
    · obtain ⟨_, te2, hu2, _⟩ := hty2; exact ⟨_, hu2, by simp⟩
  obtain ⟨d2, hd2, hd2n⟩ := hzeros
  have hnot : (match d2 with | .int _ => true | _ => false) = false := by
    cases d2 <;> simp at hd2n ⊢
  have hlen := (hrun1 w rfl).1
  simp only [List.length_append] at hb
  have hm : mostElems = 4294967296 := rfl
  have hf1 : ∀ w' : World, w'.heap = w.heap → (Builtin.firstCells te.size ys.length x).run P w' = .ok cs1.toArray w' := fun w' hw => by
    have := (hrun1 w' hw).2 ys.length (Nat.le_refl _)
    rwa [← hl1, List.take_length] at this
  have hf0 : ∀ w' : World, w'.heap = w.heap → (Builtin.firstCells te.size xs.length (.slice base xs.length sCap)).run P w' = .ok cs0.toArray w' := fun w' hw => by
    have := (hrun0 w' hw).2 xs.length (by omega)
    rwa [← hl0, List.take_length] at this
  by_cases hle : xs.length + ys.length ≤ sCap
  · refine .inl ⟨hle, cs1, hr1, ?_⟩
    have hfw := hf1 w rfl
    unfold Builtin.append_
    simp only [List.getElem?_toArray, List.getElem?_cons_zero, List.getElem?_cons_succ, Sem.run_bind, run_underlying hu, Result.andThen_ok, hte.base.run_size, run_underlying hd2, Sem.run_pure]
    cases d2 <;> first | (exact (hd2n _ rfl).elim) | skip
    all_goals
      simp only [Bool.false_eq_true, if_false, hlen, Result.andThen_ok, hle, if_true, Bool.not_false, Sem.run_bind, hfw]
      cases base <;> simp only [putNew, Sem.run_bind, Sem.run_pure, Result.andThen_ok]
  · refine .inr ⟨by omega, ?_⟩
    have hbytes : (xs.length + ys.length) * i.bytes ≤ 140737488355328 := by
      have h1 : i.bytes ≤ 12288 := by omega
      calc (xs.length + ys.length) * i.bytes ≤ 4294967296 * 12288 := Nat.mul_le_mul (by omega) h1
        _ ≤ 140737488355328 := by decide
    have hfit := growslice_fits (old := sCap) (need := xs.length + ys.length) (bytes := i.bytes) (by omega) hbytes
    have hge := grownCap_ge w (xs.length + ys.length) sCap te'
    have hcm : grownCap w (xs.length + ys.length) sCap te' ≤ maxLen := grownCap_le_maxLen w _ sCap te' (by unfold maxLen; omega)
    have hmx : maxLen = most := by decide
    refine ⟨cs0.toArray ++ cs1.toArray ++ Builtin.zeroCells (mkVal te (zcells te)).cells (grownCap w (xs.length + ys.length) sCap te' - (xs.length + ys.length)), grownCap w (xs.length + ys.length) sCap te', te', hge, by omega, ?_, ?_, ?_⟩
    · have hzs : (mkVal te (zcells te)).cells.size = te.size := by
        have := congrArg List.length (cells_zero te)
        simpa [cellsOf, zcells_len] using this
      simp only [Array.size_append, List.size_toArray, size_zeroCells, hzs, hl0, hl1, ← Nat.add_mul]
      have : xs.length + ys.length + (grownCap w (xs.length + ys.length) sCap te' - (xs.length + ys.length)) = grownCap w (xs.length + ys.length) sCap te' := by omega
      rw [this]; exact Nat.le_refl _
    · have := RepN.append hr1 hr0
      have hlen2 : (cs0 ++ cs1).length = (xs ++ ys).length * te.size := by simp [hl0, hl1, Nat.add_mul]
      simp only [Array.toList_append]
      rw [← hlen2, List.take_append_of_le_length (Nat.le_refl _), List.take_length]
      exact this
    · have hfd1 := hf1 w.drew rfl
      have hfd0 := hf0 w.drew rfl
      have hi63 : ¬ (((xs.length + ys.length : Nat) : Int) > IntKind.i64.max ∧ (False ∨ i.bytes = 0)) := by
        have : IntKind.i64.max = 9223372036854775807 := by decide
        rw [this]; omega
      have hti := fun w => run_typeInfo hi w
      unfold Builtin.append_
      simp only [List.getElem?_toArray, List.getElem?_cons_zero, List.getElem?_cons_succ, Sem.run_bind, run_underlying hu, Result.andThen_ok, hte.base.run_size, run_underlying hd2, Sem.run_pure]
      cases d2 <;> first | (exact (hd2n _ rfl).elim) | skip
      all_goals
        simp only [Bool.false_eq_true, if_false, hlen, Result.andThen_ok, hle, Bool.not_false, Sem.run_bind, hti]
        rw [if_neg hi63]
        simp only [Sem.run_bind, hti, Result.andThen_ok]
        rw [if_neg (show ¬ Builtin.nextslicecap (xs.length + ys.length) sCap * i.bytes > 2 ^ 48 from Nat.not_lt.2 hfit)]
        simp only [Sem.run_bind, run_choose, Question.forced, Bool.false_eq_true, if_false, World.drew_eq, Result.andThen_ok, hti, run_askRoom, hfd0, if_true, hfd1, hte.base.run_zero, newRow, run_newObj, World.alloc_eq, Sem.run_pure]
        rfl

end
end Go.Ev

/- Append and copy. -/
namespace Go.Ev
open Go

section
variable {P : Program} {C : Cx} {w : World} {μ : Mu} {Im : Nat → Prop}

theorem RepN.heap {w' : World} (hw : w'.heap = w.heap) {t : Ty} {sz : Nat} {cs : List Value} {ds : List D} (h : RepN (Rep w Im t) sz cs ds) : RepN (Rep w' Im t) sz cs ds :=
  h.mono fun _ _ => Rep.mono (fun _ h => h) fun _ _ => by rw [hw]

/-- the row that an append laid anew -/
theorem new_row_drew {h : H} (hR : HRel C (look h.bs) w μ Im) (hfr : μ h.next = none) {te : Ty} {c : Array Value} {cap : Nat} {e : TypeId} {zs : List D} (hl : zs.length ≤ cap) (hm : cap ≤ most) (hc : cap * te.size ≤ c.size)
    (hn : RepN (Rep w Im te) te.size (c.toList.take (zs.length * te.size)) zs) :
    ∃ μ', Grows C h ⟨h.next + 1, (h.next, .row te zs) :: h.bs⟩ w μ Im (w.drew.alloc (.cells c e)) μ' Im ∧ vrel (w.drew.alloc (.cells c e)) μ' Im (.all te h.next zs.length) (.slice (some ⟨w.heap.size, 0, none⟩) zs.length cap) := by
  refine new_row hR hfr (by simp) (fun y hy => heap_alloc_old w.drew _ y hy) rfl rfl rfl (fun x hx => ?_) (rowAt_alloc (w := w.drew) hl hm hc (RepN.heap (w := w) (w' := w.drew) rfl hn) fun y hy => (hR.im y hy).1)
  simp only [Hdl.blk] at hx
  split at hx
  · simp at hx
  · simp only [Option.some.injEq] at hx; subst hx; simp

theorem RowAt.part {a a' : Option Addr} {cap off len : Nat} {t : Ty} {xs : List D} (hr : RowAt w Im a cap t xs) (hl : off + len ≤ xs.length) (ha' : off < cap → a' = a.map (·.add (off * t.size))) : RowAt w Im a' (cap - off) t ((xs.drop off).take len) := by
  have hlen : ((xs.drop off).take len).length = len := by simp; omega
  refine ⟨by rw [hlen]; have := hr.1; omega, by have := hr.2.1; omega, ?_⟩
  rcases hr.2.2 with h | ⟨ad, c, e, f, ha, hs, hh, hf, ho, hn⟩
  · exact .inl (by omega)
  · by_cases hc : off < cap
    · refine .inr ⟨⟨ad.block, ad.off + off * t.size, none⟩, c, e, f, by rw [ha' hc, ha]; simp [addr_add' hs], rfl, hh, hf, ?_, ?_⟩
      · have : off * t.size ≤ cap * t.size := Nat.mul_le_mul_right _ (by omega)
        simp only [Nat.sub_mul]; omega
      · have h2 := (hn.drop off).take len
        have hm3 : (off + len) * t.size ≤ xs.length * t.size := Nat.mul_le_mul_right _ hl
        rw [Nat.add_mul] at hm3
        rw [drop_take_drop _ _ _ _ _ (by omega)] at h2
        rw [hlen]; exact h2
    · exact .inl (by omega)

theorem part_blk {a a' : Option Addr} {cap off len L : Nat} {t : Ty} (hok : (Hdl.row a L cap t).ok) (ha' : off < cap → a' = a.map (·.add (off * t.size))) : ∀ y, (Hdl.row a' len (cap - off) t).blk = some y → (Hdl.row a L cap t).blk = some y := by
  intro y hy
  by_cases hc : off < cap
  · obtain ⟨_, _, hz⟩ := hok
    obtain ⟨ad, rfl, hs⟩ := hz (by omega)
    rw [ha' hc] at hy
    simp only [Option.map_some, addr_add' hs, Hdl.blk] at hy ⊢
    rw [if_neg (by omega)] at hy ⊢
    exact hy
  · simp only [Hdl.blk] at hy
    cases a' with
    | none => simp at hy
    | some a' => simp only at hy; rw [if_pos (by omega)] at hy; simp at hy

/-- an append to a row that is owned -/
theorem append_row {te : Ty} {tid tid2 ty : TypeId} {t2 : Ty} (hty : TyOK P (.slice te) tid) (hty2 : TyOK P t2 tid2) (h2 : t2 = .str ∨ ∃ t, t2 = .slice t) (hsz : te.size ≤ 512) {h : H} (hR : HRel C (look h.bs) w μ Im) (hfr : μ h.next = none)
    {i : Nat} {b : Blk} (hb : look h.bs i = some b) (hlv : b.live = true) {k : Hdl} (hk : μ i = some k) {b0 : Option Addr} {cp : Nat} {xs ys : List D} (hr : RowAt w Im b0 cp te xs) (hsub : ∀ n y, (Hdl.row b0 n cp te).blk = some y → k.blk = some y)
    {x : Value} (hx : Src P w Im te x ys) (hbd : (xs ++ ys).length ≤ mostElems) :
    ∃ y w' μ', (Builtin.append_ #[tid, tid2] ty #[.slice b0 xs.length cp, x]).run P w = .ok y w' ∧ Grows C h ⟨h.next + 1, (h.next, .row te (xs ++ ys)) :: (i, .gone) :: h.bs⟩ w μ Im w' μ' Im ∧ vrel w' μ' Im (.all te h.next (xs ++ ys).length) y := by
  have hne : h.next ≠ i := fun e => by rw [← e, hfr] at hk; simp at hk
  have hlen : (xs ++ ys).length = xs.length + ys.length := by simp
  have hgone : HRel C (look ((i, .gone) :: h.bs)) w μ Im := hR.drop (fun j d hj hd => by
      rw [look_cons] at hj
      split at hj
      · injection hj with hj; subst hj; simp [Blk.live] at hd
      · exact hj) (fun j d hj hd => by
      rw [look_cons] at hj
      split at hj
      · injection hj with hj; exact .inr hj.symm
      · exact .inl hj)
  rcases run_append (P := P) (ty := ty) hty hty2 h2 hsz rfl (src_row hr) hx hbd with ⟨hle, cs, hcs, hrun⟩ | ⟨hlt, c, cap, e, h1, h3, h4, h5, hrun⟩
  · -- in place
    have hcl := hcs.len
    have hok : ∀ w' : World, (Hdl.row b0 (xs ++ ys).length cp te).ok := fun _ => by
      refine ⟨by omega, hr.2.1, fun hc => ?_⟩
      rcases hr.2.2 with h0 | ⟨ad, _, _, _, ha, hs, _⟩
      · omega
      · exact ⟨ad, ha, hs⟩
    have fin : ∀ w' : World, (putNew b0 (xs.length * te.size) cs).run P w = .ok () w' → Chg w w' k.blk → (Later w μ Im w' (fun j => if h.next = j then some (Hdl.row b0 (xs ++ ys).length cp te) else μ j) Im → RowAt w' Im b0 cp te (xs ++ ys)) →
        ∃ y w' μ', (Builtin.append_ #[tid, tid2] ty #[.slice b0 xs.length cp, x]).run P w = .ok y w' ∧ Grows C h ⟨h.next + 1, (h.next, .row te (xs ++ ys)) :: (i, .gone) :: h.bs⟩ w μ Im w' μ' Im ∧ vrel w' μ' Im (.all te h.next (xs ++ ys).length) y := by
      intro w' hw hchg hrow
      have key := hR.adopt (c := h.next) (b' := .row te (xs ++ ys)) (k' := .row b0 (xs ++ ys).length cp te) hb hlv hk hfr hchg (hok w') (hsub _)
        (look ((h.next, .row te (xs ++ ys)) :: (i, .gone) :: h.bs)) (fun j => by rw [look_cons, look_cons]) (fun hl => ⟨b0, cp, by simp, hrow hl⟩)
      refine ⟨_, w', _, by rw [hrun, hw]; rfl, ⟨key.1, key.2, Nat.le_succ _, fun j hj hn => ?_⟩, b0, cp, by simp, by rw [hlen]⟩
      by_cases e : h.next = j
      · subst e; exact ⟨Nat.le_refl _, Nat.lt_succ_self _⟩
      · simp only [if_neg e] at hn; exact (hn hj).elim
    rcases hr.2.2 with h0 | ⟨ad, c, e, f, rfl, hs, hh, hf, ho, hn⟩
    · have hys : ys = [] := List.eq_nil_of_length_eq_zero (by omega)
      have hxs : xs = [] := List.eq_nil_of_length_eq_zero (by omega)
      subst hys; subst hxs
      have hcs0 : cs = [] := List.eq_nil_of_length_eq_zero (by simpa using hcl)
      subst hcs0
      refine fin w ?_ ⟨rfl, fun _ _ => rfl, rfl, rfl, rfl⟩ (fun _ => ⟨by simp, hr.2.1, .inl h0⟩)
      cases b0 <;> simp [putNew, storeCells]
    · by_cases h0 : cp = 0
      · have hys : ys = [] := List.eq_nil_of_length_eq_zero (by omega)
        have hxs : xs = [] := List.eq_nil_of_length_eq_zero (by omega)
        subst hys; subst hxs
        have hcs0 : cs = [] := List.eq_nil_of_length_eq_zero (by simpa using hcl)
        subst hcs0
        refine fin w ?_ ⟨rfl, fun _ _ => rfl, rfl, rfl, rfl⟩ (fun _ => ⟨by simp, hr.2.1, .inl h0⟩)
        simp [putNew, storeCells]
      · have hm1 : (xs.length + ys.length) * te.size ≤ cp * te.size := Nat.mul_le_mul_right _ hle
        rw [Nat.add_mul] at hm1
        have hst := run_storeCells_free (P := P) (o := ad.off + xs.length * te.size) cs 0 c w hh hf (by omega) (Rep.one.go te ys cs hcs)
        have hkb : k.blk = some ad.block := hsub 0 ad.block (by simp [Hdl.blk, h0])
        refine fin _ (by simp only [putNew, addr_add' hs]; exact hst) (by rw [hkb]; exact chg_setRow w ad.block _) (fun hl => ?_)
        have hsl : (splice c.toList (ad.off + xs.length * te.size) cs).length = c.size := by rw [splice_length _ _ _ (by simp; omega)]; simp
        refine ⟨by omega, hr.2.1, .inr ⟨ad, _, e, f, rfl, hs, setRow_heap w ad.block c _ e f hh, hf.congr (by simp [hsl]), by simp [hsl]; exact ho, ?_⟩⟩
        have hnl := hn.len
        have e1 : (((splice c.toList (ad.off + xs.length * te.size + 0) cs).toArray.toList.drop ad.off).take ((xs ++ ys).length * te.size)) = (c.toList.drop ad.off).take (xs.length * te.size) ++ cs := by
          simp only [Nat.add_zero]
          have hcz : c.toList.length = c.size := Array.length_toList
          rw [hlen, Nat.add_mul, splice_mid c.toList ad.off _ (xs.length * te.size) cs (by omega) (by omega)]
          have hreg : ((c.toList.drop ad.off).take (xs.length * te.size + ys.length * te.size)).length = xs.length * te.size + ys.length * te.size := by
            rw [List.length_take, List.length_drop]; omega
          have hd0 : ((c.toList.drop ad.off).take (xs.length * te.size + ys.length * te.size)).drop (xs.length * te.size + cs.length) = [] := List.drop_of_length_le (by rw [hreg]; omega)
          unfold splice
          rw [List.take_take, Nat.min_eq_left (by omega), hd0]
          simp
        rw [e1]
        exact RepN.append (hcs.mono fun _ _ => Rep.mono hl.im hl.heap) (hn.mono fun _ _ => Rep.mono hl.im hl.heap)
  · -- a new block
    obtain ⟨μ', hg, hv⟩ := new_row_drew (h := ⟨h.next, (i, .gone) :: h.bs⟩) hgone hfr (zs := xs ++ ys) (by omega) h3 h4 h5 (e := e)
    exact ⟨_, _, μ', hrun, ⟨hg.rel, hg.later, hg.next, hg.ids⟩, by rw [← hlen]; exact hv⟩

/-- an append to nothing -/
theorem append_nil {te : Ty} {tid tid2 ty : TypeId} {t2 : Ty} (hty : TyOK P (.slice te) tid) (hty2 : TyOK P t2 tid2) (h2 : t2 = .str ∨ ∃ t, t2 = .slice t) (hsz : te.size ≤ 512) {h : H} (hR : HRel C (look h.bs) w μ Im) (hfr : μ h.next = none)
    {b0 : Option Addr} {ys : List D} {x : Value} (hx : Src P w Im te x ys) (hbd : ys.length ≤ mostElems) :
    ∃ y w' μ', (Builtin.append_ #[tid, tid2] ty #[.slice b0 0 0, x]).run P w = .ok y w' ∧ Grows C h ⟨h.next + 1, (h.next, .row te ys) :: h.bs⟩ w μ Im w' μ' Im ∧ vrel w' μ' Im (.all te h.next ys.length) y := by
  rcases run_append (P := P) (ty := ty) (xs := []) hty hty2 h2 hsz rfl (src_none te 0 0 b0) hx hbd with ⟨hle, cs, hcs, hrun⟩ | ⟨hlt, c, cap, e, h1, h3, h4, h5, hrun⟩
  · have hcl := hcs.len
    have hys : ys = [] := List.eq_nil_of_length_eq_zero (by omega)
    subst hys
    have hcs0 : cs = [] := List.eq_nil_of_length_eq_zero (by simpa using hcl)
    subst hcs0
    obtain ⟨μ', hg, hv⟩ := new_row hR hfr (t := te) (w' := w) (a := b0) (cap := 0) (xs := []) (Nat.le_refl _) (fun _ _ => rfl) rfl rfl rfl (fun x hx => by cases b0 <;> simp [Hdl.blk] at hx) ⟨Nat.le_refl _, by decide, .inl rfl⟩
    refine ⟨_, w, μ', hrun.trans ?_, hg, hv⟩
    cases b0 <;> simp [putNew, storeCells]
  · obtain ⟨μ', hg, hv⟩ := new_row_drew hR hfr (zs := ys) (by omega) h3 h4 h5 (e := e)
    exact ⟨_, _, μ', by simpa using hrun, hg, by simpa using hv⟩

theorem ok_append {t t2 : Ty} {tid tid2 ty : TypeId} {sv xv v : V} {s x : Value} {h h' : H} {l l' : Log} (hty : TyOK P t tid) (hty2 : TyOK P t2 tid2) (hR : HRel C (look h.bs) w μ Im) (hfr : ∀ i, h.next ≤ i → i < h'.next → μ i = none) (hs : vrel w μ Im sv s) (hxv : vrel w μ Im xv x)
    (hx : (evAppend t t2 sv xv).exec h l = some (v, h', l')) : ∃ y w' μ', (Builtin.append_ #[tid, tid2] ty #[s, x]).run P w = .ok y w' ∧ Grows C h h' w μ Im w' μ' Im ∧ vrel w' μ' Im v y := by
  cases t <;> simp only [evAppend] at hx <;> try exact (exec_fail hx).elim
  rename_i te
  replace hx := exec_chk hx; obtain ⟨hsz, hx⟩ := hx
  have hsz' : te.size ≤ 512 := Nat.le_of_ble_eq_true hsz
  replace hx := exec_srcElems (P := P) hR hx hxv
  obtain ⟨h2, ys, l1, hx, hsrc⟩ := hx
  cases sv <;> simp only [appendTo] at hx <;> try exact (exec_fail hx).elim
  case nil =>
    simp only [vrel] at hs; subst hs
    replace hx := exec_need hx; obtain ⟨hbd, hx⟩ := hx
    simp only [Prog.exec, Option.some.injEq, Prod.mk.injEq] at hx
    obtain ⟨rfl, rfl, _⟩ := hx
    exact append_nil hty hty2 h2 hsz' hR (hfr _ (Nat.le_refl _) (Nat.lt_succ_self _)) hsrc (of_decide_eq_true hbd)
  case emp =>
    obtain ⟨a, rfl⟩ := hs
    replace hx := exec_need hx; obtain ⟨hbd, hx⟩ := hx
    simp only [Prog.exec, Option.some.injEq, Prod.mk.injEq] at hx
    obtain ⟨rfl, rfl, _⟩ := hx
    exact append_nil hty hty2 h2 hsz' hR (hfr _ (Nat.le_refl _) (Nat.lt_succ_self _)) hsrc (of_decide_eq_true hbd)
  case all t' i len =>
    replace hx := exec_chk hx; obtain ⟨hc, hx⟩ := hx
    rw [Ty.beq_iff] at hc; subst hc
    replace hx := exec_get hx; obtain ⟨b, hb, hx⟩ := hx
    have hbr := hR.blk i b hb
    cases b <;> simp only at hx <;> try exact (exec_fail hx).elim
    rename_i te' xs
    replace hx := exec_need hx; obtain ⟨hbd, hx⟩ := hx
    simp only [Prog.exec, Option.some.injEq, Prod.mk.injEq] at hx
    obtain ⟨rfl, rfl, _⟩ := hx
    obtain ⟨a, cap, hm, rfl⟩ := hs
    obtain ⟨a', cap', hm', hr⟩ := hbr
    rw [hm] at hm'
    simp only [Option.some.injEq, Hdl.row.injEq] at hm'
    obtain ⟨rfl, rfl, rfl, rfl⟩ := hm'
    refine append_row hty hty2 h2 hsz' hR (hfr _ (Nat.le_refl _) (Nat.lt_succ_self _)) hb rfl hm hr (fun n y hy => ?_) hsrc (of_decide_eq_true hbd)
    cases a with
    | none => simp [Hdl.blk] at hy
    | some a => simpa [Hdl.blk] using hy
  case sub t' i off len =>
    replace hx := exec_chk hx; obtain ⟨hc, hx⟩ := hx
    rw [Ty.beq_iff] at hc; subst hc
    replace hx := exec_get hx; obtain ⟨b, hb, hx⟩ := hx
    have hbr := hR.blk i b hb
    cases b <;> simp only at hx <;> try exact (exec_fail hx).elim
    rename_i te' xs
    replace hx := exec_need hx; obtain ⟨hbd, hx⟩ := hx
    simp only [Prog.exec, Option.some.injEq, Prod.mk.injEq] at hx
    obtain ⟨rfl, rfl, _⟩ := hx
    obtain ⟨a, L, cap, a1, hm, hlen, hcap, rfl, ha1⟩ := hs
    obtain ⟨a', cap', hm', hr⟩ := hbr
    rw [hm] at hm'
    simp only [Option.some.injEq, Hdl.row.injEq] at hm'
    obtain ⟨rfl, rfl, rfl, rfl⟩ := hm'
    have hp := hr.part hlen ha1
    have hl : ((xs.drop off).take len).length = len := by simp; omega
    have := append_row (ty := ty) hty hty2 h2 hsz' hR (hfr _ (Nat.le_refl _) (Nat.lt_succ_self _)) hb rfl hm hp (fun n y hy => part_blk (hR.ok _ _ hm) ha1 y hy) hsrc (of_decide_eq_true hbd)
    rw [hl] at this
    exact this

end
end Go.Ev

/- Copy, len, min and max. -/
namespace Go.Ev
open Go

section
variable {P : Program} {C : Cx} {w : World} {μ : Mu} {Im : Nat → Prop}

theorem HRel.congr {hp hp' : Nat → Option Blk} (h : HRel C hp w μ Im) (he : ∀ j, hp' j = hp j) : HRel C hp' w μ Im := by
  obtain rfl : hp' = hp := funext he
  exact h

theorem splice_nil {α : Type} (xs : List α) (o : Nat) : splice xs o [] = xs := by simp [splice]

theorem look_same {h : H} {i : Nat} {b : Blk} (hb : look h.bs i = some b) (j : Nat) : look ((i, b) :: h.bs) j = look h.bs j := by
  rw [look_cons]; split
  · rename_i e; subst e; exact hb.symm
  · rfl

theorem write_row {h : H} (hR : HRel C (look h.bs) w μ Im) {i : Nat} {te : Ty} {xs : List D} (hb : look h.bs i = some (.row te xs)) {a : Option Addr} {L cap : Nat} {te' : Ty} (hm : μ i = some (.row a L cap te'))
    {off : Nat} {ys : List D} {cs : List Value} (hoff : off + ys.length ≤ xs.length) (hcs : RepN (Rep w Im te) te.size cs ys) {a' : Option Addr} (ha' : off < cap → a' = a.map (·.add (off * te.size))) :
    ∃ w', (putNew a' 0 cs).run P w = .ok () w' ∧ HRel C (look ((i, .row te (splice xs off ys)) :: h.bs)) w' μ Im ∧ Later w μ Im w' μ Im := by
  obtain ⟨a0, cap0, hm', hr⟩ := hR.blk i _ hb
  rw [hm] at hm'
  simp only [Option.some.injEq, Hdl.row.injEq] at hm'
  obtain ⟨rfl, rfl, rfl, rfl⟩ := hm'
  have hcl := hcs.len
  by_cases h0 : ys.length = 0
  · have hys : ys = [] := List.eq_nil_of_length_eq_zero h0
    subst hys
    have hcs0 : cs = [] := List.eq_nil_of_length_eq_zero (by simpa using hcl)
    subst hcs0
    refine ⟨w, ?_, ?_, .refl _ _ _⟩
    · cases a' <;> simp [putNew, storeCells]
    · rw [splice_nil]; exact hR.congr (look_same hb)
  · have hlc := hr.1
    rcases hr.2.2 with hc0 | ⟨ad, c, e, f, rfl, hs, hh, hf, ho, hn⟩
    · omega
    · have hc : off < cap := by omega
      rw [ha' hc]
      simp only [Option.map_some, addr_add' hs, putNew, addr_add, Nat.add_zero]
      have hm1 : (off + ys.length) * te'.size ≤ xs.length * te'.size := Nat.mul_le_mul_right _ hoff
      have hm2 : xs.length * te'.size ≤ cap * te'.size := Nat.mul_le_mul_right _ hlc
      rw [Nat.add_mul] at hm1
      have hst := run_storeCells_free (P := P) (o := ad.off + off * te'.size) cs 0 c w hh hf (by omega) (Rep.one.go te' ys cs hcs)
      refine ⟨_, hst, ?_⟩
      have hcap : cap ≠ 0 := by omega
      have hblk : (Hdl.row (some ad) xs.length cap te').blk = some ad.block := by simp [Hdl.blk, hcap]
      refine hR.write hb rfl hm (by rw [hblk]; exact chg_setRow w ad.block _) _ (fun j => by rw [look_cons]) rfl fun him => ?_
      have hl : Later w μ Im (w.setRow ad.block (splice c.toList (ad.off + off * te'.size + 0) cs).toArray) μ Im := ⟨fun _ _ h => h, fun _ h => h, him⟩
      have hcz : c.toList.length = c.size := Array.length_toList
      have hlen : (splice xs off ys).length = xs.length := splice_length _ _ _ hoff
      have hsl : (splice c.toList (ad.off + off * te'.size + 0) cs).length = c.size := by rw [splice_length _ _ _ (by omega)]; exact hcz
      refine ⟨some ad, cap, by rw [hlen]; exact hm, by rw [hlen]; exact hr.1, hr.2.1, .inr ⟨ad, _, e, f, rfl, hs, setRow_heap w ad.block c _ e f hh, hf.congr (by simpa using hsl), by rw [List.size_toArray, hsl]; exact ho, ?_⟩⟩
      have e1 : (((splice c.toList (ad.off + off * te'.size + 0) cs).toArray.toList.drop ad.off).take (xs.length * te'.size)) = splice ((c.toList.drop ad.off).take (xs.length * te'.size)) (off * te'.size) cs := by
        exact splice_mid _ _ _ _ _ (by omega) (by omega)
      rw [hlen, e1]
      exact (hn.splice hcs off hoff).mono fun _ _ => Rep.mono hl.im hl.heap

/-- what a copy does -/
theorem run_copy {te : Ty} {tid tid2 ty : TypeId} (hty : TyOK P (.slice te) tid) {base : Option Addr} {dLen dCap : Nat} {x : Value} {ys : List D} (hx : Src P w Im te x ys) :
    ∃ cs, RepN (Rep w Im te) te.size cs (ys.take dLen) ∧ (Builtin.copy_ #[tid, tid2] ty #[.slice base dLen dCap, x]).run P w = ((putNew base 0 cs).run P w).andThen fun _ w' => .ok (goInt ((ys.take dLen).length : Nat)) w' := by
  obtain ⟨_, te', hu, hte⟩ := hty
  obtain ⟨cs, hr, hrun⟩ := hx
  have hl := hrun w rfl
  have hmin : Nat.min ys.length dLen = (ys.take dLen).length := by
    rw [List.length_take]; exact Nat.min_comm _ _
  have hf := hl.2 (Nat.min ys.length dLen) (Nat.min_le_left _ _)
  refine ⟨cs.take (Nat.min ys.length dLen * te.size), ?_, ?_⟩
  · have := hr.take (Nat.min ys.length dLen)
    rwa [hmin, List.length_take, List.take_eq_take_min.symm, ← List.length_take, ← hmin] at this
  · have hadd : ∀ a : Addr, storeCells a (cs.take (Nat.min ys.length dLen * te.size)) = storeCells (a.add 0) (cs.take (Nat.min ys.length dLen * te.size)) := fun a => by
      have : a.add 0 = a := by
        obtain ⟨b, o, s⟩ := a
        cases s with
        | none => rfl
        | some s => rfl
      rw [this]
    unfold Builtin.copy_
    simp only [List.getElem?_toArray, List.getElem?_cons_zero, List.getElem?_cons_succ, Sem.run_bind, run_underlying hu, Result.andThen_ok, hte.base.run_size, hl.1, hf]
    rw [hmin]
    rw [hmin] at hadd
    cases base with
    | none => simp only [putNew, Sem.run_bind, Sem.run_pure, Result.andThen_ok]
    | some a =>
      have h1 := hadd a
      simp only [putNew, ← h1, Sem.run_bind, Sem.run_pure]

theorem take_len_le {α : Type} (l : List α) (n : Nat) : (l.take n).length ≤ n := by rw [List.length_take]; exact Nat.min_le_left _ _

theorem goInt_rel {n : Nat} (h : n ≤ most) : vrel w μ Im (.int .i64 (n : Int)) (goInt (n : Int)) := by
  refine int_rel ?_ ?_
  · have : IntKind.min .i64 = -9223372036854775808 := rfl
    omega
  · have : IntKind.max .i64 = 9223372036854775807 := rfl
    have : most = 9223372036854775807 := rfl
    omega

theorem ok_copy {t t2 : Ty} {tid tid2 ty : TypeId} {sv xv v : V} {s x : Value} {h h' : H} {l l' : Log} (hty : TyOK P t tid) (hR : HRel C (look h.bs) w μ Im) (hs : vrel w μ Im sv s) (hxv : vrel w μ Im xv x)
    (hx : (evCopy t t2 sv xv).exec h l = some (v, h', l')) : h'.next = h.next ∧ ∃ y w', (Builtin.copy_ #[tid, tid2] ty #[s, x]).run P w = .ok y w' ∧ HRel C (look h'.bs) w' μ Im ∧ Later w μ Im w' μ Im ∧ vrel w' μ Im v y := by
  cases t <;> simp only [evCopy] at hx <;> try exact (exec_fail hx).elim
  rename_i te
  replace hx := exec_srcElems (P := P) hR hx hxv
  obtain ⟨h2, ys, l1, hx, hsrc⟩ := hx
  cases sv <;> simp only [copyTo] at hx <;> try exact (exec_fail hx).elim
  case nil =>
    simp only [vrel] at hs; subst hs
    obtain ⟨cs, hcs, hrun⟩ := run_copy (ty := ty) (tid2 := tid2) hty (base := none) (dLen := 0) (dCap := 0) hsrc
    simp only [Prog.exec, Option.some.injEq, Prod.mk.injEq] at hx
    obtain ⟨rfl, rfl, _⟩ := hx
    exact ⟨rfl, _, w, hrun, hR, .refl _ _ _, goInt_rel (n := 0) (by decide)⟩
  case emp =>
    obtain ⟨a, rfl⟩ := hs
    obtain ⟨cs, hcs, hrun⟩ := run_copy (ty := ty) (tid2 := tid2) hty (base := a) (dLen := 0) (dCap := 0) hsrc
    simp only [Prog.exec, Option.some.injEq, Prod.mk.injEq] at hx
    obtain ⟨rfl, rfl, _⟩ := hx
    have hc0 : cs = [] := List.eq_nil_of_length_eq_zero (by simpa using hcs.len)
    subst hc0
    refine ⟨rfl, _, w, hrun.trans ?_, hR, .refl _ _ _, goInt_rel (n := 0) (by decide)⟩
    cases a <;> simp [putNew, storeCells]
  case all t' i len =>
    replace hx := exec_chk hx; obtain ⟨hc, hx⟩ := hx
    rw [Ty.beq_iff] at hc; subst hc
    replace hx := exec_get hx; obtain ⟨b, hb, hx⟩ := hx
    have hbr := hR.blk i b hb
    cases b <;> simp only at hx <;> try exact (exec_fail hx).elim
    rename_i te' xs
    simp only [Prog.exec, Option.some.injEq, Prod.mk.injEq] at hx
    obtain ⟨rfl, rfl, _⟩ := hx
    obtain ⟨a, cap, hm, rfl⟩ := hs
    obtain ⟨a', cap', hm', hr⟩ := hbr
    have hmm := hm
    rw [hm] at hm'
    simp only [Option.some.injEq, Hdl.row.injEq] at hm'
    obtain ⟨rfl, rfl, rfl, rfl⟩ := hm'
    obtain ⟨cs, hcs, hrun⟩ := run_copy (ty := ty) (tid2 := tid2) hty (base := a) (dLen := xs.length) (dCap := cap) hsrc
    have hle := take_len_le ys xs.length
    obtain ⟨w', hw, hR', hl⟩ := write_row hR hb hmm (off := 0) (by omega) hcs (a' := a) (fun hc => by
      obtain ⟨_, _, hz⟩ := hR.ok _ _ hmm
      obtain ⟨ad, rfl, hsp⟩ := hz hc
      simp [addr_add' hsp]
      obtain ⟨_, _, _⟩ := ad
      simp only at hsp; rw [hsp])
    exact ⟨rfl, _, w', by rw [hrun, hw]; rfl, hR', hl, goInt_rel (by have := hr.1; have := hr.2.1; omega)⟩
  case sub t' i off len =>
    replace hx := exec_chk hx; obtain ⟨hc, hx⟩ := hx
    rw [Ty.beq_iff] at hc; subst hc
    replace hx := exec_get hx; obtain ⟨b, hb, hx⟩ := hx
    have hbr := hR.blk i b hb
    cases b <;> simp only at hx <;> try exact (exec_fail hx).elim
    rename_i te' xs
    simp only [Prog.exec, Option.some.injEq, Prod.mk.injEq] at hx
    obtain ⟨rfl, rfl, _⟩ := hx
    obtain ⟨a, L, cap, a1, hm, hlen, hcap, rfl, ha1⟩ := hs
    obtain ⟨a', cap', hm', hr⟩ := hbr
    have hmm := hm
    rw [hm] at hm'
    simp only [Option.some.injEq, Hdl.row.injEq] at hm'
    obtain ⟨rfl, rfl, rfl, rfl⟩ := hm'
    obtain ⟨cs, hcs, hrun⟩ := run_copy (ty := ty) (tid2 := tid2) hty (base := a1) (dLen := len) (dCap := cap - off) hsrc
    have hle := take_len_le ys len
    obtain ⟨w', hw, hR', hl⟩ := write_row hR hb hmm (off := off) (by omega) hcs (a' := a1) ha1
    exact ⟨rfl, _, w', by rw [hrun, hw]; rfl, hR', hl, goInt_rel (by have := hr.1; have := hr.2.1; omega)⟩
  case asl t' i p n off len =>
    replace hx := exec_chk hx; obtain ⟨hc, hx⟩ := hx
    simp only [Bool.and_eq_true, Ty.beq_iff] at hc
    obtain ⟨hc, hn64⟩ := hc
    subst hc
    have hn64' : n ≤ 65536 := Nat.le_of_ble_eq_true hn64
    replace hx := exec_get hx; obtain ⟨b, hb, hx⟩ := hx
    have hbr := hR.blk i b hb
    cases b <;> simp only at hx <;> try exact (exec_fail hx).elim
    rename_i tb' bv
    obtain ⟨b0, tb, o, a, hm, hpl, hlen, rfl, ha'⟩ := hs
    obtain ⟨b1, c, e, f', x0, hm', hh, hfz, hft, hvr, hcc⟩ := hbr
    have hmm := hm
    rw [hm] at hm'
    simp only [Option.some.injEq, Hdl.box.injEq] at hm'
    obtain ⟨rfl, rfl⟩ := hm'
    cases hg : vget bv p with
    | none => simp only [hg] at hx; exact (exec_fail hx).elim
    | some q =>
      obtain ⟨y, hy, hyf, hyc⟩ := vget_rel hvr hft hpl hg
      simp only [hg] at hx
      cases q <;> (try simp only at hx) <;> try exact (exec_fail hx).elim
      rename_i tq d
      cases tq <;> (try simp only at hx) <;> try exact (exec_fail hx).elim
      rename_i n' te'
      simp only [V.fits, Ty.beq_iff] at hyf
      simp only [Ty.arr.injEq] at hyf
      obtain ⟨rfl, rfl⟩ := hyf
      obtain ⟨acs, rfl, ds, rfl, hn, hr⟩ := hy
      rw [cells_mkVal (w := w) (Im := Im) (t := .arr n t') ⟨ds, rfl, hn, hr⟩] at hyc
      obtain ⟨cs, hcs, hrun⟩ := run_copy (ty := ty) (tid2 := tid2) hty (base := some a) (dLen := len) (dCap := n - off) hsrc
      have hle := take_len_le ys len
      have hcl := hcs.len
      have hrl := hr.len
      have hpe := place_le hpl
      have hcz : tb.size = c.size := by rw [← (fits_size hvr hft).1, hcc]; simp
      have hcz' : c.toList.length = c.size := Array.length_toList
      have hm3 : (off + (ys.take len).length) * t'.size ≤ n * t'.size := Nat.mul_le_mul_right _ (by omega)
      rw [Nat.add_mul] at hm3
      simp only [Ty.size] at hpe hyc
      have hsp := hr.splice hcs off (by omega)
      have hrep : Rep w Im (.arr n t') (splice acs (off * t'.size) cs) (.r (splice ds off (ys.take len))) := ⟨_, rfl, by rw [splice_length _ _ _ (by omega)]; exact hn, hsp⟩
      simp only [D.list] at hx
      cases hv : vset bv p (.dat (.arr n t') (.r (splice ds off (ys.take len)))) with
      | none => simp only [hv] at hx; exact (exec_fail hx).elim
      | some v' =>
        simp only [hv, Prog.exec, Option.some.injEq, Prod.mk.injEq] at hx
        obtain ⟨rfl, rfl, _⟩ := hx
        obtain ⟨hf', z, hz, hcz2⟩ := vset_rel hvr hft hpl (q := .dat (.arr n t') (.r (splice ds off (ys.take len)))) (y := mkVal (.arr n t') (splice acs (off * t'.size) cs)) ⟨_, rfl, hrep⟩ (by simp only [V.fits]; exact (Ty.beq_iff _ _).2 rfl) hv
        rw [cells_mkVal hrep, hcc] at hcz2
        rw [hcc] at hyc
        have hss : splice c.toList o (splice acs (off * t'.size) cs) = splice c.toList (o + off * t'.size) cs := by
          rw [hyc, splice_splice c.toList o (n * t'.size) (off * t'.size) cs (by omega) (by omega)]
        rw [hss] at hcz2
        have hgo : ∃ w', (putNew (some a) 0 cs).run P w = .ok () w' ∧ HRel C (look ((i, .box tb v') :: h.bs)) w' μ Im ∧ Later w μ Im w' μ Im := by
          by_cases h0 : (ys.take len).length = 0
          · have hc0 : cs = [] := List.eq_nil_of_length_eq_zero (by rw [hcl, h0, Nat.zero_mul])
            subst hc0
            refine ⟨w, by simp [putNew, storeCells], ?_⟩
            rw [splice_nil] at hcz2
            refine hR.write hb rfl hmm ⟨rfl, fun _ _ => rfl, rfl, rfl, rfl⟩ _ (fun j => by rw [look_cons]) rfl fun him => ?_
            exact ⟨b0, c, e, f', z, hmm, hh, hfz, hf', hz, hcz2⟩
          · rw [ha' (by omega)]
            simp only [putNew, addr_add, Nat.add_zero]
            have hst := run_storeCells_free (P := P) (o := o + off * t'.size) cs 0 c w hh hfz (by omega) (Rep.one.go t' _ cs hcs)
            refine ⟨_, hst, ?_⟩
            refine hR.write hb rfl hmm (chg_setRow w b0 _) _ (fun j => by rw [look_cons]) rfl fun him => ?_
            have hl : Later w μ Im (w.setRow b0 (splice c.toList (o + off * t'.size + 0) cs).toArray) μ Im := ⟨fun _ _ h => h, fun _ h => h, him⟩
            refine ⟨b0, _, e, f', z, hmm, setRow_heap w b0 c _ e f' hh, hfz.congr ?_, hf', hz.later hl, by rw [hcz2]; simp⟩
            rw [List.size_toArray, splice_length _ _ _ (by omega)]; exact hcz'
        obtain ⟨w', hw, hR', hl⟩ := hgo
        refine ⟨rfl, _, w', by rw [hrun, hw]; rfl, hR', hl, goInt_rel ?_⟩
        have : most = 9223372036854775807 := rfl
        omega

end
end Go.Ev

/- Len, min and max, conversions. -/
namespace Go.Ev
open Go

section
variable {P : Program} {C : Cx} {w : World} {μ : Mu} {Im : Nat → Prop}

theorem MapRel.len {kt vt : Ty} : ∀ {l : List MapEntry} {es : List (D × D)}, MapRel w Im kt vt l es → es.length = l.length
  | [], _, h => by simp only [MapRel] at h; subst h; rfl
  | _ :: _, _, ⟨_, _, _, h, _, _, hr⟩ => by subst h; simp [hr.len]

theorem slice_len {v : V} {x : Value} {n : Int} (hR : ∀ i k, μ i = some k → k.ok) (hn : v.len = some n) (hv : vrel w μ Im v x) : ∃ a m c, x = .slice a m c ∧ n = (m : Int) ∧ m ≤ c ∧ (m ≤ most ∨ ∃ t i p k off, v = .asl t i p k off m) := by
  cases v <;> simp only [V.len] at hn <;> (try simp at hn)
  case dat t d =>
    cases t <;> simp at hn
    subst hn
    obtain ⟨cs, rfl, a, len, cap, ds, rfl, rfl, hl, hlc, hcm, hz⟩ := hv
    exact ⟨a, len, cap, rfl, by simp [D.list, hl], hlc, .inl (by omega)⟩
  case nil => subst hn; simp only [vrel] at hv; exact ⟨_, _, _, hv, rfl, by omega, .inl (by decide)⟩
  case emp => subst hn; obtain ⟨a, rfl⟩ := hv; exact ⟨_, _, _, rfl, rfl, by omega, .inl (by decide)⟩
  case all t i len =>
    subst hn
    obtain ⟨a, cap, hm, rfl⟩ := hv
    have := hR _ _ hm
    exact ⟨_, _, _, rfl, rfl, this.1, .inl (Nat.le_trans this.1 this.2.1)⟩
  case sub t i off len =>
    subst hn
    obtain ⟨a, L, cap, a1, hm, hlen, hcap, rfl, ha1⟩ := hv
    have := hR _ _ hm
    exact ⟨_, _, _, rfl, rfl, by omega, .inl (by have := this.2.1; omega)⟩
  case asl t i p n off len =>
    subst hn
    obtain ⟨b0, tb, o, a, hm, hpl, hlen, rfl, ha'⟩ := hv
    exact ⟨_, _, _, rfl, rfl, by omega, .inr ⟨_, _, _, _, _, rfl⟩⟩

theorem ok_len {E : Env} (hE : ∀ t ty, E.ty t = some ty → TyOK P ty t) {ts : List TypeId} {ty : TypeId} {xv v : V} {x : Value} {h h' : H} {l l' : Log} (hR : HRel C (look h.bs) w μ Im) (hv : vrel w μ Im xv x)
    (hx : (evBuiltin E .len ts [xv]).exec h l = some (v, h', l')) : h' = h ∧ ∃ y, (Builtin.len_ ts.toArray ty #[x]).run P w = .ok y w ∧ vrel w μ Im v y := by
  simp only [evBuiltin] at hx
  cases ts with
  | nil => simp only at hx; exact (exec_fail hx).elim
  | cons t r =>
    cases r with
    | cons _ _ => simp only at hx; exact (exec_fail hx).elim
    | nil =>
      simp only at hx
      cases he : E.ty t with
      | none => simp only [he] at hx; exact (exec_fail hx).elim
      | some ty' =>
        have hty := hE _ _ he
        simp only [he] at hx
        cases ty' <;> (try simp only at hx) <;> try exact (exec_fail hx).elim
        case str =>
          cases xv <;> (try simp only at hx) <;> try exact (exec_fail hx).elim
          rename_i t' d
          cases t' <;> (try simp only at hx) <;> try exact (exec_fail hx).elim
          cases d <;> (try simp only at hx) <;> try exact (exec_fail hx).elim
          rename_i bs
          obtain ⟨s, rfl, rfl, hs⟩ := dat_str hv
          simp only [Prog.exec, Option.some.injEq, Prod.mk.injEq] at hx
          obtain ⟨rfl, rfl, _⟩ := hx
          have h2 := hty.2
          refine ⟨rfl, goInt (s.size : Int), by simp [Builtin.len_, run_underlying h2], ?_⟩
          have := goInt_rel (w := w) (μ := μ) (Im := Im) hs
          rwa [Lib.size_eq] at this ⊢
        case arr n te =>
          replace hx := exec_chk hx; obtain ⟨hc, hx⟩ := hx
          have hc' : n ≤ 65536 := Nat.le_of_ble_eq_true hc
          simp only [Prog.exec, Option.some.injEq, Prod.mk.injEq] at hx
          obtain ⟨rfl, rfl, _⟩ := hx
          obtain ⟨_, te', hu, _⟩ := hty
          exact ⟨rfl, goInt (n : Int), by simp [Builtin.len_, run_underlying hu], goInt_rel (by have : most = 9223372036854775807 := rfl; omega)⟩
        case slice te =>
          cases hl : xv.len with
          | none => simp only [hl] at hx; exact (exec_fail hx).elim
          | some n =>
            obtain ⟨_, te', hu, _⟩ := hty
            obtain ⟨a, m, c, rfl, rfl, hmc, hm⟩ := slice_len hR.ok hl hv
            simp only [hl] at hx
            replace hx := exec_chk hx; obtain ⟨hc, hx⟩ := hx
            simp only [Prog.exec, Option.some.injEq, Prod.mk.injEq] at hx
            obtain ⟨rfl, rfl, _⟩ := hx
            refine ⟨rfl, goInt (m : Int), by simp [Builtin.len_, run_underlying hu], goInt_rel ?_⟩
            rcases hm with hm | ⟨t, i, p, k, off, rfl⟩
            · exact hm
            · have hc' : k ≤ 65536 := Nat.le_of_ble_eq_true hc
              obtain ⟨b0, tb, o, a, hm, hpl, hlen, _, ha'⟩ := hv
              have : most = 9223372036854775807 := rfl
              omega
        case map kt vt =>
          obtain ⟨_, kt', vt', hu, _, _⟩ := hty
          cases xv <;> (try simp only at hx) <;> try exact (exec_fail hx).elim
          case map i =>
            replace hx := exec_get hx; obtain ⟨b, hb, hx⟩ := hx
            have hbr := hR.blk i b hb
            cases b <;> (try simp only at hx) <;> try exact (exec_fail hx).elim
            replace hx := exec_need hx; obtain ⟨hc, hx⟩ := hx
            simp only [Prog.exec, Option.some.injEq, Prod.mk.injEq] at hx
            obtain ⟨rfl, rfl, _⟩ := hx
            obtain ⟨r, ents, clock, hm, hh, hmr⟩ := hbr
            obtain ⟨r', hm', rfl⟩ := hv
            rw [hm] at hm'
            simp only [Option.some.injEq, Hdl.map.injEq] at hm'
            subst hm'
            refine ⟨rfl, goInt (ents.size : Int), by simp [Builtin.len_, run_underlying hu, MapKept.run_getObj_map hh], ?_⟩
            have hl := hmr.len
            have hc' := of_decide_eq_true hc
            rw [hl] at hc' ⊢
            have he : ents.toList.length = ents.size := Array.length_toList
            rw [he] at hc' ⊢
            exact goInt_rel (by have : mostElems = 4294967296 := rfl; have : most = 9223372036854775807 := rfl; omega)
          case nilm =>
            simp only [Prog.exec, Option.some.injEq, Prod.mk.injEq] at hx
            obtain ⟨rfl, rfl, _⟩ := hx
            simp only [vrel] at hv; subst hv
            exact ⟨rfl, goInt 0, by simp [Builtin.len_, run_underlying hu], goInt_rel (n := 0) (by decide)⟩

theorem run_min2 (k k' : IntKind) (a b : Int) : Builtin.min2 (.int k a) (.int k' b) = pure (.int k (if b < a then b else a)) := rfl
theorem run_max2 (k k' : IntKind) (a b : Int) : Builtin.max2 (.int k a) (.int k' b) = pure (.int k (if b > a then b else a)) := rfl

theorem ok_min {mx : Bool} {v : V} {h h' : H} {l l' : Log} : ∀ {xs : List V} {xv : V} {x : Value} {ys : List Value}, vrel w μ Im xv x → vrels w μ Im xs ys → (evMin mx xv xs).exec h l = some (v, h', l') →
    h' = h ∧ ∃ y, (ys.foldlM (if mx then Builtin.max2 else Builtin.min2) x).run P w = .ok y w ∧ vrel w μ Im v y
  | [], xv, x, ys, hv, hvs, hx => by
    simp only [vrels] at hvs; subst hvs
    simp only [evMin, Prog.exec, Option.some.injEq, Prod.mk.injEq] at hx
    obtain ⟨rfl, rfl, _⟩ := hx
    exact ⟨rfl, x, by simp [Sem.run_pure], hv⟩
  | u :: xs, xv, x, ys, hv, hvs, hx => by
    obtain ⟨y, ys', rfl, hu, hvs⟩ := hvs
    unfold evMin at hx
    split at hx
    · rename_i heq; simp at heq
    · rename_i k a k' b r heq
      obtain ⟨rfl, rfl⟩ := (List.cons.injEq _ _ _ _).mp heq
      replace hx := exec_chk hx; obtain ⟨hc, hx⟩ := hx
      have hk := of_decide_eq_true hc; subst hk
      obtain ⟨rfl, ha0, ha1⟩ := dat_int hv
      obtain ⟨rfl, hb0, hb1⟩ := dat_int hu
      cases mx with
      | true =>
        simp only at hx
        have := ok_min (x := .int k (if a < b then b else a)) (int_rel (by split <;> assumption) (by split <;> assumption)) hvs hx
        simpa [run_max2] using this
      | false =>
        simp only at hx
        have := ok_min (x := .int k (if b < a then b else a)) (int_rel (by split <;> assumption) (by split <;> assumption)) hvs hx
        simpa [run_min2] using this
    · exact (exec_fail hx).elim

end
end Go.Ev

/- Conversions, makeSlice, buildSlice. -/
namespace Go.Ev
open Go

section
variable {P : Program} {C : Cx} {w : World} {μ : Mu} {Im : Nat → Prop}

theorem Grows.same {h : H} (hR : HRel C (look h.bs) w μ Im) {v : V} {y : Value} (hv : vrel w μ Im v y) : ∃ w' μ', w' = w ∧ Grows C h h w μ Im w' μ' Im ∧ vrel w' μ' Im v y := ⟨w, μ, rfl, .refl hR, hv⟩

theorem byte_push : ∀ (ns : List Int) (s : ByteArray), (ns.foldl (fun r n => r.push (UInt8.ofNat n.toNat)) s).data.toList = s.data.toList ++ ns.map fun n => UInt8.ofNat n.toNat
  | [], s => by simp
  | n :: ns, s => by
    rw [List.foldl_cons, byte_push ns]
    simp [ByteArray.push]

theorem bytes_ints : ∀ {ys : List D} {cs : List Value}, RepN (Rep w Im (.int .u8)) 1 cs ys → ∃ ns : List Int, cs = ns.map (Value.int .u8) ∧ ys = ns.map D.i
  | [], cs, h => by simp only [RepN] at h; subst h; exact ⟨[], rfl, rfl⟩
  | d :: ys, cs, ⟨hl, ⟨n, hc, hd, _⟩, hr⟩ => by
    obtain ⟨ns, h1, h2⟩ := bytes_ints hr
    refine ⟨n :: ns, ?_, by rw [hd, h2]; rfl⟩
    rw [← List.take_append_drop 1 cs, hc, h1]; rfl

theorem run_bts {a : Option Addr} {m c : Nat} {ys : List D} (hs : Src P w Im (.int .u8) (.slice a m c) ys) :
    ∃ s : ByteArray, (Conv.bytesToString (.slice a m c)).run P w = .ok (.string s) w ∧ s.data.toList = ys.map byteOf ∧ ys.length = m := by
  obtain ⟨cs, hr, hrun⟩ := hs
  have hl := hr.len
  simp only [Ty.size, Nat.mul_one] at hl
  obtain ⟨hlen, hf⟩ := hrun w rfl
  have hm : m = ys.length := by
    simp only [Builtin.lenOf, Sem.run_pure] at hlen
    simpa using hlen
  have hf := hf m (by omega)
  obtain ⟨ns, hc, hy⟩ := bytes_ints hr
  simp only [Ty.size, Nat.mul_one] at hf
  rw [List.take_of_length_le (by omega)] at hf
  cases a with
  | none =>
    simp only [Builtin.firstCells, Sem.run_pure] at hf
    have h0 : cs = [] := by simpa using hf
    have hy0 : ys = [] := List.eq_nil_of_length_eq_zero (by rw [← hl, h0]; rfl)
    refine ⟨.empty, rfl, by rw [hy0]; rfl, hm.symm⟩
  | some a =>
    have h1 : (loadCells a m).run P w = .ok (ns.map (Value.int .u8)).toArray w := by
      rw [← hc]
      simpa [Builtin.firstCells] using hf
    refine ⟨_, run_bytesToString w a m c ns h1, ?_, hm.symm⟩
    rw [byte_push, hy]
    simp [byteOf, D.int, Function.comp_def]

theorem elems_slice {xv : V} {x : Value} {f : List D → Prog V} {h : H} {l : Log} {r : V × H × Log} (hR : HRel C (look h.bs) w μ Im) (hx : (elems xv f).exec h l = some r) (hv : vrel w μ Im xv x) :
    ∃ a m c, x = .slice a m c ∧ (m ≤ most ∨ ∃ t i p k off, xv = .asl t i p k off m ∧ m ≤ k) := by
  have : ∃ n, xv.len = some n := by
    cases xv <;> simp only [elems] at hx <;> (try exact (exec_fail hx).elim) <;> (try exact ⟨_, rfl⟩)
    rename_i t d
    cases t <;> simp only at hx <;> (try exact (exec_fail hx).elim)
    exact ⟨_, rfl⟩
  obtain ⟨n, hn⟩ := this
  obtain ⟨a, m, c, rfl, rfl, hmc, hm⟩ := slice_len hR.ok hn hv
  refine ⟨a, m, c, rfl, hm.imp id ?_⟩
  rintro ⟨t, i, p, k, off, rfl⟩
  obtain ⟨b0, tb, o, a, hm, hpl, hlen, _, ha'⟩ := hv
  exact ⟨t, i, p, k, off, rfl, by omega⟩

theorem ok_convert {s d : Ty} {sid did : TypeId} {xv v : V} {x : Value} {h h' : H} {l l' : Log} (hs : TyOK P s sid) (hd : TyOK P d did) (hR : HRel C (look h.bs) w μ Im) (hfr : ∀ i, h.next ≤ i → i < h'.next → μ i = none) (hv : vrel w μ Im xv x)
    (hx : (evConvert s d xv).exec h l = some (v, h', l')) : ∃ y w' μ', (convert sid did x).run P w = .ok y w' ∧ Grows C h h' w μ Im w' μ' Im ∧ vrel w' μ' Im v y := by
  unfold evConvert at hx
  split at hx
  · rename_i k0 k k1 n
    simp only [Prog.exec, Option.some.injEq, Prod.mk.injEq] at hx
    obtain ⟨rfl, rfl, _⟩ := hx
    obtain ⟨rfl, _, _⟩ := dat_int hv
    refine ⟨.int k (k.wrap n), w, μ, ?_, .refl hR, wrap_rel k n⟩
    have h1 := hs.2
    have h2 := hd.2
    simp [convert, run_underlying h1, run_underlying h2, Conv.intToInt]
  · rename_i dd
    simp only [Prog.exec, Option.some.injEq, Prod.mk.injEq] at hx
    obtain ⟨rfl, rfl, _⟩ := hx
    have hv' := hv
    obtain ⟨cs, rfl, bs, rfl, rfl, hle⟩ := hv
    have h1 := hs.2
    have h2 := hd.2
    exact ⟨_, w, μ, by simp [convert, run_underlying h1, run_underlying h2, mkVal, Ty.isAgg], .refl hR, hv'⟩
  · rename_i xv
    replace hx := exec_chk hx; obtain ⟨hc, hx⟩ := hx
    simp only [Bool.and_eq_true] at hc
    obtain ⟨a, m, c, rfl, hm⟩ := elems_slice hR hx hv
    obtain ⟨ys, l1, hx, hsrc⟩ := exec_elems (P := P) hR hx hv hc.1
    simp only [Prog.exec, Option.some.injEq, Prod.mk.injEq] at hx
    obtain ⟨rfl, rfl, _⟩ := hx
    obtain ⟨st, hrun, hst, hlen⟩ := run_bts hsrc
    obtain ⟨_, te, hu, hte⟩ := hs
    have h2 := hd.2
    have h3 := hte.2
    refine ⟨.string st, w, μ, by rw [run_convert_bytes_string w sid did te a m c hu h3 h2]; exact hrun, .refl hR, [.string st], rfl, st, rfl, by rw [hst], ?_⟩
    have hsz : st.size = m := by rw [Lib.size_eq, hst, List.length_map, hlen]
    rw [hsz]
    rcases hm with hm | ⟨t, i, p, k, off, rfl, hk⟩
    · exact hm
    · have hc' : k ≤ 65536 := Nat.le_of_ble_eq_true hc.2
      have : most = 9223372036854775807 := rfl
      omega
  · rename_i bs
    replace hx := exec_need hx; obtain ⟨hc, hx⟩ := hx
    have hc := of_decide_eq_true hc
    simp only [Prog.exec, Option.some.injEq, Prod.mk.injEq] at hx
    obtain ⟨rfl, rfl, _⟩ := hx
    obtain ⟨st, rfl, rfl, hst⟩ := dat_str hv
    obtain ⟨_, te, hu, hte⟩ := hd
    have hrun := run_bytes_of_string (P := P) w sid did te st hs.2 hu hte.2
    have hge := grownCap_ge w st.size 0 te
    have hsz := Lib.size_eq st
    have hmm : mostElems = 4294967296 := rfl
    have hcm : grownCap w st.size 0 te ≤ maxLen := grownCap_le_maxLen w _ 0 te (by unfold maxLen; omega)
    have hmx : maxLen = most := by decide
    have hbl : (bytesRow st (grownCap w st.size 0 te)).toList = st.data.toList.map (fun b => Value.int .u8 (b.toNat : Int)) ++ List.replicate (grownCap w st.size 0 te - st.size) (.int .u8 0) := by
      simp [bytesRow]
    have hbz : (bytesRow st (grownCap w st.size 0 te)).size = grownCap w st.size 0 te := by
      rw [← Array.length_toList, hbl]; simp only [List.length_append, List.length_map, List.length_replicate]; omega
    have hlm : (st.data.toList.map ofByte).length = st.size := by rw [List.length_map]; exact hsz.symm
    have hnew := new_row hR (hfr _ (Nat.le_refl _) (Nat.lt_succ_self _)) (t := .int .u8) (xs := st.data.toList.map ofByte) (a := some ⟨w.heap.size, 0, none⟩) (cap := grownCap w st.size 0 te)
      (w' := w.drew.alloc (.cells (bytesRow st (grownCap w st.size 0 te)) te ((bytesRow st (grownCap w st.size 0 te)).size, (bytesRow st (grownCap w st.size 0 te)).size + 1))) (by simp)
      (fun y hy => heap_alloc_old w.drew _ y hy) rfl rfl rfl (fun y hy => by
        simp only [Hdl.blk] at hy
        split at hy
        · simp at hy
        · simp only [Option.some.injEq] at hy; subst hy; simp)
      ⟨by rw [hlm]; exact hge, by omega, .inr ⟨⟨w.heap.size, 0, none⟩, _, te, _, rfl, rfl, heap_alloc_new w.drew _, fun j hj => by simp only; omega, by simp only [Ty.size, Nat.mul_one, Nat.zero_add]; omega, by
        simp only [Ty.size, Nat.mul_one, List.drop_zero]
        rw [hbl, hlm, List.take_append_of_le_length (by rw [List.length_map]; omega), List.take_of_length_le (by rw [List.length_map]; omega)]
        exact bytes_rep _⟩⟩
    obtain ⟨μ', hg, hvr⟩ := hnew
    rw [hlm] at hvr
    refine ⟨_, _, μ', hrun, hg, ?_⟩
    rw [← hsz]; exact hvr
  · exact (exec_fail hx).elim

theorem made_list {z : Array Value} (hz : 0 < z.size) : ∀ m : Nat, (madeCells z (m * z.size)).toList = (List.replicate m z.toList).flatten
  | 0 => by simp [madeCells]
  | m + 1 => by
    have ih := made_list hz m
    simp only [madeCells, Array.toList_map, Array.toList_range] at ih ⊢
    rw [Nat.succ_mul, Nat.add_comm, List.range_add, List.map_append, List.map_map, List.replicate_succ, List.flatten_cons, ← ih]
    congr 1
    · apply List.ext_getElem
      · simp
      · intro i h1 h2
        have hi : i < z.size := by simpa using h2
        simp only [List.getElem_map, List.getElem_range, Nat.mod_eq_of_lt hi]
        rw [getElem!_pos z i hi]; simp
    · apply List.map_congr_left
      intro i _
      simp [Nat.add_mod_left]

theorem zcells_val (te : Ty) : (mkVal te (zcells te)).cells.size = te.size ∧ (mkVal te (zcells te)).cells.toList = zcells te := by
  have h1 := cells_zero te
  refine ⟨?_, h1⟩
  rw [← Array.length_toList, show (mkVal te (zcells te)).cells.toList = zcells te from h1, zcells_len]

theorem made_zero {te : Ty} (hs : te.size ≠ 0) (n : Nat) : (madeCells (mkVal te (zcells te)).cells (n * te.size)).toList = (List.replicate n (zcells te)).flatten := by
  obtain ⟨h1, h2⟩ := zcells_val te
  have := made_list (z := (mkVal te (zcells te)).cells) (by omega) n
  rw [h1, h2] at this
  exact this

theorem ok_makeSlice {t : Ty} {tid : TypeId} {lv cv v : V} {len cap : Value} {h h' : H} {l l' : Log} (hty : TyOK P t tid) (hR : HRel C (look h.bs) w μ Im) (hfr : ∀ i, h.next ≤ i → i < h'.next → μ i = none) (hl : vrel w μ Im lv len) (hc : vrel w μ Im cv cap)
    (hx : (evMakeSlice t lv cv).exec h l = some (v, h', l')) : ∃ y w' μ', (Instr.makeSlice tid len cap).run P w = .ok y w' ∧ Grows C h h' w μ Im w' μ' Im ∧ vrel w' μ' Im v y := by
  unfold evMakeSlice at hx
  split at hx
  · rename_i te n c hn hcn
    replace hx := exec_chk hx; obtain ⟨hk, hx⟩ := hx
    simp only [Bool.and_eq_true] at hk
    obtain ⟨hpure, h512⟩ := hk
    have h512' : te.size ≤ 512 := Nat.le_of_ble_eq_true h512
    replace hx := exec_need hx; obtain ⟨hb, hx⟩ := hx
    simp only [Bool.and_eq_true, decide_eq_true_eq] at hb
    obtain ⟨⟨h0, h1⟩, h2⟩ := hb
    simp only [Prog.exec, Option.some.injEq, Prod.mk.injEq] at hx
    obtain ⟨rfl, rfl, _⟩ := hx
    obtain ⟨kl, rfl⟩ := V.num_rel hn hl
    obtain ⟨kc, rfl⟩ := V.num_rel hcn hc
    obtain ⟨_, te', hu, hte⟩ := hty
    obtain ⟨i, hi, hsz, hz, hby, hne⟩ := hte.base.ex
    have hmm : (mostElems : Int) = 4294967296 := rfl
    have hbytes : (i.bytes : Int) * c ≤ 281474976710656 := by
      have e1 : i.bytes * c.toNat ≤ 12288 * 4294967296 := Nat.mul_le_mul (by omega) (by omega)
      have e2 : ((i.bytes * c.toNat : Nat) : Int) = (i.bytes : Int) * c := by rw [Int.natCast_mul, Int.toNat_of_nonneg (by omega)]
      omega
    have hrun := run_make (P := P) w tid te' i _ hu hi hz kl kc n c h0 h1 hbytes (by omega)
    have hlm : (List.replicate n.toNat te.zeroD).length = n.toNat := List.length_replicate
    have hnc : n.toNat ≤ c.toNat := by omega
    have hnew := new_row hR (hfr _ (Nat.le_refl _) (Nat.lt_succ_self _)) (t := te) (xs := List.replicate n.toNat te.zeroD) (a := some ⟨w.heap.size, 0, none⟩) (cap := c.toNat)
      (w' := w.alloc (.cells (madeCells (mkVal te (zcells te)).cells (c.toNat * i.size)) te')) (by simp)
      (fun y hy => heap_alloc_old w _ y hy) rfl rfl rfl (fun y hy => by
        simp only [Hdl.blk] at hy
        split at hy
        · simp at hy
        · simp only [Option.some.injEq] at hy; subst hy; simp)
      (rowAt_alloc (by rw [hlm]; exact hnc) (by have : most = 9223372036854775807 := rfl; omega) (by rw [size_madeCells, hsz]; exact Nat.le_refl _) (by
        rw [hsz, made_zero hne, hlm]
        have e1 : (List.replicate c.toNat (zcells te)).flatten = (List.replicate n.toNat (zcells te)).flatten ++ (List.replicate (c.toNat - n.toNat) (zcells te)).flatten := by
          rw [← List.flatten_append, List.replicate_append_replicate]; congr 2; omega
        have e2 : (List.replicate n.toNat (zcells te)).flatten.length = n.toNat * te.size := by
          rw [List.length_flatten, List.map_replicate, List.sum_replicate_nat, zcells_len]
        rw [e1, List.take_append_of_le_length (by omega), List.take_of_length_le (by omega)]
        exact RepN.replicate (zero_rep hpure) (zcells_len te) _) fun y hy => (hR.im y hy).1)
    obtain ⟨μ', hg, hvr⟩ := hnew
    rw [hlm] at hvr
    exact ⟨_, _, μ', hrun, hg, hvr⟩
  · exact (exec_fail hx).elim

end
end Go.Ev

/- Slice literals and maps. -/
namespace Go.Ev
open Go

section
variable {P : Program} {C : Cx} {w : World} {μ : Mu} {Im : Nat → Prop}

theorem exec_pureAll : ∀ {ts : List Ty} {vs : List V} {acc : List D} {f : List D → Prog V} {h : H} {l : Log} {r : V × H × Log} {Im : Nat → Prop}, (pureAll ts vs acc f).exec h l = some r → HRel C (look h.bs) w μ Im →
    ∀ {xs : List Value}, vrels w μ Im vs xs → ∃ h2 l2 Im' ds, (f (acc ++ ds)).exec h2 l2 = some r ∧ HRel C (look h2.bs) w μ Im' ∧ Later w μ Im w μ Im' ∧ h2.next = h.next ∧ Reps w Im' ts (flat xs) ds
  | [], [], acc, f, h, l, r, Im, hx, hR, xs, hv => by
    simp only [vrels] at hv; subst hv
    simp only [pureAll] at hx
    exact ⟨h, l, Im, [], by simpa using hx, hR, .refl _ _ _, rfl, rfl, rfl⟩
  | [], _ :: _, acc, f, h, l, r, Im, hx, hR, xs, hv => by simp only [pureAll] at hx; exact (exec_fail hx).elim
  | _ :: _, [], acc, f, h, l, r, Im, hx, hR, xs, hv => by simp only [pureAll] at hx; exact (exec_fail hx).elim
  | t :: ts, v :: vs, acc, f, h, l, r, Im, hx, hR, xs, hv => by
    obtain ⟨x, xs', rfl, hv, hvs⟩ := hv
    simp only [pureAll] at hx
    obtain ⟨d, new, l1, hx, _, hab⟩ := exec_abD hR hx hv
    simp only [List.append_nil] at hx
    obtain ⟨h2, l2, Im', hx, hR2, hl2, hn2, hlk, hfr, _⟩ := exec_freezeAll hx hR
    have hrep : Rep w Im' t (cellsOf x) d := hab.2 Im' hl2.im fun j hj k y hk hy => by
      obtain ⟨te, xs, hh⟩ := hab.1 j hj
      exact hfr j hj te xs hh k y hk hy
    obtain ⟨h3, l3, Im3, ds, hx, hR3, hl3, hn3, hr3⟩ := exec_pureAll hx hR2 (hvs.later hl2)
    refine ⟨h3, l3, Im3, d :: ds, by simpa [vapp_eq] using hx, hR3, hl2.trans hl3, by omega, d, ds, rfl, ?_⟩
    have hlen := hrep.len
    refine ⟨by simp [flat, hlen], ?_, ?_⟩
    · simp only [flat, List.flatMap_cons]
      rw [List.take_append_of_le_length (by omega), List.take_of_length_le (by omega)]
      exact hrep.mono hl3.im fun _ _ => rfl
    · simp only [flat, List.flatMap_cons]
      rw [List.drop_append_of_le_length (by omega), List.drop_of_length_le (by omega)]
      exact hr3

theorem ok_buildSlice {t : Ty} {tid : TypeId} {n : Nat} {ps : List (Nat × V)} {qs : Array (Nat × Value)} {v : V} {h h' : H} {l l' : Log} (hty : TyOK P t tid) (hR : HRel C (look h.bs) w μ Im) (hfr : ∀ i, h.next ≤ i → i < h'.next → μ i = none) (hp : prel w μ Im ps qs.toList)
    (hx : (evBuildSlice t n ps).exec h l = some (v, h', l')) : ∃ y w' μ' Im', (Instr.buildSlice tid n qs).run P w = .ok y w' ∧ Grows C h h' w μ Im w' μ' Im' ∧ vrel w' μ' Im' v y := by
  cases t <;> simp only [evBuildSlice] at hx <;> try exact (exec_fail hx).elim
  rename_i te
  replace hx := exec_chk hx; obtain ⟨hc, hx⟩ := hx
  simp only [Bool.and_eq_true] at hc
  obtain ⟨hfit, hsmall⟩ := hc
  have hsmall' : n * te.size ≤ 65536 := Nat.le_of_ble_eq_true hsmall
  cases hput : putParts (vrep n te) (vrep n te.zeroV) ps with
  | none => simp only [hput] at hx; exact (exec_fail hx).elim
  | some vs =>
    simp only [hput] at hx
    obtain ⟨_, te', hu, hte⟩ := hty
    obtain ⟨ie, hie, hse, hz, hby, hne⟩ := hte.base.ex
    obtain ⟨xs', cells', h1, h2, h3, h4⟩ := fill_rel (w := w) (μ := μ) (Im := Im) (pl := fun i => some (i * te.size, te.size)) (ts := vrep n te) (fun k t ht => by
        obtain ⟨rfl, hk⟩ := vnth_vrep ht
        rw [offs_vrep t hk]) (cells := madeCells (mkVal te (zcells te)).cells (n * te.size)) hp (allFit_vrep hfit n) (vrels_vrep (zeroV_rel te) n) (by rw [made_zero hne]; simp [flat_replicate, cells_zero]) hput
    obtain ⟨h2', l2, Im', ds, hx, hR2, hl2, hn2, hr2⟩ := exec_pureAll hx hR h3
    simp only [List.nil_append, Prog.exec, Option.some.injEq, Prod.mk.injEq] at hx
    obtain ⟨rfl, rfl, _⟩ := hx
    obtain ⟨hdl, hdn⟩ := Reps_vrep hr2
    have hrun : (Instr.buildSlice tid n qs).run P w = .ok (.slice (some ⟨w.heap.size, 0, none⟩) n n) (w.alloc (.cells cells' te')) := by
      by_cases h0 : n * ie.size = 0
      · have hn0 : n = 0 := by
          rcases Nat.mul_eq_zero.1 h0 with h | h
          · exact h
          · omega
        subst hn0
        have e1 : (#[] : Array Value) = madeCells (mkVal te (zcells te)).cells (0 * te.size) := by simp [madeCells]
        rw [← e1] at h1
        have e2 : (Array.map (fun x => (default : Value)) (Array.range 0)) = #[] := by simp
        simp [Instr.buildSlice, run_underlying hu, sizeOf, typeInfo, hie, hse, newRow]
        rw [e2, h1]
        simp
      · exact run_buildSlice w tid te' n qs cells' ie _ hu hie hz (by rw [hse]; omega) h0 (by rw [hse]; exact h1)
    have hcl := hdn.len
    have hnew := new_row hR2 (hfr _ (by omega) (Nat.lt_succ_self _)) (t := te) (xs := ds) (a := some ⟨w.heap.size, 0, none⟩) (cap := n) (w' := w.alloc (.cells cells' te')) (by simp)
      (fun y hy => heap_alloc_old w _ y hy) rfl rfl rfl (fun y hy => by
        simp only [Hdl.blk] at hy
        split at hy
        · simp at hy
        · simp only [Option.some.injEq] at hy; subst hy; simp)
      (rowAt_alloc (by omega) (by
        have : n * 1 ≤ n * te.size := Nat.mul_le_mul_left _ (by omega)
        have : most = 9223372036854775807 := rfl
        omega) (by rw [← Array.length_toList, h4, hcl, hdl]; exact Nat.le_refl _) (by rw [h4, List.take_of_length_le (by omega)]; exact hdn) fun y hy => (hR2.im y hy).1)
    obtain ⟨μ', hg, hvr⟩ := hnew
    rw [hdl] at hvr
    refine ⟨_, _, μ', Im', hrun, ⟨hg.rel, hl2.trans hg.later, by have := hg.next; omega, fun i hi hi' => by have := hg.ids i hi hi'; omega⟩, hvr⟩

/-! ### Maps -/

theorem key_desc {kt : Ty} {tk : TypeId} (hty : TyOK P kt tk) (hk : kt.key = true) {c : Value} {d : D} (hr : Rep w Im kt [c] d) : ∃ ds, P.underlying tk = some ds ∧ MapKept.IsKey ds c := by
  cases kt <;> simp [Ty.key] at hk
  case int k =>
    obtain ⟨n, hc, _⟩ := hr
    simp only [List.cons.injEq, and_true] at hc; subst hc
    exact ⟨_, hty.2, rfl⟩
  case bool =>
    obtain ⟨n, hc, _⟩ := hr
    simp only [List.cons.injEq, and_true] at hc; subst hc
    exact ⟨_, hty.2, trivial⟩
  case str =>
    obtain ⟨n, hc, _⟩ := hr
    simp only [List.cons.injEq, and_true] at hc; subst hc
    exact ⟨_, hty.2, trivial⟩

theorem key_eq {kt : Ty} (hk : kt.key = true) {c c' : Value} {d d' : D} (hr : Rep w Im kt [c] d) (hr' : Rep w Im kt [c'] d') : c = c' ↔ d = d' := by
  cases kt <;> simp [Ty.key] at hk
  case int k =>
    obtain ⟨n, hc, rfl, _⟩ := hr
    obtain ⟨n', hc', rfl, _⟩ := hr'
    simp only [List.cons.injEq, and_true] at hc hc'; subst hc; subst hc'
    simp
  case bool =>
    obtain ⟨n, hc, rfl⟩ := hr
    obtain ⟨n', hc', rfl⟩ := hr'
    simp only [List.cons.injEq, and_true] at hc hc'; subst hc; subst hc'
    simp
  case str =>
    obtain ⟨n, hc, rfl, _⟩ := hr
    obtain ⟨n', hc', rfl, _⟩ := hr'
    simp only [List.cons.injEq, and_true] at hc hc'; subst hc; subst hc'
    constructor
    · intro e; rw [Value.string.inj e]
    · intro e
      obtain ⟨⟨a⟩⟩ := n
      obtain ⟨⟨b⟩⟩ := n'
      simp only [D.s.injEq] at e
      subst e; rfl

theorem find_rel {kt vt : Ty} {tk : TypeId} {ds : TypeDesc} (hty : TyOK P kt tk) (hkey : kt.key = true) (hds : P.underlying tk = some ds) {k : Value} {d : D} (hk : Rep w Im kt [k] d) : ∀ {l : List MapEntry} {es : List (D × D)}, MapRel w Im kt vt l es → ∀ i : Nat,
    (entry es d = none ∧ Instr.findNow ds k l i = some none ∧ ∀ v, setEntry es d v = es ++ [(d, v)]) ∨
    (∃ j e v, entry es d = some v ∧ Instr.findNow ds k l i = some (some (i + j, e.val)) ∧ l[j]? = some e ∧ e.key = k ∧ (∃ cs, e.val = mkVal vt cs ∧ Rep w Im vt cs v) ∧
      ∀ (e' : MapEntry) (v' : D), e'.key = k → (∃ cs, e'.val = mkVal vt cs ∧ Rep w Im vt cs v') → MapRel w Im kt vt (l.set j e') (setEntry es d v'))
  | [], es, h, i => by
    simp only [MapRel] at h; subst h
    exact .inl ⟨rfl, rfl, fun _ => rfl⟩
  | e :: l, es, ⟨kd, vd, es', hes, hke, hve, hr⟩, i => by
    subst hes
    have hkd : MapKept.IsKey ds k := by obtain ⟨ds', h1, h2⟩ := key_desc hty hkey hk; rw [hds] at h1; injection h1 with h1; subst h1; exact h2
    have hkd' : MapKept.IsKey ds e.key := by obtain ⟨ds', h1, h2⟩ := key_desc hty hkey hke; rw [hds] at h1; injection h1 with h1; subst h1; exact h2
    obtain ⟨r, hr1, hr2⟩ := MapKept.sameNow_of_keys hkd hkd'
    have hiff := key_eq hkey hk hke
    by_cases heq : d = kd
    · subst heq
      have hb : D.beq d d = true := (D.beq_iff _ _).2 rfl
      have hkk := hiff.2 rfl
      have hr3 : r = true := hr2.2 hkk
      subst hr3
      refine .inr ⟨0, e, vd, by simp [entry, hb], by simp [Instr.findNow, hr1], rfl, hkk.symm, hve, fun e' v' he' hv' => ?_⟩
      simp only [List.set_cons_zero, setEntry, hb, if_true]
      exact ⟨d, v', es', rfl, by rw [he']; exact hk, hv', hr⟩
    · have hb : D.beq kd d = false := by
        cases hq : D.beq kd d with
        | false => rfl
        | true => exact (heq ((D.beq_iff _ _).1 hq).symm).elim
      have hr3 : r = false := by
        cases r with
        | false => rfl
        | true => exact (heq (hiff.1 (hr2.1 rfl))).elim
      subst hr3
      rcases find_rel hty hkey hds hk hr (i + 1) with ⟨h1, h2, h3⟩ | ⟨j, e0, v, h1, h2, h3, h4, h5, h6⟩
      · exact .inl ⟨by simp [entry, hb, h1], by simp [Instr.findNow, hr1, h2], fun v => by simp [setEntry, hb, h3]⟩
      · refine .inr ⟨j + 1, e0, v, by simp [entry, hb, h1], by simp [Instr.findNow, hr1, h2]; omega, by simpa using h3, h4, h5, fun e' v' he' hv' => ?_⟩
        simp only [List.set_cons_succ, setEntry, hb, Bool.false_eq_true, if_false]
        exact ⟨kd, vd, _, rfl, hke, hve, h6 e' v' he' hv'⟩

theorem MapRel.push {kt vt : Ty} {e : MapEntry} {k v : D} (hk : Rep w Im kt [e.key] k) (hv : ∃ cs, e.val = mkVal vt cs ∧ Rep w Im vt cs v) : ∀ {l : List MapEntry} {es : List (D × D)}, MapRel w Im kt vt l es → MapRel w Im kt vt (l ++ [e]) (es ++ [(k, v)])
  | [], es, h => by simp only [MapRel] at h; subst h; exact ⟨k, v, [], rfl, hk, hv, rfl⟩
  | _ :: _, es, ⟨kd, vd, es', hes, hke, hve, hr⟩ => by subst hes; exact ⟨kd, vd, _, rfl, hke, hve, hr.push hk hv⟩

theorem key_cell {kt : Ty} (hkey : kt.key = true) {kv : V} {d : D} {k : Value} (hv : vrel w μ Im (.dat kt d) k) : Rep w Im kt [k] d := by
  obtain ⟨cs, rfl, hr⟩ := hv
  have hl := hr.len
  have h1 : kt.size = 1 ∧ kt.isAgg = false := by cases kt <;> simp [Ty.key] at hkey <;> exact ⟨rfl, rfl⟩
  rw [h1.1] at hl
  obtain ⟨c, rfl⟩ := List.length_eq_one_iff.1 hl
  simpa [mkVal, h1.2] using hr

theorem ok_makeMap {t : Ty} {tid : TypeId} {v : V} {hint : Option Value} {h h' : H} {l l' : Log} (hty : TyOK P t tid) (hR : HRel C (look h.bs) w μ Im) (hfr : ∀ i, h.next ≤ i → i < h'.next → μ i = none) (hh : ∀ x, hint = some x → ∃ k n, x = .int k n)
    (hx : (evMakeMap t).exec h l = some (v, h', l')) : ∃ y w' μ', (Instr.makeMap tid hint).run P w = .ok y w' ∧ Grows C h h' w μ Im w' μ' Im ∧ vrel w' μ' Im v y := by
  cases t <;> simp only [evMakeMap] at hx <;> try exact (exec_fail hx).elim
  rename_i kt vt
  replace hx := exec_chk hx; obtain ⟨hc, hx⟩ := hx
  simp only [Prog.exec, Option.some.injEq, Prod.mk.injEq] at hx
  obtain ⟨rfl, rfl, _⟩ := hx
  obtain ⟨_, tk, tv, hu, _, _⟩ := hty
  have hrun : (Instr.makeMap tid hint).run P w = .ok (.map (some w.heap.size)) (w.alloc (.map #[] 0)) := by
    cases hint with
    | none => rfl
    | some x =>
      obtain ⟨k, n, rfl⟩ := hh x rfl
      simp [Instr.makeMap, run_underlying hu, asInt, asIntOf]
  have key := hR.new (i := h.next) (hfr _ (Nat.le_refl _) (Nat.lt_succ_self _)) (b := .map kt vt []) (k := .map w.heap.size) (w' := w.alloc (.map #[] 0)) (by simp) (fun y hy => heap_alloc_old w _ y hy) rfl rfl rfl trivial
    (fun y hy => by simp only [Hdl.blk, Option.some.injEq] at hy; subst hy; simp) (look ((h.next, .map kt vt []) :: h.bs)) (fun j => by rw [look_cons])
    (fun hl => ⟨w.heap.size, #[], 0, by simp, heap_alloc_new w _, rfl⟩)
  exact ⟨_, _, _, hrun, ⟨key.1, key.2, Nat.le_succ _, fun i hi hn => by
    by_cases e : h.next = i
    · subst e; exact ⟨Nat.le_refl _, Nat.lt_succ_self _⟩
    · simp only [if_neg e] at hn; exact (hn hi).elim⟩, w.heap.size, by simp, rfl⟩

theorem ok_lookup {t : Ty} {tid : TypeId} {mv kv v : V} {m k : Value} {ok : Bool} {h h' : H} {l l' : Log} (hty : TyOK P t tid) (hR : HRel C (look h.bs) w μ Im) (hm : vrel w μ Im mv m) (hk : vrel w μ Im kv k)
    (hx : (evLookup t mv kv ok).exec h l = some (v, h', l')) : h' = h ∧ ∃ y, (Instr.lookup tid m k ok).run P w = .ok y w ∧ vrel w μ Im v y := by
  cases t <;> simp only [evLookup] at hx <;> try exact (exec_fail hx).elim
  rename_i kt vt
  cases kv <;> (try simp only at hx) <;> try exact (exec_fail hx).elim
  rename_i kt' d
  replace hx := exec_chk hx; obtain ⟨hc, hx⟩ := hx
  simp only [Bool.and_eq_true, Ty.beq_iff] at hc
  obtain ⟨⟨hkey, hpure⟩, rfl⟩ := hc
  obtain ⟨_, tk, tv, hu, htk, htv⟩ := hty
  have hkr := key_cell (kv := .any) hkey hk
  obtain ⟨ds, hds, hik⟩ := key_desc htk hkey hkr
  have hzero : vrel w μ Im (V.ofD vt vt.zeroD) (mkVal vt (zcells vt)) := ofD_rel (zero_rep hpure)
  cases mv <;> (try simp only at hx) <;> try exact (exec_fail hx).elim
  case map i =>
    replace hx := exec_get hx; obtain ⟨b, hb, hx⟩ := hx
    have hbr := hR.blk i b hb
    cases b <;> (try simp only at hx) <;> try exact (exec_fail hx).elim
    rename_i kt2 vt2 es
    replace hx := exec_chk hx; obtain ⟨hc, hx⟩ := hx
    simp only [Bool.and_eq_true, Ty.beq_iff] at hc
    obtain ⟨rfl, rfl⟩ := hc
    obtain ⟨r, ents, clock, hmu, hh, hmr⟩ := hbr
    obtain ⟨r', hmu', rfl⟩ := hm
    rw [hmu] at hmu'
    simp only [Option.some.injEq, Hdl.map.injEq] at hmu'
    subst hmu'
    have hck := fun e => MapKept.run_checkKey (w := w) hds hik e 9999
    rcases find_rel htk hkey hds hkr hmr 0 with ⟨h1, h2, _⟩ | ⟨j, e, vd, h1, h2, h3, h4, ⟨cs, h5, h6⟩, _⟩
    · have hf := MapKept.run_findKey (w := w) hds h2
      have hrun : (Instr.lookup tid (.map (some r)) k ok).run P w = .ok (if ok then .tuple #[mkVal vt (zcells vt), .bool false] else mkVal vt (zcells vt)) w := by
        unfold Instr.lookup
        simp only [Sem.run_bind, run_underlying hu, Result.andThen_ok, MapKept.run_getObj_map hh, Sem.run_pure, hck, hf, htv.base.run_zero]
      rw [h1] at hx
      cases ok with
      | true =>
        simp only [Prog.exec, Option.some.injEq, Prod.mk.injEq] at hx
        obtain ⟨rfl, rfl, _⟩ := hx
        exact ⟨rfl, _, hrun, _, rfl, _, _, rfl, hzero, _, _, rfl, bool_rel false, rfl⟩
      | false =>
        simp only [Prog.exec, Option.some.injEq, Prod.mk.injEq] at hx
        obtain ⟨rfl, rfl, _⟩ := hx
        exact ⟨rfl, _, hrun, hzero⟩
    · have hf := MapKept.run_findKey (w := w) hds h2
      have hval : vrel w μ Im (V.ofD vt vd) e.val := by rw [h5]; exact ofD_rel h6
      have hrun : (Instr.lookup tid (.map (some r)) k ok).run P w = .ok (if ok then .tuple #[e.val, .bool true] else e.val) w := by
        unfold Instr.lookup
        simp only [Sem.run_bind, run_underlying hu, Result.andThen_ok, MapKept.run_getObj_map hh, Sem.run_pure, hck, hf]
      rw [h1] at hx
      cases ok with
      | true =>
        simp only [Prog.exec, Option.some.injEq, Prod.mk.injEq] at hx
        obtain ⟨rfl, rfl, _⟩ := hx
        exact ⟨rfl, _, hrun, _, rfl, _, _, rfl, hval, _, _, rfl, bool_rel true, rfl⟩
      | false =>
        simp only [Prog.exec, Option.some.injEq, Prod.mk.injEq] at hx
        obtain ⟨rfl, rfl, _⟩ := hx
        exact ⟨rfl, _, hrun, hval⟩
  case nilm =>
    simp only [vrel] at hm; subst hm
    have hck := fun e => MapKept.run_checkKey (w := w) hds hik e 9999
    have hf : (Instr.findKey tk k []).run P w = .ok none w := MapKept.run_findKey (w := w) hds rfl
    have hrun : (Instr.lookup tid (.map none) k ok).run P w = .ok (if ok then .tuple #[mkVal vt (zcells vt), .bool false] else mkVal vt (zcells vt)) w := by
      unfold Instr.lookup
      simp only [Sem.run_bind, run_underlying hu, Result.andThen_ok, Sem.run_pure, hck, hf, htv.base.run_zero]
    cases ok with
    | true =>
      simp only [Prog.exec, Option.some.injEq, Prod.mk.injEq] at hx
      obtain ⟨rfl, rfl, _⟩ := hx
      exact ⟨rfl, _, hrun, _, rfl, _, _, rfl, hzero, _, _, rfl, bool_rel false, rfl⟩
    | false =>
      simp only [Prog.exec, Option.some.injEq, Prod.mk.injEq] at hx
      obtain ⟨rfl, rfl, _⟩ := hx
      exact ⟨rfl, _, hrun, hzero⟩

theorem setObj_chg {r : Nat} {o' : Obj} : Chg w { w with heap := w.heap.setIfInBounds r o' } (some r) :=
  ⟨by simp, fun y hy => by
    have : y ≠ r := fun e => hy (by rw [e])
    simp [Array.getElem?_setIfInBounds_ne this.symm], rfl, rfl, rfl⟩

theorem same_key {kt : Ty} (hkey : kt.key = true) {k : Value} {d : D} (hk : Rep w Im kt [k] d) (n : Nat) : Instr.sameBits n k k = true := by
  cases kt <;> simp [Ty.key] at hkey
  case int k =>
    obtain ⟨n', hc, _⟩ := hk
    simp only [List.cons.injEq, and_true] at hc; subst hc
    cases n <;> simp [Instr.sameBits]
  case bool =>
    obtain ⟨n', hc, _⟩ := hk
    simp only [List.cons.injEq, and_true] at hc; subst hc
    cases n <;> simp [Instr.sameBits]
  case str =>
    obtain ⟨n', hc, _⟩ := hk
    simp only [List.cons.injEq, and_true] at hc; subst hc
    have := (MapKept.bytes_beq n' n').2 rfl
    cases n <;> simp only [Instr.sameBits, this]

theorem ok_mapUpdate {t : Ty} {tid : TypeId} {mv kv xv v : V} {m k x : Value} {h h' : H} {l l' : Log} (hty : TyOK P t tid) (hR : HRel C (look h.bs) w μ Im) (hm : vrel w μ Im mv m) (hk : vrel w μ Im kv k) (hxv : vrel w μ Im xv x)
    (hx : (evMapUpdate t mv kv xv).exec h l = some (v, h', l')) : v = .any ∧ h'.next = h.next ∧ ∃ w', (Instr.mapUpdate tid m k x).run P w = .ok () w' ∧ HRel C (look h'.bs) w' μ Im ∧ Later w μ Im w' μ Im := by
  unfold evMapUpdate at hx
  split at hx
  · rename_i kt vt i kt' d dx hp
    replace hx := exec_chk hx; obtain ⟨hc, hx⟩ := hx
    simp only [Bool.and_eq_true, Ty.beq_iff] at hc
    obtain ⟨⟨⟨hkey, hpure⟩, rfl⟩, hfit⟩ := hc
    obtain ⟨_, tk, tv, hu, htk, htv⟩ := hty
    have hkr := key_cell (kv := .any) hkey hk
    obtain ⟨ds, hds, hik⟩ := key_desc htk hkey hkr
    have hxr := plain_rep hp hfit hxv
    have hxe := (fits_size hxv hfit).2
    replace hx := exec_get hx; obtain ⟨b, hb, hx⟩ := hx
    have hbr := hR.blk i b hb
    cases b <;> (try simp only at hx) <;> try exact (exec_fail hx).elim
    rename_i kt2 vt2 es
    replace hx := exec_chk hx; obtain ⟨hc, hx⟩ := hx
    simp only [Bool.and_eq_true, Ty.beq_iff] at hc
    obtain ⟨rfl, rfl⟩ := hc
    simp only [Prog.exec, Option.some.injEq, Prod.mk.injEq] at hx
    obtain ⟨rfl, rfl, _⟩ := hx
    obtain ⟨r, ents, clock, hmu, hh, hmr⟩ := hbr
    obtain ⟨r', hmu', rfl⟩ := hm
    have hmu2 := hmu
    rw [hmu] at hmu'
    simp only [Option.some.injEq, Hdl.map.injEq] at hmu'
    subst hmu'
    have hck := fun e => MapKept.run_checkKey (w := w) hds hik e 9999
    have fin : ∀ (ents' : Array MapEntry) (clock' : Nat), (Instr.mapUpdate tid (.map (some r)) k x).run P w = .ok () { w with heap := w.heap.setIfInBounds r (.map ents' clock') } → MapRel w Im kt vt ents'.toList (setEntry es d dx) →
        V.any = V.any ∧ h.next = h.next ∧ ∃ w', (Instr.mapUpdate tid (.map (some r)) k x).run P w = .ok () w' ∧ HRel C (look ((i, .map kt vt (setEntry es d dx)) :: h.bs)) w' μ Im ∧ Later w μ Im w' μ Im := by
      intro ents' clock' hrun hrel
      refine ⟨rfl, rfl, _, hrun, hR.write hb rfl hmu2 setObj_chg _ (fun j => by rw [look_cons]) rfl fun him => ?_⟩
      exact ⟨r, ents', clock', hmu2, (MapKept.heap_set hh).1, hrel.mono (fun _ h => h) him⟩
    rcases find_rel htk hkey hds hkr hmr 0 with ⟨h1, h2, h3⟩ | ⟨j, e, vd, h1, h2, h3, h4, h5, h6⟩
    · have hf := MapKept.run_findKey (w := w) hds h2
      refine fin (ents.push { key := k, val := x, born := clock }) (clock + 1) ?_ ?_
      · unfold Instr.mapUpdate
        simp only [Sem.run_bind, run_underlying hu, Result.andThen_ok, MapKept.run_getObj_map hh, hck, hf, MapKept.run_setObj_map _ hh]
      · rw [h3, Array.toList_push]
        exact hmr.push hkr ⟨_, hxe, hxr⟩
    · have hf := MapKept.run_findKey (w := w) hds h2
      have hg : ents[j]? = some e := by rw [← Array.getElem?_toList]; exact h3
      refine fin (ents.modify j fun e => { e with key := k, val := x }) clock ?_ ?_
      · unfold Instr.mapUpdate
        have hj : (0 + j) = j := by omega
        simp only [Sem.run_bind, run_underlying hu, Result.andThen_ok, MapKept.run_getObj_map hh, hck, hf, hj, hg, Option.map_some, Option.getD_some, h4, Instr.keyThatStays, same_key hkey hkr, if_true, Sem.run_pure, MapKept.run_setObj_map _ hh]
      · have hj : j < ents.size := (Array.getElem?_eq_some_iff.1 hg).1
        have e1 : (ents.modify j fun e => { e with key := k, val := x }).toList = ents.toList.set j { e with key := k, val := x } := by
          apply List.ext_getElem?
          intro q
          rw [Array.getElem?_toList, Array.getElem?_modify, List.getElem?_set]
          by_cases hq : j = q
          · subst hq
            have he : ents[j] = e := (Array.getElem?_eq_some_iff.1 hg).2
            simp [hg, hj, he]
          · simp [hq]
        rw [e1]
        exact h6 _ _ rfl ⟨_, hxe, hxr⟩
  · exact (exec_fail hx).elim

end
end Go.Ev

/- One operation that is no call of a function. -/
namespace Go.Ev
open Go

section
variable {P : Program} {C : Cx} {w : World} {μ : Mu} {Im : Nat → Prop}

theorem ofConst_rel (x : Value) : vrel w μ Im (ofConst x) x := by
  unfold ofConst
  split
  · exact bool_rel _
  · rename_i k n
    split
    · rename_i hc
      simp only [Bool.and_eq_true, decide_eq_true_eq] at hc
      exact int_rel hc.1 hc.2
    · simp [vrel]
  · rename_i s
    split
    · rename_i hc
      have : s.size ≤ 4611686018427387904 := by rw [vlen_eq] at hc; exact Nat.le_of_ble_eq_true hc
      exact ⟨[.string s], rfl, s, rfl, rfl, by have : most = 9223372036854775807 := rfl; omega⟩
    · simp [vrel]
  all_goals first
    | rfl
    | simp [vrel]

theorem opval_rel {fr : List (Nat × V)} {a : Act} (hs : SRel C (look fr) a w μ Im) (x : Operand) : vrel w μ Im (opval fr x) (a.eval x) := by
  cases x with
  | tmp t =>
    simp only [opval, Act.eval]
    cases h : look fr t with
    | none => simp [vrel]
    | some v => exact hs.slot t v h
  | const v => exact ofConst_rel v
  | global g => simp [opval, vrel]
  | func f => exact ⟨[], rfl, rfl⟩

theorem vmap_rel {ρ : Operand → V} {ρ' : Operand → Value} (hρ : ∀ x, vrel w μ Im (ρ x) (ρ' x)) : ∀ l : List Operand, vrels w μ Im (vmap ρ l) (l.map ρ')
  | [] => rfl
  | x :: l => ⟨_, _, rfl, hρ x, vmap_rel hρ l⟩

theorem prel_map {ρ : Operand → V} {ρ' : Operand → Value} (hρ : ∀ x, vrel w μ Im (ρ x) (ρ' x)) : ∀ l : List (Nat × Operand), prel w μ Im (vmap (fun p => (p.1, ρ p.2)) l) (l.map fun p => (p.1, ρ' p.2))
  | [] => rfl
  | p :: l => ⟨_, _, rfl, hρ p.2, prel_map hρ l⟩

theorem orel_map {ρ : Operand → V} {ρ' : Operand → Value} (hρ : ∀ x, vrel w μ Im (ρ x) (ρ' x)) (o : Option Operand) : orel w μ Im (o.map ρ) (o.map ρ') := by
  cases o with
  | none => simp [orel]
  | some x => simpa [orel] using hρ x

theorem map_arr {α β : Type} (f : α → β) (a : Array α) : (a.toList.map f).toArray = a.map f := by
  apply Array.toList_inj.1; simp

/-- what is asked of the setting -/
structure EnvOK (P : Program) (E : Env) : Prop where
  ty : ∀ t ty, E.ty t = some ty → TyOK P ty t
  depth : 64 ≤ P.depth

/-- the outcome of an operation that calls nothing -/
def Plain (P : Program) (C : Cx) (s : Sem Next) (h h' : H) (v : V) (w : World) (μ : Mu) (Im : Nat → Prop) : Prop :=
  ∃ n y w' μ' Im', s.run P w = .ok n w' ∧ (n = .value y ∨ (n = .skip ∧ y = undef)) ∧ Grows C h h' w μ Im w' μ' Im' ∧ vrel w' μ' Im' v y

theorem Plain.of_val {s : Sem Value} {h h' : H} {v : V} {y : Value} {w' : World} {μ' : Mu} {Im' : Nat → Prop} (hrun : s.run P w = .ok y w') (hg : Grows C h h' w μ Im w' μ' Im') (hv : vrel w' μ' Im' v y) :
    Plain P C (do pure (.value (← s))) h h' v w μ Im := ⟨.value y, y, w', μ', Im', by simp [hrun], .inl rfl, hg, hv⟩
theorem Plain.of_same {s : Sem Value} {h h' : H} {v : V} {y : Value} (hh : h' = h) (hR : HRel C (look h.bs) w μ Im) (hrun : s.run P w = .ok y w) (hv : vrel w μ Im v y) :
    Plain P C (do pure (.value (← s))) h h' v w μ Im := by subst hh; exact .of_val hrun (.refl hR) hv
theorem Plain.of_unit {s : Sem Unit} {h h' : H} {w' : World} {Im' : Nat → Prop} (hrun : s.run P w = .ok () w') (hR : HRel C (look h'.bs) w' μ Im') (hl : Later w μ Im w' μ Im') (hn : h'.next = h.next) :
    Plain P C (do s; pure .skip) h h' .any w μ Im := ⟨.skip, undef, w', μ, Im', by simp [hrun], .inr ⟨rfl, rfl⟩, ⟨hR, hl, by omega, fun i h1 h2 => (h2 h1).elim⟩, by simp [vrel]⟩

def isCall : Oper → Bool
  | o => match o.op with
    | .call c => match c.callee with
      | .builtin _ => false
      | _ => true
    | _ => false

theorem exec_ret {α : Type} {a v : α} {h h' : H} {l l' : Log} (hx : (Prog.ret a).exec h l = some (v, h', l')) : v = a ∧ h' = h := by
  simp only [Prog.exec, Option.some.injEq, Prod.mk.injEq] at hx
  exact ⟨hx.1.symm, hx.2.1.symm⟩

theorem ok_builtin {E : Env} (hE : EnvOK P E) {h h' : H} {l l' : Log} {v : V} (hR : HRel C (look h.bs) w μ Im) (hfr : ∀ i, h.next ≤ i → i < h'.next → μ i = none) {b : Builtin} {ts : List TypeId} {type : TypeId} {consts : Array Bool} {args : List V} {xs : List Value}
    (ha : vrels w μ Im args xs) (hx : (evBuiltin E b ts args).exec h l = some (v, h', l')) : Plain P C (builtin b ts.toArray type consts xs.toArray) h h' v w μ Im := by
  have hx0 := hx
  unfold evBuiltin at hx
  split at hx
  · rename_i x
    obtain ⟨y, xs', rfl, hy, hxs⟩ := ha
    simp only [vrels] at hxs; subst hxs
    obtain ⟨hh, z, hrun, hz⟩ := ok_len hE.ty (ty := type) hR hy hx0
    exact .of_same hh hR hrun hz
  · rename_i s x
    obtain ⟨s', xs', rfl, hs, y, xs2, rfl, hy, hxs⟩ := ha
    simp only [vrels] at hxs; subst hxs
    split at hx <;> try exact (exec_fail hx).elim
    rename_i t t2
    split at hx <;> try exact (exec_fail hx).elim
    rename_i ty ty2 e1 e2
    obtain ⟨z, w', μ', hrun, hg, hz⟩ := ok_append (ty := type) (hE.ty _ _ e1) (hE.ty _ _ e2) hR hfr hs hy hx
    exact .of_val hrun hg hz
  · rename_i s x
    obtain ⟨s', xs', rfl, hs, y, xs2, rfl, hy, hxs⟩ := ha
    simp only [vrels] at hxs; subst hxs
    split at hx <;> try exact (exec_fail hx).elim
    rename_i t t2
    split at hx <;> try exact (exec_fail hx).elim
    rename_i ty ty2 e1 e2
    obtain ⟨hn, z, w', hrun, hR', hl, hz⟩ := ok_copy (ty := type) (tid2 := t2) (hE.ty _ _ e1) hR hs hy hx
    exact .of_val hrun ⟨hR', hl, by omega, fun i h1 h2 => (h2 h1).elim⟩ hz
  · rename_i x r
    obtain ⟨y, xs', rfl, hy, hxs⟩ := ha
    obtain ⟨hh, z, hrun, hz⟩ := ok_min (P := P) hy hxs hx
    exact .of_same hh hR (by simpa [Builtin.min_] using hrun) hz
  · rename_i x r
    obtain ⟨y, xs', rfl, hy, hxs⟩ := ha
    obtain ⟨hh, z, hrun, hz⟩ := ok_min (P := P) hy hxs hx
    exact .of_same hh hR (by simpa [Builtin.max_] using hrun) hz
  · exact (exec_fail hx).elim

theorem ok_op {E : Env} (hE : EnvOK P E) {ρ : Operand → V} {ρ' : Operand → Value} {o : Oper} {h h' : H} {l l' : Log} {v : V} (hR : HRel C (look h.bs) w μ Im) (hfr : ∀ i, h.next ≤ i → i < h'.next → μ i = none) (hρ : ∀ x, vrel w μ Im (ρ x) (ρ' x))
    (hnc : isCall o = false) (hx : (evOp E ρ o).exec h l = some (v, h', l')) : Plain P C (execOp ρ' o) h h' v w μ Im := by
  obtain ⟨dst, op, type, pos, after, guard⟩ := o
  cases op <;> simp only [evOp] at hx <;> (try exact (exec_fail hx).elim) <;> simp only [execOp]
  case move x => obtain ⟨rfl, rfl⟩ := exec_ret hx; exact ⟨_, _, w, μ, Im, rfl, .inl rfl, .refl hR, hρ x⟩
  case assign x => obtain ⟨rfl, rfl⟩ := exec_ret hx; exact ⟨_, _, w, μ, Im, rfl, .inl rfl, .refl hR, hρ x⟩
  case pick c a b =>
    obtain ⟨rfl, z, hrun, hz⟩ := ok_pick (hρ c) (hρ a) (hρ b) hx
    exact ⟨_, z, w, μ, Im, hrun, .inl rfl, .refl hR, hz⟩
  case alloc t =>
    split at hx <;> try exact (exec_fail hx).elim
    rename_i ty he
    have hty := hE.ty _ _ he
    replace hx := exec_chk hx; obtain ⟨hc, hx⟩ := hx
    simp only [Prog.exec, Option.some.injEq, Prod.mk.injEq] at hx
    obtain ⟨rfl, rfl, _⟩ := hx
    obtain ⟨μ', hg, hv⟩ := new_box hR (hfr _ (Nat.le_refl _) (Nat.lt_succ_self _)) (tid := t) hc (zeroV_rel (w := w) (μ := μ) (Im := Im) ty)
    exact .of_val (by simp [Instr.alloc, hty.base.run_zero, newVar, newRow]) hg hv
  case box t x =>
    split at hx <;> try exact (exec_fail hx).elim
    rename_i ty he
    replace hx := exec_chk hx; obtain ⟨hc, hx⟩ := hx
    simp only [Prog.exec, Option.some.injEq, Prod.mk.injEq] at hx
    obtain ⟨rfl, rfl, _⟩ := hx
    obtain ⟨μ', hg, hv⟩ := new_box hR (hfr _ (Nat.le_refl _) (Nat.lt_succ_self _)) (tid := t) hc (hρ x)
    exact .of_val (by simp [Instr.box, newVar, newRow]) hg hv
  case build t parts =>
    split at hx <;> try exact (exec_fail hx).elim
    rename_i ty he
    obtain ⟨hh, y, hrun, hv⟩ := ok_build (qs := parts.map fun p => (p.1, ρ' p.2)) (P := P) (hE.ty _ _ he) (by simpa using prel_map hρ parts.toList) hx
    exact .of_same hh hR hrun hv
  case buildSlice t n parts =>
    split at hx <;> try exact (exec_fail hx).elim
    rename_i ty he
    obtain ⟨y, w', μ', Im', hrun, hg, hv⟩ := ok_buildSlice (qs := parts.map fun p => (p.1, ρ' p.2)) (P := P) (hE.ty _ _ he) hR hfr (by simpa using prel_map hρ parts.toList) hx
    exact .of_val hrun hg hv
  case load t a =>
    split at hx <;> try exact (exec_fail hx).elim
    rename_i ty he
    obtain ⟨hh, _, y, hrun, hv⟩ := ok_load (hE.ty _ _ he) hR (hρ a) hx
    exact .of_same hh hR hrun hv
  case store t a x =>
    split at hx <;> try exact (exec_fail hx).elim
    rename_i ty he
    obtain ⟨rfl, hn, w', Im', hrun, hR', hl⟩ := ok_store (hE.ty _ _ he) hR (hρ a) (hρ x) hx
    exact .of_unit hrun hR' hl hn
  case nilCheck x =>
    have hr := hρ x
    split at hx <;> try exact (exec_fail hx).elim
    · rename_i t i p he
      obtain ⟨rfl, rfl⟩ := exec_ret hx
      rw [he] at hr
      have hr' := hr
      obtain ⟨a, e, _⟩ := hr
      rw [e] at hr' ⊢
      exact ⟨_, _, w, μ, Im, rfl, .inl rfl, .refl hR, hr'⟩
    · rename_i t d he
      obtain ⟨rfl, rfl⟩ := exec_ret hx
      rw [he] at hr
      have hr' := hr
      obtain ⟨a, c, e', f, e, _⟩ := hr
      rw [e] at hr' ⊢
      exact ⟨_, _, w, μ, Im, rfl, .inl rfl, .refl hR, hr'⟩
    · rename_i f l he
      obtain ⟨rfl, rfl⟩ := exec_ret hx
      rw [he] at hr
      have hr' := hr
      obtain ⟨xs, e, _⟩ := hr
      rw [e] at hr' ⊢
      exact ⟨_, _, w, μ, Im, rfl, .inl rfl, .refl hR, hr'⟩
    · rename_i t u he
      obtain ⟨rfl, rfl⟩ := exec_ret hx
      rw [he] at hr
      have hr' := hr
      obtain ⟨y, e, _⟩ := hr
      rw [e] at hr' ⊢
      exact ⟨_, _, w, μ, Im, rfl, .inl rfl, .refl hR, hr'⟩
  case binOp op xt x y _ =>
    split at hx <;> try exact (exec_fail hx).elim
    rename_i ty he
    obtain ⟨hh, z, hrun, hz⟩ := ok_bin (hE.ty _ _ he) hE.depth (hρ x) (hρ y) hx
    exact .of_same hh hR hrun hz
  case unOp op xt x =>
    obtain ⟨hh, z, hrun, hz⟩ := ok_un (P := P) (hρ x) hx
    exact .of_same hh hR hrun hz
  case convert src dst x =>
    split at hx <;> try exact (exec_fail hx).elim
    rename_i s d e1 e2
    obtain ⟨y, w', μ', hrun, hg, hv⟩ := ok_convert (hE.ty _ _ e1) (hE.ty _ _ e2) hR hfr (hρ x) hx
    exact .of_val hrun hg hv
  case makeInterface t x =>
    split at hx <;> try exact (exec_fail hx).elim
    rename_i ty hne he
    replace hx := exec_chk hx; obtain ⟨hc, hx⟩ := hx
    obtain ⟨rfl, rfl⟩ := exec_ret hx
    have hty := hE.ty _ _ he
    have hd : ∃ d, P.underlying t = some d ∧ ∀ ms, d ≠ .interface ms := by
      cases ty with
      | ifc => exact (hne rfl).elim
      | int k => exact ⟨_, hty.2, by simp⟩
      | bool => exact ⟨_, hty.2, by simp⟩
      | str => exact ⟨_, hty.2, by simp⟩
      | struct ts => obtain ⟨_, _, fs, hu, _⟩ := hty; exact ⟨_, hu, by simp⟩
      | arr n t => obtain ⟨_, fs, hu, _⟩ := hty; exact ⟨_, hu, by simp⟩
      | slice t => obtain ⟨_, fs, hu, _⟩ := hty; exact ⟨_, hu, by simp⟩
      | ptr => obtain ⟨_, fs, hu⟩ := hty; exact ⟨_, hu, by simp⟩
      | map k v => obtain ⟨_, _, _, hu, _⟩ := hty; exact ⟨_, hu, by simp⟩
      | fn => obtain ⟨_, _, _, _, hu⟩ := hty; exact ⟨_, hu, by simp⟩
    obtain ⟨d, hu, hd⟩ := hd
    refine .of_same (y := .iface t (ρ' x)) rfl hR ?_ ⟨_, rfl, hρ x⟩
    unfold Instr.makeInterface
    simp only [Sem.run_bind, run_underlying hu, Result.andThen_ok]
    first
    | rfl
    | (split <;> first | exact (hd _ rfl).elim | rfl)
  case makeFunc fn first caps =>
    split at hx <;> try exact (exec_fail hx).elim
    rename_i f
    replace hx := exec_chk hx; obtain ⟨hc, hx⟩ := hx
    obtain ⟨rfl, rfl⟩ := exec_ret hx
    have h0 : first = #[] := Array.eq_empty_of_size_eq_zero (Nat.eq_of_beq_eq_true hc)
    subst h0
    refine .of_same (y := .func (.func f) #[] (caps.map ρ')) rfl hR (by simp [Instr.makeFunc]) ⟨caps.toList.map ρ', by rw [map_arr], vmap_rel hρ _⟩
  case makeMap t r =>
    split at hx <;> try exact (exec_fail hx).elim
    · rename_i ty he
      obtain ⟨y, w', μ', hrun, hg, hv⟩ := ok_makeMap (hint := none) (hE.ty _ _ he) hR hfr (by simp) hx
      exact .of_val hrun hg hv
    · rename_i ty x he
      split at hx <;> try exact (exec_fail hx).elim
      rename_i n hn
      obtain ⟨kd, hkd⟩ := V.num_rel hn (hρ x)
      obtain ⟨y, w', μ', hrun, hg, hv⟩ := ok_makeMap (hint := some (ρ' x)) (hE.ty _ _ he) hR hfr (by intro y hy; injection hy with hy; subst hy; exact ⟨_, _, hkd⟩) hx
      exact .of_val hrun hg hv
  case makeSlice t ln cp =>
    split at hx <;> try exact (exec_fail hx).elim
    rename_i ty he
    obtain ⟨y, w', μ', hrun, hg, hv⟩ := ok_makeSlice (hE.ty _ _ he) hR hfr (hρ ln) (hρ cp) hx
    exact .of_val hrun hg hv
  case slice t x lo hi mx =>
    split at hx <;> try exact (exec_fail hx).elim
    rename_i ty he
    obtain ⟨hh, y, hrun, hv⟩ := ok_slice (hE.ty _ _ he) hR (hρ x) (orel_map hρ lo) (orel_map hρ hi) (orel_map hρ mx) hx
    exact .of_same hh hR hrun hv
  case fieldAddr s x k =>
    split at hx <;> try exact (exec_fail hx).elim
    rename_i ty he
    obtain ⟨hh, y, hrun, hv⟩ := ok_fieldAddr (hE.ty _ _ he) (hρ x) hx
    exact .of_same hh hR hrun hv
  case field s x k =>
    split at hx <;> try exact (exec_fail hx).elim
    rename_i ty he
    obtain ⟨hh, y, hrun, hv⟩ := ok_field (hE.ty _ _ he) (hρ x) hx
    exact .of_same hh hR hrun hv
  case indexAddr t x i =>
    split at hx <;> try exact (exec_fail hx).elim
    rename_i ty he
    obtain ⟨hh, y, hrun, hv⟩ := ok_indexAddr (hE.ty _ _ he) hR (hρ x) (hρ i) hx
    exact .of_same hh hR hrun hv
  case index t x i =>
    split at hx <;> try exact (exec_fail hx).elim
    rename_i ty he
    obtain ⟨hh, y, hrun, hv⟩ := ok_index (hE.ty _ _ he) (hρ x) (hρ i) hx
    exact .of_same hh hR hrun hv
  case lookup t x k ok =>
    split at hx <;> try exact (exec_fail hx).elim
    rename_i ty he
    obtain ⟨hh, y, hrun, hv⟩ := ok_lookup (hE.ty _ _ he) hR (hρ x) (hρ k) hx
    exact .of_same hh hR hrun hv
  case mapUpdate t m k x =>
    split at hx <;> try exact (exec_fail hx).elim
    rename_i ty he
    obtain ⟨rfl, hn, w', hrun, hR', hl⟩ := ok_mapUpdate (hE.ty _ _ he) hR (hρ m) (hρ k) (hρ x) hx
    exact .of_unit hrun hR' hl hn
  case insert t m k x =>
    split at hx <;> try exact (exec_fail hx).elim
    rename_i ty he
    obtain ⟨rfl, hn, w', hrun, hR', hl⟩ := ok_mapUpdate (hE.ty _ _ he) hR (hρ m) (hρ k) (hρ x) hx
    exact .of_unit hrun hR' hl hn
  case extract x k =>
    have hr := hρ x
    split at hx <;> try exact (exec_fail hx).elim
    rename_i vs he
    split at hx <;> try exact (exec_fail hx).elim
    rename_i u hu
    obtain ⟨rfl, rfl⟩ := exec_ret hx
    rw [he] at hr
    obtain ⟨xs, e, hxs⟩ := hr
    obtain ⟨y, hy, hv⟩ := hxs.get hu
    refine .of_same (y := y) rfl hR ?_ hv
    rw [e]
    simp [Instr.extract, hy]
  case call c =>
    obtain ⟨callee, args, argTypes⟩ := c
    cases callee with
    | builtin b =>
      simp only at hx
      show Plain P C (builtin b argTypes type _ (args.map ρ')) h h' v w μ Im
      rw [← map_arr ρ' args]
      exact ok_builtin hE hR hfr (vmap_rel hρ args.toList) hx
    | value f => simp [isCall] at hnc
    | invoke r n => simp [isCall] at hnc

end
end Go.Ev
