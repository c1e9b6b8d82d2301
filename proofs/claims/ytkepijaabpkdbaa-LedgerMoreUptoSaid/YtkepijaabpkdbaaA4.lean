/- The boundary: what stands at calls, returns and loop heads, by shapes. First half: from a state to its data. From a state to its data: the blocks, and the whole. The boundary, second half: from data to a state. Contracts, and a call by one. A call by its contract. -/
import Derived.Test.YtkepijaabpkdbaaA3
set_option linter.unusedVariables false
set_option linter.unusedSimpArgs false

/- The boundary: what stands at calls, returns and loop heads, by shapes. First half: from a state to its data. -/
namespace Go.Ev
open Go

/-! ### Shapes that are well made -/

def Sh.fits (t : Ty) : Sh → Bool
  | .any => false
  | .dat t' => t.beq t'
  | .own t' => t.beq (.slice t')
  | .agg ts _ => t.beq (.struct ts)
  | .rall _ t' => t.beq (.slice t')
  | .rsub _ t' => t.beq (.slice t')
  | .ref _ _ | .nilp => match t with | .ptr => true | _ => false
  | .mref _ | .nilm => match t with | .map _ _ => true | _ => false
  | .fn _ _ | .nilf => match t with | .fn => true | _ => false
  | .ifc _ _ | .nili => match t with | .ifc => true | _ => false

def allShFit : List Ty → List Sh → Bool
  | [], [] => true
  | t :: ts, s :: l => s.fits t && allShFit ts l
  | _, _ => false

mutual
def Sh.wf (n : Nat) : Sh → Bool
  | .agg ts l => allShFit ts l && Sh.wfs n l
  | .ref k _ => Nat.blt k n
  | .rall k _ => Nat.blt k n
  | .rsub k _ => Nat.blt k n
  | .mref k => Nat.blt k n
  | .fn _ l => Sh.wfs n l
  | .ifc _ s => s.wf n
  | _ => true
def Sh.wfs (n : Nat) : List Sh → Bool
  | [] => true
  | s :: l => s.wf n && Sh.wfs n l
end

def HSh.wf (n : Nat) : HSh → Bool
  | .box t s => s.fits t && s.wf n
  | _ => true
def HSh.wfs (n : Nat) : List HSh → Bool
  | [] => true
  | s :: l => s.wf n && HSh.wfs n l

/-- the block of a handle, as a list -/
def hb (k : Hdl) : List Nat := k.blk.toList
def blkOf (μ : Mu) (i : Nat) : List Nat := match μ i with
  | some k => hb k
  | none => []

theorem mem_hb {k : Hdl} {x : Nat} : x ∈ hb k ↔ k.blk = some x := by
  unfold hb; cases k.blk <;> simp [eq_comm]
theorem mem_blkOf {μ : Mu} {i x : Nat} : x ∈ blkOf μ i ↔ ∃ k, μ i = some k ∧ k.blk = some x := by
  unfold blkOf
  cases h : μ i with
  | none => simp
  | some k => simp [mem_hb]

/-! ### Data in memory, by shape; the blocks that go with them -/

mutual
def shrel (w : World) (Im : Nat → Prop) (ks : List Hdl) (hs : List D) : Sh → D → Value → List Nat → Prop
  | .any, _, _, o => o = []
  | .dat t, d, x, o => o = [] ∧ ∃ cs, x = mkVal t cs ∧ Rep w Im t cs d
  | .own t, d, x, o => ∃ a cap xs, d = .r xs ∧ x = .slice a xs.length cap ∧ RowAt w Im a cap t xs ∧ o = hb (.row a xs.length cap t)
  | .agg _ l, d, x, o => ∃ ds xs, d = .r ds ∧ x = .agg (flat xs).toArray ∧ shrels w Im ks hs l ds xs o
  | .ref k t, _, x, o => o = [] ∧ ∃ b, ks[k]? = some (.box b t) ∧ x = .pointer (some ⟨b, 0, none⟩)
  | .rall k t, _, x, o => o = [] ∧ ∃ a len cap, ks[k]? = some (.row a len cap t) ∧ x = .slice a len cap ∧ lenOf hs k = len
  | .rsub k t, d, x, o => o = [] ∧ ∃ a L cap a' off len, ks[k]? = some (.row a L cap t) ∧ d = .r [.i ((off : Nat) : Int), .i ((len : Nat) : Int)] ∧ off + len ≤ L ∧ L ≤ cap ∧ x = .slice a' len (cap - off) ∧ (off < cap → a' = a.map (·.add (off * t.size)))
  | .mref k, _, x, o => o = [] ∧ ∃ r, ks[k]? = some (.map r) ∧ x = .map (some r)
  | .fn g l, d, x, o => ∃ ds xs, d = .r ds ∧ x = .func (.func g) #[] xs.toArray ∧ shrels w Im ks hs l ds xs o
  | .ifc t s, d, x, o => ∃ y, x = .iface t y ∧ shrel w Im ks hs s d y o
  | .nilp, _, x, o => o = [] ∧ x = .pointer none
  | .nilm, _, x, o => o = [] ∧ x = .map none
  | .nilf, _, x, o => o = [] ∧ x = .nilFunc
  | .nili, _, x, o => o = [] ∧ x = .nilIface
def shrels (w : World) (Im : Nat → Prop) (ks : List Hdl) (hs : List D) : List Sh → List D → List Value → List Nat → Prop
  | [], ds, xs, o => ds = [] ∧ xs = [] ∧ o = []
  | s :: l, ds, xs, o => ∃ d ds' x xs' o1 o2, ds = d :: ds' ∧ xs = x :: xs' ∧ o = o1 ++ o2 ∧ shrel w Im ks hs s d x o1 ∧ shrels w Im ks hs l ds' xs' o2
end

def hshrel (w : World) (Im : Nat → Prop) (ks : List Hdl) (hs : List D) : HSh → D → Hdl → List Nat → Prop
  | .box t s, d, k, o => ∃ b c e f x, k = .box b t ∧ w.heap[b]? = some (.cells c e f) ∧ Fz c f ∧ cellsOf x = c.toList ∧ shrel w Im ks hs s d x o
  | .row t, d, k, o => o = [] ∧ ∃ xs a cap, d = .r xs ∧ k = .row a xs.length cap t ∧ RowAt w Im a cap t xs
  | .map kt vt, d, k, o => o = [] ∧ ∃ es r ents clock, d = .r (es.map fun e => .r [e.1, e.2]) ∧ k = .map r ∧ w.heap[r]? = some (.map ents clock) ∧ MapRel w Im kt vt ents.toList es

def hshrels (w : World) (Im : Nat → Prop) (ks : List Hdl) (hs : List D) : List HSh → Nat → List Nat → Prop
  | [], _, o => o = []
  | s :: l, k, o => ∃ hd o1 o2, ks[k]? = some hd ∧ hd.ok ∧ hshrel w Im ks hs s (dnth hs k) hd o1 ∧ hshrels w Im ks hs l (k + 1) o2 ∧ o = hb hd ++ (o1 ++ o2)

/-- a whole boundary -/
def Bd (w : World) (Im : Nat → Prop) (hsh : List HSh) (sh : List Sh) (hs as : List D) (xs : List Value) (ks : List Hdl) (o : List Nat) : Prop :=
  ∃ o1 o2, shrels w Im ks hs sh as xs o1 ∧ hshrels w Im ks hs hsh 0 o2 ∧ o = o1 ++ o2 ∧ o.Nodup ∧ (∀ x ∈ o, ¬ Im x ∧ x < w.heap.size) ∧ ks.length = hsh.length ∧ hs.length = hsh.length

/-! ### From a state to its data -/

def AS.ok (s : AS) : Prop := s.used.Nodup ∧ ∀ k k' i, look s.refs k = some i → look s.refs k' = some i → k = k'

structure AsExt (s s' : AS) (new fz : List Nat) : Prop where
  refs : ∀ k i, look s.refs k = some i → look s'.refs k = some i
  used : s'.used = new.reverse ++ s.used
  frz : s'.frz = fz ++ s.frz

theorem AsExt.refl (s : AS) : AsExt s s [] [] := ⟨fun _ _ h => h, rfl, rfl⟩
theorem AsExt.trans {s1 s2 s3 : AS} {n1 n2 f1 f2 : List Nat} (a : AsExt s1 s2 n1 f1) (b : AsExt s2 s3 n2 f2) : AsExt s1 s3 (n1 ++ n2) (f2 ++ f1) :=
  ⟨fun k i h => b.refs k i (a.refs k i h), by rw [b.used, a.used]; simp, by rw [b.frz, a.frz]; simp⟩

/-- what the last references are to be -/
structure ShCond (n : Nat) (μ : Mu) (refs : List (Nat × Nat)) (ks : List Hdl) (hs : List D) : Prop where
  ks : ∀ k i, look refs k = some i → k < n → ks[k]? = μ i
  len : ∀ k i a len cap t, look refs k = some i → k < n → μ i = some (.row a len cap t) → lenOf hs k = len

theorem ShCond.of_ext {n : Nat} {μ : Mu} {r r' : List (Nat × Nat)} {ks : List Hdl} {hs : List D} (h : ShCond n μ r' ks hs) (he : ∀ k i, look r k = some i → look r' k = some i) : ShCond n μ r ks hs :=
  ⟨fun k i hk hn => h.ks k i (he k i hk) hn, fun k i a len cap t hk hn hm => h.len k i a len cap t (he k i hk) hn hm⟩

section
variable {P : Program} {C : Cx} {w : World} {μ : Mu} {Im : Nat → Prop}

theorem memR_look {i : Nat} : ∀ {l : List (Nat × Nat)}, memR i l = false → ∀ k, look l k ≠ some i
  | [], _, k => by simp [look]
  | (k0, j) :: l, h, k => by
    simp only [memR] at h
    split at h
    · simp at h
    · rename_i hb
      have hne : i ≠ j := fun e => by subst e; simp at hb
      rw [look_cons]
      split
      · intro e; injection e with e; exact hne e.symm
      · exact memR_look h k

theorem exec_bindRef {β : Type} {s : AS} {k i : Nat} {f : AS → Prog β} {h : H} {l : Log} {r : β × H × Log} (hx : (s.bindRef k i f).exec h l = some r) (hs : s.ok) :
    ∃ s', (f s').exec h l = some r ∧ s'.ok ∧ AsExt s s' [] [] ∧ look s'.refs k = some i := by
  unfold AS.bindRef at hx
  cases hj : look s.refs k with
  | some j =>
    simp only [hj] at hx
    replace hx := exec_chk hx; obtain ⟨hc, hx⟩ := hx
    have : j = i := Nat.eq_of_beq_eq_true hc
    subst this
    exact ⟨s, hx, hs, .refl s, hj⟩
  | none =>
    simp only [hj] at hx
    replace hx := exec_chk hx; obtain ⟨hc, hx⟩ := hx
    simp only [Bool.not_eq_true'] at hc
    have hno := memR_look hc
    refine ⟨_, hx, ⟨hs.1, fun k1 k2 j h1 h2 => ?_⟩, ⟨fun k1 j h1 => ?_, rfl, rfl⟩, by simp [look_cons]⟩
    · simp only [look_cons] at h1 h2
      split at h1 <;> split at h2
      · omega
      · injection h1 with h1; subst h1; exact (hno _ h2).elim
      · injection h2 with h2; subst h2; exact (hno _ h1).elim
      · exact hs.2 _ _ _ h1 h2
    · simp only [look_cons]
      split
      · rename_i e; subst e; rw [hj] at h1; simp at h1
      · exact h1

/-- what an absorbed value is -/
def AbVal (h : H) (w : World) (μ : Mu) (Im : Nat → Prop) (new fz : List Nat) (s' : AS) (sh : Sh) (d : D) (x : Value) : Prop :=
  (∀ i ∈ new, ∃ t xs, look h.bs i = some (.row t xs)) ∧ (∀ i ∈ fz, ∃ t xs, look h.bs i = some (.row t xs)) ∧
  ∀ (Im' : Nat → Prop) (n : Nat) (ks : List Hdl) (hs : List D), (∀ y, Im y → Im' y) → (∀ i ∈ fz, ∀ k y, μ i = some k → k.blk = some y → Im' y) → ShCond n μ s'.refs ks hs → sh.wf n = true →
    ∃ o, shrel w Im' ks hs sh d x o ∧ o.Sublist (new.flatMap (blkOf μ))

def AbVals (h : H) (w : World) (μ : Mu) (Im : Nat → Prop) (new fz : List Nat) (s' : AS) (sh : List Sh) (ds : List D) (xs : List Value) : Prop :=
  (∀ i ∈ new, ∃ t xs, look h.bs i = some (.row t xs)) ∧ (∀ i ∈ fz, ∃ t xs, look h.bs i = some (.row t xs)) ∧
  ∀ (Im' : Nat → Prop) (n : Nat) (ks : List Hdl) (hs : List D), (∀ y, Im y → Im' y) → (∀ i ∈ fz, ∀ k y, μ i = some k → k.blk = some y → Im' y) → ShCond n μ s'.refs ks hs → Sh.wfs n sh = true →
    ∃ o, shrels w Im' ks hs sh ds xs o ∧ o.Sublist (new.flatMap (blkOf μ))

theorem not_memN {i : Nat} {l : List Nat} (h : (!memN i l) = true) : i ∉ l := fun hi => by
  rw [← memN_iff] at hi; simp [hi] at h

theorem hb_sub {a a' : Option Addr} {L cap off len : Nat} {t : Ty} (h : ∀ y, (Hdl.row a' len (cap - off) t).blk = some y → (Hdl.row a L cap t).blk = some y) : (hb (.row a' len (cap - off) t)).Sublist (hb (.row a L cap t)) := by
  unfold hb
  cases hb' : (Hdl.row a' len (cap - off) t).blk with
  | none => simp
  | some y => rw [h y hb']; simp

mutual
theorem exec_ab {β : Type} {h : H} (hR : HRel C (look h.bs) w μ Im) : ∀ {sh : Sh} {v : V} {s : AS} {f : D → AS → Prog β} {l : Log} {r : β × H × Log}, (ab sh v s f).exec h l = some r → s.ok →
    ∀ {x : Value}, vrel w μ Im v x → ∃ d s' l' new fz, (f d s').exec h l' = some r ∧ s'.ok ∧ AsExt s s' new fz ∧ AbVal h w μ Im new fz s' sh d x
  | .any, v, s, f, l, r, hx, hs, x, hv => by
    simp only [ab] at hx
    exact ⟨_, s, l, [], [], hx, hs, .refl s, by simp, by simp, fun Im' n ks hs' _ _ _ _ => ⟨[], by simp [shrel], by simp⟩⟩
  | .dat t, v, s, f, l, r, hx, hs, x, hv => by
    simp only [ab] at hx
    obtain ⟨d, new, l', hx, hf, hab⟩ := exec_abD hR hx hv
    refine ⟨d, _, l', [], new, hx, hs, ⟨fun _ _ h => h, rfl, rfl⟩, by simp, hab.1, fun Im' n ks hs' hi hfz _ _ => ⟨[], ⟨rfl, cellsOf x, (fits_size hv hf).2, hab.2 Im' hi hfz⟩, by simp⟩⟩
  | .own t, v, s, f, l, r, hx, hs, x, hv => by
    simp only [ab] at hx
    cases v <;> simp only at hx <;> try exact (exec_fail hx).elim
    case nil =>
      simp only [vrel] at hv; subst hv
      exact ⟨_, s, l, [], [], hx, hs, .refl s, by simp, by simp, fun Im' n ks hs' _ _ _ _ => ⟨_, ⟨none, 0, [], rfl, rfl, ⟨Nat.le_refl _, by decide, .inl rfl⟩, rfl⟩, by simp [hb, Hdl.blk]⟩⟩
    case emp t' =>
      replace hx := exec_chk hx; obtain ⟨hc, hx⟩ := hx
      obtain ⟨a, rfl⟩ := hv
      refine ⟨_, s, l, [], [], hx, hs, .refl s, by simp, by simp, fun Im' n ks hs' _ _ _ _ => ⟨_, ⟨a, 0, [], rfl, rfl, ⟨Nat.le_refl _, by decide, .inl rfl⟩, rfl⟩, ?_⟩⟩
      cases a <;> simp [hb, Hdl.blk]
    case all t' i len =>
      replace hx := exec_chk hx; obtain ⟨hc, hx⟩ := hx
      simp only [Bool.and_eq_true] at hc
      obtain ⟨hc, hnm⟩ := hc
      rw [Ty.beq_iff] at hc; subst hc
      replace hx := exec_get hx; obtain ⟨b, hb', hx⟩ := hx
      have hbr := hR.blk i b hb'
      cases b <;> (try simp only at hx) <;> try exact (exec_fail hx).elim
      rename_i te xs
      replace hx := exec_chk hx; obtain ⟨hc, hx⟩ := hx
      obtain ⟨a, cap, hm, rfl⟩ := hv
      obtain ⟨a', cap', hm', hr⟩ := hbr
      have hmm := hm
      rw [hm] at hm'
      simp only [Option.some.injEq, Hdl.row.injEq] at hm'
      obtain ⟨rfl, rfl, rfl, rfl⟩ := hm'
      refine ⟨_, _, _, [i], [], hx, ⟨List.nodup_cons.2 ⟨not_memN hnm, hs.1⟩, hs.2⟩, ⟨fun _ _ h => h, rfl, rfl⟩, by simp [hb'], by simp, fun Im' n ks hs' hi _ _ _ => ⟨_, ⟨a, cap, xs, rfl, rfl, hr.mono hi (fun _ _ => rfl) (fun _ _ => rfl), rfl⟩, ?_⟩⟩
      simp [blkOf, hmm]
    case sub t' i off len =>
      replace hx := exec_chk hx; obtain ⟨hc, hx⟩ := hx
      simp only [Bool.and_eq_true] at hc
      obtain ⟨hc, hnm⟩ := hc
      rw [Ty.beq_iff] at hc; subst hc
      replace hx := exec_get hx; obtain ⟨b, hb', hx⟩ := hx
      have hbr := hR.blk i b hb'
      cases b <;> (try simp only at hx) <;> try exact (exec_fail hx).elim
      rename_i te xs
      replace hx := exec_chk hx; obtain ⟨hc, hx⟩ := hx
      obtain ⟨a, L, cap, a1, hm, hlen, hcap, rfl, ha1⟩ := hv
      obtain ⟨a', cap', hm', hr⟩ := hbr
      have hmm := hm
      rw [hm] at hm'
      simp only [Option.some.injEq, Hdl.row.injEq] at hm'
      obtain ⟨rfl, rfl, rfl, rfl⟩ := hm'
      have hl : ((xs.drop off).take len).length = len := by simp; omega
      have hp := hr.part hlen ha1
      refine ⟨_, _, _, [i], [], hx, ⟨List.nodup_cons.2 ⟨not_memN hnm, hs.1⟩, hs.2⟩, ⟨fun _ _ h => h, rfl, rfl⟩, by simp [hb'], by simp, fun Im' n ks hs' hi _ _ _ => ⟨_, ⟨a1, cap - off, _, rfl, by rw [hl], hp.mono hi (fun _ _ => rfl) (fun _ _ => rfl), rfl⟩, ?_⟩⟩
      rw [hl]
      simpa [blkOf, hmm] using hb_sub (part_blk (len := len) (hR.ok _ _ hmm) ha1)
  | .agg ts sh, v, s, f, l, r, hx, hs, x, hv => by
    simp only [ab] at hx
    split at hx
    · rename_i ts' vs
      replace hx := exec_chk hx; obtain ⟨hc, hx⟩ := hx
      obtain ⟨xs, rfl, hfit, hvs⟩ := hv
      obtain ⟨ds, s', l', new, fz, hx, hs', he, h1, h2, h3⟩ := exec_abs hR hx hs hvs
      refine ⟨_, s', l', new, fz, hx, hs', he, h1, h2, fun Im' n ks hs' hi hfz hsc hwf => ?_⟩
      simp only [Sh.wf, Bool.and_eq_true] at hwf
      obtain ⟨o, ho, hsub⟩ := h3 Im' n ks hs' hi hfz hsc hwf.2
      exact ⟨o, ⟨ds, xs, rfl, rfl, ho⟩, hsub⟩
    · rename_i ts' d
      replace hx := exec_chk hx; obtain ⟨hc, hx⟩ := hx
      rw [Ty.beqs_iff] at hc; subst hc
      obtain ⟨cs, rfl, ds0, rfl, hr⟩ := hv
      obtain ⟨hv1, hv2, hv3⟩ := fields_rel (μ := μ) hr (.r ds0) 0 (fun j _ => by simp [D.f])
      obtain ⟨ds, s', l', new, fz, hx, hs', he, h1, h2, h3⟩ := exec_abs hR hx hs hv1
      refine ⟨_, s', l', new, fz, hx, hs', he, h1, h2, fun Im' n ks hs' hi hfz hsc hwf => ?_⟩
      simp only [Sh.wf, Bool.and_eq_true] at hwf
      obtain ⟨o, ho, hsub⟩ := h3 Im' n ks hs' hi hfz hsc hwf.2
      exact ⟨o, ⟨ds, _, rfl, by simp [mkVal, Ty.isAgg, hv3], ho⟩, hsub⟩
    · exact (exec_fail hx).elim
  | .ref k t, v, s, f, l, r, hx, hs, x, hv => by
    simp only [ab] at hx
    split at hx <;> try exact (exec_fail hx).elim
    rename_i t' i
    replace hx := exec_chk hx; obtain ⟨hc, hx⟩ := hx
    rw [Ty.beq_iff] at hc; subst hc
    obtain ⟨s', hx, hs', he, hk⟩ := exec_bindRef hx hs
    refine ⟨_, s', _, [], [], hx, hs', he, by simp, by simp, fun Im' n ks hs' hi hfz hsc hwf => ⟨[], ⟨rfl, ?_⟩, by simp⟩⟩
    simp only [Sh.wf] at hwf
    have hn : k < n := by simpa [Nat.blt_eq] using hwf
    obtain ⟨a, rfl, hsp, h1 | h1⟩ := hv
    · obtain ⟨b, tb, hm, hbl, hpl⟩ := h1
      simp only [place, Option.some.injEq, Prod.mk.injEq] at hpl
      obtain ⟨ho, rfl⟩ := hpl
      obtain ⟨ab, ao, as⟩ := a
      simp only at hbl hsp ho
      subst hbl; subst hsp; subst ho
      exact ⟨ab, by rw [hsc.ks k i hk hn, hm], rfl⟩
    · obtain ⟨ad, L, cap, te, k', p', o, _, h2, _⟩ := h1
      simp at h2
  | .rall k t, v, s, f, l, r, hx, hs, x, hv => by
    simp only [ab] at hx
    split at hx <;> try exact (exec_fail hx).elim
    rename_i t' i len
    replace hx := exec_chk hx; obtain ⟨hc, hx⟩ := hx
    rw [Ty.beq_iff] at hc; subst hc
    obtain ⟨s', hx, hs', he, hk⟩ := exec_bindRef hx hs
    refine ⟨_, s', _, [], [], hx, hs', he, by simp, by simp, fun Im' n ks hs' hi hfz hsc hwf => ⟨[], ⟨rfl, ?_⟩, by simp⟩⟩
    simp only [Sh.wf] at hwf
    have hn : k < n := by simpa [Nat.blt_eq] using hwf
    obtain ⟨a, cap, hm, rfl⟩ := hv
    exact ⟨a, len, cap, by rw [hsc.ks k i hk hn, hm], rfl, hsc.len k i _ _ _ _ hk hn hm⟩
  | .rsub k t, v, s, f, l, r, hx, hs, x, hv => by
    simp only [ab] at hx
    split at hx <;> try exact (exec_fail hx).elim
    · rename_i t' i len
      replace hx := exec_chk hx; obtain ⟨hc, hx⟩ := hx
      rw [Ty.beq_iff] at hc; subst hc
      obtain ⟨s', hx, hs', he, hk⟩ := exec_bindRef hx hs
      refine ⟨_, s', _, [], [], hx, hs', he, by simp, by simp, fun Im' n ks hs' hi hfz hsc hwf => ⟨[], ⟨rfl, ?_⟩, by simp⟩⟩
      simp only [Sh.wf] at hwf
      have hn : k < n := by simpa [Nat.blt_eq] using hwf
      obtain ⟨a, cap, hm, rfl⟩ := hv
      have hok := hR.ok _ _ hm
      refine ⟨a, len, cap, a, 0, len, by rw [hsc.ks k i hk hn, hm], rfl, by omega, hok.1, by simp, fun hc => ?_⟩
      obtain ⟨ad, rfl, hsp⟩ := hok.2.2 hc
      obtain ⟨ab, ao, as⟩ := ad
      simp only at hsp; subst hsp
      simp [addr_add]
    · rename_i t' i off len
      replace hx := exec_chk hx; obtain ⟨hc, hx⟩ := hx
      rw [Ty.beq_iff] at hc; subst hc
      obtain ⟨s', hx, hs', he, hk⟩ := exec_bindRef hx hs
      refine ⟨_, s', _, [], [], hx, hs', he, by simp, by simp, fun Im' n ks hs' hi hfz hsc hwf => ⟨[], ⟨rfl, ?_⟩, by simp⟩⟩
      simp only [Sh.wf] at hwf
      have hn : k < n := by simpa [Nat.blt_eq] using hwf
      obtain ⟨a, L, cap, a1, hm, hlen, hcap, rfl, ha1⟩ := hv
      exact ⟨a, L, cap, a1, off, len, by rw [hsc.ks k i hk hn, hm], rfl, hlen, hcap, rfl, ha1⟩
  | .mref k, v, s, f, l, r, hx, hs, x, hv => by
    simp only [ab] at hx
    split at hx <;> try exact (exec_fail hx).elim
    rename_i i
    obtain ⟨s', hx, hs', he, hk⟩ := exec_bindRef hx hs
    refine ⟨_, s', _, [], [], hx, hs', he, by simp, by simp, fun Im' n ks hs' hi hfz hsc hwf => ⟨[], ⟨rfl, ?_⟩, by simp⟩⟩
    simp only [Sh.wf] at hwf
    have hn : k < n := by simpa [Nat.blt_eq] using hwf
    obtain ⟨r, hm, rfl⟩ := hv
    exact ⟨r, by rw [hsc.ks k i hk hn, hm], rfl⟩
  | .fn g sh, v, s, f, l, r, hx, hs, x, hv => by
    simp only [ab] at hx
    split at hx <;> try exact (exec_fail hx).elim
    rename_i g' vs
    replace hx := exec_chk hx; obtain ⟨hc, hx⟩ := hx
    have : g = g' := Nat.eq_of_beq_eq_true hc
    subst this
    obtain ⟨xs, rfl, hvs⟩ := hv
    obtain ⟨ds, s', l', new, fz, hx, hs', he, h1, h2, h3⟩ := exec_abs hR hx hs hvs
    refine ⟨_, s', l', new, fz, hx, hs', he, h1, h2, fun Im' n ks hs' hi hfz hsc hwf => ?_⟩
    simp only [Sh.wf] at hwf
    obtain ⟨o, ho, hsub⟩ := h3 Im' n ks hs' hi hfz hsc hwf
    exact ⟨o, ⟨ds, xs, rfl, rfl, ho⟩, hsub⟩
  | .ifc t sh, v, s, f, l, r, hx, hs, x, hv => by
    simp only [ab] at hx
    split at hx <;> try exact (exec_fail hx).elim
    rename_i t' v'
    replace hx := exec_chk hx; obtain ⟨hc, hx⟩ := hx
    have : t = t' := Nat.eq_of_beq_eq_true hc
    subst this
    obtain ⟨y, rfl, hv⟩ := hv
    obtain ⟨d, s', l', new, fz, hx, hs', he, h1, h2, h3⟩ := exec_ab hR hx hs hv
    refine ⟨_, s', l', new, fz, hx, hs', he, h1, h2, fun Im' n ks hs' hi hfz hsc hwf => ?_⟩
    simp only [Sh.wf] at hwf
    obtain ⟨o, ho, hsub⟩ := h3 Im' n ks hs' hi hfz hsc hwf
    exact ⟨o, ⟨y, rfl, ho⟩, hsub⟩
  | .nilp, v, s, f, l, r, hx, hs, x, hv => by
    simp only [ab] at hx
    split at hx <;> try exact (exec_fail hx).elim
    simp only [vrel] at hv; subst hv
    exact ⟨_, s, l, [], [], hx, hs, .refl s, by simp, by simp, fun Im' n ks hs' _ _ _ _ => ⟨[], ⟨rfl, rfl⟩, by simp⟩⟩
  | .nilm, v, s, f, l, r, hx, hs, x, hv => by
    simp only [ab] at hx
    split at hx <;> try exact (exec_fail hx).elim
    simp only [vrel] at hv; subst hv
    exact ⟨_, s, l, [], [], hx, hs, .refl s, by simp, by simp, fun Im' n ks hs' _ _ _ _ => ⟨[], ⟨rfl, rfl⟩, by simp⟩⟩
  | .nilf, v, s, f, l, r, hx, hs, x, hv => by
    simp only [ab] at hx
    split at hx <;> try exact (exec_fail hx).elim
    simp only [vrel] at hv; subst hv
    exact ⟨_, s, l, [], [], hx, hs, .refl s, by simp, by simp, fun Im' n ks hs' _ _ _ _ => ⟨[], ⟨rfl, rfl⟩, by simp⟩⟩
  | .nili, v, s, f, l, r, hx, hs, x, hv => by
    simp only [ab] at hx
    split at hx <;> try exact (exec_fail hx).elim
    simp only [vrel] at hv; subst hv
    exact ⟨_, s, l, [], [], hx, hs, .refl s, by simp, by simp, fun Im' n ks hs' _ _ _ _ => ⟨[], ⟨rfl, rfl⟩, by simp⟩⟩
theorem exec_abs {β : Type} {h : H} (hR : HRel C (look h.bs) w μ Im) : ∀ {sh : List Sh} {vs : List V} {s : AS} {f : List D → AS → Prog β} {l : Log} {r : β × H × Log}, (abs sh vs s f).exec h l = some r → s.ok →
    ∀ {xs : List Value}, vrels w μ Im vs xs → ∃ ds s' l' new fz, (f ds s').exec h l' = some r ∧ s'.ok ∧ AsExt s s' new fz ∧ AbVals h w μ Im new fz s' sh ds xs
  | [], [], s, f, l, r, hx, hs, xs, hv => by
    simp only [abs] at hx
    simp only [vrels] at hv; subst hv
    exact ⟨[], s, l, [], [], hx, hs, .refl s, by simp, by simp, fun Im' n ks hs' _ _ _ _ => ⟨[], ⟨rfl, rfl, rfl⟩, by simp⟩⟩
  | [], _ :: _, s, f, l, r, hx, hs, xs, hv => by simp only [abs] at hx; exact (exec_fail hx).elim
  | _ :: _, [], s, f, l, r, hx, hs, xs, hv => by simp only [abs] at hx; exact (exec_fail hx).elim
  | sh :: shs, v :: vs, s, f, l, r, hx, hs, xs, hv => by
    simp only [abs] at hx
    obtain ⟨x, xs', rfl, hv, hvs⟩ := hv
    obtain ⟨d, s1, l1, n1, f1, hx, hs1, e1, a1, a2, a3⟩ := exec_ab hR hx hs hv
    obtain ⟨ds, s2, l2, n2, f2, hx, hs2, e2, b1, b2, b3⟩ := exec_abs hR hx hs1 hvs
    refine ⟨d :: ds, s2, l2, n1 ++ n2, f2 ++ f1, hx, hs2, e1.trans e2, ?_, ?_, fun Im' n ks hs' hi hfz hsc hwf => ?_⟩
    · intro i hi
      rcases List.mem_append.1 hi with h | h
      · exact a1 i h
      · exact b1 i h
    · intro i hi
      rcases List.mem_append.1 hi with h | h
      · exact b2 i h
      · exact a2 i h
    · simp only [Sh.wfs, Bool.and_eq_true] at hwf
      obtain ⟨o1, ho1, hs1⟩ := a3 Im' n ks hs' hi (fun i h => hfz i (List.mem_append.2 (.inr h))) (hsc.of_ext e2.refs) hwf.1
      obtain ⟨o2, ho2, hs2⟩ := b3 Im' n ks hs' hi (fun i h => hfz i (List.mem_append.2 (.inl h))) hsc hwf.2
      exact ⟨o1 ++ o2, ⟨d, ds, x, xs', o1, o2, rfl, rfl, rfl, ho1, ho2⟩, by rw [List.flatMap_append]; exact hs1.append hs2⟩
end

end
end Go.Ev

/- From a state to its data: the blocks, and the whole. -/
namespace Go.Ev
open Go

section
variable {P : Program} {C : Cx} {w : World} {μ : Mu} {Im : Nat → Prop}

theorem brel_hdl {i : Nat} {b : Blk} (hb : b.live = true) (h : brel w μ Im i b) : ∃ k, μ i = some k := by
  cases b <;> simp [Blk.live] at hb
  · obtain ⟨_, _, _, _, _, hm, _⟩ := h; exact ⟨_, hm⟩
  · obtain ⟨_, _, hm, _⟩ := h; exact ⟨_, hm⟩
  · obtain ⟨_, _, _, hm, _⟩ := h; exact ⟨_, hm⟩

def refIds (refs : List (Nat × Nat)) : Nat → Nat → List Nat
  | _, 0 => []
  | k, n + 1 => (look refs k).getD 0 :: refIds refs (k + 1) n

/-- the blocks' part of what is absorbed -/
def AbHeap (h : H) (w : World) (μ : Mu) (Im : Nat → Prop) (new fz : List Nat) (s' : AS) (hsh : List HSh) (k : Nat) (hds : List D) : Prop :=
  (∀ i ∈ new, ∃ t xs, look h.bs i = some (.row t xs)) ∧ (∀ i ∈ fz, ∃ t xs, look h.bs i = some (.row t xs)) ∧
  (∀ j, j < hsh.length → ∃ i b, look s'.refs (k + j) = some i ∧ look h.bs i = some b ∧ b.live = true ∧ ∀ t xs, b = .row t xs → dnth hds j = .r xs) ∧
  ∀ (Im' : Nat → Prop) (n : Nat) (ks : List Hdl) (hs : List D), (∀ y, Im y → Im' y) → (∀ i ∈ fz, ∀ k y, μ i = some k → k.blk = some y → Im' y) → ShCond n μ s'.refs ks hs → k + hsh.length ≤ n →
    (∀ j, j < hsh.length → dnth hs (k + j) = dnth hds j) → HSh.wfs n hsh = true →
    ∃ (o ids : List Nat), hshrels w Im' ks hs hsh k o ∧ o.Sublist (ids.flatMap (blkOf μ)) ∧ ids.Perm (refIds s'.refs k hsh.length ++ new)

theorem refIds_ext {r r' : List (Nat × Nat)} (he : ∀ k i, look r k = some i → look r' k = some i) : ∀ {n k : Nat}, (∀ j, j < n → ∃ i, look r (k + j) = some i) → refIds r' k n = refIds r k n
  | 0, _, _ => rfl
  | n + 1, k, h => by
    obtain ⟨i, hi⟩ := h 0 (by omega)
    simp only [Nat.add_zero] at hi
    simp only [refIds, hi, he k i hi]
    rw [refIds_ext he fun j hj => by
      obtain ⟨i, hi⟩ := h (j + 1) (by omega)
      exact ⟨i, by rw [Nat.add_assoc, Nat.add_comm 1 j]; exact hi⟩]

theorem exec_abH {β : Type} {h : H} (hR : HRel C (look h.bs) w μ Im) : ∀ {hsh : List HSh} {k : Nat} {s : AS} {f : List D → AS → Prog β} {l : Log} {r : β × H × Log}, (abH hsh k s f).exec h l = some r → s.ok →
    ∃ hds s' l' new fz, (f hds s').exec h l' = some r ∧ s'.ok ∧ AsExt s s' new fz ∧ hds.length = hsh.length ∧ AbHeap h w μ Im new fz s' hsh k hds
  | [], k, s, f, l, r, hx, hs => by
    simp only [abH] at hx
    exact ⟨[], s, l, [], [], hx, hs, .refl s, rfl, by simp, by simp, by simp, fun Im' n ks hs' _ _ _ _ _ _ => ⟨[], [], rfl, by simp, by simp [refIds]⟩⟩
  | sh :: hsh, k, s, f, l, r, hx, hs => by
    simp only [abH] at hx
    split at hx
    case h_2 => exact (exec_fail hx).elim
    rename_i i hki
    replace hx := exec_get hx; obtain ⟨b, hbk, hx⟩ := hx
    have hbr := hR.blk i b hbk
    -- the rest of the work is alike for the three kinds
    have go : ∀ (d : D) (s1 : AS) (l1 : Log) (n1 f1 : List Nat), (abH hsh (k + 1) s1 fun ds s => f (d :: ds) s).exec h l1 = some r → s1.ok → AsExt s s1 n1 f1 → (∀ i ∈ n1, ∃ t xs, look h.bs i = some (.row t xs)) → (∀ i ∈ f1, ∃ t xs, look h.bs i = some (.row t xs)) →
        b.live = true → (∀ t xs, b = .row t xs → d = .r xs) →
        (∀ (Im' : Nat → Prop) (n : Nat) (ks : List Hdl) (hs : List D), (∀ y, Im y → Im' y) → (∀ i ∈ f1, ∀ k y, μ i = some k → k.blk = some y → Im' y) → ShCond n μ s1.refs ks hs → sh.wf n = true →
          ∀ hd, μ i = some hd → ∃ o, hshrel w Im' ks hs sh d hd o ∧ o.Sublist (n1.flatMap (blkOf μ))) →
        ∃ hds s' l' new fz, (f hds s').exec h l' = some r ∧ s'.ok ∧ AsExt s s' new fz ∧ hds.length = (sh :: hsh).length ∧ AbHeap h w μ Im new fz s' (sh :: hsh) k hds := by
      intro d s1 l1 n1 f1 hx hs1 e1 a1 a2 hlv hrow hval
      obtain ⟨hds, s2, l2, n2, f2, hx, hs2, e2, hlen, b1, b2, b3, b4⟩ := exec_abH hR hx hs1
      obtain ⟨hd, hmu⟩ := brel_hdl hlv hbr
      refine ⟨d :: hds, s2, l2, n1 ++ n2, f2 ++ f1, hx, hs2, e1.trans e2, by simp [hlen], ?_, ?_, ?_, ?_⟩
      · intro i hi
        rcases List.mem_append.1 hi with h | h
        · exact a1 i h
        · exact b1 i h
      · intro i hi
        rcases List.mem_append.1 hi with h | h
        · exact b2 i h
        · exact a2 i h
      · intro j hj
        cases j with
        | zero => exact ⟨i, b, e2.refs _ _ (e1.refs _ _ hki), hbk, hlv, fun t xs hbe => by simp only [dnth]; exact hrow t xs hbe⟩
        | succ j =>
          obtain ⟨i', b', c1, c2, c3, c4⟩ := b3 j (by simpa using hj)
          exact ⟨i', b', by rw [← c1]; congr 1; omega, c2, c3, fun t xs hbe => by simp only [dnth]; exact c4 t xs hbe⟩
      · intro Im' n ks hs' hi hfz hsc hn hdn hwf
        simp only [HSh.wfs, Bool.and_eq_true] at hwf
        simp only [List.length_cons] at hn hdn
        have hk2 := e2.refs _ _ (e1.refs _ _ hki)
        obtain ⟨o1, ho1, hs1'⟩ := hval Im' n ks hs' hi (fun i h => hfz i (List.mem_append.2 (.inr h))) (hsc.of_ext e2.refs) hwf.1 hd hmu
        obtain ⟨o2, ids, ho2, hs2', hp⟩ := b4 Im' n ks hs' hi (fun i h => hfz i (List.mem_append.2 (.inl h))) hsc (by omega) (fun j hj => by
          have := hdn (j + 1) (by omega)
          rw [show k + (j + 1) = k + 1 + j by omega] at this
          exact this) hwf.2
        refine ⟨hb hd ++ (o1 ++ o2), i :: (n1 ++ ids), ⟨hd, o1, o2, by rw [hsc.ks k i hk2 (by omega), hmu], hR.ok _ _ hmu, ?_, ho2, rfl⟩, ?_, ?_⟩
        · have := hdn 0 (by omega)
          simp only [Nat.add_zero, dnth] at this
          rw [this]; exact ho1
        · simp only [List.flatMap_cons, List.flatMap_append]
          refine List.Sublist.append ?_ (hs1'.append hs2')
          simp [blkOf, hmu]
        · simp only [refIds, List.length_cons, hk2, Option.getD_some, List.cons_append]
          refine List.Perm.cons i ?_
          refine (hp.append_left n1).trans ?_
          rw [← List.append_assoc, ← List.append_assoc]
          exact List.perm_append_comm.append_right n2
    split at hx
    · rename_i t s0 t' v
      replace hx := exec_chk hx; obtain ⟨hc, hx⟩ := hx
      rw [Ty.beq_iff] at hc; subst hc
      obtain ⟨b0, c, e, f0, x, hm, hh, hfz, hfit, hv, hcx⟩ := hbr
      obtain ⟨d, s1, l1, n1, f1, hx, hs1, e1, a1, a2, a3⟩ := exec_ab hR hx hs hv
      refine go d s1 l1 n1 f1 hx hs1 e1 a1 a2 rfl (by simp) fun Im' n ks hs' hi hf1 hsc hwf hd hmu => ?_
      simp only [HSh.wf, Bool.and_eq_true] at hwf
      obtain ⟨o, ho, hsub⟩ := a3 Im' n ks hs' hi hf1 hsc hwf.2
      rw [hm] at hmu; injection hmu with hmu; subst hmu
      exact ⟨o, ⟨b0, c, e, f0, x, rfl, hh, hfz, hcx, ho⟩, hsub⟩
    · rename_i t t' xs
      replace hx := exec_chk hx; obtain ⟨hc, hx⟩ := hx
      rw [Ty.beq_iff] at hc; subst hc
      obtain ⟨a, cap, hm, hr⟩ := hbr
      refine go (.r xs) s _ [] [] hx hs (.refl s) (by simp) (by simp) rfl (by simp) fun Im' n ks hs' hi hf1 hsc hwf hd hmu => ?_
      rw [hm] at hmu; injection hmu with hmu; subst hmu
      exact ⟨[], ⟨rfl, xs, a, cap, rfl, rfl, hr.mono hi (fun _ _ => rfl) (fun _ _ => rfl)⟩, by simp⟩
    · rename_i kt vt kt' vt' es
      replace hx := exec_chk hx; obtain ⟨hc, hx⟩ := hx
      simp only [Bool.and_eq_true, Ty.beq_iff] at hc
      obtain ⟨rfl, rfl⟩ := hc
      obtain ⟨r0, ents, clock, hm, hh, hmr⟩ := hbr
      refine go _ s _ [] [] hx hs (.refl s) (by simp) (by simp) rfl (by simp) fun Im' n ks hs' hi hf1 hsc hwf hd hmu => ?_
      rw [hm] at hmu; injection hmu with hmu; subst hmu
      exact ⟨[], ⟨rfl, es, r0, ents, clock, rfl, rfl, hh, hmr.mono hi (fun _ _ => rfl)⟩, by simp⟩
    · exact (exec_fail hx).elim

/-! ### The whole -/

theorem disj_spec : ∀ {l m : List Nat}, disj l m = true → ∀ i ∈ l, i ∉ m
  | [], _, _, i, hi => by simp at hi
  | x :: l, m, h, i, hi => by
    simp only [disj] at h
    split at h
    · simp at h
    · rename_i hb
      have hx : x ∉ m := fun hm => by rw [← memN_iff] at hm; rw [hm] at hb; simp at hb
      simp only [List.mem_cons] at hi
      rcases hi with rfl | hi
      · exact hx
      · exact disj_spec h i hi

theorem disjR_spec : ∀ {l : List (Nat × Nat)} {m : List Nat}, disjR l m = true → ∀ k i, look l k = some i → i ∉ m
  | [], _, _, k, i, hi => by simp [look] at hi
  | (k0, x) :: l, m, h, k, i, hi => by
    simp only [disjR] at h
    split at h
    · simp at h
    · rename_i hb
      have hx : x ∉ m := fun hm => by rw [← memN_iff] at hm; rw [hm] at hb; simp at hb
      rw [look_cons] at hi
      split at hi
      · injection hi with hi; subst hi; exact hx
      · exact disjR_spec h k i hi

theorem look_pinned : ∀ (pins : List Nat) (k j : Nat), look (pinned pins k) j = if k ≤ j then pins[j - k]? else none
  | [], k, j => by simp [pinned, look]
  | i :: l, k, j => by
    simp only [pinned, look_cons, look_pinned l (k + 1) j]
    by_cases h1 : k = j
    · subst h1; simp
    · rw [if_neg h1]
      by_cases h2 : k ≤ j
      · rw [if_pos (by omega), if_pos h2]
        have : j - k = (j - (k + 1)) + 1 := by omega
        rw [this]; simp
      · rw [if_neg (by omega), if_neg h2]

theorem flat_nodup {hp : Nat → Option Blk} (hR : HRel C hp w μ Im) : ∀ {ids : List Nat}, ids.Nodup → (∀ i ∈ ids, ∃ b, hp i = some b ∧ b.live = true) → (ids.flatMap (blkOf μ)).Nodup
  | [], _, _ => by simp
  | i :: ids, hn, hl => by
    rw [List.nodup_cons] at hn
    rw [List.flatMap_cons, List.nodup_append]
    refine ⟨?_, flat_nodup hR hn.2 fun j hj => hl j (List.mem_cons_of_mem _ hj), ?_⟩
    · unfold blkOf
      cases μ i with
      | none => simp
      | some k => simp only [hb]; cases k.blk <;> simp
    · intro a ha b hb' e
      subst e
      obtain ⟨k, hk, hka⟩ := mem_blkOf.1 ha
      obtain ⟨j, hj, hb2⟩ := List.mem_flatMap.1 hb'
      obtain ⟨k2, hk2, hka2⟩ := mem_blkOf.1 hb2
      obtain ⟨b1, h1, l1⟩ := hl i List.mem_cons_self
      obtain ⟨b2, h2, l2⟩ := hl j (List.mem_cons_of_mem _ hj)
      have := hR.dis i j b1 b2 k k2 a h1 l1 h2 l2 hk hk2 hka hka2
      subst this
      exact hn.1 hj

theorem mem_refIds {refs : List (Nat × Nat)} : ∀ {n k i : Nat}, (∀ j, j < n → ∃ i, look refs (k + j) = some i) → i ∈ refIds refs k n → ∃ j, j < n ∧ look refs (k + j) = some i
  | 0, _, _, _, h => by simp [refIds] at h
  | n + 1, k, i, hb, h => by
    simp only [refIds, List.mem_cons] at h
    rcases h with h | h
    · obtain ⟨i', hi'⟩ := hb 0 (by omega)
      simp only [Nat.add_zero] at hi'
      rw [hi'] at h; simp only [Option.getD_some] at h; subst h
      exact ⟨0, by omega, hi'⟩
    · obtain ⟨j, hj, he⟩ := mem_refIds (fun j hj => by
        obtain ⟨i, hi⟩ := hb (j + 1) (by omega)
        exact ⟨i, by rw [Nat.add_assoc, Nat.add_comm 1 j]; exact hi⟩) h
      exact ⟨j + 1, by omega, by rw [Nat.add_comm j 1, ← Nat.add_assoc]; exact he⟩

theorem nodup_refIds {refs : List (Nat × Nat)} (hinj : ∀ k k' i, look refs k = some i → look refs k' = some i → k = k') : ∀ {n k : Nat}, (∀ j, j < n → ∃ i, look refs (k + j) = some i) → (refIds refs k n).Nodup
  | 0, _, _ => by simp [refIds]
  | n + 1, k, hb => by
    have hb' : ∀ j, j < n → ∃ i, look refs (k + 1 + j) = some i := fun j hj => by
      obtain ⟨i, hi⟩ := hb (j + 1) (by omega)
      exact ⟨i, by rw [Nat.add_assoc, Nat.add_comm 1 j]; exact hi⟩
    simp only [refIds, List.nodup_cons]
    refine ⟨fun hm => ?_, nodup_refIds hinj hb'⟩
    obtain ⟨j, hj, he⟩ := mem_refIds hb' hm
    obtain ⟨i, hi⟩ := hb 0 (by omega)
    simp only [Nat.add_zero] at hi
    rw [hi] at he
    simp only [Option.getD_some] at he
    have := hinj _ _ _ he hi
    omega

/-- what holds of what was absorbed -/
structure Took (h : H) (w : World) (μ : Mu) (Im : Nat → Prop) (pins : List Nat) (hsh : List HSh) (sh : List Sh) (hs as : List D) (xs : List Value) (s : AS) : Prop where
  ok : s.ok
  frzRow : ∀ i ∈ s.frz, ∃ t xs, look h.bs i = some (.row t xs)
  usedRow : ∀ i ∈ s.used, ∃ t xs, look h.bs i = some (.row t xs)
  frzUsed : ∀ i ∈ s.frz, i ∉ s.used
  refUsed : ∀ k i, look s.refs k = some i → i ∉ s.used
  refFrz : ∀ k i, look s.refs k = some i → i ∉ s.frz
  refs : ∀ k, k < hsh.length → ∃ i b, look s.refs k = some i ∧ look h.bs i = some b ∧ b.live = true
  pins : ∀ k i, pins[k]? = some i → look s.refs k = some i
  bd : ∀ Im' : Nat → Prop, (∀ y, Im y → Im' y) → (∀ i ∈ s.frz, ∀ k y, μ i = some k → k.blk = some y → Im' y) → (∀ y, Im' y → Im y ∨ ∃ i ∈ s.frz, ∃ k, μ i = some k ∧ k.blk = some y) →
    ∃ ks o, Bd w Im' hsh sh hs as xs ks o ∧ (∀ k i, look s.refs k = some i → k < hsh.length → ks[k]? = μ i) ∧
      ∀ x ∈ o, ∃ i b k, (i ∈ s.used ∨ ∃ j, j < hsh.length ∧ look s.refs j = some i) ∧ look h.bs i = some b ∧ b.live = true ∧ μ i = some k ∧ k.blk = some x

theorem exec_absorb {β : Type} {h : H} (hR : HRel C (look h.bs) w μ Im) {pins : List Nat} {hsh : List HSh} {sh : List Sh} {vs : List V} {f : List D → List D → AS → Prog β} {l : Log} {r : β × H × Log}
    (hx : (absorb pins hsh sh vs f).exec h l = some r) {xs : List Value} (hv : vrels w μ Im vs xs) (hpins : pins.Nodup) (hwh : HSh.wfs hsh.length hsh = true) (hws : Sh.wfs hsh.length sh = true) :
    ∃ hs as s l', (f hs as s).exec h l' = some r ∧ Took h w μ Im pins hsh sh hs as xs s := by
  unfold absorb at hx
  have hs0 : AS.ok ⟨pinned pins 0, [], []⟩ := by
    refine ⟨by simp, fun k k' i h1 h2 => ?_⟩
    simp only [look_pinned, Nat.zero_le, if_true, Nat.sub_zero] at h1 h2
    have hk := (List.getElem?_eq_some_iff.1 h1).1
    exact (List.getElem?_inj hk hpins).1 (by rw [h1, h2])
  obtain ⟨as, s1, l1, n1, f1, hx, hs1, e1, a1, a2, a3⟩ := exec_abs hR hx hs0 hv
  obtain ⟨hs, s2, l2, n2, f2, hx, hs2, e2, hlen, b1, b2, b3, b4⟩ := exec_abH hR hx hs1
  replace hx := exec_chk hx; obtain ⟨hc, hx⟩ := hx
  simp only [Bool.and_eq_true] at hc
  obtain ⟨⟨hc1, hc2⟩, hc3⟩ := hc
  have e := e1.trans e2
  have hused : s2.used = (n1 ++ n2).reverse := by simpa using e.used
  have hfrz : s2.frz = f2 ++ f1 := by simpa using e.frz
  have hrefs : ∀ k, k < hsh.length → ∃ i b, look s2.refs k = some i ∧ look h.bs i = some b ∧ b.live = true := fun k hk => by
    obtain ⟨i, b, h1, h2, h3, _⟩ := b3 k hk
    exact ⟨i, b, by simpa using h1, h2, h3⟩
  have hfr : ∀ i ∈ s2.frz, ∃ t xs, look h.bs i = some (.row t xs) := fun i hi => by
    rw [hfrz] at hi
    rcases List.mem_append.1 hi with h | h
    · exact b2 i h
    · exact a2 i h
  have hur : ∀ i ∈ s2.used, ∃ t xs, look h.bs i = some (.row t xs) := fun i hi => by
    rw [hused, List.mem_reverse] at hi
    rcases List.mem_append.1 hi with h | h
    · exact a1 i h
    · exact b1 i h
  have d1 := disj_spec hc1
  have d2 := disjR_spec hc2
  have d3 := disjR_spec hc3
  refine ⟨hs, as, s2, l2, hx, hs2, hfr, hur, d1, d2, d3, hrefs, fun k i hk => e.refs k i (by simpa [look_pinned] using hk), fun Im' hi1 hi2 hi3 => ?_⟩
  have hks : ∀ k i, look s2.refs k = some i → k < hsh.length → ((List.range hsh.length).map fun k => ((look s2.refs k).bind μ).getD (.map 0))[k]? = μ i := fun k i hk hn => by
    obtain ⟨i', b, h1, h2, h3⟩ := hrefs k hn
    rw [hk] at h1; injection h1 with h1; subst h1
    obtain ⟨hd, hmu⟩ := brel_hdl h3 (hR.blk i b h2)
    simp [hn, hk, hmu]
  have hsc : ShCond hsh.length μ s2.refs ((List.range hsh.length).map fun k => ((look s2.refs k).bind μ).getD (.map 0)) hs := by
    refine ⟨hks, fun k i a len cap t hk hn hmu => ?_⟩
    obtain ⟨i', b, h1, h2, h3, h4⟩ := b3 k hn
    simp only [Nat.zero_add] at h1
    rw [hk] at h1; injection h1 with h1; subst h1
    have hbr := hR.blk i b h2
    cases b <;> simp [Blk.live] at h3
    · obtain ⟨_, _, _, _, _, hm, _⟩ := hbr; rw [hm] at hmu; simp at hmu
    · obtain ⟨_, _, hm, _⟩ := hbr
      rw [hm] at hmu
      simp only [Option.some.injEq, Hdl.row.injEq] at hmu
      rw [lenOf, h4 _ _ rfl, D.list]; exact hmu.2.1
    · obtain ⟨_, _, _, hm, _⟩ := hbr; rw [hm] at hmu; simp at hmu
  obtain ⟨o1, ho1, hsub1⟩ := a3 Im' hsh.length _ hs hi1 (fun i hi => hi2 i (by rw [hfrz]; exact List.mem_append.2 (.inr hi))) (hsc.of_ext e2.refs) hws
  obtain ⟨o2, ids, ho2, hsub2, hperm⟩ := b4 Im' hsh.length _ hs hi1 (fun i hi => hi2 i (by rw [hfrz]; exact List.mem_append.2 (.inl hi))) hsc (by simp) (fun j hj => by simp) hwh
  have hb0 : ∀ j, j < hsh.length → ∃ i, look s2.refs (0 + j) = some i := fun j hj => by
    obtain ⟨i, b, h1, _⟩ := hrefs j hj; exact ⟨i, by simpa using h1⟩
  have hmem : ∀ i ∈ n1 ++ ids, (i ∈ s2.used ∨ ∃ j, j < hsh.length ∧ look s2.refs j = some i) := fun i hi => by
    rcases List.mem_append.1 hi with hi | hi
    · left; rw [hused, List.mem_reverse]; exact List.mem_append.2 (.inl hi)
    · rcases List.mem_append.1 (hperm.mem_iff.1 hi) with hi | hi
      · right
        obtain ⟨j, hj, he⟩ := mem_refIds hb0 hi
        exact ⟨j, hj, by simpa using he⟩
      · left; rw [hused, List.mem_reverse]; exact List.mem_append.2 (.inr hi)
  have hlive : ∀ i ∈ n1 ++ ids, ∃ b, look h.bs i = some b ∧ b.live = true := fun i hi => by
    rcases hmem i hi with hi | ⟨j, hj, he⟩
    · obtain ⟨t, xs, hh⟩ := hur i hi; exact ⟨_, hh, rfl⟩
    · obtain ⟨i', b, h1, h2, h3⟩ := hrefs j hj
      rw [he] at h1; injection h1 with h1; subst h1
      exact ⟨b, h2, h3⟩
  have hnd : (n1 ++ ids).Nodup := by
    have hu : (n1 ++ n2).Nodup := by
      have := hs2.1
      rw [hused] at this; exact ((List.reverse_perm _).nodup_iff).1 this
    have hp : (n1 ++ ids).Perm (refIds s2.refs 0 hsh.length ++ (n1 ++ n2)) := by
      refine (hperm.append_left n1).trans ?_
      rw [← List.append_assoc, ← List.append_assoc]
      exact List.perm_append_comm.append_right n2
    rw [hp.nodup_iff, List.nodup_append]
    refine ⟨nodup_refIds hs2.2 hb0, hu, fun a ha b hb' e => ?_⟩
    subst e
    obtain ⟨j, hj, he⟩ := mem_refIds hb0 ha
    exact d2 _ _ he (by rw [hused, List.mem_reverse]; exact hb')
  have hsub : (o1 ++ o2).Sublist ((n1 ++ ids).flatMap (blkOf μ)) := by rw [List.flatMap_append]; exact hsub1.append hsub2
  have hown : ∀ x ∈ o1 ++ o2, ∃ i b k, (i ∈ s2.used ∨ ∃ j, j < hsh.length ∧ look s2.refs j = some i) ∧ look h.bs i = some b ∧ b.live = true ∧ μ i = some k ∧ k.blk = some x := fun x hx => by
    obtain ⟨i, hi, hxi⟩ := List.mem_flatMap.1 (hsub.subset hx)
    obtain ⟨k, hk, hkb⟩ := mem_blkOf.1 hxi
    obtain ⟨b, h1, h2⟩ := hlive i hi
    exact ⟨i, b, k, hmem i hi, h1, h2, hk, hkb⟩
  refine ⟨_, _, ⟨o1, o2, ho1, ho2, rfl, hsub.nodup (flat_nodup hR hnd hlive), fun x hx => ?_, by simp, hlen⟩, hks, hown⟩
  obtain ⟨i, b, k, him, h1, h2, hk, hkb⟩ := hown x hx
  have ho := hR.own i b k x h1 h2 hk hkb
  refine ⟨fun hxi => ?_, ho.2.1⟩
  rcases hi3 x hxi with h | ⟨j, hj, kj, hkj, hkbj⟩
  · exact ho.1 h
  · obtain ⟨t, xs, hh⟩ := hfr j hj
    have := hR.dis i j b _ k kj x h1 h2 hh rfl hk hkj hkb hkbj
    subst this
    rcases him with h | ⟨m, _, hm⟩
    · exact d1 i hj h
    · exact d3 m i hm hj

end
end Go.Ev

/- The boundary, second half: from data to a state. -/
namespace Go.Ev
open Go

theorem exec_next {α : Type} : ∀ {p : Prog α} {h : H} {l : Log} {r : α × H × Log}, p.exec h l = some r → h.next ≤ r.2.1.next
  | .ret a, h, l, r, hx => by simp only [Prog.exec, Option.some.injEq] at hx; subst hx; exact Nat.le_refl _
  | .fail, h, l, r, hx => (exec_fail hx).elim
  | .cond b x y, h, l, r, hx => by
    simp only [Prog.exec] at hx
    split at hx
    · exact exec_next hx
    · exact exec_next hx
  | .get i k, h, l, r, hx => by obtain ⟨b, _, hx⟩ := exec_get hx; exact exec_next hx
  | .set i b k, h, l, r, hx => by simp only [Prog.exec] at hx; exact exec_next (h := ⟨h.next, (i, b) :: h.bs⟩) hx
  | .new b k, h, l, r, hx => by simp only [Prog.exec] at hx; have := exec_next (h := ⟨h.next + 1, (h.next, b) :: h.bs⟩) hx; simp only at this; omega

section
variable {P : Program} {C : Cx} {w : World} {μ : Mu} {Im : Nat → Prop}

/-- a block comes in whose memory is there already -/
theorem HRel.put {hp : Nat → Option Blk} (h : HRel C hp w μ Im) {i : Nat} {b : Blk} {k : Hdl} (hi : ∀ c, hp i = some c → c.live = false) (hmu : μ i = none ∨ μ i = some k) (hko : k.ok)
    (hkb : ∀ x, k.blk = some x → (¬ Im x ∧ x < w.heap.size ∧ (C.F x ∨ C.w0.heap.size ≤ x)) ∧ ∀ j c kk, hp j = some c → c.live = true → μ j = some kk → kk.blk ≠ some x)
    (hp' : Nat → Option Blk) (he : ∀ j, hp' j = if i = j then some b else hp j) (hb : Later w μ Im w (fun j => if i = j then some k else μ j) Im → brel w (fun j => if i = j then some k else μ j) Im i b) :
    HRel C hp' w (fun j => if i = j then some k else μ j) Im ∧ Later w μ Im w (fun j => if i = j then some k else μ j) Im := by
  have hl : Later w μ Im w (fun j => if i = j then some k else μ j) Im := by
    refine ⟨fun j hh hj => ?_, fun _ h => h, fun _ _ => rfl⟩
    by_cases e : i = j
    · subst e
      rcases hmu with h1 | h1
      · rw [h1] at hj; simp at hj
      · rw [h1] at hj; simpa using hj
    · simp only [if_neg e]; exact hj
  refine ⟨⟨?_, ?_, ?_, ?_, h.im, h.im0, h.frame, h.size, h.os, h.tape, h.output⟩, hl⟩
  · intro j k' hj
    by_cases e : i = j
    · simp only [if_pos e, Option.some.injEq] at hj; subst hj; exact hko
    · simp only [if_neg e] at hj; exact h.ok j k' hj
  · intro j c hj
    rw [he] at hj
    by_cases e : i = j
    · rw [if_pos e] at hj; injection hj with hj; subst hj; subst e; exact hb hl
    · rw [if_neg e] at hj; exact (h.blk j c hj).later hl fun _ _ _ _ _ => rfl
  · intro j1 j2 c1 c2 h1 h2 x e1 l1 e2 l2 m1 m2 b1 b2
    rw [he] at e1 e2
    by_cases i1 : i = j1
    · by_cases i2 : i = j2
      · exact i1.symm.trans i2
      · rw [if_neg i2] at e2
        simp only [if_pos i1, Option.some.injEq] at m1
        simp only [if_neg i2] at m2
        subst m1
        exact ((hkb x b1).2 j2 c2 h2 e2 l2 m2 b2).elim
    · rw [if_neg i1] at e1
      simp only [if_neg i1] at m1
      by_cases i2 : i = j2
      · simp only [if_pos i2, Option.some.injEq] at m2
        subst m2
        exact ((hkb x b2).2 j1 c1 h1 e1 l1 m1 b1).elim
      · rw [if_neg i2] at e2
        simp only [if_neg i2] at m2
        exact h.dis j1 j2 c1 c2 h1 h2 x e1 l1 e2 l2 m1 m2 b1 b2
  · intro j c hh x e1 l1 m1 b1
    rw [he] at e1
    by_cases i1 : i = j
    · simp only [if_pos i1, Option.some.injEq] at m1
      subst m1
      exact (hkb x b1).1
    · rw [if_neg i1] at e1
      simp only [if_neg i1] at m1
      exact h.own j c hh x e1 l1 m1 b1

/-- the blocks of the list are free to be taken -/
structure Avail (C : Cx) (hp : Nat → Option Blk) (w : World) (μ : Mu) (Im : Nat → Prop) (o : List Nat) : Prop where
  nd : o.Nodup
  own : ∀ x ∈ o, ¬ Im x ∧ x < w.heap.size ∧ (C.F x ∨ C.w0.heap.size ≤ x)
  free : ∀ i b k x, hp i = some b → b.live = true → μ i = some k → k.blk = some x → x ∉ o

def Taken (hp hp' : Nat → Option Blk) (μ μ' : Mu) (o : List Nat) : Prop :=
  ∀ i b k x, hp' i = some b → b.live = true → μ' i = some k → k.blk = some x → x ∈ o ∨ ∃ b', hp i = some b' ∧ b'.live = true ∧ μ i = some k

theorem Avail.left {hp : Nat → Option Blk} {o1 o2 : List Nat} (h : Avail C hp w μ Im (o1 ++ o2)) : Avail C hp w μ Im o1 :=
  ⟨(List.nodup_append.1 h.nd).1, fun x hx => h.own x (List.mem_append.2 (.inl hx)), fun i b k x e l m hb hx => h.free i b k x e l m hb (List.mem_append.2 (.inl hx))⟩
theorem Avail.right {hp hp' : Nat → Option Blk} {μ' : Mu} {o1 o2 : List Nat} (h : Avail C hp w μ Im (o1 ++ o2)) (ht : Taken hp hp' μ μ' o1) : Avail C hp' w μ' Im o2 :=
  ⟨(List.nodup_append.1 h.nd).2.1, fun x hx => h.own x (List.mem_append.2 (.inr hx)), fun i b k x e l m hb hx => by
    rcases ht i b k x e l m hb with h1 | ⟨b', e', l', m'⟩
    · exact (List.nodup_append.1 h.nd).2.2 x h1 x hx rfl
    · exact h.free i b' k x e' l' m' hb (List.mem_append.2 (.inr hx))⟩
theorem Taken.refl (hp : Nat → Option Blk) (μ : Mu) : Taken hp hp μ μ [] := fun i b k x e l m _ => .inr ⟨b, e, l, m⟩
theorem Taken.trans {h1 h2 h3 : Nat → Option Blk} {m1 m2 m3 : Mu} {o1 o2 : List Nat} (a : Taken h1 h2 m1 m2 o1) (b : Taken h2 h3 m2 m3 o2) : Taken h1 h3 m1 m3 (o1 ++ o2) := fun i c k x e l m hb => by
  rcases b i c k x e l m hb with h | ⟨c', e', l', m'⟩
  · exact .inl (List.mem_append.2 (.inr h))
  · rcases a i c' k x e' l' m' hb with h | h
    · exact .inl (List.mem_append.2 (.inl h))
    · exact .inr h

structure MkOut (C : Cx) (h h2 : H) (w : World) (μ μ2 : Mu) (Im : Nat → Prop) (o : List Nat) : Prop where
  grows : Grows C h h2 w μ Im w μ2 Im
  taken : Taken (look h.bs) (look h2.bs) μ μ2 o
  old : ∀ j, ¬ (h.next ≤ j ∧ j < h2.next) → look h2.bs j = look h.bs j

theorem MkOut.refl {h : H} (hR : HRel C (look h.bs) w μ Im) : MkOut C h h w μ μ Im [] := ⟨.refl hR, .refl _ _, fun _ _ => rfl⟩
theorem MkOut.trans {h1 h2 h3 : H} {m1 m2 m3 : Mu} {o1 o2 : List Nat} (a : MkOut C h1 h2 w m1 m2 Im o1) (b : MkOut C h2 h3 w m2 m3 Im o2) : MkOut C h1 h3 w m1 m3 Im (o1 ++ o2) :=
  ⟨a.grows.trans b.grows, a.taken.trans b.taken, fun j hj => (b.old j (by have := a.grows.next; omega)).trans (a.old j (by have := b.grows.next; omega))⟩

/-- fresh places stay fresh -/
theorem Grows.fresh {h h2 : H} {w' : World} {μ2 : Mu} {Im2 : Nat → Prop} (g : Grows C h h2 w μ Im w' μ2 Im2) {n : Nat} (hf : ∀ i, h.next ≤ i → i < n → μ i = none) : ∀ i, h2.next ≤ i → i < n → μ2 i = none := fun i hi hn => by
  have h1 := hf i (by have := g.next; omega) hn
  cases h2' : μ2 i with
  | none => rfl
  | some k => have := g.ids i h1 (by rw [h2']; simp); omega

theorem row_ok {a : Option Addr} {cap : Nat} {t : Ty} {xs : List D} (hr : RowAt w Im a cap t xs) : (Hdl.row a xs.length cap t).ok := by
  refine ⟨hr.1, hr.2.1, fun hc => ?_⟩
  rcases hr.2.2 with h0 | ⟨ad, c, e, f, ha, hs, _⟩
  · omega
  · exact ⟨ad, ha, hs⟩

mutual
theorem exec_mk {β : Type} {refs : List Nat} {hs : List D} {ks : List Hdl} {n : Nat} : ∀ {sh : Sh} {d : D} {f : V → Prog β} {h : H} {l : Log} {r : β × H × Log} {μ : Mu} {o : List Nat} {x : Value}, (mk refs hs sh d f).exec h l = some r →
    HRel C (look h.bs) w μ Im → (∀ k hd, ks[k]? = some hd → μ (nth refs k) = some hd) → sh.wf n = true → shrel w Im ks hs sh d x o → Avail C (look h.bs) w μ Im o → (∀ i, h.next ≤ i → i < r.2.1.next → μ i = none) →
    ∃ v h2 l2 μ2, (f v).exec h2 l2 = some r ∧ MkOut C h h2 w μ μ2 Im o ∧ vrel w μ2 Im v x ∧ ∀ t, sh.fits t = true → v.fits t = true
  | .any, d, f, h, l, r, μ, o, x, hx, hR, hrf, hwf, hs, hav, hfr => by
    simp only [mk] at hx
    simp only [shrel] at hs; subst hs
    exact ⟨_, h, l, μ, hx, .refl hR, by simp [vrel], by simp [Sh.fits]⟩
  | .dat t, d, f, h, l, r, μ, o, x, hx, hR, hrf, hwf, hs, hav, hfr => by
    simp only [mk] at hx
    obtain ⟨rfl, cs, rfl, hrep⟩ := hs
    refine ⟨_, h, l, μ, hx, .refl hR, ofD_rel hrep, fun t' ht => ?_⟩
    simp only [Sh.fits, Ty.beq_iff] at ht; subst ht
    exact ofD_fits _ _
  | .own t, d, f, h, l, r, μ, o, x, hx, hR, hrf, hwf, hs, hav, hfr => by
    simp only [mk, Prog.exec] at hx
    obtain ⟨a, cap, xs, rfl, rfl, hr, rfl⟩ := hs
    have hn := exec_next hx
    simp only at hn
    have key := hR.put (i := h.next) (b := .row t xs) (k := .row a xs.length cap t) (fun c hc => by
        cases hl : c.live with
        | false => rfl
        | true =>
          obtain ⟨k, hk⟩ := brel_hdl hl (hR.blk _ _ hc)
          rw [hfr _ (Nat.le_refl _) (by omega)] at hk; simp at hk) (.inl (hfr _ (Nat.le_refl _) (by omega))) (row_ok hr)
      (fun y hy => ⟨hav.own y (mem_hb.2 hy), fun j c kk e l' m hb' => hav.free j c kk y e l' m hb' (mem_hb.2 hy)⟩) (look ((h.next, .row t xs) :: h.bs)) (fun j => by rw [look_cons]) (fun hl => ⟨a, cap, by simp, hr⟩)
    refine ⟨_, _, _, _, hx, ⟨⟨key.1, key.2, Nat.le_succ _, fun i hi hn => ?_⟩, fun i b k y e l' m hb' => ?_, fun j hj => ?_⟩, ⟨a, cap, by simp [D.list], rfl⟩, fun t' ht => by first | exact ht | (cases t' <;> simp [V.fits, Sh.fits] at ht ⊢)⟩
    · by_cases e : h.next = i
      · subst e; exact ⟨Nat.le_refl _, Nat.lt_succ_self _⟩
      · simp only [if_neg e] at hn; exact (hn hi).elim
    · rw [look_cons] at e
      by_cases e1 : h.next = i
      · simp only [if_pos e1, Option.some.injEq] at m; subst m
        exact .inl (mem_hb.2 hb')
      · rw [if_neg e1] at e; simp only [if_neg e1] at m
        exact .inr ⟨b, e, l', m⟩
    · rw [look_cons, if_neg (by simp only at hj; omega)]
  | .agg ts sh, d, f, h, l, r, μ, o, x, hx, hR, hrf, hwf, hs, hav, hfr => by
    simp only [mk] at hx
    simp only [Sh.wf, Bool.and_eq_true] at hwf
    obtain ⟨ds, xs, rfl, rfl, hss⟩ := hs
    obtain ⟨vs, h2, l2, μ2, hx, hm, hv, hfit⟩ := exec_mks hx hR hrf hwf.2 (ds := ds) (fun j _ => by simp [D.f]) hss hav hfr
    refine ⟨_, h2, l2, μ2, hx, hm, ⟨xs, rfl, hfit ts hwf.1, hv⟩, fun t' ht => by first | exact ht | (cases t' <;> simp [V.fits, Sh.fits] at ht ⊢)⟩
  | .ref k t, d, f, h, l, r, μ, o, x, hx, hR, hrf, hwf, hs, hav, hfr => by
    simp only [mk] at hx
    obtain ⟨rfl, b, hk, rfl⟩ := hs
    exact ⟨_, h, l, μ, hx, .refl hR, ⟨_, rfl, rfl, .inl ⟨b, t, hrf k _ hk, rfl, rfl⟩⟩, fun t' ht => by first | exact ht | (cases t' <;> simp [V.fits, Sh.fits] at ht ⊢)⟩
  | .rall k t, d, f, h, l, r, μ, o, x, hx, hR, hrf, hwf, hs, hav, hfr => by
    simp only [mk] at hx
    obtain ⟨rfl, a, len, cap, hk, rfl, hl⟩ := hs
    subst hl
    exact ⟨_, h, l, μ, hx, .refl hR, ⟨a, cap, hrf k _ hk, rfl⟩, fun t' ht => by first | exact ht | (cases t' <;> simp [V.fits, Sh.fits] at ht ⊢)⟩
  | .rsub k t, d, f, h, l, r, μ, o, x, hx, hR, hrf, hwf, hs, hav, hfr => by
    simp only [mk] at hx
    obtain ⟨rfl, a, L, cap, a', off, len, hk, rfl, h1, h2, rfl, h3⟩ := hs
    exact ⟨_, h, l, μ, hx, .refl hR, ⟨a, L, cap, a', hrf k _ hk, by simpa [D.f, dnth, D.int] using h1, h2, by simp [D.f, dnth, D.int], by simpa [D.f, dnth, D.int] using h3⟩, fun t' ht => by first | exact ht | (cases t' <;> simp [V.fits, Sh.fits] at ht ⊢)⟩
  | .mref k, d, f, h, l, r, μ, o, x, hx, hR, hrf, hwf, hs, hav, hfr => by
    simp only [mk] at hx
    obtain ⟨rfl, b, hk, rfl⟩ := hs
    exact ⟨_, h, l, μ, hx, .refl hR, ⟨b, hrf k _ hk, rfl⟩, fun t' ht => by first | exact ht | (cases t' <;> simp [V.fits, Sh.fits] at ht ⊢)⟩
  | .fn g sh, d, f, h, l, r, μ, o, x, hx, hR, hrf, hwf, hs, hav, hfr => by
    simp only [mk] at hx
    simp only [Sh.wf] at hwf
    obtain ⟨ds, xs, rfl, rfl, hss⟩ := hs
    obtain ⟨vs, h2, l2, μ2, hx, hm, hv, hfit⟩ := exec_mks hx hR hrf hwf (ds := ds) (fun j _ => by simp [D.f]) hss hav hfr
    exact ⟨_, h2, l2, μ2, hx, hm, ⟨xs, rfl, hv⟩, fun t' ht => by first | exact ht | (cases t' <;> simp [V.fits, Sh.fits] at ht ⊢)⟩
  | .ifc t sh, d, f, h, l, r, μ, o, x, hx, hR, hrf, hwf, hs, hav, hfr => by
    simp only [mk] at hx
    simp only [Sh.wf] at hwf
    obtain ⟨y, rfl, hs⟩ := hs
    obtain ⟨v, h2, l2, μ2, hx, hm, hv, _⟩ := exec_mk hx hR hrf hwf hs hav hfr
    exact ⟨_, h2, l2, μ2, hx, hm, ⟨y, rfl, hv⟩, fun t' ht => by first | exact ht | (cases t' <;> simp [V.fits, Sh.fits] at ht ⊢)⟩
  | .nilp, d, f, h, l, r, μ, o, x, hx, hR, hrf, hwf, hs, hav, hfr => by
    simp only [mk] at hx
    obtain ⟨rfl, rfl⟩ := hs
    exact ⟨_, h, l, μ, hx, .refl hR, rfl, fun t' ht => by first | exact ht | (cases t' <;> simp [V.fits, Sh.fits] at ht ⊢)⟩
  | .nilm, d, f, h, l, r, μ, o, x, hx, hR, hrf, hwf, hs, hav, hfr => by
    simp only [mk] at hx
    obtain ⟨rfl, rfl⟩ := hs
    exact ⟨_, h, l, μ, hx, .refl hR, rfl, fun t' ht => by first | exact ht | (cases t' <;> simp [V.fits, Sh.fits] at ht ⊢)⟩
  | .nilf, d, f, h, l, r, μ, o, x, hx, hR, hrf, hwf, hs, hav, hfr => by
    simp only [mk] at hx
    obtain ⟨rfl, rfl⟩ := hs
    exact ⟨_, h, l, μ, hx, .refl hR, rfl, fun t' ht => by first | exact ht | (cases t' <;> simp [V.fits, Sh.fits] at ht ⊢)⟩
  | .nili, d, f, h, l, r, μ, o, x, hx, hR, hrf, hwf, hs, hav, hfr => by
    simp only [mk] at hx
    obtain ⟨rfl, rfl⟩ := hs
    exact ⟨_, h, l, μ, hx, .refl hR, rfl, fun t' ht => by first | exact ht | (cases t' <;> simp [V.fits, Sh.fits] at ht ⊢)⟩
theorem exec_mks {β : Type} {refs : List Nat} {hs : List D} {ks : List Hdl} {n : Nat} : ∀ {sh : List Sh} {d : D} {k : Nat} {f : List V → Prog β} {h : H} {l : Log} {r : β × H × Log} {μ : Mu} {o : List Nat} {xs : List Value}, (mks refs hs sh d k f).exec h l = some r →
    HRel C (look h.bs) w μ Im → (∀ k hd, ks[k]? = some hd → μ (nth refs k) = some hd) → Sh.wfs n sh = true → ∀ {ds : List D}, (∀ j, j < ds.length → d.f (k + j) = dnth ds j) → shrels w Im ks hs sh ds xs o → Avail C (look h.bs) w μ Im o → (∀ i, h.next ≤ i → i < r.2.1.next → μ i = none) →
    ∃ vs h2 l2 μ2, (f vs).exec h2 l2 = some r ∧ MkOut C h h2 w μ μ2 Im o ∧ vrels w μ2 Im vs xs ∧ ∀ ts, allShFit ts sh = true → allFit ts vs = true
  | [], d, k, f, h, l, r, μ, o, xs, hx, hR, hrf, hwf, ds, hd, hs, hav, hfr => by
    simp only [mks] at hx
    obtain ⟨rfl, rfl, rfl⟩ := hs
    exact ⟨[], h, l, μ, hx, .refl hR, rfl, fun ts ht => by cases ts <;> simp [allShFit, allFit] at ht ⊢⟩
  | s :: sh, d, k, f, h, l, r, μ, o, xs, hx, hR, hrf, hwf, ds, hd, hs, hav, hfr => by
    simp only [mks] at hx
    simp only [Sh.wfs, Bool.and_eq_true] at hwf
    obtain ⟨d0, ds', x, xs', o1, o2, rfl, rfl, rfl, h1, h2⟩ := hs
    have h0 := hd 0 (by simp)
    simp only [Nat.add_zero, dnth] at h0
    rw [h0] at hx
    obtain ⟨v, h3, l3, μ3, hx, hm3, hv, hfit⟩ := exec_mk hx hR hrf hwf.1 h1 hav.left hfr
    have hg := hm3.grows
    obtain ⟨vs, h4, l4, μ4, hx, hm4, hvs, hfits⟩ := exec_mks hx hg.rel (fun k hd hk => hg.later.mu _ _ (hrf k hd hk)) hwf.2 (ds := ds') (fun j hj => by
      have := hd (j + 1) (by simpa using hj)
      simpa [dnth, Nat.add_assoc, Nat.add_comm 1 j] using this) h2 (hav.right hm3.taken) (hg.fresh hfr)
    refine ⟨v :: vs, h4, l4, μ4, hx, hm3.trans hm4, ⟨x, xs', rfl, hv.later hm4.grows.later, hvs⟩, fun ts ht => ?_⟩
    cases ts with
    | nil => simp [allShFit] at ht
    | cons t ts =>
      simp only [allShFit, Bool.and_eq_true] at ht
      simp only [allFit, Bool.and_eq_true]
      exact ⟨hfit t ht.1, hfits ts ht.2⟩
end

/-- the blocks are laid at the places that wait for them -/
theorem exec_mkH {β : Type} {refs : List Nat} {hs : List D} {ks : List Hdl} {n : Nat} (hinj : ∀ k k', k < n → k' < n → nth refs k = nth refs k' → k = k') : ∀ {hsh : List HSh} {k : Nat} {p : Prog β} {h : H} {l : Log} {r : β × H × Log} {μ : Mu} {o : List Nat}, (mkH refs hs hsh k p).exec h l = some r →
    HRel C (look h.bs) w μ Im → (∀ k hd, ks[k]? = some hd → μ (nth refs k) = some hd) → HSh.wfs n hsh = true → hshrels w Im ks hs hsh k o → Avail C (look h.bs) w μ Im o → (∀ i, h.next ≤ i → i < r.2.1.next → μ i = none) → k + hsh.length ≤ n →
    (∀ j, k ≤ j → j < k + hsh.length → ∀ c, look h.bs (nth refs j) = some c → c.live = false) → ks.length = n →
    ∃ h2 l2 μ2, p.exec h2 l2 = some r ∧ Grows C h h2 w μ Im w μ2 Im ∧ Taken (look h.bs) (look h2.bs) μ μ2 o
  | [], k, p, h, l, r, μ, o, hx, hR, hrf, hwf, hs, hav, hfr, hkn, hgone, hlen => by
    simp only [mkH] at hx
    simp only [hshrels] at hs; subst hs
    exact ⟨h, l, μ, hx, .refl hR, .refl _ _⟩
  | sh :: hsh, k, p, h, l, r, μ, o, hx, hR, hrf, hwf, hs, hav, hfr, hkn, hgone, hlen => by
    simp only [HSh.wfs, Bool.and_eq_true] at hwf
    simp only [List.length_cons] at hkn hgone
    obtain ⟨hd, o1, o2, hk, hok, h1, h2, rfl⟩ := hs
    have hapart : ∀ j, j < n → ¬ (h.next ≤ nth refs j ∧ nth refs j < r.2.1.next) := fun j hj he => by
      have h1 := hfr _ he.1 he.2
      have hk' : j < ks.length := by omega
      rw [hrf j _ (List.getElem?_eq_getElem hk')] at h1
      simp at h1
    -- the set at the place, and the rest
    have go : ∀ (b : Blk) (h3 : H) (l3 : Log) (μ3 : Mu), ((Prog.set (nth refs k) b (mkH refs hs hsh (k + 1) p)).exec h3 l3 = some r) → MkOut C h h3 w μ μ3 Im o1 → b.live = true → brel w μ3 Im (nth refs k) b →
        ∃ h2 l2 μ2, p.exec h2 l2 = some r ∧ Grows C h h2 w μ Im w μ2 Im ∧ Taken (look h.bs) (look h2.bs) μ μ2 (hb hd ++ (o1 ++ o2)) := by
      intro b h3 l3 μ3 hx hm3 hlv hbr
      simp only [Prog.exec] at hx
      have hg := hm3.grows
      have hnx := exec_next (h := ⟨h3.next, (nth refs k, b) :: h3.bs⟩) hx
      simp only at hnx
      have hmu3 : μ3 (nth refs k) = some hd := hg.later.mu _ _ (hrf k hd hk)
      have hav2 : Avail C (look h.bs) w μ Im (o1 ++ (hb hd ++ o2)) := by
        refine ⟨?_, fun x hx => hav.own x ?_, fun i c kk x e l' m hb' hx => hav.free i c kk x e l' m hb' ?_⟩
        · have := hav.nd
          refine (List.Perm.nodup_iff ?_).1 this
          rw [← List.append_assoc, ← List.append_assoc]
          exact List.perm_append_comm.append_right o2
        · simp only [List.mem_append] at hx ⊢; rcases hx with h | h | h <;> simp [h]
        · simp only [List.mem_append] at hx ⊢; rcases hx with h | h | h <;> simp [h]
      have hav3 := hav2.right hm3.taken
      have hup : (fun j => if nth refs k = j then some hd else μ3 j) = μ3 := by
        funext j; split
        · rename_i e; subst e; exact hmu3.symm
        · rfl
      have key := hg.rel.put (i := nth refs k) (b := b) (k := hd) (fun c hc => by
          rw [hm3.old _ (fun he => hapart k (by omega) ⟨he.1, by omega⟩)] at hc
          exact hgone k (Nat.le_refl _) (by omega) c hc) (.inr hmu3) hok
        (fun y hy => ⟨hav3.own y (List.mem_append.2 (.inl (mem_hb.2 hy))), fun j c kk e l' m hb' => hav3.free j c kk y e l' m hb' (List.mem_append.2 (.inl (mem_hb.2 hy)))⟩) (look ((nth refs k, b) :: h3.bs)) (fun j => by rw [look_cons]) (by rw [hup]; exact fun _ => hbr)
      rw [hup] at key
      have ht3 : Taken (look h3.bs) (look ((nth refs k, b) :: h3.bs)) μ3 μ3 (hb hd) := fun i c kk x e l' m hb' => by
        rw [look_cons] at e
        split at e
        · rename_i e1; subst e1
          rw [hmu3] at m; injection m with m; subst m
          exact .inl (mem_hb.2 hb')
        · exact .inr ⟨c, e, l', m⟩
      obtain ⟨h4, l4, μ4, hx, hg4, ht4⟩ := exec_mkH hinj (h := ⟨h3.next, (nth refs k, b) :: h3.bs⟩) hx key.1 (fun k' hd' hk' => hg.later.mu _ _ (hrf k' hd' hk')) hwf.2 h2 (hav3.right ht3) (hg.fresh hfr) (by omega) (fun j hj1 hj2 c hc => by
          have hne : nth refs k ≠ nth refs j := fun e => by have := hinj k j (by omega) (by omega) e; omega
          rw [look_cons, if_neg hne, hm3.old _ (fun he => hapart j (by omega) ⟨he.1, by omega⟩)] at hc
          exact hgone j (by omega) (by omega) c hc) hlen
      refine ⟨h4, l4, μ4, hx, hg.trans (Grows.trans (h2 := ⟨h3.next, (nth refs k, b) :: h3.bs⟩) ⟨key.1, .refl _ _ _, Nat.le_refl _, fun i h1 h2 => (h2 h1).elim⟩ hg4), ?_⟩
      · have := (hm3.taken.trans ht3).trans ht4
        intro i c kk x e l' m hb'
        rcases this i c kk x e l' m hb' with h | h
        · left; simp only [List.mem_append] at h ⊢; rcases h with (h | h) | h <;> simp [h]
        · exact .inr h
    cases sh with
    | box t s =>
      simp only [mkH] at hx
      simp only [HSh.wf, Bool.and_eq_true] at hwf
      obtain ⟨b, c, e, f, x, rfl, hh, hfz, hcx, hs⟩ := h1
      have hav1 : Avail C (look h.bs) w μ Im o1 := by
        refine ⟨?_, fun x hx => hav.own x (by simp [hx]), fun i c kk x e l' m hb' hx => hav.free i c kk x e l' m hb' (by simp [hx])⟩
        have := hav.nd
        exact (List.nodup_append.1 (List.nodup_append.1 this).2.1).1
      obtain ⟨v, h3, l3, μ3, hx, hm3, hv, hfit⟩ := exec_mk hx hR hrf hwf.1.2 hs hav1 hfr
      exact go _ h3 l3 μ3 hx hm3 rfl ⟨b, c, e, f, x, hm3.grows.later.mu _ _ (hrf k _ hk), hh, hfz, hfit t hwf.1.1, hv, hcx⟩
    | row t =>
      simp only [mkH] at hx
      obtain ⟨rfl, xs, a, cap, hdn, rfl, hr⟩ := h1
      rw [hdn] at hx
      exact go _ h l μ hx (.refl hR) rfl ⟨a, cap, hrf k _ hk, hr⟩
    | map kt vt =>
      simp only [mkH] at hx
      obtain ⟨rfl, es, r0, ents, clock, hdn, rfl, hh, hmr⟩ := h1
      rw [hdn] at hx
      have he : mapOf (D.r (es.map fun e => D.r [e.1, e.2])) = es := by
        simp [mapOf, D.list, List.map_map, Function.comp_def, D.f, dnth]
      rw [he] at hx
      exact go _ h l μ hx (.refl hR) rfl ⟨r0, ents, clock, hrf k _ hk, hh, hmr⟩

end
end Go.Ev

/- Contracts, and a call by one. -/
namespace Go.Ev
open Go

/-! ### Contracts -/

def Sig.wf (s : Sig) : Bool :=
  HSh.wfs s.heap.length s.heap && Sh.wfs s.heap.length s.ins && HSh.wfs s.heap'.length s.heap' && Sh.wfs s.heap'.length s.outs && Nat.ble s.heap.length s.heap'.length

/-- a function answers: by its body, or as one without -/
def Answers (P : Program) (f : FuncId) (args : Array Value) (w : World) (R : Ending → World → Prop) : Prop :=
  ((callFunc f args).run P w = .ok (.enter f args) w ∧ Calls P f args w R) ∨ ∃ y w', (callFunc f args).run P w = .ok (.value y) w' ∧ R (.returned y) w'

theorem Answers.mono {P : Program} {f : FuncId} {args : Array Value} {w : World} {R R' : Ending → World → Prop} (h : Answers P f args w R) (hr : ∀ e w', R e w' → R' e w') : Answers P f args w R' :=
  h.imp (fun h => ⟨h.1, Calls.mono h.2 hr⟩) fun ⟨y, w', h1, h2⟩ => ⟨y, w', h1, hr _ _ h2⟩

/-- what is returned -/
def vret : List Value → Value
  | [y] => y
  | ys => .tuple ys.toArray

/-- what a call leaves as it was -/
structure Framed (w w' : World) (Im Im' : Nat → Prop) (o o' : List Nat) : Prop where
  im : ∀ x, Im x → Im' x
  im' : ∀ x, Im' x → x < w'.heap.size ∧ (Im x ∨ x ∈ o ∨ w.heap.size ≤ x)
  own : ∀ x ∈ o', x ∈ o ∨ w.heap.size ≤ x
  heap : ∀ x, x < w.heap.size → x ∉ o → w'.heap[x]? = w.heap[x]?
  size : w.heap.size ≤ w'.heap.size
  os : w'.os = w.os
  tape : w'.tape = w.tape
  output : w'.output = w.output

/-- the end of a call -/
def PostOK (sg : Sig) (hs' outs : List D) (w : World) (Im : Nat → Prop) (ks : List Hdl) (o : List Nat) : Ending → World → Prop
  | .returned v, w' => ∃ Im' ys ks' o', v = vret ys ∧ Bd w' Im' sg.heap' sg.outs hs' outs ys (ks ++ ks') o' ∧ Framed w w' Im Im' o o'
  | .panicked _, _ => False
  | .outgrown, _ => False

def SpecOK (P : Program) (f : FuncId) (sg : Sig) (phi : List D → List D → T (List D × List D)) : Prop :=
  ∀ hs as hs' outs, (phi hs as).val = some (hs', outs) → hs'.length = sg.heap'.length → outs.length = sg.outs.length →
    ∀ (w : World) (Im : Nat → Prop) (xs : List Value) (ks : List Hdl) (o : List Nat), Bd w Im sg.heap sg.ins hs as xs ks o → (∀ x, Im x → x < w.heap.size) → Answers P f xs.toArray w (PostOK sg hs' outs w Im ks o)

/-! ### Data without slices hang on no frozen block -/

mutual
theorem Rep.noref {w : World} {Im Im' : Nat → Prop} : ∀ {t : Ty} {cs : List Value} {d : D}, t.refs = false → Rep w Im t cs d → Rep w Im' t cs d
  | .int _, _, _, _, h => h
  | .bool, _, _, _, h => h
  | .str, _, _, _, h => h
  | .struct ts, cs, d, hr, ⟨ds, hd, h⟩ => ⟨ds, hd, Reps.noref (by simpa [Ty.refs] using hr) h⟩
  | .arr n t, cs, d, hr, ⟨ds, hd, hl, h⟩ => ⟨ds, hd, hl, h.mono fun _ _ => Rep.noref (by simpa [Ty.refs] using hr)⟩
  | .slice _, _, _, hr, _ => by simp [Ty.refs] at hr
  | .ptr, _, _, hr, _ => by simp [Ty.refs] at hr
  | .map _ _, _, _, hr, _ => by simp [Ty.refs] at hr
  | .fn, _, _, hr, _ => by simp [Ty.refs] at hr
  | .ifc, _, _, hr, _ => by simp [Ty.refs] at hr
theorem Reps.noref {w : World} {Im Im' : Nat → Prop} : ∀ {ts : List Ty} {cs : List Value} {ds : List D}, Ty.anyRefs ts = false → Reps w Im ts cs ds → Reps w Im' ts cs ds
  | [], _, _, _, h => h
  | t :: ts, cs, ds, hr, ⟨d, ds', h1, h2, h3, h4⟩ => by
    simp only [Ty.anyRefs, Bool.or_eq_false_iff] at hr
    exact ⟨d, ds', h1, h2, Rep.noref hr.1 h3, Reps.noref hr.2 h4⟩
end

theorem RowAt.noref {w : World} {Im Im' : Nat → Prop} {a : Option Addr} {cap : Nat} {t : Ty} {xs : List D} (hr : t.refs = false) (h : RowAt w Im a cap t xs) : RowAt w Im' a cap t xs := by
  refine ⟨h.1, h.2.1, h.2.2.imp id ?_⟩
  rintro ⟨ad, c, e, f, h1, h2, h3, h4, h5, h6⟩
  exact ⟨ad, c, e, f, h1, h2, h3, h4, h5, h6.mono fun _ _ => Rep.noref hr⟩

theorem MapRel.noref {w : World} {Im Im' : Nat → Prop} {kt vt : Ty} (hk : kt.refs = false) (hv : vt.refs = false) : ∀ {l : List MapEntry} {es : List (D × D)}, MapRel w Im kt vt l es → MapRel w Im' kt vt l es
  | [], _, h => h
  | _ :: _, _, ⟨k, v, es', h, h1, ⟨cs, hc, h2⟩, hr⟩ => ⟨k, v, es', h, h1.noref hk, ⟨cs, hc, h2.noref hv⟩, hr.noref hk hv⟩

mutual
theorem shrel.noref {w : World} {Im Im' : Nat → Prop} {ks : List Hdl} {hs : List D} : ∀ {s : Sh} {d : D} {x : Value} {o : List Nat}, s.refs = false → shrel w Im ks hs s d x o → shrel w Im' ks hs s d x o
  | .any, _, _, _, _, h => h
  | .dat t, d, x, o, hr, ⟨h1, cs, h2, h3⟩ => ⟨h1, cs, h2, h3.noref (by simpa [Sh.refs] using hr)⟩
  | .own t, d, x, o, hr, ⟨a, cap, xs, h1, h2, h3, h4⟩ => ⟨a, cap, xs, h1, h2, h3.noref (by simpa [Sh.refs] using hr), h4⟩
  | .agg ts l, d, x, o, hr, ⟨ds, xs, h1, h2, h3⟩ => ⟨ds, xs, h1, h2, shrels.noref (by simpa [Sh.refs] using hr) h3⟩
  | .ref k t, _, _, _, _, h => h
  | .rall k t, _, _, _, _, h => h
  | .rsub k t, _, _, _, _, h => h
  | .mref k, _, _, _, _, h => h
  | .fn g l, d, x, o, hr, ⟨ds, xs, h1, h2, h3⟩ => ⟨ds, xs, h1, h2, shrels.noref (by simpa [Sh.refs] using hr) h3⟩
  | .ifc t s, d, x, o, hr, ⟨y, h1, h2⟩ => ⟨y, h1, shrel.noref (by simpa [Sh.refs] using hr) h2⟩
  | .nilp, _, _, _, _, h => h
  | .nilm, _, _, _, _, h => h
  | .nilf, _, _, _, _, h => h
  | .nili, _, _, _, _, h => h
theorem shrels.noref {w : World} {Im Im' : Nat → Prop} {ks : List Hdl} {hs : List D} : ∀ {s : List Sh} {ds : List D} {xs : List Value} {o : List Nat}, Sh.anyRefs s = false → shrels w Im ks hs s ds xs o → shrels w Im' ks hs s ds xs o
  | [], _, _, _, _, h => h
  | s :: l, ds, xs, o, hr, ⟨d, ds', x, xs', o1, o2, h1, h2, h3, h4, h5⟩ => by
    simp only [Sh.anyRefs, Bool.or_eq_false_iff] at hr
    exact ⟨d, ds', x, xs', o1, o2, h1, h2, h3, shrel.noref hr.1 h4, shrels.noref hr.2 h5⟩
end

theorem hshrel.noref {w : World} {Im Im' : Nat → Prop} {ks : List Hdl} {hs : List D} {s : HSh} {d : D} {k : Hdl} {o : List Nat} (hr : s.refs = false) (h : hshrel w Im ks hs s d k o) : hshrel w Im' ks hs s d k o := by
  cases s with
  | box t s => obtain ⟨b, c, e, f, x, h1, h2, h3, h4, h5⟩ := h; exact ⟨b, c, e, f, x, h1, h2, h3, h4, h5.noref (by simpa [HSh.refs] using hr)⟩
  | row t => obtain ⟨h1, xs, a, cap, h2, h3, h4⟩ := h; exact ⟨h1, xs, a, cap, h2, h3, h4.noref (by simpa [HSh.refs] using hr)⟩
  | map kt vt =>
    simp only [HSh.refs, Bool.or_eq_false_iff] at hr
    obtain ⟨h1, es, r, ents, clock, h2, h3, h4, h5⟩ := h
    exact ⟨h1, es, r, ents, clock, h2, h3, h4, h5.noref hr.1 hr.2⟩

theorem hshrels.noref {w : World} {Im Im' : Nat → Prop} {ks : List Hdl} {hs : List D} : ∀ {s : List HSh} {k : Nat} {o : List Nat}, HSh.anyRefs s = false → hshrels w Im ks hs s k o → hshrels w Im' ks hs s k o
  | [], _, _, _, h => h
  | s :: l, k, o, hr, ⟨hd, o1, o2, h1, h2, h3, h4, h5⟩ => by
    simp only [HSh.anyRefs, Bool.or_eq_false_iff] at hr
    exact ⟨hd, o1, o2, h1, h2, h3.noref hr.1, h4.noref hr.2, h5⟩

/-! ### Steps of a call -/

section
variable {P : Program} {C : Cx} {w : World} {μ : Mu} {Im : Nat → Prop}

theorem exec_prog {α β : Type} : ∀ {t : T α} {f : α → Prog β} {h : H} {l : Log} {r : β × H × Log}, (t.prog f).exec h l = some r → ∃ a, t.val = some a ∧ (f a).exec h l = some r
  | .ret a, f, h, l, r, hx => ⟨a, rfl, hx⟩
  | .fail, f, h, l, r, hx => (exec_fail hx).elim
  | .cond b x y, f, h, l, r, hx => by
    simp only [T.prog, Prog.exec] at hx
    cases b with
    | true => simp only [if_true] at hx; exact exec_prog (t := x) hx
    | false => simp only [Bool.false_eq_true, if_false] at hx; exact exec_prog (t := y) hx

theorem exec_setAll {β : Type} {b : Blk} : ∀ {is : List Nat} {p : Prog β} {h : H} {l : Log} {r : β × H × Log}, (setAll b is p).exec h l = some r → ∃ h2 l2, p.exec h2 l2 = some r ∧ h2.next = h.next ∧ ∀ j, look h2.bs j = if j ∈ is then some b else look h.bs j
  | [], p, h, l, r, hx => ⟨h, l, hx, rfl, fun j => by simp⟩
  | i :: is, p, h, l, r, hx => by
    simp only [setAll, Prog.exec] at hx
    obtain ⟨h2, l2, hx, hn, hl⟩ := exec_setAll (h := ⟨h.next, (i, b) :: h.bs⟩) hx
    refine ⟨h2, l2, hx, hn, fun j => ?_⟩
    rw [hl j, look_cons]
    by_cases h1 : j ∈ is
    · simp [h1]
    · by_cases h2 : i = j
      · subst h2; simp
      · rw [if_neg h1, if_neg h2, if_neg (by simp [h1]; exact fun e => h2 e.symm)]

theorem exec_news {β : Type} : ∀ {n : Nat} {f : List Nat → Prog β} {h : H} {l : Log} {r : β × H × Log}, (news n f).exec h l = some r →
    ∃ h2 l2, (f (List.range' h.next n)).exec h2 l2 = some r ∧ h2.next = h.next + n ∧ ∀ j, look h2.bs j = if h.next ≤ j ∧ j < h.next + n then some .gone else look h.bs j
  | 0, f, h, l, r, hx => ⟨h, l, hx, rfl, fun j => by rw [if_neg (by omega)]⟩
  | n + 1, f, h, l, r, hx => by
    simp only [news, Prog.exec] at hx
    obtain ⟨h2, l2, hx, hn, hl⟩ := exec_news (h := ⟨h.next + 1, (h.next, .gone) :: h.bs⟩) hx
    simp only at hx hn hl
    refine ⟨h2, l2, by rw [List.range'_succ]; exact hx, by omega, fun j => ?_⟩
    rw [hl j, look_cons]
    by_cases h1 : h.next + 1 ≤ j ∧ j < h.next + 1 + n
    · rw [if_pos h1, if_pos (by omega)]
    · rw [if_neg h1]
      by_cases h2 : h.next = j
      · rw [if_pos h2, if_pos (by omega)]
      · rw [if_neg h2, if_neg (by omega)]

/-- the world after a call, as the caller sees what he kept for himself -/
theorem HRel.after {hp : Nat → Option Blk} {w' : World} {o : List Nat} {Im2 : Nat → Prop} (h : HRel C hp w μ Im) (hsz : w.heap.size ≤ w'.heap.size) (hheap : ∀ x, x < w.heap.size → x ∉ o → w'.heap[x]? = w.heap[x]?) (hos : w'.os = w.os) (htape : w'.tape = w.tape) (hout : w'.output = w.output)
    (him : ∀ x ∈ o, ¬ Im x) (hlive : ∀ i b k x, hp i = some b → b.live = true → μ i = some k → k.blk = some x → x ∉ o) (ho : ∀ x ∈ o, C.F x ∨ C.w0.heap.size ≤ x)
    (h1 : ∀ x, Im x → Im2 x) (h2 : ∀ x, Im2 x → x < w'.heap.size ∧ (Im x ∨ x ∈ o ∨ w.heap.size ≤ x)) : HRel C hp w' μ Im2 ∧ Later w μ Im w' μ Im2 := by
  have hl : Later w μ Im w' μ Im2 := ⟨fun _ _ h => h, h1, fun x hx => hheap x (h.im x hx).1 fun hxo => him x hxo hx⟩
  refine ⟨⟨h.ok, fun i b hi => (h.blk i b hi).later hl fun hb k x hk hx => hheap x (h.own i b k x hi hb hk hx).2.1 (hlive i b k x hi hb hk hx), h.dis, fun i b k x hi hb hk hx => ?_, fun x hx => ?_, fun x hx => h1 x (h.im0 x hx), fun x hx hF => ?_, Nat.le_trans h.size hsz, hos.trans h.os, htape.trans h.tape, hout.trans h.output⟩, hl⟩
  · have h3 := h.own i b k x hi hb hk hx
    refine ⟨fun hx2 => ?_, Nat.lt_of_lt_of_le h3.2.1 hsz, h3.2.2⟩
    rcases (h2 x hx2).2 with h4 | h4 | h4
    · exact h3.1 h4
    · exact hlive i b k x hi hb hk hx h4
    · omega
  · obtain ⟨h3, h4⟩ := h2 x hx
    refine ⟨h3, ?_⟩
    rcases h4 with h4 | h4 | h4
    · exact (h.im x h4).2
    · exact .inr (ho x h4)
    · exact .inr (.inr (Nat.le_trans h.size h4))
  · have := h.size
    refine (hheap x (by omega) fun hxo => ?_).trans (h.frame x hx hF)
    rcases ho x hxo with h3 | h3
    · exact hF h3
    · omega

/-- places for handles that came from a call -/
theorem HRel.names {h h2 : H} (hR : HRel C (look h.bs) w μ Im) {n : Nat} (hl : ∀ j, look h2.bs j = if h.next ≤ j ∧ j < h.next + n then some .gone else look h.bs j) (hfr : ∀ i, h.next ≤ i → i < h.next + n → μ i = none) {ks : List Hdl} (hk : ks.length = n) (hok : ∀ k ∈ ks, k.ok) :
    HRel C (look h2.bs) w (fun i => if h.next ≤ i ∧ i < h.next + n then ks[i - h.next]? else μ i) Im ∧ Later w μ Im w (fun i => if h.next ≤ i ∧ i < h.next + n then ks[i - h.next]? else μ i) Im := by
  have hlt : Later w μ Im w (fun i => if h.next ≤ i ∧ i < h.next + n then ks[i - h.next]? else μ i) Im := by
    refine ⟨fun i k hi => ?_, fun _ h => h, fun _ _ => rfl⟩
    by_cases e : h.next ≤ i ∧ i < h.next + n
    · rw [hfr i e.1 e.2] at hi; simp at hi
    · simp only [if_neg e]; exact hi
  have live : ∀ i b, look h2.bs i = some b → b.live = true → ¬ (h.next ≤ i ∧ i < h.next + n) ∧ look h.bs i = some b := fun i b hi hb => by
    rw [hl] at hi
    by_cases e : h.next ≤ i ∧ i < h.next + n
    · rw [if_pos e] at hi; injection hi with hi; subst hi; simp [Blk.live] at hb
    · rw [if_neg e] at hi; exact ⟨e, hi⟩
  refine ⟨⟨fun i k hi => ?_, fun i b hi => ?_, ?_, ?_, hR.im, hR.im0, hR.frame, hR.size, hR.os, hR.tape, hR.output⟩, hlt⟩
  · by_cases e : h.next ≤ i ∧ i < h.next + n
    · simp only [if_pos e] at hi; exact hok k (List.mem_of_getElem? hi)
    · simp only [if_neg e] at hi; exact hR.ok i k hi
  · rw [hl] at hi
    by_cases e : h.next ≤ i ∧ i < h.next + n
    · rw [if_pos e] at hi; injection hi with hi; subst hi; trivial
    · rw [if_neg e] at hi; exact (hR.blk i b hi).later hlt fun _ _ _ _ _ => rfl
  · intro i j b c k1 k2 x e1 l1 e2 l2 m1 m2 b1 b2
    obtain ⟨n1, e1⟩ := live i b e1 l1
    obtain ⟨n2, e2⟩ := live j c e2 l2
    simp only [if_neg n1] at m1
    simp only [if_neg n2] at m2
    exact hR.dis i j b c k1 k2 x e1 l1 e2 l2 m1 m2 b1 b2
  · intro i b k x e l m hb'
    obtain ⟨n1, e⟩ := live i b e l
    simp only [if_neg n1] at m
    exact hR.own i b k x e l m hb'

theorem hshrels_ok {Im' : Nat → Prop} {ks : List Hdl} {hs : List D} : ∀ {hsh : List HSh} {k : Nat} {o : List Nat}, hshrels w Im' ks hs hsh k o → ∀ j hd, k ≤ j → j < k + hsh.length → ks[j]? = some hd → hd.ok
  | [], k, o, _, j, hd, h1, h2, _ => by simp at h2; omega
  | s :: l, k, o, ⟨hd', o1, o2, h1, h2, h3, h4, h5⟩, j, hd, hj1, hj2, hj => by
    by_cases e : j = k
    · subst e; rw [h1] at hj; injection hj with hj; subst hj; exact h2
    · exact hshrels_ok h4 j hd (by omega) (by simp at hj2; omega) hj

theorem refList_eq {n : Nat} : ∀ {k : Nat} {refs : List (Nat × Nat)}, refList n k refs = refIds refs k n := by
  induction n with
  | zero => intro k refs; rfl
  | succ n ih => intro k refs; simp only [refList, refIds, ih]

theorem refIds_get {refs : List (Nat × Nat)} : ∀ {n k j : Nat}, (refIds refs k n)[j]? = if j < n then some ((look refs (k + j)).getD 0) else none
  | 0, k, j => by simp [refIds]
  | n + 1, k, j => by
    simp only [refIds]
    cases j with
    | zero => simp
    | succ j =>
      rw [List.getElem?_cons_succ, refIds_get]
      rw [Nat.add_assoc, Nat.add_comm 1 j]
      by_cases h : j < n
      · rw [if_pos h, if_pos (by omega)]
      · rw [if_neg h, if_neg (by omega)]

theorem one_rel : ∀ {vs : List V} {ys : List Value}, vrels w μ Im vs ys → vrel w μ Im (one vs) (vret ys)
  | [], ys, h => by simp only [vrels] at h; subst h; exact ⟨[], rfl, rfl⟩
  | [v], ys, h => by
    obtain ⟨y, ys', rfl, hv, h⟩ := h
    simp only [vrels] at h; subst h; exact hv
  | v :: v2 :: vs, ys, h => by
    obtain ⟨y, ys', rfl, hv, y2, ys2, rfl, hv2, h⟩ := h
    exact ⟨y :: y2 :: ys2, rfl, y, _, rfl, hv, y2, ys2, rfl, hv2, h⟩

/-- the end of a call, as the evaluator sees it -/
def CallEnd (C : Cx) (h h' : H) (v : V) (w : World) (μ : Mu) (Im : Nat → Prop) : Ending → World → Prop
  | .returned y, w' => ∃ μ' Im', Grows C h h' w μ Im w' μ' Im' ∧ vrel w' μ' Im' v y
  | .panicked _, _ => False
  | .outgrown, _ => False

/-- what lies behind a call: blocks and values come back -/
theorem exec_back {heap' : List HSh} {outs : List Sh} {hs' os : List D} {h : H} {l : Log} {r : V × H × Log} {w' : World} {Im2 : Nat → Prop} {ids : List Nat} {ks ks' : List Hdl} {ys : List Value} {o' : List Nat} (hR : HRel C (look h.bs) w' μ Im2)
    (hwh : HSh.wfs heap'.length heap' = true) (hwo : Sh.wfs heap'.length outs = true) (hbd : Bd w' Im2 heap' outs hs' os ys (ks ++ ks') o') (hks : ks.length = ids.length)
    (hids : ∀ k i : Nat, ids[k]? = some i → μ i = ks[k]?) (hnd : ids.Nodup) (hgone : ∀ i ∈ ids, look h.bs i = some .gone) (hfr : ∀ i, h.next ≤ i → i < r.2.1.next → μ i = none)
    (hown : ∀ x ∈ o', C.F x ∨ C.w0.heap.size ≤ x) (hfree : ∀ i b k x, look h.bs i = some b → b.live = true → μ i = some k → k.blk = some x → x ∉ o')
    (hx : (news ks'.length fun more => mkH (vapp ids more) hs' heap' 0 (mks (vapp ids more) hs' outs (.r os) 0 fun vs => .ret (one vs))).exec h l = some r) :
    ∃ μ', Grows C h r.2.1 w' μ Im2 w' μ' Im2 ∧ vrel w' μ' Im2 r.1 (vret ys) := by
  obtain ⟨o1, o2, hv, hh, rfl, hond, hoim, hkl, hhl⟩ := hbd
  obtain ⟨h2, l2, hx, hn2, hl2⟩ := exec_news hx
  have hnx := exec_next hx
  have hkok : ∀ k ∈ ks', k.ok := fun k hk => by
    obtain ⟨j, hj, he⟩ := List.getElem_of_mem hk
    refine hshrels_ok hh (ks.length + j) k (by omega) (by rw [List.length_append] at hkl; omega) ?_
    rw [List.getElem?_append_right (by omega), Nat.add_sub_cancel_left, List.getElem?_eq_getElem hj, he]
  obtain ⟨hR2, hlat2⟩ := hR.names hl2 (fun i h1 h3 => hfr i h1 (by omega)) rfl hkok
  generalize hmu2 : (fun i => if h.next ≤ i ∧ i < h.next + ks'.length then ks'[i - h.next]? else μ i) = μ2 at hR2 hlat2
  have hmu2' : ∀ i, μ2 i = if h.next ≤ i ∧ i < h.next + ks'.length then ks'[i - h.next]? else μ i := fun i => by rw [← hmu2]
  have hlen : (vapp ids (List.range' h.next ks'.length)).length = heap'.length := by
    rw [vapp_eq, List.length_append, List.length_range', ← hks, ← hkl, List.length_append]
  have hidfr : ∀ i ∈ ids, ¬ (h.next ≤ i ∧ i < r.2.1.next) := fun i hi he => by
    obtain ⟨k, hk, hke⟩ := List.getElem_of_mem hi
    have := hids k i (by rw [List.getElem?_eq_getElem hk, hke])
    rw [hfr i he.1 he.2, List.getElem?_eq_getElem (by omega)] at this
    simp at this
  have hnth : ∀ k, k < ids.length → ∃ i, ids[k]? = some i ∧ nth (vapp ids (List.range' h.next ks'.length)) k = i := fun k hk => by
    refine ⟨ids[k], List.getElem?_eq_getElem hk, ?_⟩
    rw [nth_eq, vapp_eq, List.getElem?_append_left hk, List.getElem?_eq_getElem hk]; rfl
  have hnth2 : ∀ k, ids.length ≤ k → k < heap'.length → nth (vapp ids (List.range' h.next ks'.length)) k = h.next + (k - ids.length) := fun k hk hk2 => by
    have : k - ids.length < ks'.length := by rw [List.length_append] at hkl; omega
    rw [nth_eq, vapp_eq, List.getElem?_append_right hk, List.getElem?_range' (by omega)]
    simp
  have hrf : ∀ k hd, (ks ++ ks')[k]? = some hd → μ2 (nth (vapp ids (List.range' h.next ks'.length)) k) = some hd := fun k hd hk => by
    have hkl2 := (List.getElem?_eq_some_iff.1 hk).1
    rw [hmu2']
    by_cases hkn : k < ids.length
    · obtain ⟨i, hi, he⟩ := hnth k hkn
      rw [he, if_neg (fun h1 => hidfr i (List.mem_of_getElem? hi) ⟨h1.1, by omega⟩), hids k i hi]
      rwa [List.getElem?_append_left (by omega)] at hk
    · rw [hnth2 k (by omega) (by omega)]
      rw [List.length_append] at hkl2
      rw [if_pos (by omega)]
      rw [List.getElem?_append_right (by omega)] at hk
      rw [← hk]; congr 1; omega
  have hinj : ∀ k k', k < heap'.length → k' < heap'.length → nth (vapp ids (List.range' h.next ks'.length)) k = nth (vapp ids (List.range' h.next ks'.length)) k' → k = k' := fun k k' hk hk' he => by
    by_cases h1 : k < ids.length
    · obtain ⟨i, hi, e1⟩ := hnth k h1
      by_cases h3 : k' < ids.length
      · obtain ⟨i', hi', e2⟩ := hnth k' h3
        rw [e1, e2] at he; subst he
        exact (List.getElem?_inj h1 hnd).1 (by rw [hi, hi'])
      · rw [e1, hnth2 k' (by omega) hk'] at he
        have hlx : ks'.length + ids.length = heap'.length := by rw [List.length_append] at hkl; omega
        exact (hidfr i (List.mem_of_getElem? hi) (by omega)).elim
    · by_cases h3 : k' < ids.length
      · obtain ⟨i', hi', e2⟩ := hnth k' h3
        rw [e2, hnth2 k (by omega) hk] at he
        have hlx : ks'.length + ids.length = heap'.length := by rw [List.length_append] at hkl; omega
        exact (hidfr i' (List.mem_of_getElem? hi') (by omega)).elim
      · rw [hnth2 k (by omega) hk, hnth2 k' (by omega) hk'] at he
        omega
  have hav : Avail C (look h2.bs) w' μ2 Im2 (o2 ++ o1) := by
    refine ⟨(List.perm_append_comm.nodup_iff).1 hond, fun x hx => ?_, fun i b k x e l' m hb' hx => ?_⟩
    · have hx' : x ∈ o1 ++ o2 := by simp only [List.mem_append] at hx ⊢; exact hx.symm
      exact ⟨(hoim x hx').1, (hoim x hx').2, hown x hx'⟩
    · have hx' : x ∈ o1 ++ o2 := by simp only [List.mem_append] at hx ⊢; exact hx.symm
      rw [hl2] at e
      by_cases e1 : h.next ≤ i ∧ i < h.next + ks'.length
      · rw [if_pos e1] at e; injection e with e; subst e; simp [Blk.live] at l'
      · rw [if_neg e1] at e
        rw [hmu2', if_neg e1] at m
        exact hfree i b k x e l' m hb' hx'
  have hfr2 : ∀ i, h2.next ≤ i → i < r.2.1.next → μ2 i = none := fun i h1 h3 => by
    rw [hmu2', if_neg (by omega)]; exact hfr i (by omega) h3
  obtain ⟨h3, l3, μ3, hx, hg3, ht3⟩ := exec_mkH hinj hx hR2 hrf hwh hh hav.left hfr2 (by simp) (fun j _ hj c hc => by
      simp only [Nat.zero_add] at hj
      by_cases h1 : j < ids.length
      · obtain ⟨i, hi, e1⟩ := hnth j h1
        rw [e1, hl2, if_neg (fun h1 => hidfr i (List.mem_of_getElem? hi) ⟨h1.1, by omega⟩), hgone i (List.mem_of_getElem? hi)] at hc
        injection hc with hc; subst hc; rfl
      · rw [hnth2 j (by omega) hj, hl2, if_pos (by rw [List.length_append] at hkl; omega)] at hc
        injection hc with hc; subst hc; rfl) hkl
  obtain ⟨vs, h4, l4, μ4, hx, hm4, hvs, _⟩ := exec_mks hx hg3.rel (fun k hd hk => hg3.later.mu _ _ (hrf k hd hk)) hwo (ds := os) (fun j _ => by simp [D.f]) hv (hav.right ht3) (hg3.fresh hfr2)
  simp only [Prog.exec, Option.some.injEq] at hx
  subst hx
  have hg2 : Grows C h h2 w' μ Im2 w' μ2 Im2 := ⟨hR2, hlat2, by omega, fun i h1 h3 => by
    rw [hmu2'] at h3
    by_cases e1 : h.next ≤ i ∧ i < h.next + ks'.length
    · omega
    · rw [if_neg e1] at h3; exact (h3 h1).elim⟩
  exact ⟨μ4, (hg2.trans hg3).trans hm4.grows, one_rel hvs⟩

end
end Go.Ev

/- A call by its contract. -/
namespace Go.Ev
open Go

structure CallEnv (P : Program) (E : Env) : Prop where
  spec : ∀ f vs sg, E.sig f vs = some sg → SpecOK P f sg (E.phi f vs)
  wf : ∀ f vs sg, E.sig f vs = some sg → sg.wf = true
  meth : ∀ t name g, E.meth t name = some g → ∀ v w, (method (P.types.size + Made.depth) t v name).run P w = .ok (g, v) w

section
variable {P : Program} {C : Cx} {w : World} {μ : Mu} {Im : Nat → Prop}

theorem ok_call {E : Env} (hE : CallEnv P E) {f : FuncId} {args : List V} {xs : List Value} {h h' : H} {l l' : Log} {v : V} (hR : HRel C (look h.bs) w μ Im) (hfr : ∀ i, h.next ≤ i → i < h'.next → μ i = none) (ha : vrels w μ Im args xs)
    (hx : (evCall E f args).exec h l = some (v, h', l')) : Answers P f xs.toArray w (CallEnd C h h' v w μ Im) := by
  unfold evCall at hx
  split at hx
  · exact (exec_fail hx).elim
  rename_i sg hsg
  have hwf := hE.wf f args sg hsg
  simp only [Sig.wf, Bool.and_eq_true] at hwf
  obtain ⟨⟨⟨⟨wf1, wf2⟩, wf3⟩, wf4⟩, wf5⟩ := hwf
  have wf5' : sg.heap.length ≤ sg.heap'.length := Nat.le_of_ble_eq_true wf5
  obtain ⟨hs, as, s, l1, hx, tk⟩ := exec_absorb hR hx ha (by simp) wf1 wf2
  obtain ⟨⟨hs', outs⟩, hval, hx⟩ := exec_prog hx
  simp only at hx
  replace hx := exec_chk hx; obtain ⟨hc, hx⟩ := hx
  simp only [Bool.and_eq_true, vlen_eq] at hc
  have hc1 : hs'.length = sg.heap'.length := Nat.eq_of_beq_eq_true hc.1
  have hc2 : outs.length = sg.outs.length := Nat.eq_of_beq_eq_true hc.2
  obtain ⟨h2, l2, hx, hn2, hl2⟩ := exec_setAll hx
  obtain ⟨h3, l3, hx, hn3, hl3⟩ := exec_setAll hx
  simp only [vlen_eq, refList_eq] at hx hl3
  have hb0 : ∀ j, j < sg.heap.length → ∃ i, look s.refs (0 + j) = some i := fun j hj => by
    obtain ⟨i, b, h1, _⟩ := tk.refs j hj; exact ⟨i, by simpa using h1⟩
  have hidm : ∀ i, i ∈ refIds s.refs 0 sg.heap.length → ∃ j, j < sg.heap.length ∧ look s.refs j = some i := fun i hi => by
    obtain ⟨j, hj, he⟩ := mem_refIds hb0 hi; exact ⟨j, hj, by simpa using he⟩
  have hidg : ∀ j i, j < sg.heap.length → look s.refs j = some i → i ∈ refIds s.refs 0 sg.heap.length := fun j i hj he => by
    refine List.mem_of_getElem? (i := j) ?_
    rw [refIds_get, if_pos hj, Nat.zero_add, he]; rfl
  -- what still lies
  have hold : ∀ i b, look h3.bs i = some b → b.live = true → look h.bs i = some b ∧ i ∉ s.used ∧ i ∉ refIds s.refs 0 sg.heap.length := fun i b hi hb => by
    rw [hl3] at hi
    by_cases e1 : i ∈ refIds s.refs 0 sg.heap.length
    · rw [if_pos e1] at hi; injection hi with hi; subst hi; simp [Blk.live] at hb
    · rw [if_neg e1, hl2] at hi
      by_cases e2 : i ∈ s.used
      · rw [if_pos e2] at hi; injection hi with hi; subst hi; simp [Blk.live] at hb
      · rw [if_neg e2] at hi; exact ⟨hi, e2, e1⟩
  have hR3 : HRel C (look h3.bs) w μ Im := hR.drop (fun j b hj hb => (hold j b hj hb).1) (fun j b hj hb => by
    rw [hl3] at hj
    split at hj
    · injection hj with hj; exact .inr hj.symm
    · rw [hl2] at hj
      split at hj
      · injection hj with hj; exact .inr hj.symm
      · exact .inl hj)
  have hidgone : ∀ i ∈ refIds s.refs 0 sg.heap.length, look h3.bs i = some .gone := fun i hi => by rw [hl3, if_pos hi]
  have hF : ∀ {o : List Nat}, (∀ x ∈ o, ∃ i b k, (i ∈ s.used ∨ ∃ j, j < sg.heap.length ∧ look s.refs j = some i) ∧ look h.bs i = some b ∧ b.live = true ∧ μ i = some k ∧ k.blk = some x) →
      (∀ x ∈ o, C.F x ∨ C.w0.heap.size ≤ x) ∧ ∀ i b k x, look h3.bs i = some b → b.live = true → μ i = some k → k.blk = some x → x ∉ o := fun hown => by
    refine ⟨fun x hx => ?_, fun i b k x hi hb hk hkx hxo => ?_⟩
    · obtain ⟨i, b, k, _, h1, h2, h3, h4⟩ := hown x hx
      exact (hR.own i b k x h1 h2 h3 h4).2.2
    · obtain ⟨i', b', k', him, h1, h2, h3, h4⟩ := hown x hxo
      obtain ⟨o1, o2, o3⟩ := hold i b hi hb
      have := hR.dis i i' b b' k k' x o1 hb h1 h2 hk h3 hkx h4
      subst this
      rcases him with h5 | ⟨j, hj, h5⟩
      · exact o2 h5
      · exact o3 (hidg j i hj h5)
  have fin : ∀ (h4 : H) (l4 : Log) (w' : World) (Im2 : Nat → Prop) (ks ks' : List Hdl) (ys : List Value) (o o' : List Nat), HRel C (look h4.bs) w' μ Im2 → Later w μ Im w' μ Im2 → h4.next = h.next → (∀ i ∈ refIds s.refs 0 sg.heap.length, look h4.bs i = some .gone) →
      (∀ x ∈ o, C.F x ∨ C.w0.heap.size ≤ x) → (∀ i b k x, look h4.bs i = some b → b.live = true → μ i = some k → k.blk = some x → x ∉ o ∧ x < w.heap.size) → Bd w' Im2 sg.heap' sg.outs hs' outs ys (ks ++ ks') o' → ks.length = sg.heap.length → (∀ k i, look s.refs k = some i → k < sg.heap.length → ks[k]? = μ i) →
      (∀ x ∈ o', x ∈ o ∨ w.heap.size ≤ x) → ((news (sg.heap'.length - sg.heap.length) fun more => mkH (vapp (refIds s.refs 0 sg.heap.length) more) hs' sg.heap' 0 (mks (vapp (refIds s.refs 0 sg.heap.length) more) hs' sg.outs (.r outs) 0 fun vs => .ret (one vs))).exec h4 l4 = some (v, h', l')) →
      CallEnd C h h' v w μ Im (.returned (vret ys)) w' := by
    intro h4 l4 w' Im2 ks ks' ys o o' hR4 hlat hn4 hg4 ho hlive hbd hkl hksm hoo hx4
    have hbd' := hbd
    obtain ⟨_, _, _, _, _, _, _, hkk, _⟩ := hbd'
    have hcnt : sg.heap'.length - sg.heap.length = ks'.length := by rw [List.length_append] at hkk; omega
    rw [hcnt] at hx4
    have hidl : (refIds s.refs 0 sg.heap.length).length = sg.heap.length := by
      have : ∀ n k, (refIds s.refs k n).length = n := by
        intro n; induction n with
        | zero => intro k; rfl
        | succ n ih => intro k; simp [refIds, ih]
      exact this _ _
    obtain ⟨μ', hg, hv⟩ := exec_back hR4 wf3 wf4 hbd (by rw [hidl, hkl]) (fun k i hk => by
        rw [refIds_get] at hk
        split at hk
        · rename_i hkn
          obtain ⟨i', hi'⟩ := hb0 k hkn
          rw [hi'] at hk; simp only [Option.getD_some, Option.some.injEq] at hk; subst hk
          exact (hksm k i' (by simpa using hi') hkn).symm
        · simp at hk) (nodup_refIds tk.ok.2 hb0) hg4 (fun i h1 h2 => hfr i (by omega) h2) (fun x hx => by
        rcases hoo x hx with h1 | h1
        · exact ho x h1
        · exact .inr (Nat.le_trans hR.size h1)) (fun i b k x hi hb hk hkx hxo => by
        have := hlive i b k x hi hb hk hkx
        rcases hoo x hxo with h1 | h1
        · exact this.1 h1
        · omega) hx4
    exact ⟨μ', Im2, Grows.trans ⟨hR4, hlat, by omega, fun i h1 h2 => (h2 h1).elim⟩ hg, hv⟩
  split at hx
  · -- the rows that were read as data are frozen
    obtain ⟨h4, l4, Im4, hx, hR4, hlat4, hn4, hlk4, hf4, hup4⟩ := exec_freezeAll hx hR3
    have hfz : ∀ i ∈ s.frz, ∀ k y, μ i = some k → k.blk = some y → Im4 y := fun i hi k y hk hy => by
      obtain ⟨t, xs, hrow⟩ := tk.frzRow i hi
      refine hf4 i hi t xs ?_ k y hk hy
      rw [hl3, if_neg (fun hm => by obtain ⟨j, _, he⟩ := hidm i hm; exact tk.refFrz j i he hi), hl2, if_neg (tk.frzUsed i hi)]
      exact hrow
    obtain ⟨ks, o, hbd, hksm, hown⟩ := tk.bd Im4 hlat4.im hfz hup4
    obtain ⟨ho, hlive⟩ := hF hown
    have hbd' := hbd
    obtain ⟨_, _, _, _, _, _, hoim, hkl, _⟩ := hbd'
    refine Answers.mono (hE.spec f args sg hsg hs as hs' outs hval hc1 hc2 w Im4 xs ks o hbd fun x hx => (hR4.im x hx).1) fun e w' he => ?_
    cases e with
    | panicked c => exact he
    | outgrown => exact he
    | returned y =>
      obtain ⟨Im', ys, ks', o', rfl, hbd2, fr⟩ := he
      have hlive4 : ∀ i b k x, look h4.bs i = some b → b.live = true → μ i = some k → k.blk = some x → x ∉ o ∧ x < w.heap.size := fun i b k x hi hb hk hkx => by
        have h5 := hR4.own i b k x hi hb hk hkx
        refine ⟨?_, h5.2.1⟩
        by_cases hif : i ∈ s.frz
        · exact (h5.1 (hfz i hif k x hk hkx)).elim
        · rw [hlk4 i hif] at hi
          exact hlive i b k x hi hb hk hkx
      obtain ⟨hRa, hla⟩ := hR4.after fr.size fr.heap fr.os fr.tape fr.output (fun x hx => (hoim x hx).1) (fun i b k x hi hb hk hkx => (hlive4 i b k x hi hb hk hkx).1) ho fr.im fr.im'
      exact fin h4 l4 w' Im' ks ks' ys o o' hRa (hlat4.trans hla) (by omega) (fun i hi => by
        rw [hlk4 i (fun hif => by obtain ⟨j, _, he⟩ := hidm i hi; exact tk.refFrz j i he hif)]; exact hidgone i hi) ho hlive4 hbd2 hkl hksm fr.own hx
  · rename_i hnr
    simp only [Bool.not_eq_true, Bool.or_eq_false_iff] at hnr
    obtain ⟨ks, o, hbd, hksm, hown⟩ := tk.bd (fun y => Im y ∨ ∃ i ∈ s.frz, ∃ k, μ i = some k ∧ k.blk = some y) (fun _ h => .inl h) (fun i hi k y hk hy => .inr ⟨i, hi, k, hk, hy⟩) (fun _ h => h)
    obtain ⟨ho, hlive⟩ := hF hown
    have hbd' := hbd
    obtain ⟨_, _, _, _, _, _, hoim, hkl, _⟩ := hbd'
    refine Answers.mono (hE.spec f args sg hsg hs as hs' outs hval hc1 hc2 w _ xs ks o hbd fun x hx => ?_) fun e w' he => ?_
    · rcases hx with hx | ⟨i, hi, k, hk, hkx⟩
      · exact (hR.im x hx).1
      · obtain ⟨t, xs, hrow⟩ := tk.frzRow i hi
        exact (hR.own i _ k x hrow rfl hk hkx).2.1
    · cases e with
      | panicked c => exact he
      | outgrown => exact he
      | returned y =>
        obtain ⟨Im', ys, ks', o', rfl, hbd2, fr⟩ := he
        obtain ⟨hRa, hla⟩ := hR3.after (Im2 := Im) fr.size fr.heap fr.os fr.tape fr.output (fun x hx hi => (hoim x hx).1 (.inl hi)) hlive ho (fun _ h => h) (fun x hx => ⟨Nat.lt_of_lt_of_le (hR.im x hx).1 fr.size, .inl hx⟩)
        obtain ⟨p1, p2, q1, q2, q3, q4, q5, q6, q7⟩ := hbd2
        refine fin h3 l3 w' Im ks ks' ys o o' hRa hla (by omega) hidgone ho (fun i b k x hi hb hk hkx => ⟨hlive i b k x hi hb hk hkx, (hR3.own i b k x hi hb hk hkx).2.1⟩)
          ⟨p1, p2, q1.noref hnr.1, q2.noref hnr.2, q3, q4, fun x hx => ⟨fun hi => (q5 x hx).1 (fr.im x (.inl hi)), (q5 x hx).2⟩, q6, q7⟩ hkl hksm fr.own hx

/-! ### One operation -/

theorem wp_value {o : Oper} {a : Act} {K : Act → World → Prop} {Q : Exit → Act → World → Prop} {s : Sem Next} {h h' : H} {v : V} (he : execOp a.eval o = s) (hp : Plain P C s h h' v w μ Im)
    (hk : ∀ y w' μ' Im', Grows C h h' w μ Im w' μ' Im' → vrel w' μ' Im' v y → K (a.put o.dst y) w') : o.wp P a w K Q := by
  obtain ⟨n, y, w', μ', Im', hrun, hn, hg, hv⟩ := hp
  unfold Oper.wp
  rw [he, hrun]
  rcases hn with rfl | ⟨rfl, rfl⟩
  · exact hk y w' μ' Im' hg hv
  · exact hk _ w' μ' Im' hg hv

theorem wp_answers {o : Oper} {a : Act} {K : Act → World → Prop} {Q : Exit → Act → World → Prop} {f : FuncId} {args : Array Value} {h h' : H} {v : V} (he : execOp a.eval o = callFunc f args ∨ (execOp a.eval o).run P w = (callFunc f args).run P w) (hp : Answers P f args w (CallEnd C h h' v w μ Im))
    (hk : ∀ y w' μ' Im', Grows C h h' w μ Im w' μ' Im' → vrel w' μ' Im' v y → K (a.put o.dst y) w') : o.wp P a w K Q := by
  have he' : (execOp a.eval o).run P w = (callFunc f args).run P w := by rcases he with he | he <;> rw [he]
  unfold Oper.wp
  rw [he']
  rcases hp with ⟨h1, h2⟩ | ⟨y, w', h1, μ', Im', hg, hv⟩
  · rw [h1, Oper.upon_enter]
    refine Calls.mono h2 fun e w' hh => ?_
    cases e with
    | returned y => obtain ⟨μ', Im', hg, hv⟩ := hh; exact hk y w' μ' Im' hg hv
    | panicked c => exact hh.elim
    | outgrown => exact hh.elim
  · rw [h1]; exact hk y w' μ' Im' hg hv

theorem wp_op {E : Env} (hE : EnvOK P E) (hC : CallEnv P E) {fr : List (Nat × V)} {o : Oper} {a : Act} {K : Act → World → Prop} {Q : Exit → Act → World → Prop} {h h' : H} {l l' : Log} {v : V} (hR : HRel C (look h.bs) w μ Im) (hS : SRel C (look fr) a w μ Im)
    (hfr : ∀ i, h.next ≤ i → i < h'.next → μ i = none) (hx : (evOp E (opval fr) o).exec h l = some (v, h', l'))
    (hk : ∀ y w' μ' Im', Grows C h h' w μ Im w' μ' Im' → vrel w' μ' Im' v y → K (a.put o.dst y) w') : o.wp P a w K Q := by
  have hρ := opval_rel hS
  cases hc : isCall o with
  | false => exact wp_value rfl (ok_op hE hR hfr hρ hc hx) hk
  | true =>
    obtain ⟨dst, op, type, pos, after, guard⟩ := o
    cases op <;> simp only [isCall, Bool.false_eq_true] at hc
    rename_i c
    obtain ⟨callee, args, argTypes⟩ := c
    cases callee with
    | builtin b => simp at hc
    | value f =>
      simp only [evOp] at hx
      split at hx <;> try exact (exec_fail hx).elim
      rename_i g caps he
      have hf := hρ f
      rw [he] at hf
      obtain ⟨xs, hfv, hcaps⟩ := hf
      have hargs : vrels w μ Im (vapp (vmap (opval fr) args.toList) caps) (args.toList.map a.eval ++ xs) := (vmap_rel hρ args.toList).append hcaps
      have hans := ok_call hC hR hfr hargs hx
      have e1 : (args.toList.map a.eval ++ xs).toArray = args.map a.eval ++ xs.toArray := by
        apply Array.toList_inj.1; simp
      rw [e1] at hans
      refine wp_answers (.inl ?_) hans hk
      simp [execOp, resolve, hfv, Deferred.ofValue, invoke]
    | invoke r name =>
      simp only [evOp] at hx
      split at hx <;> try exact (exec_fail hx).elim
      rename_i t u he
      split at hx <;> try exact (exec_fail hx).elim
      rename_i g hm
      have hr := hρ r
      rw [he] at hr
      obtain ⟨y, hry, hu⟩ := hr
      have hargs : vrels w μ Im (u :: vmap (opval fr) args.toList) (y :: args.toList.map a.eval) := ⟨y, _, rfl, hu, vmap_rel hρ args.toList⟩
      have hans := ok_call hC hR hfr hargs hx
      refine wp_answers (.inr ?_) hans hk
      have hmm := hC.meth t name g hm y w
      have e1 : (#[y] ++ (#[Value.iface t y] ++ args.map a.eval).extract 1 (#[Value.iface t y] ++ args.map a.eval).size) = (y :: args.toList.map a.eval).toArray := by
        apply Array.toList_inj.1; simp
        exact List.take_of_length_le (by simp)
      simp only [execOp, resolve, hry, Sem.run_bind, Sem.run_pure, Result.andThen_ok, invoke]
      have e0 : (#[Value.iface t y] ++ args.map a.eval)[0]? = some (Value.iface t y) := by rw [← Array.getElem?_toList, Array.toList_append]; rfl
      have step : ∀ {z : Option Value} {rest : Array Value}, z = some (Value.iface t y) → (#[y] ++ rest) = (y :: args.toList.map a.eval).toArray →
          (match z with
            | some recv => callMethod recv name rest
            | x => stuck "call: a method without a receiver" : Sem Next).run P w = (callFunc g (y :: args.toList.map a.eval).toArray).run P w := by
        intro z rest hz hr
        subst hz
        simp only [callMethod, Sem.run_bind, run_program, Result.andThen_ok, hmm, hr]
      exact step e0 e1

end
end Go.Ev
