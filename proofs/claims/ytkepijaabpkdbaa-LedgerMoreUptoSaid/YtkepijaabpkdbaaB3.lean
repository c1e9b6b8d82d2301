/- Merging in place, as Go's library does it: halving, walking, the two halves. Merging in place makes the merged list; the whole sort. The contract of merging in place: it calls itself on shorter parts alone. -/
import Derived.Test.YtkepijaabpkdbaaB2
import Derived.Test.YtkepijaabpkdbaaChecked
import Derived.KernelRfl
set_option linter.unusedVariables false
set_option linter.unusedSimpArgs false

/- Merging in place, as Go's library does it: halving, walking, the two halves. -/
namespace Go.Proofs.Ytkepijaabpkdbaa
open Go Go.Ev

/-! ### Halving -/

theorem half_i64 {i j : Int} (h1 : 0 ≤ i) (h2 : i ≤ 9223372036854775807) (h3 : 0 ≤ j) (h4 : j ≤ 9223372036854775807) :
    IntKind.wrap .i64 (ishr .u64 (IntKind.wrap .u64 (IntKind.wrap .i64 (i + j))) 1) = (i + j) / 2 := by
  have e : IntKind.wrap .u64 (IntKind.wrap .i64 (i + j)) = i + j := by
    simp [IntKind.wrap, IntKind.bits, IntKind.signed]
    omega
  rw [e]
  have e2 : ishr .u64 (i + j) 1 = (i + j) / 2 := by
    simp only [ishr, IntKind.bits]
    rw [show min (1 : Int).toNat 64 = 1 by decide]
    rw [show (2 : Int) ^ 1 = 2 by decide, Int.fdiv_eq_ediv_of_nonneg _ (by omega)]
  rw [e2]
  exact wrap_i64 (by omega) (by omega)

theorem halve_fuel (p : Nat → Bool) : ∀ (f g i j : Nat), j - i ≤ f → j - i ≤ g → halve p f i j = halve p g i j
  | 0, 0, i, j, _, _ => rfl
  | 0, g + 1, i, j, h1, h2 => by
    have : ¬ i < j := by omega
    simp [halve, this]
  | f + 1, 0, i, j, h1, h2 => by
    have : ¬ i < j := by omega
    simp [halve, this]
  | f + 1, g + 1, i, j, h1, h2 => by
    simp only [halve]
    rw [halve_fuel p f g ((i + j) / 2 + 1) j (by omega) (by omega)]
    by_cases h : i < j
    · rw [halve_fuel p f g i ((i + j) / 2) (by omega) (by omega)]
    · simp [h]
theorem halve_spec (p : Nat → Bool) : ∀ (f i j : Nat), i ≤ j → j - i ≤ f → i ≤ halve p f i j ∧ halve p f i j ≤ j ∧ (i < halve p f i j → p (halve p f i j - 1) = true) ∧ (halve p f i j < j → p (halve p f i j) = false)
  | 0, i, j, h1, h2 => by
    have : i = j := by omega
    subst this
    simp [halve]
  | f + 1, i, j, h1, h2 => by
    simp only [halve]
    by_cases h : i < j
    · simp only [h, decide_true, cond_true]
      have hm : (i + j) / 2 < j := by omega
      have hm' : i ≤ (i + j) / 2 := by omega
      cases hp : p ((i + j) / 2)
      · simp only [cond_false]
        obtain ⟨k1, k2, k3, k4⟩ := halve_spec p f i ((i + j) / 2) hm' (by omega)
        refine ⟨k1, by omega, k3, fun _ => ?_⟩
        by_cases h5 : halve p f i ((i + j) / 2) < (i + j) / 2
        · exact k4 h5
        · rw [show halve p f i ((i + j) / 2) = (i + j) / 2 by omega]; exact hp
      · simp only [cond_true]
        obtain ⟨k1, k2, k3, k4⟩ := halve_spec p f ((i + j) / 2 + 1) j hm (by omega)
        refine ⟨by omega, k2, fun _ => ?_, k4⟩
        by_cases h5 : (i + j) / 2 + 1 < halve p f ((i + j) / 2 + 1) j
        · exact k3 h5
        · rw [show halve p f ((i + j) / 2 + 1) j - 1 = (i + j) / 2 by omega]; exact hp
    · have : i = j := by omega
      subst this
      simp
/-- one step of halving, over whole numbers -/
theorem halve_step (p : Nat → Bool) {i j : Int} (h0 : 0 ≤ i) (h : i < j) : halve p (j - i).toNat i.toNat j.toNat =
    bif p ((i + j) / 2).toNat then halve p (j - ((i + j) / 2 + 1)).toNat ((i + j) / 2 + 1).toNat j.toNat else halve p ((i + j) / 2 - i).toNat i.toNat ((i + j) / 2).toNat := by
  obtain ⟨n, hn⟩ : ∃ n, (j - i).toNat = n + 1 := ⟨(j - i).toNat - 1, by omega⟩
  have e : ((i + j) / 2).toNat = (i.toNat + j.toNat) / 2 := by omega
  have e2 : ((i + j) / 2 + 1).toNat = (i.toNat + j.toNat) / 2 + 1 := by omega
  have hlt : i.toNat < j.toNat := by omega
  rw [hn, e, e2]
  simp only [halve, hlt, decide_true, cond_true]
  rw [halve_fuel p n (j - ((i + j) / 2 + 1)).toNat _ _ (by omega) (by omega), halve_fuel p n ((i + j) / 2 - i).toNat _ _ (by omega) (by omega)]

theorem jSym0 (bd : Nat) : LoopJust (ESymN bd) (vlen sgSym.heap) (loopN (bodyOf Try.f63) 0) liSym0 := by
  refine loopJust_of (fun hs xs => ((dnth xs 4).int - (dnth xs 3).int).toNat) (by kernel_rfl) (by kernel_rfl) fun go hs xs p w h ih => ?_
  rw [evstSym0]
  simp only [wf_loop, liSym0, slotShapes, wfs_cons, wf_dat, wf_int, wf_bool, wf_str, wf_slice, wf_fn, wf_ref, wf_rall, wf_mref, wf_own, wf_agg, wf_rsub, wf_any, wfs_nil, wfh_cons, wfh_nil, wf_hmap, wf_hrow, wf_hbox, true_and] at w
  obtain ⟨⟨_, _, rfl, ⟨l, rfl, hl, _⟩, rfl⟩, d0, _, rfl, _, _, rfl, ⟨a, rfl, _⟩, _, _, rfl, ⟨_, rfl, rfl⟩, _, _, rfl, ⟨i, rfl, _⟩, _, _, rfl, ⟨j, rfl, _⟩, rfl⟩ := w
  simp only [liSym0, dnth_zero, dnth_succ, dnth_one, dnth_two, int_i, bool_b, str_s, list_r, f_r] at h ih
  simp only [stSym0, xstSym0_0, dnth_zero, dnth_succ, dnth_one, dnth_two, int_i, bool_b, str_s, list_r, f_r]
  replace h := cond_fail h
  obtain ⟨hp, h⟩ := h
  simp only [inRow, Bool.and_eq_true, decide_eq_true_eq] at hp
  obtain ⟨⟨⟨⟨h1, h2⟩, h3⟩, h4⟩, h5⟩ := hp
  have hl' := hl
  rw [most_eq] at hl'
  by_cases hij : i < j
  · have e1 := half_i64 h1 (by omega) (by omega : 0 ≤ j) (by omega)
    have e2 : IntKind.wrap .i64 ((i + j) / 2 + 1) = (i + j) / 2 + 1 := wrap_i64 (by omega) (by omega)
    have b1 : 0 ≤ (i + j) / 2 := by omega
    have b2 : (i + j) / 2 < (l.length : Int) := by omega
    simp only [e1, e2, hij, h4, h5, b1, b2, decide_true, Bool.and_self, cond_true, Int.ofNat_eq_natCast, cmpI_neg]
    rw [halve_step _ h1 hij] at h
    cases hc : decide (pId (dnth l ((i + j) / 2).toNat) < pId (dnth l a.toNat))
    · simp only [hc, cond_false] at h ⊢
      refine ih _ _ ?_ fun _ => cond_ok ?_ h
      · simp; omega
      · simp [inRow]; omega
    · simp only [hc, cond_true] at h ⊢
      refine ih _ _ ?_ fun _ => cond_ok ?_ h
      · simp; omega
      · simp [inRow]; omega
  · have : (j - i).toNat = 0 := by omega
    simp only [this, halve] at h
    have e : ((i.toNat : Nat) : Int) = i := by omega
    rw [e] at h
    simp only [hij, decide_false, cond_false]
    exact h

theorem jSym2 (bd : Nat) : LoopJust (ESymN bd) (vlen sgSym.heap) (loopN (bodyOf Try.f63) 2) liSym2 := by
  refine loopJust_of (fun hs xs => ((dnth xs 4).int - (dnth xs 3).int).toNat) (by kernel_rfl) (by kernel_rfl) fun go hs xs p w h ih => ?_
  rw [evstSym2]
  simp only [wf_loop, liSym2, slotShapes, wfs_cons, wf_dat, wf_int, wf_bool, wf_str, wf_slice, wf_fn, wf_ref, wf_rall, wf_mref, wf_own, wf_agg, wf_rsub, wf_any, wfs_nil, wfh_cons, wfh_nil, wf_hmap, wf_hrow, wf_hbox, true_and] at w
  obtain ⟨⟨_, _, rfl, ⟨l, rfl, hl, _⟩, rfl⟩, d0, _, rfl, _, _, rfl, ⟨a, rfl, _⟩, _, _, rfl, ⟨_, rfl, rfl⟩, _, _, rfl, ⟨i, rfl, _⟩, _, _, rfl, ⟨j, rfl, _⟩, rfl⟩ := w
  simp only [liSym2, dnth_zero, dnth_succ, dnth_one, dnth_two, int_i, bool_b, str_s, list_r, f_r] at h ih
  simp only [stSym2, xstSym2_0, dnth_zero, dnth_succ, dnth_one, dnth_two, int_i, bool_b, str_s, list_r, f_r]
  replace h := cond_fail h
  obtain ⟨hp, h⟩ := h
  simp only [inRow, Bool.and_eq_true, decide_eq_true_eq] at hp
  obtain ⟨⟨⟨⟨h1, h2⟩, h3⟩, h4⟩, h5⟩ := hp
  have hl' := hl
  rw [most_eq] at hl'
  by_cases hij : i < j
  · have e1 := half_i64 h1 (by omega) (by omega : 0 ≤ j) (by omega)
    have e2 : IntKind.wrap .i64 ((i + j) / 2 + 1) = (i + j) / 2 + 1 := wrap_i64 (by omega) (by omega)
    have b1 : 0 ≤ (i + j) / 2 := by omega
    have b2 : (i + j) / 2 < (l.length : Int) := by omega
    simp only [e1, e2, hij, h4, h5, b1, b2, decide_true, Bool.and_self, cond_true, Int.ofNat_eq_natCast, cmpI_neg]
    rw [halve_step _ h1 hij] at h
    cases hc : decide (pId (dnth l a.toNat) < pId (dnth l ((i + j) / 2).toNat))
    · simp only [hc, Bool.not_false, cond_true] at h ⊢
      refine ih _ _ ?_ fun _ => cond_ok ?_ h
      · simp; omega
      · simp [inRow]; omega
    · simp only [hc, Bool.not_true, cond_false] at h ⊢
      refine ih _ _ ?_ fun _ => cond_ok ?_ h
      · simp; omega
      · simp [inRow]; omega
  · have : (j - i).toNat = 0 := by omega
    simp only [this, halve] at h
    have e : ((i.toNat : Nat) : Int) = i := by omega
    rw [e] at h
    simp only [hij, decide_false, cond_false]
    exact h

set_option maxHeartbeats 1000000 in
theorem jSym4 (bd : Nat) : LoopJust (ESymN bd) (vlen sgSym.heap) (loopN (bodyOf Try.f63) 4) liSym4 := by
  refine loopJust_of (fun hs xs => ((dnth xs 8).int - (dnth xs 7).int).toNat) (by kernel_rfl) (by kernel_rfl) fun go hs xs p w h ih => ?_
  rw [evstSym4]
  simp only [wf_loop, liSym4, slotShapes, wfs_cons, wf_dat, wf_int, wf_bool, wf_str, wf_slice, wf_fn, wf_ref, wf_rall, wf_mref, wf_own, wf_agg, wf_rsub, wf_any, wfs_nil, wfh_cons, wfh_nil, wf_hmap, wf_hrow, wf_hbox, true_and] at w
  obtain ⟨⟨_, _, rfl, ⟨l, rfl, hl, _⟩, rfl⟩, d0, _, rfl, _, _, rfl, ⟨a, rfl, _⟩, _, _, rfl, ⟨m, rfl, _⟩, _, _, rfl, ⟨b, rfl, _⟩, _, _, rfl, ⟨_, rfl, rfl⟩, _, _, rfl, ⟨mid, rfl, _⟩, _, _, rfl, ⟨n, rfl, _⟩, _, _, rfl, ⟨i, rfl, _⟩, _, _, rfl, ⟨j, rfl, _⟩, _, _, rfl, ⟨k, rfl, _⟩, rfl⟩ := w
  simp only [liSym4, dnth_zero, dnth_succ, dnth_one, dnth_two, int_i, bool_b, str_s, list_r, f_r] at h ih
  simp only [stSym4, xstSym4_0, xstSym4_1, dnth_zero, dnth_succ, dnth_one, dnth_two, int_i, bool_b, str_s, list_r, f_r]
  replace h := cond_fail h
  obtain ⟨hp, h⟩ := h
  simp only [inRow, Bool.and_eq_true, decide_eq_true_eq] at hp
  obtain ⟨⟨⟨⟨h1, h2⟩, h3⟩, h4⟩, h5⟩ := hp
  have hl' := hl
  rw [most_eq] at hl'
  by_cases hij : i < j
  · have e1 := half_i64 h1 (by omega) (by omega : 0 ≤ j) (by omega)
    generalize hc : (i + j) / 2 = c at e1
    have c1 : i ≤ c := by omega
    have c2 : c < j := by omega
    have e2 : IntKind.wrap .i64 (c + 1) = c + 1 := wrap_i64 (by omega) (by omega)
    have e3 : IntKind.wrap .i64 (k - c) = k - c := wrap_i64 (by omega) (by omega)
    have b1 : 0 ≤ c := by omega
    have b2 : c < (l.length : Int) := by omega
    have b3 : 0 ≤ k - c := by omega
    have b4 : k - c < (l.length : Int) := by omega
    simp only [e1, e2, e3, hij, b1, b2, b3, b4, decide_true, Bool.and_self, cond_true, Int.ofNat_eq_natCast, cmpI_neg]
    rw [halve_step _ h1 hij, hc] at h
    have ec : ((c.toNat : Nat) : Int) = c := by omega
    simp only [ec] at h
    cases hq : decide (pId (dnth l (k - c).toNat) < pId (dnth l c.toNat))
    · simp only [hq, Bool.not_false, cond_true] at h ⊢
      refine ih _ _ ?_ fun _ => cond_ok ?_ h
      · simp; omega
      · simp [inRow]; omega
    · simp only [hq, Bool.not_true, cond_false] at h ⊢
      refine ih _ _ ?_ fun _ => cond_ok ?_ h
      · simp; omega
      · simp [inRow]; omega
  · have : (j - i).toNat = 0 := by omega
    simp only [this, halve] at h
    have e : ((i.toNat : Nat) : Int) = i := by omega
    rw [e] at h
    simp only [hij, decide_false, cond_false]
    exact h

/-! ### Walks -/

@[simp] theorem walkUp_length : ∀ (n k : Nat) (xs : List D), (walkUp n k xs).length = xs.length
  | 0, _, _ => rfl
  | n + 1, k, xs => by simp [walkUp, walkUp_length n]
@[simp] theorem walkDown_length : ∀ (n k : Nat) (xs : List D), (walkDown n k xs).length = xs.length
  | 0, _, _ => rfl
  | n + 1, k, xs => by simp [walkDown, walkDown_length n]
theorem walkUp_mid : ∀ (n : Nat) (p s q : List D) (x : D), s.length = n → walkUp n p.length (p ++ x :: (s ++ q)) = p ++ s ++ x :: q
  | 0, p, s, q, x, h => by
    have : s = [] := List.eq_nil_of_length_eq_zero h
    subst this; simp [walkUp]
  | n + 1, p, [], q, x, h => by simp at h
  | n + 1, p, y :: s, q, x, h => by
    simp only [walkUp]
    have e : p ++ x :: (y :: s ++ q) = p ++ x :: ([] ++ y :: (s ++ q)) := by simp
    rw [e, swapD_mid rfl (by simp)]
    have := walkUp_mid n (p ++ [y]) s q x (by simpa using h)
    simp only [List.length_append, List.length_singleton] at this
    have e2 : p ++ y :: ([] ++ x :: (s ++ q)) = p ++ [y] ++ x :: (s ++ q) := by simp
    rw [e2, this]; simp
theorem walkDown_mid : ∀ (n : Nat) (p s q : List D) (x : D), s.length = n → walkDown n (p.length + n) (p ++ s ++ x :: q) = p ++ x :: (s ++ q)
  | 0, p, s, q, x, h => by
    have : s = [] := List.eq_nil_of_length_eq_zero h
    subst this; simp [walkDown]
  | n + 1, p, s, q, x, hn => by
    obtain ⟨s', y, rfl⟩ : ∃ s' y, s = s' ++ [y] := ⟨s.dropLast, s.getLast (by intro e; subst e; simp at hn), (List.dropLast_concat_getLast _).symm⟩
    have hn' : s'.length = n := by simpa using hn
    simp only [walkDown]
    have e : p ++ (s' ++ [y]) ++ x :: q = (p ++ s') ++ y :: x :: q := by simp
    rw [e, show p.length + (n + 1) - 1 = p.length + n by omega, show p.length + (n + 1) = p.length + n + 1 by omega, swapD_next (by simp; omega)]
    have := walkDown_mid n p s' (y :: q) x hn'
    rw [this]; simp

theorem jSym1 (bd : Nat) : LoopJust (ESymN bd) (vlen sgSym.heap) (loopN (bodyOf Try.f63) 1) liSym1 := by
  refine loopJust_of (fun hs xs => ((dnth xs 1).int - 1 - (dnth xs 2).int).toNat) (by kernel_rfl) (by kernel_rfl) fun go hs xs p w h ih => ?_
  rw [evstSym1]
  simp only [wf_loop, liSym1, slotShapes, wfs_cons, wf_dat, wf_int, wf_bool, wf_str, wf_slice, wf_fn, wf_ref, wf_rall, wf_mref, wf_own, wf_agg, wf_rsub, wf_any, wfs_nil, wfh_cons, wfh_nil, wf_hmap, wf_hrow, wf_hbox, true_and] at w
  obtain ⟨⟨_, _, rfl, ⟨l, rfl, hl, _⟩, rfl⟩, d0, _, rfl, _, _, rfl, ⟨i, rfl, _⟩, _, _, rfl, ⟨k, rfl, _⟩, rfl⟩ := w
  simp only [liSym1, dnth_zero, dnth_succ, dnth_one, dnth_two, int_i, bool_b, str_s, list_r, f_r] at h ih
  simp only [stSym1, xstSym1_0, xstSym1_1, xstSym1_2, dnth_zero, dnth_succ, dnth_one, dnth_two, int_i, bool_b, str_s, list_r, f_r]
  replace h := cond_fail h
  obtain ⟨hp, h⟩ := h
  simp only [Bool.and_eq_true, decide_eq_true_eq] at hp
  obtain ⟨⟨h1, h2⟩, h3⟩ := hp
  have hl' := hl
  rw [most_eq] at hl'
  have e1 : IntKind.wrap .i64 (i - 1) = i - 1 := wrap_i64 (by omega) (by omega)
  simp only [e1]
  by_cases hk : k < i - 1
  · have e2 : IntKind.wrap .i64 (k + 1) = k + 1 := wrap_i64 (by omega) (by omega)
    have b1 : 0 ≤ k + 1 := by omega
    have b2 : k + 1 < (l.length : Int) := by omega
    have b3 : k < (l.length : Int) := by omega
    simp only [e2, hk, h1, b1, b2, b3, decide_true, Bool.and_self, cond_true, Int.ofNat_eq_natCast, dset_nil]
    have en : (i - 1 - k).toNat = (i - 1 - (k + 1)).toNat + 1 := by omega
    have ek : (k + 1).toNat = k.toNat + 1 := by omega
    rw [en] at h
    refine ih _ _ ?_ fun _ => cond_ok ?_ ?_
    · simp; omega
    · simp; omega
    · simp only [walkUp] at h
      simp only [dnth_zero, dnth_succ, dnth_one, dnth_two, int_i, bool_b, str_s, list_r, f_r, ek]
      exact h
  · have : (i - 1 - k).toNat = 0 := by omega
    rw [this] at h
    simp only [hk, decide_false, cond_false]
    exact h

theorem jSym3 (bd : Nat) : LoopJust (ESymN bd) (vlen sgSym.heap) (loopN (bodyOf Try.f63) 3) liSym3 := by
  refine loopJust_of (fun hs xs => ((dnth xs 2).int - (dnth xs 1).int).toNat) (by kernel_rfl) (by kernel_rfl) fun go hs xs p w h ih => ?_
  rw [evstSym3]
  simp only [wf_loop, liSym3, slotShapes, wfs_cons, wf_dat, wf_int, wf_bool, wf_str, wf_slice, wf_fn, wf_ref, wf_rall, wf_mref, wf_own, wf_agg, wf_rsub, wf_any, wfs_nil, wfh_cons, wfh_nil, wf_hmap, wf_hrow, wf_hbox, true_and] at w
  obtain ⟨⟨_, _, rfl, ⟨l, rfl, hl, _⟩, rfl⟩, d0, _, rfl, _, _, rfl, ⟨i, rfl, _⟩, _, _, rfl, ⟨k, rfl, _⟩, rfl⟩ := w
  simp only [liSym3, dnth_zero, dnth_succ, dnth_one, dnth_two, int_i, bool_b, str_s, list_r, f_r] at h ih
  simp only [stSym3, xstSym3_0, xstSym3_1, xstSym3_2, dnth_zero, dnth_succ, dnth_one, dnth_two, int_i, bool_b, str_s, list_r, f_r]
  replace h := cond_fail h
  obtain ⟨hp, h⟩ := h
  simp only [Bool.and_eq_true, decide_eq_true_eq] at hp
  obtain ⟨h1, h2⟩ := hp
  have hl' := hl
  rw [most_eq] at hl'
  by_cases hk : i < k
  · have e2 : IntKind.wrap .i64 (k - 1) = k - 1 := wrap_i64 (by omega) (by omega)
    have b1 : 0 ≤ k - 1 := by omega
    have b2 : k - 1 < (l.length : Int) := by omega
    have b3 : 0 ≤ k := by omega
    simp only [e2, hk, h2, b1, b2, b3, decide_true, Bool.and_self, cond_true, Int.ofNat_eq_natCast, dset_nil]
    have en : (k - i).toNat = (k - 1 - i).toNat + 1 := by omega
    have ek : (k - 1).toNat = k.toNat - 1 := by omega
    rw [en] at h
    refine ih _ _ ?_ fun _ => cond_ok ?_ ?_
    · simp; omega
    · simp; omega
    · simp only [walkDown] at h
      simp only [dnth_zero, dnth_succ, dnth_one, dnth_two, int_i, bool_b, str_s, list_r, f_r, ek]
      exact h
  · have : (k - i).toNat = 0 := by omega
    rw [this] at h
    simp only [hk, decide_false, cond_false]
    exact h

end Go.Proofs.Ytkepijaabpkdbaa

/- Merging in place makes the merged list; the whole sort. -/
namespace Go.Proofs.Ytkepijaabpkdbaa
open Go Go.Ev

/-! ### Merging in place -/

theorem symR_mid {p u v q : List D} {a m b : Nat} (h1 : p.length = a) (h2 : p.length + u.length = m) (h3 : p.length + u.length + v.length = b) : symR (p ++ u ++ v ++ q) a m b = p ++ mergeD u v ++ q := by
  subst h1; subst h2; subst h3
  unfold symR
  have e1 : seg (p ++ u ++ v ++ q) p.length (p.length + u.length) = u := by
    have := seg_of (p := p) (s := u) (q := v ++ q)
    simpa using this
  have e2 : seg (p ++ u ++ v ++ q) (p.length + u.length) (p.length + u.length + v.length) = v := by
    have := seg_of (p := p ++ u) (s := v) (q := q)
    simpa using this
  rw [e1, e2]
  congr 1
  · congr 1
    simp
  · rw [show p.length + u.length + v.length = (p ++ u ++ v).length by simp; omega, List.drop_left]
theorem symOK_mid {p u v q : List D} {a m b : Int} (h1 : (p.length : Int) = a) (h2 : (p.length : Int) + u.length = m) (h3 : (p.length : Int) + u.length + v.length = b) (h4 : u ≠ []) (h5 : v ≠ []) (h6 : sortedD u = true) (h7 : sortedD v = true) (hb : (p ++ u ++ v ++ q).length ≤ 4294967296) : symOK (p ++ u ++ v ++ q) a m b = true := by
  subst h1; subst h2; subst h3
  have e1 : seg (p ++ u ++ v ++ q) (p.length : Int).toNat ((p.length : Int) + u.length).toNat = u := by
    have := seg_of (p := p) (s := u) (q := v ++ q)
    have t : ((p.length : Int) + u.length).toNat = p.length + u.length := by omega
    rw [t]
    simpa using this
  have e2 : seg (p ++ u ++ v ++ q) ((p.length : Int) + u.length).toNat ((p.length : Int) + u.length + v.length).toNat = v := by
    have := seg_of (p := p ++ u) (s := v) (q := q)
    have t : ((p.length : Int) + u.length).toNat = p.length + u.length := by omega
    have t2 : ((p.length : Int) + u.length + v.length).toNat = p.length + u.length + v.length := by omega
    rw [t, t2]
    simpa using this
  have l1 : 0 < u.length := List.length_pos_iff.2 h4
  have l2 : 0 < v.length := List.length_pos_iff.2 h5
  unfold symOK
  rw [e1, e2, h6, h7, decide_eq_true hb]
  simp [rotOK]
  omega

def symY (bd : Nat) (l : List D) (mid en b : Int) : Option (List D × List D) :=
  bif decide (mid < en) then bif decide (en < b) then bif symOK l mid en b && decide ((b - mid).toNat < bd) then some ([.r (symR l mid.toNat en.toNat b.toNat)], []) else none else some ([.r l], []) else some ([.r l], [])
def symX (bd : Nat) (l : List D) (a st mid en b : Int) : Option (List D × List D) :=
  bif decide (a < st) then bif decide (st < mid) then bif symOK l a st mid && decide ((mid - a).toNat < bd) then symY bd (symR l a.toNat st.toNat mid.toNat) mid en b else none else symY bd l mid en b else symY bd l mid en b
def symT (bd : Nat) (l : List D) (a m b mid st en : Int) : Option (List D × List D) :=
  bif decide (st < m) then bif decide (m < en) then bif rotOK l.length st m en then symX bd (rotR l st.toNat m.toNat en.toNat) a st mid en b else none else symX bd l a st mid en b else symX bd l a st mid en b

theorem symY_mid (bd : Nat) {p u v q : List D} {mid en b : Int} (h1 : (p.length : Int) = mid) (h2 : (p.length : Int) + u.length = en) (h3 : (p.length : Int) + u.length + v.length = b) (h6 : sortedD u = true) (h7 : sortedD v = true) (hb : (b - mid).toNat < bd) (hlen : (p ++ u ++ v ++ q).length ≤ 4294967296) :
    symY bd (p ++ u ++ v ++ q) mid en b = some ([.r (p ++ mergeD u v ++ q)], []) := by
  unfold symY
  by_cases e1 : mid < en
  · by_cases e2 : en < b
    · have hu : u ≠ [] := by intro e; subst e; simp at h2; omega
      have hv : v ≠ [] := by intro e; subst e; simp at h3; omega
      rw [symOK_mid h1 h2 h3 hu hv h6 h7 hlen, decide_eq_true e1, decide_eq_true e2, decide_eq_true hb]
      simp only [cond_true, Bool.and_self]
      rw [symR_mid (by omega) (by omega) (by omega)]
    · have hv : v = [] := List.eq_nil_of_length_eq_zero (by omega)
      subst hv
      simp [e1, e2]
  · have hu : u = [] := List.eq_nil_of_length_eq_zero (by omega)
    subst hu
    have : mergeD [] v = v := by simpa using mergeD_id (u := []) (v := v) (by simpa using h7)
    simp [e1, this]
theorem symX_mid (bd : Nat) {p u v q : List D} {a st mid en b : Int} (h1 : (p.length : Int) = a) (h2 : (p.length : Int) + u.length = st) (h3 : (p.length : Int) + u.length + v.length = mid) (h6 : sortedD u = true) (h7 : sortedD v = true) (hb : (mid - a).toNat < bd) (hlen : (p ++ u ++ v ++ q).length ≤ 4294967296) :
    symX bd (p ++ u ++ v ++ q) a st mid en b = symY bd (p ++ mergeD u v ++ q) mid en b := by
  unfold symX
  by_cases e1 : a < st
  · by_cases e2 : st < mid
    · have hu : u ≠ [] := by intro e; subst e; simp at h2; omega
      have hv : v ≠ [] := by intro e; subst e; simp at h3; omega
      rw [symOK_mid h1 h2 h3 hu hv h6 h7 hlen, decide_eq_true e1, decide_eq_true e2, decide_eq_true hb]
      simp only [cond_true, Bool.and_self]
      rw [symR_mid (by omega) (by omega) (by omega)]
    · have hv : v = [] := List.eq_nil_of_length_eq_zero (by omega)
      subst hv
      simp [e1, e2]
  · have hu : u = [] := List.eq_nil_of_length_eq_zero (by omega)
    subst hu
    have : mergeD [] v = v := by simpa using mergeD_id (u := []) (v := v) (by simpa using h7)
    simp [e1, this]

theorem symT_ok (bd : Nat) {l : List D} {a m b mid st en : Nat} (h1 : a < m) (h2 : m < b) (h3 : b ≤ l.length) (s1 : sortedD (seg l a m) = true) (s2 : sortedD (seg l m b) = true)
    (k1 : a ≤ st) (k2 : st ≤ m) (k3 : m ≤ en) (k4 : en ≤ b) (k5 : st + en = mid + m) (k6 : mid - a < bd) (k7 : b - mid < bd)
    (o1 : st < m → m < en → pId (dnth l (en - 1)) < pId (dnth l st)) (o2 : a < st → en < b → pId (dnth l (st - 1)) ≤ pId (dnth l en)) (hlen : l.length ≤ 4294967296) :
    symT bd l a m b mid st en = some ([.r (symR l a m b)], []) := by
  have hp : (l.take a).length = a := by simp; omega
  have la1 := seg_length (xs := l) (a := a) (b := st) k1 (by omega)
  have la2 := seg_length (xs := l) (a := st) (b := m) k2 (by omega)
  have lb1 := seg_length (xs := l) (a := m) (b := en) k3 (by omega)
  have lb2 := seg_length (xs := l) (a := en) (b := b) k4 (by omega)
  have eA : seg l a m = seg l a st ++ seg l st m := seg_append l k1 k2
  have eB : seg l m b = seg l m en ++ seg l en b := seg_append l k3 k4
  have sA := s1; rw [eA] at sA
  have sB := s2; rw [eB] at sB
  have sA' := sorted_append.1 sA
  have sB' := sorted_append.1 sB
  have q1 : ∀ x ∈ seg l m en, ∀ y ∈ seg l st m, pId x < pId y := by
    intro x hx y hy
    obtain ⟨i, i1, i2, i3, rfl⟩ := mem_seg hx
    obtain ⟨j, j1, j2, j3, rfl⟩ := mem_seg hy
    have := o1 (by omega) (by omega)
    have t1 := seg_sorted_le s2 (i := i) (j := en - 1) (by omega) (by omega) (by omega) h3
    have t2 := seg_sorted_le s1 (i := st) (j := j) k1 (by omega) (by omega) (by omega)
    omega
  have q2 : ∀ x ∈ seg l a st, ∀ y ∈ seg l en b, pId x ≤ pId y := by
    intro x hx y hy
    obtain ⟨i, i1, i2, i3, rfl⟩ := mem_seg hx
    obtain ⟨j, j1, j2, j3, rfl⟩ := mem_seg hy
    have := o2 (by omega) (by omega)
    have t1 := seg_sorted_le s1 (i := i) (j := st - 1) (by omega) (by omega) (by omega) (by omega)
    have t2 := seg_sorted_le s2 (i := en) (j := j) (by omega) (by omega) (by omega) h3
    omega
  have hl : l = l.take a ++ seg l a st ++ seg l st m ++ seg l m en ++ seg l en b ++ l.drop b := by
    have := three (xs := l) (a := a) (b := b) (by omega) h3
    rw [seg_append l (a := a) (m := m) (by omega) (by omega), eA, eB] at this
    simpa using this
  have hfin : symR l a m b = l.take a ++ mergeD (seg l a st) (seg l m en) ++ mergeD (seg l st m) (seg l en b) ++ l.drop b := by
    unfold symR
    rw [eA, eB, mergeD_split q1 q2 sB'.2.2]
    simp
  have after : symX bd (l.take a ++ seg l a st ++ seg l m en ++ (seg l st m ++ seg l en b ++ l.drop b)) a st mid en b = some ([.r (symR l a m b)], []) := by
    have ll : l.length = a + (st - a) + (en - m) + (m - st) + (b - en) + (l.length - b) := by omega
    rw [symX_mid bd (by omega) (by omega) (by omega) sA'.1 sB'.1 (by omega) (by simp; omega)]
    have e : l.take a ++ mergeD (seg l a st) (seg l m en) ++ (seg l st m ++ seg l en b ++ l.drop b) = (l.take a ++ mergeD (seg l a st) (seg l m en)) ++ seg l st m ++ seg l en b ++ l.drop b := by simp
    rw [e, symY_mid bd (by simp; omega) (by simp; omega) (by simp; omega) sA'.2.1 sB'.2.1 (by omega) (by simp; omega), hfin]
  unfold symT
  by_cases e1 : st < m
  · by_cases e2 : m < en
    · have ok : rotOK l.length (st : Int) (m : Int) (en : Int) = true := by simp [rotOK]; omega
      have er : rotR l (st : Int).toNat (m : Int).toNat (en : Int).toNat = l.take a ++ seg l a st ++ seg l m en ++ (seg l st m ++ seg l en b ++ l.drop b) := by
        unfold rotR
        simp only [Int.toNat_natCast]
        have t1 : l.take st = l.take a ++ seg l a st := by
          unfold seg
          have := List.take_add (l := l) (i := a) (j := st - a)
          rwa [show a + (st - a) = st by omega] at this
        have t2 : l.drop en = seg l en b ++ l.drop b := by
          unfold seg
          have := List.take_append_drop (b - en) (l.drop en)
          rw [List.drop_drop, show en + (b - en) = b by omega] at this
          exact this.symm
        rw [t1, t2]; simp
      have c1 : (st : Int) < (m : Int) := by omega
      have c2 : (m : Int) < (en : Int) := by omega
      rw [decide_eq_true c1, decide_eq_true c2, ok, er]
      exact after
    · have : seg l m en = [] := List.eq_nil_of_length_eq_zero (by omega)
      rw [this] at after hl
      have c1 : (st : Int) < (m : Int) := by omega
      have c2 : ¬ (m : Int) < (en : Int) := by omega
      rw [decide_eq_true c1, decide_eq_false c2]
      simp only [cond_true, cond_false]
      have e : l.take a ++ seg l a st ++ [] ++ (seg l st m ++ seg l en b ++ l.drop b) = l := by
        refine Eq.trans ?_ hl.symm
        simp
      rw [e] at after
      exact after
  · have : seg l st m = [] := List.eq_nil_of_length_eq_zero (by omega)
    have c1 : ¬ (st : Int) < (m : Int) := by omega
    rw [decide_eq_false c1]
    simp only [cond_false]
    have e : l.take a ++ seg l a st ++ seg l m en ++ (seg l st m ++ seg l en b ++ l.drop b) = l := by
      rw [this] at hl ⊢
      refine Eq.trans ?_ hl.symm
      simp
    rw [e] at after
    exact after

def symMid (a b : Int) : Int := IntKind.wrap .i64 (ishr .u64 (IntKind.wrap .u64 (IntKind.wrap .i64 (a + b))) 1)
def symN (a m b : Int) : Int := IntKind.wrap .i64 (symMid a b + m)
def symSt (l : List D) (a m b lo hi : Int) : Int := Int.ofNat (halve (fun c => !decide (pId (dnth l (IntKind.wrap .i64 (symN a m b - 1) - Int.ofNat c).toNat) < pId (dnth l c))) (hi - lo).toNat lo.toNat hi.toNat)
theorem mSymN_eq (bd : Nat) (l : List D) (d0 d5 : D) (a m b : Int) : mSymN bd [.r l] [d0, .i a, .i m, .i b, d5] =
    bif decide (IntKind.wrap .i64 (m - a) = 1) then
      bif inRow l.length m b && decide (0 ≤ a) && decide (a < Int.ofNat l.length) then
        bif decide (0 ≤ a) && true && decide (Int.ofNat (halve (fun h => decide (pId (dnth l h) < pId (dnth l a.toNat))) (b - m).toNat m.toNat b.toNat) ≤ Int.ofNat l.length) then
          some ([.r (walkUp (Int.ofNat (halve (fun h => decide (pId (dnth l h) < pId (dnth l a.toNat))) (b - m).toNat m.toNat b.toNat) - 1 - a).toNat a.toNat l)], [])
        else none
      else none
    else bif decide (IntKind.wrap .i64 (b - m) = 1) then
      bif inRow l.length a m && decide (0 ≤ m) && decide (m < Int.ofNat l.length) then
        bif decide (m < Int.ofNat l.length) then
          some ([.r (walkDown (m - Int.ofNat (halve (fun h => !decide (pId (dnth l m.toNat) < pId (dnth l h))) (m - a).toNat a.toNat m.toNat)).toNat m.toNat l)], [])
        else none
      else none
    else bif decide (symMid a b < m) then
      bif inRow l.length (IntKind.wrap .i64 (symN a m b - b)) (symMid a b) && decide (symMid a b ≤ IntKind.wrap .i64 (symN a m b - 1) + 1) && decide (IntKind.wrap .i64 (symN a m b - 1) - IntKind.wrap .i64 (symN a m b - b) < Int.ofNat l.length) then
        symT bd l a m b (symMid a b) (symSt l a m b (IntKind.wrap .i64 (symN a m b - b)) (symMid a b)) (IntKind.wrap .i64 (symN a m b - symSt l a m b (IntKind.wrap .i64 (symN a m b - b)) (symMid a b)))
      else none
    else bif inRow l.length a m && decide (m ≤ IntKind.wrap .i64 (symN a m b - 1) + 1) && decide (IntKind.wrap .i64 (symN a m b - 1) - a < Int.ofNat l.length) then
      symT bd l a m b (symMid a b) (symSt l a m b a m) (IntKind.wrap .i64 (symN a m b - symSt l a m b a m))
    else none := by kernel_rfl

/-- one element against many, from the left -/
theorem sym_up {l : List D} {a b : Nat} (h2 : a + 1 < b) (h3 : b ≤ l.length) (s2 : sortedD (seg l (a + 1) b) = true) {i : Nat} (k1 : a + 1 ≤ i) (k2 : i ≤ b)
    (o1 : a + 1 < i → pId (dnth l (i - 1)) < pId (dnth l a)) (o2 : i < b → ¬ pId (dnth l i) < pId (dnth l a)) : walkUp (i - 1 - a) a l = symR l a (a + 1) b := by
  have hx : seg l a (a + 1) = [dnth l a] := by
    unfold seg
    rw [show a + 1 - a = 1 by omega, List.drop_eq_getElem_cons (by omega), dnth_eq, List.getElem?_eq_getElem (by omega)]
    rfl
  have e1 : seg l (a + 1) b = seg l (a + 1) i ++ seg l i b := seg_append l k1 k2
  have hl : l = l.take a ++ dnth l a :: (seg l (a + 1) i ++ (seg l i b ++ l.drop b)) := by
    have := three (xs := l) (a := a) (b := b) (by omega) h3
    rw [seg_append l (a := a) (m := a + 1) (by omega) (by omega), hx, e1] at this
    simpa using this
  have hp : (l.take a).length = a := by simp; omega
  have hw := walkUp_mid (i - 1 - a) (l.take a) (seg l (a + 1) i) (seg l i b ++ l.drop b) (dnth l a) (by rw [seg_length k1 (by omega)]; omega)
  rw [← hl, hp] at hw
  rw [hw]
  unfold symR
  rw [e1] at s2
  have ss := sorted_append.1 s2
  rw [hx, e1]
  have q1 : ∀ x ∈ seg l (a + 1) i, ∀ y ∈ [dnth l a], pId x < pId y := by
    intro x hx y hy
    obtain ⟨j, j1, j2, j3, rfl⟩ := mem_seg hx
    simp only [List.mem_singleton] at hy
    subst hy
    have t1 := seg_sorted_le ss.1 (i := j) (j := i - 1) j1 (by omega) (by omega) (by omega)
    have := o1 (by omega)
    omega
  have q2 : ∀ y ∈ seg l i b, pId (dnth l a) ≤ pId y := by
    intro y hy
    obtain ⟨j, j1, j2, j3, rfl⟩ := mem_seg hy
    have t1 := seg_sorted_le ss.2.1 (i := i) (j := j) (by omega) j1 (by omega) h3
    have := o2 (by omega)
    omega
  have := mergeD_split (a1 := []) (a2 := [dnth l a]) (b1 := seg l (a + 1) i) (b2 := seg l i b) q1 (by simp) ss.2.2
  rw [List.nil_append] at this
  rw [this, mergeD_id (u := []) (by simpa using ss.1), mergeD_id (u := [dnth l a]) (by rw [List.singleton_append, sorted_cons]; exact ⟨q2, ss.2.1⟩)]
  simp
/-- many against one, from the right -/
theorem sym_down {l : List D} {a m : Nat} (h1 : a < m) (h3 : m + 1 ≤ l.length) (s1 : sortedD (seg l a m) = true) {i : Nat} (k1 : a ≤ i) (k2 : i ≤ m)
    (o1 : a < i → ¬ pId (dnth l m) < pId (dnth l (i - 1))) (o2 : i < m → pId (dnth l m) < pId (dnth l i)) : walkDown (m - i) m l = symR l a m (m + 1) := by
  have hx : seg l m (m + 1) = [dnth l m] := by
    unfold seg
    rw [show m + 1 - m = 1 by omega, List.drop_eq_getElem_cons (by omega), dnth_eq, List.getElem?_eq_getElem (by omega)]
    rfl
  have e1 : seg l a m = seg l a i ++ seg l i m := seg_append l k1 k2
  have hl : l = (l.take a ++ seg l a i) ++ seg l i m ++ dnth l m :: l.drop (m + 1) := by
    have := three (xs := l) (a := a) (b := m + 1) (by omega) h3
    rw [seg_append l (a := a) (m := m) (by omega) (by omega), hx, e1] at this
    simpa using this
  have la := seg_length (xs := l) (a := a) (b := i) k1 (by omega)
  have hp : (l.take a ++ seg l a i).length = i := by simp; omega
  have hw := walkDown_mid (m - i) (l.take a ++ seg l a i) (seg l i m) (l.drop (m + 1)) (dnth l m) (seg_length k2 (by omega))
  rw [← hl, hp, show i + (m - i) = m by omega] at hw
  rw [hw]
  unfold symR
  rw [e1] at s1
  have ss := sorted_append.1 s1
  rw [hx, e1, mergeD_cons, mergeD_nil]
  have q1 : ∀ y ∈ seg l a i, pId y ≤ pId (dnth l m) := by
    intro y hy
    obtain ⟨j, j1, j2, j3, rfl⟩ := mem_seg hy
    have t1 := seg_sorted_le ss.1 (i := j) (j := i - 1) j1 (by omega) (by omega) (by omega)
    have := o1 (by omega)
    omega
  have q2 : ∀ y ∈ seg l i m, pId (dnth l m) < pId y := by
    intro y hy
    obtain ⟨j, j1, j2, j3, rfl⟩ := mem_seg hy
    have t1 := seg_sorted_le ss.2.1 (i := i) (j := j) (by omega) j1 (by omega) (by omega)
    have := o2 (by omega)
    omega
  rw [insR_behind q1]
  have : insR (dnth l m) (seg l i m) = dnth l m :: seg l i m := by
    have := insR_before (x := dnth l m) (u := []) (v := seg l i m) q2
    simpa [insR] using this
  rw [this]
  simp

set_option maxHeartbeats 1000000 in
theorem phSymN (bd : Nat) (hs xs : List D) (r : List D × List D) (w : wfAll sgSym.heap sgSym.ins hs xs = true) (h : (phiSymN (bd + 1) hs xs).val = some r) : mSymN bd hs xs = some r := by
  simp only [sgSym, wf_all, wfs_cons, wf_dat, wf_int, wf_bool, wf_str, wf_slice, wf_fn, wf_ref, wf_rall, wf_mref, wf_own, wf_agg, wf_rsub, wf_any, wfs_nil, wfh_cons, wfh_nil, wf_hmap, wf_hrow, wf_hbox, true_and] at w
  obtain ⟨⟨_, _, rfl, ⟨l, rfl, hl, _⟩, rfl⟩, d0, _, rfl, _, _, rfl, ⟨a, rfl, _⟩, _, _, rfl, ⟨m, rfl, _⟩, _, _, rfl, ⟨b, rfl, _⟩, _, _, rfl, ⟨_, rfl, rfl⟩, rfl⟩ := w
  simp only [phiSymN, dnth_zero, dnth_succ, dnth_one, dnth_two, int_i, bool_b, str_s, list_r, f_r] at h
  replace h := cond_fail h
  obtain ⟨hp, h⟩ := h
  simp only [symOK, rotOK, Bool.and_eq_true, decide_eq_true_eq] at hp
  obtain ⟨⟨⟨⟨⟨⟨⟨h0, h1⟩, h2⟩, h3⟩, hlen⟩, s1⟩, s2⟩, hsz⟩ := hp
  obtain ⟨a, rfl⟩ := Int.eq_ofNat_of_zero_le h0
  obtain ⟨m, rfl⟩ := Int.eq_ofNat_of_zero_le (by omega : 0 ≤ m)
  obtain ⟨b, rfl⟩ := Int.eq_ofNat_of_zero_le (by omega : 0 ≤ b)
  simp only [Int.toNat_natCast] at s1 s2 h
  rw [most_eq] at hl
  have hr : some ([D.r (symR l a m b)], ([] : List D)) = some r := h
  rw [mSymN_eq, ← hr]
  have e1 : IntKind.wrap .i64 ((m : Int) - a) = (m : Int) - a := wrap_i64 (by omega) (by omega)
  have e2 : IntKind.wrap .i64 ((b : Int) - m) = (b : Int) - m := wrap_i64 (by omega) (by omega)
  rw [e1, e2]
  by_cases c1 : (m : Int) - a = 1
  · have hm : m = a + 1 := by omega
    subst hm
    rw [decide_eq_true c1, cond_true]
    obtain ⟨k1, k2, k3, k4⟩ := halve_spec (fun h => decide (pId (dnth l h) < pId (dnth l a))) (((b : Int) - ((a + 1 : Nat) : Int)).toNat) (a + 1) b (by omega) (by omega)
    generalize hi : halve (fun h => decide (pId (dnth l h) < pId (dnth l (a : Int).toNat))) ((b : Int) - ((a + 1 : Nat) : Int)).toNat ((a + 1 : Nat) : Int).toNat (b : Int).toNat = i
    have hi' : halve (fun h => decide (pId (dnth l h) < pId (dnth l a))) (((b : Int) - ((a + 1 : Nat) : Int)).toNat) (a + 1) b = i := hi
    rw [hi'] at k1 k2 k3 k4
    have o1 : (inRow l.length ((a + 1 : Nat) : Int) (b : Int) && decide (0 ≤ (a : Int)) && decide ((a : Int) < Int.ofNat l.length)) = true := by simp [inRow]; omega
    have o2 : (decide (0 ≤ (a : Int)) && true && decide (Int.ofNat i ≤ Int.ofNat l.length)) = true := by
      have t1 : (0 : Int) ≤ (a : Int) := by omega
      have t2 : Int.ofNat i ≤ Int.ofNat l.length := by have : i ≤ l.length := by omega
                                                       exact Int.ofNat_le.2 this
      simp only [decide_eq_true t1, decide_eq_true t2, Bool.and_self]
    rw [o1, o2, cond_true, cond_true, show (Int.ofNat i - 1 - (a : Int)).toNat = i - 1 - a by rw [Int.ofNat_eq_natCast]; omega, Int.toNat_natCast]
    rw [sym_up (by omega) (by omega) s2 k1 k2 (fun hh => of_decide_eq_true (k3 hh)) (fun hh => of_decide_eq_false (k4 hh))]
  rw [decide_eq_false c1, cond_false]
  by_cases c2 : (b : Int) - m = 1
  · have hm : b = m + 1 := by omega
    subst hm
    rw [decide_eq_true c2, cond_true]
    obtain ⟨k1, k2, k3, k4⟩ := halve_spec (fun h => !decide (pId (dnth l m) < pId (dnth l h))) (((m : Int) - (a : Int)).toNat) a m (by omega) (by omega)
    generalize hi : halve (fun h => !decide (pId (dnth l (m : Int).toNat) < pId (dnth l h))) ((m : Int) - (a : Int)).toNat (a : Int).toNat (m : Int).toNat = i
    have hi' : halve (fun h => !decide (pId (dnth l m) < pId (dnth l h))) (((m : Int) - (a : Int)).toNat) a m = i := hi
    rw [hi'] at k1 k2 k3 k4
    have o1 : (inRow l.length (a : Int) (m : Int) && decide (0 ≤ (m : Int)) && decide ((m : Int) < Int.ofNat l.length)) = true := by simp [inRow]; omega
    have o2 : decide ((m : Int) < Int.ofNat l.length) = true := by simp; omega
    rw [o1, o2, cond_true, cond_true, show ((m : Int) - Int.ofNat i).toNat = m - i by simp, Int.toNat_natCast]
    rw [sym_down (by omega) (by omega) s1 k1 k2 (fun hh => by have := k3 hh; simpa using this) (fun hh => by have := k4 hh; simpa using this)]
  rw [decide_eq_false c2, cond_false]
  have eM : symMid (a : Int) (b : Int) = (((a + b) / 2 : Nat) : Int) := by
    unfold symMid
    rw [half_i64 (by omega) (by omega) (by omega) (by omega)]
    omega
  generalize hmid : (a + b) / 2 = mid at eM
  have eN : symN (a : Int) (m : Int) (b : Int) = ((mid + m : Nat) : Int) := by
    unfold symN
    rw [eM]
    exact (wrap_i64 (by omega) (by omega)).trans (by omega)
  have eP : IntKind.wrap .i64 (((mid + m : Nat) : Int) - 1) = ((mid + m - 1 : Nat) : Int) := (wrap_i64 (by omega) (by omega)).trans (by omega)
  have main : ∀ lo hi : Nat, a ≤ lo → lo ≤ hi → hi ≤ m → hi ≤ mid + m - m + (m - mid) + (mid - hi + hi) → (∀ st, lo ≤ st → st ≤ hi → m ≤ mid + m - st ∧ mid + m - st ≤ b) → (hi < m → mid = hi) → (a < lo → mid + m - lo = b) → lo ≤ mid + m - 1 →
      symT bd l a m b mid (symSt l a m b lo hi) (IntKind.wrap .i64 (((mid + m : Nat) : Int) - symSt l a m b lo hi)) = some ([.r (symR l a m b)], []) := by
    intro lo hi g1 g2 g3 _ g4 g5 g6 g7
    obtain ⟨k1, k2, k3, k4⟩ := halve_spec (fun c => !decide (pId (dnth l (((mid + m - 1 : Nat) : Int) - Int.ofNat c).toNat) < pId (dnth l c))) (((hi : Int) - (lo : Int)).toNat) lo hi g2 (by omega)
    unfold symSt
    rw [eN, eP]
    generalize hi2 : halve (fun c => !decide (pId (dnth l (((mid + m - 1 : Nat) : Int) - Int.ofNat c).toNat) < pId (dnth l c))) ((hi : Int) - (lo : Int)).toNat (lo : Int).toNat (hi : Int).toNat = st
    have hi3 : halve (fun c => !decide (pId (dnth l (((mid + m - 1 : Nat) : Int) - Int.ofNat c).toNat) < pId (dnth l c))) (((hi : Int) - (lo : Int)).toNat) lo hi = st := hi2
    rw [hi3] at k1 k2 k3 k4
    have g4' := g4 st k1 k2
    have eE : IntKind.wrap .i64 (((mid + m : Nat) : Int) - Int.ofNat st) = ((mid + m - st : Nat) : Int) := (wrap_i64 (by simp; omega) (by simp; omega)).trans (by simp; omega)
    rw [eE]
    refine symT_ok bd (by omega) (by omega) (by omega) s1 s2 (by omega) (by omega) g4'.1 g4'.2 (by omega) (by omega) (by omega) (fun q1 q2 => ?_) (fun q1 q2 => ?_) hlen
    · have hst : st < hi := by
        by_cases hh : st = hi
        · by_cases hh2 : hi < m
          · have := g5 hh2; omega
          · omega
        · omega
      have := k4 hst
      simp only [Bool.not_eq_false', decide_eq_true_eq] at this
      rwa [show (((mid + m - 1 : Nat) : Int) - Int.ofNat st).toNat = mid + m - st - 1 by simp; omega] at this
    · have hst : lo < st := by
        by_cases hh : st = lo
        · by_cases hh2 : a < lo
          · have := g6 hh2; subst hh; omega
          · omega
        · omega
      have := k3 hst
      simp only [Bool.not_eq_true', decide_eq_false_iff_not] at this
      rw [show (((mid + m - 1 : Nat) : Int) - Int.ofNat (st - 1)).toNat = mid + m - st by simp; omega] at this
      omega
  rw [eM, eN, eP]
  by_cases c3 : (mid : Int) < (m : Int)
  · have eL : IntKind.wrap .i64 (((mid + m : Nat) : Int) - (b : Int)) = ((mid + m - b : Nat) : Int) := (wrap_i64 (by omega) (by omega)).trans (by omega)
    rw [decide_eq_true c3, cond_true, eL]
    have o1 : (inRow l.length ((mid + m - b : Nat) : Int) (mid : Int) && decide ((mid : Int) ≤ ((mid + m - 1 : Nat) : Int) + 1) && decide (((mid + m - 1 : Nat) : Int) - ((mid + m - b : Nat) : Int) < Int.ofNat l.length)) = true := by simp [inRow]; omega
    rw [o1, cond_true]
    exact main (mid + m - b) mid (by omega) (by omega) (by omega) (by omega) (fun st q1 q2 => by omega) (fun _ => rfl) (fun _ => by omega) (by omega)
  · rw [decide_eq_false c3, cond_false]
    have o1 : (inRow l.length (a : Int) (m : Int) && decide ((m : Int) ≤ ((mid + m - 1 : Nat) : Int) + 1) && decide (((mid + m - 1 : Nat) : Int) - (a : Int) < Int.ofNat l.length)) = true := by simp [inRow]; omega
    rw [o1, cond_true]
    exact main a m (by omega) (by omega) (by omega) (by omega) (fun st q1 q2 => by omega) (fun q => by omega) (fun q => by omega) (by omega)

end Go.Proofs.Ytkepijaabpkdbaa

/- The contract of merging in place: it calls itself on shorter parts alone. -/
namespace Go.Proofs.Ytkepijaabpkdbaa
open Go Go.Ev

theorem okSymN : ∀ bd : Nat, SpecOK Try.prog 63 sgSym (phiSymN bd)
  | 0 => by
    intro hs xs hs' outs hv
    simp only [phiSymN] at hv
    have := (cond_fail hv).1
    simp at this
  | bd + 1 =>
    spec_of (t := [eSymN bd, eById, eRotate]) (loops := [(3, liSym0), (9, liSym1), (15, liSym2), (21, liSym3), (33, liSym4)]) typesOK noMeth_ok (.cons (okSymN bd) (by kernel_rfl) (.cons okById (by kernel_rfl) (.cons okRotate (by kernel_rfl) .nil)))
      Try.func63 (by kernel_rfl) (by kernel_rfl) (by kernel_rfl) (by kernel_rfl)
      (loopsOK_list (l := [loopN (bodyOf Try.f63) 0, loopN (bodyOf Try.f63) 1, loopN (bodyOf Try.f63) 2, loopN (bodyOf Try.f63) 3, loopN (bodyOf Try.f63) 4]) (by kernel_rfl)
        ⟨LoopGood.of (i := 3) (li := liSym0) (by kernel_rfl) (by kernel_rfl) (jSym0 bd), LoopGood.of (i := 9) (li := liSym1) (by kernel_rfl) (by kernel_rfl) (jSym1 bd), LoopGood.of (i := 15) (li := liSym2) (by kernel_rfl) (by kernel_rfl) (jSym2 bd),
          LoopGood.of (i := 21) (li := liSym3) (by kernel_rfl) (by kernel_rfl) (jSym3 bd), LoopGood.of (i := 33) (li := liSym4) (by kernel_rfl) (by kernel_rfl) (jSym4 bd), trivial⟩)
      (fun hs xs r w h => (evSymN bd hs xs).trans (phSymN bd hs xs r w h))

theorem okSym : SpecOK Try.prog 63 sgSym phiSym := by
  intro hs xs hs' outs hv
  simp only [phiSym] at hv
  obtain ⟨h1, h2⟩ := cond_fail hv
  refine okSymN (((dnth xs 3).int - (dnth xs 1).int).toNat + 1) hs xs hs' outs ?_
  simp only [phiSymN]
  exact cond_ok (by rw [h1]; simp) h2
end Go.Proofs.Ytkepijaabpkdbaa
