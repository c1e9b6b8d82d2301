/- What the evaluator makes of these functions: printed by gen.py out of the model, and proved by the kernel. The whole sort: blocks of twenty, then of twice as many, until one block is left. The contracts of these functions; printed by gen.py. -/
import Derived.Test.YtkepijaabpkdbaaA6
import Derived.Test.YtkepijaabpkdbaaB2
import Derived.Test.YtkepijaabpkdbaaProg
import Derived.KernelRfl
import Derived.Test.YtkepijaabpkdbaaB3
import Derived.Test.YtkepijaabpkdbaaChecked
set_option linter.unusedVariables false
set_option linter.unusedSimpArgs false

/- What the evaluator makes of these functions: printed by gen.py out of the model, and proved by the kernel. -/
namespace Go.Proofs.Ytkepijaabpkdbaa
open Go Go.Ev
set_option maxRecDepth 100000
noncomputable def eStable : Nat × (Sig × Phi) := (60, (sgStable, phiStable))
noncomputable def eSort : Nat × (Sig × Phi) := (55, (sgSort, phiSort))
noncomputable def EStable : Env := mkEnv tyTab [eInsert, eSym, eById] noMeth Try.f60.ntmps (vlen sgStable.heap) [(2, liStable0), (7, liStable1), (9, liStable2)]
noncomputable def ESort : Env := mkEnv tyTab [eStable, eById] noMeth Try.f55.ntmps (vlen sgSort.heap) []

noncomputable def xmStable_0 (hs : List D) : List D :=
  ((List.take (Int.toNat (0 : Int)) (D.list (dnth hs 0))) ++ (passA (List.drop (Int.toNat (0 : Int)) (D.list (dnth hs 0)))))
noncomputable def xmStable_1 (xs : List D) : Int :=
  ((0 : Int) + ((20 : Int) * (((D.int (dnth xs 1)) - (0 : Int)) / (20 : Int))))
noncomputable def xmStable_2 (xs : List D) : Nat :=
  (Int.toNat (xmStable_1 xs))
noncomputable def xmStable_3 (hs : List D) (xs : List D) : List D :=
  (((List.take (xmStable_2 xs) (xmStable_0 hs)) ++ (isort (seg (xmStable_0 hs) (xmStable_2 xs) (Int.toNat (D.int (dnth xs 1)))))) ++ (List.drop (Int.toNat (D.int (dnth xs 1))) (xmStable_0 hs)))
noncomputable def mStable (hs xs : List D) : Option (List D × List D) :=
  bif (((((okNM (D.list (dnth hs 0)) (D.int (dnth xs 1))) && Bool.true) && Bool.true) && (decide ((0 : Int) ≤ (D.int (dnth xs 1))))) && Bool.true) then
    bif (insOK (List.length (xmStable_0 hs)) (xmStable_1 xs) (D.int (dnth xs 1))) then
      bif (((okNM (xmStable_3 hs xs) (D.int (dnth xs 1))) && Bool.true) && (blkSorted (Int.toNat (20 : Int)) (xmStable_3 hs xs))) then
        (Option.some ([(D.r (isort (xmStable_3 hs xs)))], []))
      else (Option.none)
    else (Option.none)
  else (Option.none)
theorem evStable (hs xs : List D) : evF (EStable) Try.f60 sgStable hs xs = mStable hs xs := by kernel_rfl

noncomputable def stStable0 (go : List D → List D → Option (Ex × List D × List D)) (hs xs : List D) : Option (Ex × List D × List D) :=
  bif (decide ((D.int (dnth xs 5)) ≤ (D.int (dnth xs 1)))) then
    bif (insOK (List.length (D.list (dnth hs 0))) (D.int (dnth xs 4)) (D.int (dnth xs 5))) then
      (go [(D.r (((List.take (Int.toNat (D.int (dnth xs 4))) (D.list (dnth hs 0))) ++ (isort (seg (D.list (dnth hs 0)) (Int.toNat (D.int (dnth xs 4))) (Int.toNat (D.int (dnth xs 5)))))) ++ (List.drop (Int.toNat (D.int (dnth xs 5))) (D.list (dnth hs 0)))))] [(D.r []), (D.i (D.int (dnth xs 1))), (D.r []), (D.i (D.int (dnth xs 3))), (D.i (D.int (dnth xs 5))), (D.i (IntKind.wrap Go.IntKind.i64 ((D.int (dnth xs 5)) + (D.int (dnth xs 3)))))])
    else (Option.none)
  else (Option.some ((Ex.exit 0), ([(D.r (D.list (dnth hs 0)))], [(D.r []), (D.i (D.int (dnth xs 1))), (D.r []), (D.i (D.int (dnth xs 3))), (D.i (D.int (dnth xs 4)))])))
theorem evstStable0 (go : List D → List D → Option (Ex × List D × List D)) (hs xs : List D) : stepOf (EStable) (vlen sgStable.heap) (loopN (bodyOf Try.f60) 0) liStable0 go hs xs = stStable0 go hs xs := by kernel_rfl

noncomputable def xstStable1_0 (xs : List D) : Int :=
  ((0 : Int) + (((2 : Int) * (D.int (dnth xs 3))) * (((D.int (dnth xs 1)) - (0 : Int)) / ((2 : Int) * (D.int (dnth xs 3))))))
noncomputable def xstStable1_1 (xs : List D) : Int :=
  (IntKind.wrap Go.IntKind.i64 ((xstStable1_0 xs) + (D.int (dnth xs 3))))
noncomputable def xstStable1_2 (hs : List D) (xs : List D) : List D :=
  ((List.take (Int.toNat (0 : Int)) (D.list (dnth hs 0))) ++ (passC (Int.toNat (D.int (dnth xs 3))) (List.drop (Int.toNat (0 : Int)) (D.list (dnth hs 0)))))
noncomputable def xstStable1_3 (xs : List D) : List D :=
  [(D.r []), (D.i (D.int (dnth xs 1))), (D.r []), (D.i (IntKind.wrap Go.IntKind.i64 ((D.int (dnth xs 3)) * (2 : Int))))]
noncomputable def stStable1 (go : List D → List D → Option (Ex × List D × List D)) (hs xs : List D) : Option (Ex × List D × List D) :=
  bif (decide ((D.int (dnth xs 3)) < (D.int (dnth xs 1)))) then
    bif (((((((okNM (D.list (dnth hs 0)) (D.int (dnth xs 1))) && (decide ((0 : Int) < (D.int (dnth xs 3))))) && Bool.true) && (decide ((0 : Int) ≤ (D.int (dnth xs 1))))) && (decide ((IntKind.wrap Go.IntKind.i64 ((2 : Int) * (D.int (dnth xs 3)))) = ((0 : Int) + ((2 : Int) * (D.int (dnth xs 3))))))) && (decide ((D.int (dnth xs 3)) < (D.int (dnth xs 1))))) && (blkSorted (Int.toNat (D.int (dnth xs 3))) (List.drop (Int.toNat (0 : Int)) (D.list (dnth hs 0))))) then
      bif (decide ((xstStable1_1 xs) < (D.int (dnth xs 1)))) then
        bif (symOK (xstStable1_2 hs xs) (xstStable1_0 xs) (xstStable1_1 xs) (D.int (dnth xs 1))) then
          (go [(D.r (symR (xstStable1_2 hs xs) (Int.toNat (xstStable1_0 xs)) (Int.toNat (xstStable1_1 xs)) (Int.toNat (D.int (dnth xs 1)))))] (xstStable1_3 xs))
        else (Option.none)
      else (go [(D.r (xstStable1_2 hs xs))] (xstStable1_3 xs))
    else (Option.none)
  else (Option.some ((Ex.exit 2), ([(D.r (D.list (dnth hs 0)))], [])))
theorem evstStable1 (go : List D → List D → Option (Ex × List D × List D)) (hs xs : List D) : stepOf (EStable) (vlen sgStable.heap) (loopN (bodyOf Try.f60) 1) liStable1 go hs xs = stStable1 go hs xs := by kernel_rfl

noncomputable def stStable2 (go : List D → List D → Option (Ex × List D × List D)) (hs xs : List D) : Option (Ex × List D × List D) :=
  bif (decide ((D.int (dnth xs 5)) ≤ (D.int (dnth xs 1)))) then
    bif (symOK (D.list (dnth hs 0)) (D.int (dnth xs 4)) (IntKind.wrap Go.IntKind.i64 ((D.int (dnth xs 4)) + (D.int (dnth xs 3)))) (D.int (dnth xs 5))) then
      (go [(D.r (symR (D.list (dnth hs 0)) (Int.toNat (D.int (dnth xs 4))) (Int.toNat (IntKind.wrap Go.IntKind.i64 ((D.int (dnth xs 4)) + (D.int (dnth xs 3))))) (Int.toNat (D.int (dnth xs 5)))))] [(D.r []), (D.i (D.int (dnth xs 1))), (D.r []), (D.i (D.int (dnth xs 3))), (D.i (D.int (dnth xs 5))), (D.i (IntKind.wrap Go.IntKind.i64 ((D.int (dnth xs 5)) + (IntKind.wrap Go.IntKind.i64 ((2 : Int) * (D.int (dnth xs 3)))))))])
    else (Option.none)
  else (Option.some ((Ex.exit 4), ([(D.r (D.list (dnth hs 0)))], [(D.r []), (D.i (D.int (dnth xs 1))), (D.r []), (D.i (D.int (dnth xs 3))), (D.i (D.int (dnth xs 4)))])))
theorem evstStable2 (go : List D → List D → Option (Ex × List D × List D)) (hs xs : List D) : stepOf (EStable) (vlen sgStable.heap) (loopN (bodyOf Try.f60) 2) liStable2 go hs xs = stStable2 go hs xs := by kernel_rfl

noncomputable def mSort (hs xs : List D) : Option (List D × List D) :=
  bif ((@decide ((Int.ofNat (List.length (D.list (dnth hs 0)))) = (Int.ofNat (List.length (D.list (dnth hs 0))))) (Int.instDecidableEq (Int.ofNat (List.length (D.list (dnth hs 0)))) (Int.ofNat (List.length (D.list (dnth hs 0)))))) && (decide ((List.length (D.list (dnth hs 0))) ≤ 4294967296))) then
    (Option.some ([(D.r (isort (D.list (dnth hs 0))))], []))
  else (Option.none)
theorem evSort (hs xs : List D) : evF (ESort) Try.f55 sgSort hs xs = mSort hs xs := by kernel_rfl
end Go.Proofs.Ytkepijaabpkdbaa

/- The whole sort: blocks of twenty, then of twice as many, until one block is left. -/
namespace Go.Proofs.Ytkepijaabpkdbaa
open Go Go.Ev

/-! ### Passes over blocks -/

theorem blk_short {s : Nat} {R : List D} (h : ¬ s < R.length) : blkSorted s R = sortedD R := by
  rw [blkSorted, dif_neg (fun hh => h hh.2)]
theorem blk_long {s : Nat} {R : List D} (h0 : 0 < s) (h : s < R.length) : blkSorted s R = (sortedD (R.take s) && blkSorted s (R.drop s)) := by
  rw [blkSorted, dif_pos ⟨h0, h⟩]
theorem blk_two {s : Nat} {R : List D} (h0 : 0 < s) (h : 2 * s ≤ R.length) (hb : blkSorted s R = true) : sortedD (R.take s) = true ∧ sortedD ((R.drop s).take s) = true ∧ blkSorted s (R.drop (2 * s)) = true := by
  rw [blk_long h0 (by omega), Bool.and_eq_true] at hb
  refine ⟨hb.1, ?_⟩
  have h2 := hb.2
  by_cases h3 : s < (R.drop s).length
  · rw [blk_long h0 h3, Bool.and_eq_true, List.drop_drop] at h2
    rw [show 2 * s = s + s by omega]
    exact h2
  · rw [blk_short h3] at h2
    have e : (R.drop s).take s = R.drop s := List.take_of_length_le (by simp at h3 ⊢; omega)
    have e2 : R.drop (2 * s) = [] := List.drop_eq_nil_of_le (by simp at h3; omega)
    rw [e, e2]
    refine ⟨h2, ?_⟩
    rw [blk_short (by simp)]; rfl
theorem passA_short {R : List D} (h : ¬ 20 ≤ R.length) : passA R = R := by rw [passA, dif_neg h]
theorem passA_long {R : List D} (h : 20 ≤ R.length) : passA R = isort (R.take 20) ++ passA (R.drop 20) := by rw [passA, dif_pos h]
theorem passC_short {s : Nat} {R : List D} (h : ¬ 2 * s ≤ R.length) : passC s R = R := by rw [passC, dif_neg (fun hh => h hh.2)]
theorem passC_long {s : Nat} {R : List D} (h0 : 0 < s) (h : 2 * s ≤ R.length) : passC s R = mergeD (R.take s) ((R.drop s).take s) ++ passC s (R.drop (2 * s)) := by rw [passC, dif_pos ⟨h0, h⟩]

theorem passA_length : ∀ (n : Nat) (R : List D), R.length ≤ n → (passA R).length = R.length
  | 0, R, h => by rw [passA_short (by omega)]
  | n + 1, R, h => by
    by_cases h2 : 20 ≤ R.length
    · rw [passA_long h2, List.length_append, isort_length, passA_length n _ (by simp; omega)]; simp; omega
    · rw [passA_short h2]
theorem passC_length {s : Nat} (h0 : 0 < s) : ∀ (n : Nat) (R : List D), R.length ≤ n → (passC s R).length = R.length
  | 0, R, h => by rw [passC_short (by omega)]
  | n + 1, R, h => by
    by_cases h2 : 2 * s ≤ R.length
    · rw [passC_long h0 h2, List.length_append, mergeD_length, passC_length h0 n _ (by simp; omega)]; simp; omega
    · rw [passC_short h2]

/-- blocks of twenty, the last one too -/
theorem sortB_all : ∀ (n : Nat) (R : List D), R.length ≤ n →
    let L := passA R
    let a := 20 * (R.length / 20)
    let X := L.take a ++ isort (L.drop a)
    blkSorted 20 X = true ∧ isort X = isort R ∧ X.length = R.length
  | n, R, h => by
    by_cases h2 : 20 ≤ R.length
    · cases n with
      | zero => omega
      | succ n =>
        have ih := sortB_all n (R.drop 20) (by simp; omega)
        simp only at ih ⊢
        have ea : 20 * (R.length / 20) = 20 + 20 * ((R.drop 20).length / 20) := by simp; omega
        have l1 : (isort (R.take 20)).length = 20 := by simp; omega
        rw [passA_long h2, ea]
        generalize 20 * ((R.drop 20).length / 20) = a at ih
        have t1 : (isort (R.take 20) ++ passA (R.drop 20)).take (20 + a) = isort (R.take 20) ++ (passA (R.drop 20)).take a := by
          rw [List.take_append, l1, Nat.add_sub_cancel_left, List.take_of_length_le (by omega)]
        have t2 : (isort (R.take 20) ++ passA (R.drop 20)).drop (20 + a) = (passA (R.drop 20)).drop a := by
          rw [List.drop_append, l1, Nat.add_sub_cancel_left, List.drop_of_length_le (by omega), List.nil_append]
        rw [t1, t2, List.append_assoc]
        generalize (passA (R.drop 20)).take a ++ isort ((passA (R.drop 20)).drop a) = Y at ih
        obtain ⟨i1, i2, i3⟩ := ih
        refine ⟨?_, ?_, by rw [List.length_append, l1, i3]; simp; omega⟩
        · by_cases h3 : 20 < (isort (R.take 20) ++ Y).length
          · rw [blk_long (by omega) h3, Bool.and_eq_true]
            have e1 : (isort (R.take 20) ++ Y).take 20 = isort (R.take 20) := List.take_left' l1
            have e2 : (isort (R.take 20) ++ Y).drop 20 = Y := List.drop_left' l1
            rw [e1, e2]
            exact ⟨isort_sorted _, i1⟩
          · have : Y = [] := List.eq_nil_of_length_eq_zero (by rw [List.length_append] at h3; omega)
            subst this
            rw [blk_short h3, List.append_nil]
            exact isort_sorted _
        · have := isort_isort [] (R.take 20) Y
          simp only [List.nil_append] at this
          rw [this, isort_merge, i2, ← isort_merge, List.take_append_drop]
    · have e : R.length / 20 = 0 := by omega
      simp only [passA_short h2, e]
      simp only [Nat.mul_zero, List.take_zero, List.drop_zero, List.nil_append]
      refine ⟨by rw [blk_short (by simp; omega)]; exact isort_sorted _, ?_, by simp⟩
      exact isort_id (isort_sorted _)

theorem symR_shift {M X : List D} {a m b : Nat} (h1 : a ≤ m) (h2 : m ≤ b) : symR (M ++ X) (M.length + a) (M.length + m) (M.length + b) = M ++ symR X a m b := by
  unfold symR seg
  have t : ∀ k, (M ++ X).drop (M.length + k) = X.drop k := fun k => by
    rw [List.drop_append, Nat.add_sub_cancel_left, List.drop_of_length_le (by omega), List.nil_append]
  have t2 : (M ++ X).take (M.length + a) = M ++ X.take a := by
    rw [List.take_append, Nat.add_sub_cancel_left, List.take_of_length_le (by omega)]
  rw [t, t, t, t2, show M.length + m - (M.length + a) = m - a by omega, show M.length + b - (M.length + m) = b - m by omega]
  simp

/-- blocks merged by two, the last two too: what comes out, and that it may be asked -/
theorem mergeB_all {s : Nat} (h0 : 0 < s) : ∀ (n : Nat) (R : List D), R.length ≤ n → blkSorted s R = true →
    let L := passC s R
    let a := 2 * s * (R.length / (2 * s))
    let X := if a + s < R.length then symR L a (a + s) R.length else L
    blkSorted (2 * s) X = true ∧ isort X = isort R ∧ X.length = R.length ∧ (a + s < R.length → sortedD (seg L a (a + s)) = true ∧ sortedD (seg L (a + s) R.length) = true)
  | n, R, h, hb => by
    by_cases h2 : 2 * s ≤ R.length
    · cases n with
      | zero => omega
      | succ n =>
        obtain ⟨b1, b2, b3⟩ := blk_two h0 h2 hb
        have ih := mergeB_all h0 n (R.drop (2 * s)) (by simp; omega) b3
        simp only at ih ⊢
        have hl : (R.drop (2 * s)).length = R.length - 2 * s := by simp
        have ea : 2 * s * (R.length / (2 * s)) = 2 * s + 2 * s * ((R.drop (2 * s)).length / (2 * s)) := by
          rw [hl]
          have : R.length / (2 * s) = (R.length - 2 * s) / (2 * s) + 1 := by
            rw [← Nat.sub_add_cancel h2, Nat.add_div_right _ (by omega)]
            simp
          rw [this, Nat.mul_add]
          omega
        rw [passC_long h0 h2, ea]
        generalize hM : mergeD (R.take s) ((R.drop s).take s) = M
        have lM : M.length = 2 * s := by rw [← hM]; simp; omega
        have sM : sortedD M = true := by rw [← hM]; exact mergeD_sorted b1
        have iM : ∀ Y, isort (M ++ Y) = isort (R.take (2 * s) ++ Y) := by
          intro Y
          have := isort_merge_in [] (R.take s) ((R.drop s).take s) b1 Y
          simp only [List.nil_append] at this
          rw [← hM, this]
          have : R.take (2 * s) = R.take s ++ (R.drop s).take s := by
            rw [show 2 * s = s + s by omega, List.take_add]
          rw [this]
        rw [hl] at ih
        generalize ha : 2 * s * ((R.length - 2 * s) / (2 * s)) = a at ih
        rw [hl, ha]
        have lR : R.length = M.length + (R.length - 2 * s) := by omega
        have e1 : (2 * s + a + s < R.length) = (a + s < R.length - 2 * s) := by apply propext; omega
        have key : (if 2 * s + a + s < R.length then symR (M ++ passC s (R.drop (2 * s))) (2 * s + a) (2 * s + a + s) R.length else M ++ passC s (R.drop (2 * s))) =
            M ++ (if a + s < R.length - 2 * s then symR (passC s (R.drop (2 * s))) a (a + s) (R.length - 2 * s) else passC s (R.drop (2 * s))) := by
          simp only [e1]
          split
          · rename_i hlt
            have := symR_shift (M := M) (X := passC s (R.drop (2 * s))) (a := a) (m := a + s) (b := R.length - 2 * s) (by omega) (by omega)
            rw [lM] at this
            rw [← this, show 2 * s + (a + s) = 2 * s + a + s by omega, show 2 * s + (R.length - 2 * s) = R.length by omega]
          · rfl
        rw [key]
        obtain ⟨i1, i2, i3, i4⟩ := ih
        generalize hY : (if a + s < R.length - 2 * s then symR (passC s (R.drop (2 * s))) a (a + s) (R.length - 2 * s) else passC s (R.drop (2 * s))) = Y at i1 i2 i3
        refine ⟨?_, ?_, by rw [List.length_append, lM, i3]; omega, fun hlt => ?_⟩
        · by_cases h3 : 2 * s < (M ++ Y).length
          · rw [blk_long (by omega) h3, Bool.and_eq_true]
            have e1 : (M ++ Y).take (2 * s) = M := List.take_left' lM
            have e2 : (M ++ Y).drop (2 * s) = Y := List.drop_left' lM
            rw [e1, e2]
            exact ⟨sM, i1⟩
          · have : Y = [] := List.eq_nil_of_length_eq_zero (by rw [List.length_append] at h3; omega)
            subst this
            rw [blk_short h3, List.append_nil]
            exact sM
        · rw [iM, isort_merge, i2, ← isort_merge, List.take_append_drop]
        · have i4' := i4 (by omega)
          have t : ∀ x y, seg (M ++ passC s (R.drop (2 * s))) (2 * s + x) (2 * s + y) = seg (passC s (R.drop (2 * s))) x y := fun x y => by
            unfold seg
            rw [← lM, List.drop_append, Nat.add_sub_cancel_left, List.drop_of_length_le (by omega), List.nil_append]
            congr 1; omega
          have t1 := t a (a + s)
          have t2 := t (a + s) (R.length - 2 * s)
          rw [show 2 * s + (a + s) = 2 * s + a + s by omega] at t1 t2
          rw [show 2 * s + (R.length - 2 * s) = R.length by omega] at t2
          rw [t1, t2]
          exact i4'
    · have e : R.length / (2 * s) = 0 := Nat.div_eq_of_lt (by omega)
      simp only [passC_short h2, e, Nat.mul_zero, Nat.zero_add]
      by_cases h3 : s < R.length
      · rw [if_pos h3]
        rw [blk_long h0 h3, Bool.and_eq_true, blk_short (by simp; omega)] at hb
        have e1 : seg R 0 s = R.take s := by simp [seg]
        have e2 : seg R s R.length = R.drop s := by
          unfold seg; exact List.take_of_length_le (by simp)
        have e3 : symR R 0 s R.length = mergeD (R.take s) (R.drop s) := by
          unfold symR; rw [e1, e2]; simp
        rw [e3]
        have l : (mergeD (R.take s) (R.drop s)).length = R.length := by simp; omega
        refine ⟨?_, ?_, l, fun _ => ⟨by rw [e1]; exact hb.1, by rw [e2]; exact hb.2⟩⟩
        · rw [blk_short (by omega)]; exact mergeD_sorted hb.1
        · have := isort_merge_in [] (R.take s) (R.drop s) hb.1 []
          simp only [List.nil_append, List.append_nil] at this
          rw [this, List.take_append_drop]
      · rw [if_neg h3]
        rw [blk_short h3] at hb
        exact ⟨by rw [blk_short (by omega)]; exact hb, rfl, rfl, fun hh => (h3 hh).elim⟩

/-! ### The loops -/

set_option maxHeartbeats 1000000 in
theorem jStable0 : LoopJust EStable (vlen sgStable.heap) (loopN (bodyOf Try.f60) 0) liStable0 := by
  refine loopJust_of (fun hs xs => ((dnth xs 1).int - (dnth xs 4).int).toNat) (by kernel_rfl) (by kernel_rfl) fun go hs xs p w h ih => ?_
  rw [evstStable0]
  simp only [wf_loop, liStable0, slotShapes, wfs_cons, wf_dat, wf_int, wf_bool, wf_str, wf_slice, wf_fn, wf_ref, wf_rall, wf_mref, wf_own, wf_agg, wf_rsub, wf_any, wfs_nil, wfh_cons, wfh_nil, wf_hmap, wf_hrow, wf_hbox, true_and] at w
  obtain ⟨⟨_, _, rfl, ⟨l, rfl, hl, _⟩, rfl⟩, d0, _, rfl, _, _, rfl, ⟨n, rfl, _⟩, _, _, rfl, ⟨_, rfl, rfl⟩, _, _, rfl, ⟨s, rfl, _⟩, _, _, rfl, ⟨a, rfl, _⟩, _, _, rfl, ⟨b, rfl, _⟩, rfl⟩ := w
  simp only [liStable0, dnth_zero, dnth_succ, dnth_one, dnth_two, int_i, bool_b, str_s, list_r, f_r, rest, mapOf_ofMap] at h ih
  simp only [stStable0, dnth_zero, dnth_succ, dnth_one, dnth_two, int_i, bool_b, str_s, list_r, f_r, mapOf_ofMap]
  replace h := cond_fail h
  obtain ⟨hp, h⟩ := h
  simp only [okNM, Bool.and_eq_true, decide_eq_true_eq] at hp
  obtain ⟨⟨⟨⟨⟨rfl, h1⟩, rfl⟩, h2⟩, h3⟩, rfl⟩ := hp
  obtain ⟨a, rfl⟩ := Int.eq_ofNat_of_zero_le h2
  simp only [Int.toNat_natCast] at h
  by_cases hb : (a : Int) + 20 ≤ (l.length : Int)
  · have e1 : IntKind.wrap .i64 ((a : Int) + 20 + 20) = (a : Int) + 20 + 20 := wrap_i64 (by omega) (by omega)
    have ok : insOK l.length (a : Int) ((a : Int) + 20) = true := by simp [insOK]; omega
    have t1 : ((a : Int) + 20).toNat = a + 20 := by omega
    simp only [hb, e1, ok, t1, decide_true, cond_true, Int.toNat_natCast]
    have la : (l.take a).length = a := by simp; omega
    have ls : (isort (seg l a (a + 20))).length = 20 := by rw [isort_length, seg_length (by omega) (by omega)]; omega
    have e2 : passA (l.drop a) = isort (seg l a (a + 20)) ++ passA (l.drop (a + 20)) := by
      rw [passA_long (by simp; omega), List.drop_drop]
      unfold seg
      rw [show a + 20 - a = 20 by omega]
    have lf : (l.take a ++ isort (seg l a (a + 20)) ++ l.drop (a + 20)).length = l.length := by simp only [List.length_append, la, ls, List.length_drop]; omega
    have ll : (l.take a ++ isort (seg l a (a + 20))).length = a + 20 := by simp only [List.length_append, la, ls]
    have d1 : (l.take a ++ isort (seg l a (a + 20)) ++ l.drop (a + 20)).take (a + 20) = l.take a ++ isort (seg l a (a + 20)) := List.take_left' ll
    have d2 : (l.take a ++ isort (seg l a (a + 20)) ++ l.drop (a + 20)).drop (a + 20) = l.drop (a + 20) := List.drop_left' ll
    have e3 : (a : Int) + 20 * (((l.length : Int) - (a : Int)) / 20) = (a : Int) + 20 + 20 * (((l.length : Int) - ((a : Int) + 20)) / 20) := by omega
    refine ih _ _ ?_ fun _ => cond_ok ?_ ?_
    · simp only [dnth_zero, dnth_succ, dnth_one, dnth_two, int_i, bool_b, str_s, list_r, f_r]; omega
    · simp only [dnth_zero, dnth_succ, dnth_one, dnth_two, int_i, bool_b, str_s, list_r, f_r, okNM, lf, decide_true, Bool.true_and, decide_eq_true h1]; simp; omega
    · simp only [dnth_zero, dnth_succ, dnth_one, dnth_two, int_i, bool_b, str_s, list_r, f_r, t1, d1, d2]
      rw [e2, e3, ← List.append_assoc] at h
      exact h
  · have e2 : passA (l.drop a) = l.drop a := passA_short (by simp; omega)
    have e3 : ((l.length : Int) - (a : Int)) / 20 = 0 := by omega
    rw [e2, e3, List.take_append_drop] at h
    simp only [hb, decide_false, cond_false]
    rw [show (a : Int) + 20 * 0 = (a : Int) by omega] at h
    exact h

set_option maxHeartbeats 1000000 in
theorem jStable2 : LoopJust EStable (vlen sgStable.heap) (loopN (bodyOf Try.f60) 2) liStable2 := by
  refine loopJust_of (fun hs xs => ((dnth xs 1).int - (dnth xs 4).int).toNat) (by kernel_rfl) (by kernel_rfl) fun go hs xs p w h ih => ?_
  rw [evstStable2]
  simp only [wf_loop, liStable2, slotShapes, wfs_cons, wf_dat, wf_int, wf_bool, wf_str, wf_slice, wf_fn, wf_ref, wf_rall, wf_mref, wf_own, wf_agg, wf_rsub, wf_any, wfs_nil, wfh_cons, wfh_nil, wf_hmap, wf_hrow, wf_hbox, true_and] at w
  obtain ⟨⟨_, _, rfl, ⟨l, rfl, hl, _⟩, rfl⟩, d0, _, rfl, _, _, rfl, ⟨n, rfl, _⟩, _, _, rfl, ⟨_, rfl, rfl⟩, _, _, rfl, ⟨s, rfl, _⟩, _, _, rfl, ⟨a, rfl, _⟩, _, _, rfl, ⟨b, rfl, _⟩, rfl⟩ := w
  simp only [liStable2, dnth_zero, dnth_succ, dnth_one, dnth_two, int_i, bool_b, str_s, list_r, f_r, rest, mapOf_ofMap] at h ih
  simp only [stStable2, dnth_zero, dnth_succ, dnth_one, dnth_two, int_i, bool_b, str_s, list_r, f_r, mapOf_ofMap]
  replace h := cond_fail h
  obtain ⟨hp, h⟩ := h
  simp only [okNM, Bool.and_eq_true, decide_eq_true_eq] at hp
  obtain ⟨⟨⟨⟨⟨⟨⟨rfl, h1⟩, hs⟩, h2⟩, h3⟩, rfl⟩, hs2⟩, hb⟩ := hp
  obtain ⟨a, rfl⟩ := Int.eq_ofNat_of_zero_le h2
  obtain ⟨s, rfl⟩ := Int.eq_ofNat_of_zero_le (by omega : 0 ≤ s)
  simp only [Int.toNat_natCast] at h hb
  by_cases hc : (a : Int) + 2 * (s : Int) ≤ (l.length : Int)
  · have e0 : IntKind.wrap .i64 (2 * (s : Int)) = 2 * (s : Int) := wrap_i64 (by omega) (by omega)
    have e1 : IntKind.wrap .i64 ((a : Int) + 2 * (s : Int) + 2 * (s : Int)) = (a : Int) + 2 * (s : Int) + 2 * (s : Int) := wrap_i64 (by omega) (by omega)
    have e4 : IntKind.wrap .i64 ((a : Int) + (s : Int)) = (a : Int) + (s : Int) := wrap_i64 (by omega) (by omega)
    have t1 : ((a : Int) + 2 * (s : Int)).toNat = a + 2 * s := by omega
    have t2 : ((a : Int) + (s : Int)).toNat = a + s := by omega
    obtain ⟨b1, b2, b3⟩ := blk_two (s := s) (R := l.drop a) (by omega) (by simp; omega) hb
    rw [List.drop_drop] at b2 b3
    have g1 : seg l a (a + s) = (l.drop a).take s := by unfold seg; rw [show a + s - a = s by omega]
    have g2 : seg l (a + s) (a + 2 * s) = (l.drop (a + s)).take s := by unfold seg; rw [show a + 2 * s - (a + s) = s by omega]
    have ok : symOK l (a : Int) ((a : Int) + (s : Int)) ((a : Int) + 2 * (s : Int)) = true := by
      unfold symOK
      rw [t1, t2, Int.toNat_natCast, g1, g2, b1, b2, decide_eq_true h1]
      simp [rotOK]; omega
    simp only [hc, e0, e1, e4, ok, t1, t2, decide_true, cond_true, Int.toNat_natCast]
    have la : (l.take a).length = a := by simp; omega
    have ls : (mergeD (seg l a (a + s)) (seg l (a + s) (a + 2 * s))).length = 2 * s := by rw [mergeD_length, seg_length (by omega) (by omega), seg_length (by omega) (by omega)]; omega
    have e2 : passC s (l.drop a) = mergeD (seg l a (a + s)) (seg l (a + s) (a + 2 * s)) ++ passC s (l.drop (a + 2 * s)) := by
      rw [passC_long (by omega) (by simp; omega), List.drop_drop, List.drop_drop, g1, g2]
    have es : symR l a (a + s) (a + 2 * s) = l.take a ++ mergeD (seg l a (a + s)) (seg l (a + s) (a + 2 * s)) ++ l.drop (a + 2 * s) := rfl
    have lf : (symR l a (a + s) (a + 2 * s)).length = l.length := by rw [es]; simp only [List.length_append, la, ls, List.length_drop]; omega
    have ll : (l.take a ++ mergeD (seg l a (a + s)) (seg l (a + s) (a + 2 * s))).length = a + 2 * s := by simp only [List.length_append, la, ls]
    have d1 : (symR l a (a + s) (a + 2 * s)).take (a + 2 * s) = l.take a ++ mergeD (seg l a (a + s)) (seg l (a + s) (a + 2 * s)) := by rw [es]; exact List.take_left' ll
    have d2 : (symR l a (a + s) (a + 2 * s)).drop (a + 2 * s) = l.drop (a + 2 * s) := by rw [es]; exact List.drop_left' ll
    have e3 : (a : Int) + 2 * (s : Int) * (((l.length : Int) - (a : Int)) / (2 * (s : Int))) = (a : Int) + 2 * (s : Int) + 2 * (s : Int) * (((l.length : Int) - ((a : Int) + 2 * (s : Int))) / (2 * (s : Int))) := by
      have hd : ((l.length : Int) - (a : Int)) / (2 * (s : Int)) = ((l.length : Int) - ((a : Int) + 2 * (s : Int))) / (2 * (s : Int)) + 1 := by
        rw [show (l.length : Int) - (a : Int) = (l.length : Int) - ((a : Int) + 2 * (s : Int)) + 1 * (2 * (s : Int)) by omega, Int.add_mul_ediv_right _ _ (by omega)]
      rw [hd, Int.mul_add]; omega
    refine ih _ _ ?_ fun _ => cond_ok ?_ ?_
    · simp only [dnth_zero, dnth_succ, dnth_one, dnth_two, int_i, bool_b, str_s, list_r, f_r]; omega
    · simp only [dnth_zero, dnth_succ, dnth_one, dnth_two, int_i, bool_b, str_s, list_r, f_r, okNM, lf, decide_true, Bool.true_and, decide_eq_true h1, t1, d2, Int.toNat_natCast, b3]; simp; omega
    · simp only [dnth_zero, dnth_succ, dnth_one, dnth_two, int_i, bool_b, str_s, list_r, f_r, t1, d1, d2, Int.toNat_natCast]
      rw [e2, e3, ← List.append_assoc] at h
      exact h
  · have e2 : passC s (l.drop a) = l.drop a := passC_short (by simp; omega)
    have e3 : ((l.length : Int) - (a : Int)) / (2 * (s : Int)) = 0 := Int.ediv_eq_zero_of_lt (by omega) (by omega)
    rw [e2, e3, List.take_append_drop] at h
    simp only [hc, decide_false, cond_false]
    rw [Int.mul_zero, Int.add_zero] at h
    exact h

set_option maxHeartbeats 1000000 in
theorem jStable1 : LoopJust EStable (vlen sgStable.heap) (loopN (bodyOf Try.f60) 1) liStable1 := by
  refine loopJust_of (fun hs xs => ((dnth xs 1).int - (dnth xs 3).int).toNat) (by kernel_rfl) (by kernel_rfl) fun go hs xs p w h ih => ?_
  rw [evstStable1]
  simp only [wf_loop, liStable1, slotShapes, wfs_cons, wf_dat, wf_int, wf_bool, wf_str, wf_slice, wf_fn, wf_ref, wf_rall, wf_mref, wf_own, wf_agg, wf_rsub, wf_any, wfs_nil, wfh_cons, wfh_nil, wf_hmap, wf_hrow, wf_hbox, true_and] at w
  obtain ⟨⟨_, _, rfl, ⟨l, rfl, hl, _⟩, rfl⟩, d0, _, rfl, _, _, rfl, ⟨n, rfl, _⟩, _, _, rfl, ⟨_, rfl, rfl⟩, _, _, rfl, ⟨s, rfl, _⟩, rfl⟩ := w
  simp only [liStable1, dnth_zero, dnth_succ, dnth_one, dnth_two, int_i, bool_b, str_s, list_r, f_r, rest, mapOf_ofMap] at h ih
  simp only [stStable1, xstStable1_0, xstStable1_1, xstStable1_2, xstStable1_3, dnth_zero, dnth_succ, dnth_one, dnth_two, int_i, bool_b, str_s, list_r, f_r, mapOf_ofMap]
  replace h := cond_fail h
  obtain ⟨hp, h⟩ := h
  simp only [okNM, Bool.and_eq_true, decide_eq_true_eq] at hp
  obtain ⟨⟨⟨rfl, h1⟩, hs⟩, hb⟩ := hp
  obtain ⟨s, rfl⟩ := Int.eq_ofNat_of_zero_le (by omega : 0 ≤ s)
  simp only [Int.toNat_natCast] at hb
  by_cases hc : (s : Int) < (l.length : Int)
  · have hm := mergeB_all (s := s) (by omega) l.length l (Nat.le_refl _) hb
    simp only at hm
    obtain ⟨m1, m2, m3, m4⟩ := hm
    have e0 : IntKind.wrap .i64 (2 * (s : Int)) = 2 * (s : Int) := wrap_i64 (by omega) (by omega)
    have e0' : IntKind.wrap .i64 ((s : Int) * 2) = ((2 * s : Nat) : Int) := (wrap_i64 (by omega) (by omega)).trans (by omega)
    have ea : (0 : Int) + 2 * (s : Int) * (((l.length : Int) - 0) / (2 * (s : Int))) = ((2 * s * (l.length / (2 * s)) : Nat) : Int) := by simp
    have hle : 2 * s * (l.length / (2 * s)) ≤ l.length := Nat.mul_div_le _ _
    rw [ea]
    generalize 2 * s * (l.length / (2 * s)) = a at *
    have e4 : IntKind.wrap .i64 ((a : Int) + (s : Int)) = ((a + s : Nat) : Int) := (wrap_i64 (by omega) (by omega)).trans (by omega)
    have ok1 : okNM l (l.length : Int) = true := by simp [okNM]; omega
    have b1 : (0 : Int) < (s : Int) := by omega
    have b2 : (0 : Int) ≤ (l.length : Int) := by omega
    have b3 : (2 * (s : Int) = 0 + 2 * (s : Int)) = True := by simp
    have lC := passC_length (s := s) (by omega) l.length l (Nat.le_refl _)
    have next : ∀ X, X.length = l.length → blkSorted (2 * s) X = true → isort X = isort l → go [.r X] [.r [], .i (l.length : Int), .r [], .i ((2 * s : Nat) : Int)] = some p := by
      intro X x1 x2 x3
      refine ih _ _ ?_ fun _ => cond_ok ?_ ?_
      · simp only [dnth_zero, dnth_succ, dnth_one, dnth_two, int_i, bool_b, str_s, list_r, f_r]; omega
      · simp only [dnth_zero, dnth_succ, dnth_one, dnth_two, int_i, bool_b, str_s, list_r, f_r, okNM, x1, Int.toNat_natCast, x2, decide_true, Bool.true_and, decide_eq_true h1]; simp; omega
      · simp only [dnth_zero, dnth_succ, dnth_one, dnth_two, int_i, bool_b, str_s, list_r, f_r]; rw [x3]; exact h
    simp only [hc, e0, e0', e4, ok1, b1, b2, b3, hb, decide_true, Bool.and_self, cond_true, Int.toNat_natCast, Int.toNat_zero, List.drop_zero, List.take_zero, List.nil_append]
    by_cases hd : a + s < l.length
    · rw [if_pos hd] at m1 m2 m3
      have hd' : ((a + s : Nat) : Int) < (l.length : Int) := by omega
      have ok2 : symOK (passC s l) (a : Int) ((a + s : Nat) : Int) (l.length : Int) = true := by
        unfold symOK
        rw [Int.toNat_natCast, Int.toNat_natCast, Int.toNat_natCast, (m4 hd).1, (m4 hd).2, lC, decide_eq_true h1]
        simp [rotOK]; omega
      simp only [hd', ok2, decide_true, cond_true]
      exact next _ m3 m1 m2
    · rw [if_neg hd] at m1 m2 m3
      have hd' : ¬ ((a + s : Nat) : Int) < (l.length : Int) := by omega
      simp only [hd', decide_false, cond_false]
      exact next _ m3 m1 m2
  · rw [blk_short (by omega)] at hb
    rw [isort_id hb] at h
    simp only [hc, decide_false, cond_false]
    exact h

theorem phStable (hs xs : List D) (r : List D × List D) (w : wfAll sgStable.heap sgStable.ins hs xs = true) (h : (phiStable hs xs).val = some r) : mStable hs xs = some r := by
  simp only [sgStable, wf_all, wfs_cons, wf_dat, wf_int, wf_bool, wf_str, wf_slice, wf_fn, wf_ref, wf_rall, wf_mref, wf_own, wf_agg, wf_rsub, wf_any, wfs_nil, wfh_cons, wfh_nil, wf_hmap, wf_hrow, wf_hbox, true_and] at w
  obtain ⟨⟨_, _, rfl, ⟨l, rfl, hl, _⟩, rfl⟩, d0, _, rfl, _, _, rfl, ⟨n, rfl, _⟩, _, _, rfl, ⟨_, rfl, rfl⟩, rfl⟩ := w
  simp only [phiStable, dnth_zero, dnth_succ, dnth_one, dnth_two, int_i, bool_b, str_s, list_r, f_r] at h
  replace h := cond_fail h
  obtain ⟨hp, h⟩ := h
  simp only [Bool.and_eq_true, decide_eq_true_eq] at hp
  obtain ⟨rfl, h1⟩ := hp
  have h1' : l.length ≤ 4294967296 := h1
  have hm := sortB_all l.length l (Nat.le_refl _)
  simp only at hm
  obtain ⟨m1, m2, m3⟩ := hm
  have lA := passA_length l.length l (Nat.le_refl _)
  have ea : (0 : Int) + 20 * (((l.length : Int) - 0) / 20) = ((20 * (l.length / 20) : Nat) : Int) := by simp
  have hle : 20 * (l.length / 20) ≤ l.length := Nat.mul_div_le _ _
  simp only [mStable, xmStable_0, xmStable_1, xmStable_2, xmStable_3, dnth_zero, dnth_succ, dnth_one, dnth_two, int_i, bool_b, str_s, list_r, f_r, Int.toNat_natCast, Int.toNat_zero, List.drop_zero, List.take_zero, List.nil_append, ea]
  generalize 20 * (l.length / 20) = a at *
  have es : seg (passA l) a l.length = (passA l).drop a := by
    unfold seg; exact List.take_of_length_le (by simp; omega)
  have ed : (passA l).drop l.length = [] := List.drop_eq_nil_of_le (by omega)
  have ok1 : okNM l (l.length : Int) = true := by simp [okNM]; omega
  have ok2 : insOK (passA l).length (a : Int) (l.length : Int) = true := by rw [lA]; simp [insOK]; omega
  have ok3 : okNM ((passA l).take a ++ isort ((passA l).drop a)) (l.length : Int) = true := by simp only [okNM, m3, decide_true, Bool.true_and]; simpa using h1'
  have b1 : (0 : Int) ≤ (l.length : Int) := by omega
  have t20 : (20 : Int).toNat = 20 := rfl
  simp only [ok1, ok2, es, ed, List.append_nil, ok3, b1, t20, m1, m2, decide_true, Bool.and_self, cond_true]
  exact h
theorem phSort (hs xs : List D) (r : List D × List D) (w : wfAll sgSort.heap sgSort.ins hs xs = true) (h : (phiSort hs xs).val = some r) : mSort hs xs = some r := by
  simp only [phiSort] at h
  replace h := cond_fail h
  obtain ⟨hp, h⟩ := h
  have hp' : decide ((dnth hs 0).list.length ≤ 4294967296) = true := hp
  simp only [mSort, hp', decide_true, Bool.and_self, cond_true]
  exact h

end Go.Proofs.Ytkepijaabpkdbaa

/- The contracts of these functions; printed by gen.py. -/
namespace Go.Proofs.Ytkepijaabpkdbaa
open Go Go.Ev
theorem lgStable0 : LoopGood EStable (vlen sgStable.heap) (loopN (bodyOf Try.f60) 0) := LoopGood.of (i := 2) (li := liStable0) (by kernel_rfl) (by kernel_rfl) jStable0
theorem lgStable1 : LoopGood EStable (vlen sgStable.heap) (loopN (bodyOf Try.f60) 1) := LoopGood.of (i := 7) (li := liStable1) (by kernel_rfl) (by kernel_rfl) jStable1
theorem lgStable2 : LoopGood EStable (vlen sgStable.heap) (loopN (bodyOf Try.f60) 2) := LoopGood.of (i := 9) (li := liStable2) (by kernel_rfl) (by kernel_rfl) jStable2
theorem okStable : SpecOK Try.prog 60 sgStable phiStable :=
  spec_of (t := [eInsert, eSym, eById]) (loops := [(2, liStable0), (7, liStable1), (9, liStable2)]) typesOK noMeth_ok (.cons okInsert (by kernel_rfl) (.cons okSym (by kernel_rfl) (.cons okById (by kernel_rfl) .nil))) Try.func60 (by kernel_rfl) (by kernel_rfl) (by kernel_rfl) (by kernel_rfl)
    (loopsOK_list (l := [loopN (bodyOf Try.f60) 0, loopN (bodyOf Try.f60) 1, loopN (bodyOf Try.f60) 2]) (by kernel_rfl) ⟨lgStable0, ⟨lgStable1, ⟨lgStable2, trivial⟩⟩⟩) (fun hs xs r w h => (evStable hs xs).trans (phStable hs xs r w h))
theorem okSort : SpecOK Try.prog 55 sgSort phiSort :=
  spec_of (t := [eStable, eById]) (loops := []) typesOK noMeth_ok (.cons okStable (by kernel_rfl) (.cons okById (by kernel_rfl) .nil)) Try.func55 (by kernel_rfl) (by kernel_rfl) (by kernel_rfl) (by kernel_rfl)
    (loopsOK_list (l := []) (by kernel_rfl) trivial) (fun hs xs r w h => (evSort hs xs).trans (phSort hs xs r w h))
end Go.Proofs.Ytkepijaabpkdbaa
