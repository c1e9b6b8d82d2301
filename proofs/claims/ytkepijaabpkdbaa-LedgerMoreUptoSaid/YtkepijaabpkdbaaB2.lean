/- What the evaluator makes of these functions: printed by gen.py out of the model, and proved by the kernel. What the evaluator makes of the sorting functions is what their definitions say: comparing, putting in, exchanging, turning. The contracts of these functions; printed by gen.py. -/
import Derived.Test.YtkepijaabpkdbaaA6
import Derived.Test.YtkepijaabpkdbaaB0
import Derived.Test.YtkepijaabpkdbaaProg
import Derived.KernelRfl
import Derived.Test.YtkepijaabpkdbaaB1
import Derived.Test.YtkepijaabpkdbaaChecked
set_option linter.unusedVariables false
set_option linter.unusedSimpArgs false

/- What the evaluator makes of these functions: printed by gen.py out of the model, and proved by the kernel. -/
namespace Go.Proofs.Ytkepijaabpkdbaa
open Go Go.Ev
set_option maxRecDepth 100000
noncomputable def eIsNaN : Nat × (Sig × Phi) := (61, (sgIsNaN, phiIsNaN))
noncomputable def eCompare : Nat × (Sig × Phi) := (57, (sgCompare, phiCompare))
noncomputable def eById : Nat × (Sig × Phi) := (56, (sgById, phiById))
noncomputable def eInsert : Nat × (Sig × Phi) := (62, (sgInsert, phiInsert))
noncomputable def eSwapR : Nat × (Sig × Phi) := (65, (sgSwapR, phiSwapR))
noncomputable def eRotate : Nat × (Sig × Phi) := (64, (sgRotate, phiRotate))
noncomputable def eSymN (bd : Nat) : Nat × (Sig × Phi) := (63, (sgSym, phiSymN bd))
noncomputable def eSym : Nat × (Sig × Phi) := (63, (sgSym, phiSym))
noncomputable def EIsNaN : Env := mkEnv tyTab [] noMeth Try.f61.ntmps (vlen sgIsNaN.heap) []
noncomputable def ECompare : Env := mkEnv tyTab [eIsNaN] noMeth Try.f57.ntmps (vlen sgCompare.heap) []
noncomputable def EById : Env := mkEnv tyTab [eCompare] noMeth Try.f56.ntmps (vlen sgById.heap) []
noncomputable def EInsert : Env := mkEnv tyTab [eById] noMeth Try.f62.ntmps (vlen sgInsert.heap) [(1, liInsert0), (4, liInsert1)]
noncomputable def ESwapR : Env := mkEnv tyTab [] noMeth Try.f65.ntmps (vlen sgSwapR.heap) [(1, liSwapR0)]
noncomputable def ERotate : Env := mkEnv tyTab [eSwapR] noMeth Try.f64.ntmps (vlen sgRotate.heap) [(2, liRotate0)]
noncomputable def ESymN (bd : Nat) : Env := mkEnv tyTab [eSymN bd, eById, eRotate] noMeth Try.f63.ntmps (vlen sgSym.heap) [(3, liSym0), (9, liSym1), (15, liSym2), (21, liSym3), (33, liSym4)]

noncomputable def mIsNaN (hs xs : List D) : Option (List D × List D) :=
  (Option.some ([], [(D.b (!(@decide ((D.int (dnth xs 0)) = (D.int (dnth xs 0))) (Int.instDecidableEq (D.int (dnth xs 0)) (D.int (dnth xs 0))))))]))
theorem evIsNaN (hs xs : List D) : evF (EIsNaN) Try.f61 sgIsNaN hs xs = mIsNaN hs xs := by kernel_rfl

noncomputable def mCompare (hs xs : List D) : Option (List D × List D) :=
  bif (decide ((D.int (dnth xs 0)) < (D.int (dnth xs 1)))) then
    (Option.some ([], [(D.i (-1 : Int))]))
  else bif (decide ((D.int (dnth xs 1)) < (D.int (dnth xs 0)))) then
    (Option.some ([], [(D.i (1 : Int))]))
  else (Option.some ([], [(D.i (0 : Int))]))
theorem evCompare (hs xs : List D) : evF (ECompare) Try.f57 sgCompare hs xs = mCompare hs xs := by kernel_rfl

noncomputable def mById (hs xs : List D) : Option (List D × List D) :=
  (Option.some ([], [(D.i (cmpI (D.int (D.f (dnth xs 0) 1)) (D.int (D.f (dnth xs 1) 1))))]))
theorem evById (hs xs : List D) : evF (EById) Try.f56 sgById hs xs = mById hs xs := by kernel_rfl

noncomputable def mInsert (hs xs : List D) : Option (List D × List D) :=
  bif ((insOK (List.length (D.list (dnth hs 0))) (D.int (dnth xs 1)) (D.int (dnth xs 2))) && (decide ((D.int (dnth xs 1)) < (IntKind.wrap Go.IntKind.i64 ((D.int (dnth xs 1)) + (1 : Int)))))) then
    (Option.some ([(D.r (insAll (Int.toNat (D.int (dnth xs 1))) (Int.toNat ((D.int (dnth xs 2)) - (IntKind.wrap Go.IntKind.i64 ((D.int (dnth xs 1)) + (1 : Int))))) (Int.toNat (IntKind.wrap Go.IntKind.i64 ((D.int (dnth xs 1)) + (1 : Int)))) (D.list (dnth hs 0))))], []))
  else (Option.none)
theorem evInsert (hs xs : List D) : evF (EInsert) Try.f62 sgInsert hs xs = mInsert hs xs := by kernel_rfl

noncomputable def stInsert0 (go : List D → List D → Option (Ex × List D × List D)) (hs xs : List D) : Option (Ex × List D × List D) :=
  bif (decide ((D.int (dnth xs 4)) < (D.int (dnth xs 2)))) then
    bif ((insOK (List.length (D.list (dnth hs 0))) (D.int (dnth xs 1)) (D.int (dnth xs 4))) && (decide ((D.int (dnth xs 4)) < (Int.ofNat (List.length (D.list (dnth hs 0))))))) then
      (go [(D.r (insBack (Int.toNat (D.int (dnth xs 1))) (Int.toNat (D.int (dnth xs 4))) (D.list (dnth hs 0))))] [(D.r []), (D.i (D.int (dnth xs 1))), (D.i (D.int (dnth xs 2))), (D.r []), (D.i (IntKind.wrap Go.IntKind.i64 ((D.int (dnth xs 4)) + (1 : Int))))])
    else (Option.none)
  else (Option.some ((Ex.exit 0), ([(D.r (D.list (dnth hs 0)))], [])))
theorem evstInsert0 (go : List D → List D → Option (Ex × List D × List D)) (hs xs : List D) : stepOf (EInsert) (vlen sgInsert.heap) (loopN (bodyOf Try.f62) 0) liInsert0 go hs xs = stInsert0 go hs xs := by kernel_rfl

noncomputable def xstInsert1_0 (hs : List D) (xs : List D) : Bool :=
  ((decide ((0 : Int) ≤ (D.int (dnth xs 5)))) && (decide ((D.int (dnth xs 5)) < (Int.ofNat (List.length (D.list (dnth hs 0)))))))
noncomputable def xstInsert1_1 (hs : List D) (xs : List D) : Bool :=
  ((decide ((0 : Int) ≤ (IntKind.wrap Go.IntKind.i64 ((D.int (dnth xs 5)) - (1 : Int))))) && (decide ((IntKind.wrap Go.IntKind.i64 ((D.int (dnth xs 5)) - (1 : Int))) < (Int.ofNat (List.length (D.list (dnth hs 0)))))))
noncomputable def xstInsert1_2 (hs : List D) (xs : List D) : D :=
  (dnth (D.list (dnth hs 0)) (Int.toNat (IntKind.wrap Go.IntKind.i64 ((D.int (dnth xs 5)) - (1 : Int)))))
noncomputable def xstInsert1_3 (hs : List D) (xs : List D) : List D :=
  (dput (D.list (dnth hs 0)) (Int.toNat (D.int (dnth xs 5))) (dset (dnth (D.list (dnth hs 0)) (Int.toNat (D.int (dnth xs 5)))) [] (xstInsert1_2 hs xs)))
noncomputable def xstInsert1_4 (hs : List D) (xs : List D) : Option (Ex × List D × List D) :=
  (Option.some ((Ex.exit 2), ([(D.r (D.list (dnth hs 0)))], [(D.r []), (D.i (D.int (dnth xs 1))), (D.i (D.int (dnth xs 2))), (D.r []), (D.i (D.int (dnth xs 4)))])))
noncomputable def stInsert1 (go : List D → List D → Option (Ex × List D × List D)) (hs xs : List D) : Option (Ex × List D × List D) :=
  bif (decide ((D.int (dnth xs 1)) < (D.int (dnth xs 5)))) then
    bif (xstInsert1_0 hs xs) then
      bif (xstInsert1_1 hs xs) then
        bif (decide ((cmpI (pId (dnth (D.list (dnth hs 0)) (Int.toNat (D.int (dnth xs 5))))) (pId (xstInsert1_2 hs xs))) < (0 : Int))) then
          bif (xstInsert1_1 hs xs) then
            bif (xstInsert1_0 hs xs) then
              bif (xstInsert1_0 hs xs) then
                bif (xstInsert1_1 hs xs) then
                  (go [(D.r (dput (xstInsert1_3 hs xs) (Int.toNat (IntKind.wrap Go.IntKind.i64 ((D.int (dnth xs 5)) - (1 : Int)))) (dset (dnth (xstInsert1_3 hs xs) (Int.toNat (IntKind.wrap Go.IntKind.i64 ((D.int (dnth xs 5)) - (1 : Int))))) [] (dnth (D.list (dnth hs 0)) (Int.toNat (D.int (dnth xs 5)))))))] [(D.r []), (D.i (D.int (dnth xs 1))), (D.i (D.int (dnth xs 2))), (D.r []), (D.i (D.int (dnth xs 4))), (D.i (IntKind.wrap Go.IntKind.i64 ((D.int (dnth xs 5)) - (1 : Int))))])
                else (Option.none)
              else (Option.none)
            else (Option.none)
          else (Option.none)
        else (xstInsert1_4 hs xs)
      else (Option.none)
    else (Option.none)
  else (xstInsert1_4 hs xs)
theorem evstInsert1 (go : List D → List D → Option (Ex × List D × List D)) (hs xs : List D) : stepOf (EInsert) (vlen sgInsert.heap) (loopN (bodyOf Try.f62) 1) liInsert1 go hs xs = stInsert1 go hs xs := by kernel_rfl

noncomputable def mSwapR (hs xs : List D) : Option (List D × List D) :=
  bif ((swapOK (List.length (D.list (dnth hs 0))) (D.int (dnth xs 1)) (D.int (dnth xs 2)) (D.int (dnth xs 3))) && Bool.true) then
    (Option.some ([(D.r (swapGo (Int.toNat (D.int (dnth xs 1))) (Int.toNat (D.int (dnth xs 2))) (Int.toNat ((D.int (dnth xs 3)) - (0 : Int))) (Int.toNat (0 : Int)) (D.list (dnth hs 0))))], []))
  else (Option.none)
theorem evSwapR (hs xs : List D) : evF (ESwapR) Try.f65 sgSwapR hs xs = mSwapR hs xs := by kernel_rfl

noncomputable def xstSwapR0_0 (hs : List D) (xs : List D) : Bool :=
  ((decide ((0 : Int) ≤ (IntKind.wrap Go.IntKind.i64 ((D.int (dnth xs 2)) + (D.int (dnth xs 4)))))) && (decide ((IntKind.wrap Go.IntKind.i64 ((D.int (dnth xs 2)) + (D.int (dnth xs 4)))) < (Int.ofNat (List.length (D.list (dnth hs 0)))))))
noncomputable def xstSwapR0_1 (hs : List D) (xs : List D) : Bool :=
  ((decide ((0 : Int) ≤ (IntKind.wrap Go.IntKind.i64 ((D.int (dnth xs 1)) + (D.int (dnth xs 4)))))) && (decide ((IntKind.wrap Go.IntKind.i64 ((D.int (dnth xs 1)) + (D.int (dnth xs 4)))) < (Int.ofNat (List.length (D.list (dnth hs 0)))))))
noncomputable def xstSwapR0_2 (hs : List D) (xs : List D) : D :=
  (dnth (D.list (dnth hs 0)) (Int.toNat (IntKind.wrap Go.IntKind.i64 ((D.int (dnth xs 1)) + (D.int (dnth xs 4))))))
noncomputable def xstSwapR0_3 (hs : List D) (xs : List D) : List D :=
  (dput (D.list (dnth hs 0)) (Int.toNat (IntKind.wrap Go.IntKind.i64 ((D.int (dnth xs 1)) + (D.int (dnth xs 4))))) (dset (xstSwapR0_2 hs xs) [] (dnth (D.list (dnth hs 0)) (Int.toNat (IntKind.wrap Go.IntKind.i64 ((D.int (dnth xs 2)) + (D.int (dnth xs 4))))))))
noncomputable def stSwapR0 (go : List D → List D → Option (Ex × List D × List D)) (hs xs : List D) : Option (Ex × List D × List D) :=
  bif (decide ((D.int (dnth xs 4)) < (D.int (dnth xs 3)))) then
    bif (xstSwapR0_0 hs xs) then
      bif (xstSwapR0_1 hs xs) then
        bif (xstSwapR0_1 hs xs) then
          bif (xstSwapR0_0 hs xs) then
            (go [(D.r (dput (xstSwapR0_3 hs xs) (Int.toNat (IntKind.wrap Go.IntKind.i64 ((D.int (dnth xs 2)) + (D.int (dnth xs 4))))) (dset (dnth (xstSwapR0_3 hs xs) (Int.toNat (IntKind.wrap Go.IntKind.i64 ((D.int (dnth xs 2)) + (D.int (dnth xs 4)))))) [] (xstSwapR0_2 hs xs))))] [(D.r []), (D.i (D.int (dnth xs 1))), (D.i (D.int (dnth xs 2))), (D.i (D.int (dnth xs 3))), (D.i (IntKind.wrap Go.IntKind.i64 ((D.int (dnth xs 4)) + (1 : Int))))])
          else (Option.none)
        else (Option.none)
      else (Option.none)
    else (Option.none)
  else (Option.some ((Ex.exit 0), ([(D.r (D.list (dnth hs 0)))], [])))
theorem evstSwapR0 (go : List D → List D → Option (Ex × List D × List D)) (hs xs : List D) : stepOf (ESwapR) (vlen sgSwapR.heap) (loopN (bodyOf Try.f65) 0) liSwapR0 go hs xs = stSwapR0 go hs xs := by kernel_rfl

noncomputable def xmRotate_0 (hs : List D) (xs : List D) : List D × Nat :=
  (rotGo (Int.toNat (D.int (dnth xs 2))) ((Int.toNat (IntKind.wrap Go.IntKind.i64 ((D.int (dnth xs 2)) - (D.int (dnth xs 1))))) + (Int.toNat (IntKind.wrap Go.IntKind.i64 ((D.int (dnth xs 3)) - (D.int (dnth xs 2)))))) (Int.toNat (IntKind.wrap Go.IntKind.i64 ((D.int (dnth xs 2)) - (D.int (dnth xs 1))))) (Int.toNat (IntKind.wrap Go.IntKind.i64 ((D.int (dnth xs 3)) - (D.int (dnth xs 2))))) (D.list (dnth hs 0)))
noncomputable def xmRotate_1 (hs : List D) (xs : List D) : List D :=
  ((xmRotate_0 hs xs)).1
noncomputable def xmRotate_2 (hs : List D) (xs : List D) : Int :=
  (Int.ofNat ((xmRotate_0 hs xs)).2)
noncomputable def xmRotate_3 (hs : List D) (xs : List D) : Int :=
  (IntKind.wrap Go.IntKind.i64 ((D.int (dnth xs 2)) - (xmRotate_2 hs xs)))
noncomputable def mRotate (hs xs : List D) : Option (List D × List D) :=
  bif (rotAt (List.length (D.list (dnth hs 0))) (D.int (dnth xs 2)) (IntKind.wrap Go.IntKind.i64 ((D.int (dnth xs 2)) - (D.int (dnth xs 1)))) (IntKind.wrap Go.IntKind.i64 ((D.int (dnth xs 3)) - (D.int (dnth xs 2))))) then
    bif (swapOK (List.length (xmRotate_1 hs xs)) (xmRotate_3 hs xs) (D.int (dnth xs 2)) (xmRotate_2 hs xs)) then
      (Option.some ([(D.r (swapR (xmRotate_1 hs xs) (Int.toNat (xmRotate_3 hs xs)) (Int.toNat (D.int (dnth xs 2))) (Int.toNat (xmRotate_2 hs xs))))], []))
    else (Option.none)
  else (Option.none)
theorem evRotate (hs xs : List D) : evF (ERotate) Try.f64 sgRotate hs xs = mRotate hs xs := by kernel_rfl

noncomputable def xstRotate0_0 (xs : List D) : Int :=
  (IntKind.wrap Go.IntKind.i64 ((IntKind.wrap Go.IntKind.i64 ((D.int (dnth xs 1)) + (D.int (dnth xs 4)))) - (D.int (dnth xs 3))))
noncomputable def stRotate0 (go : List D → List D → Option (Ex × List D × List D)) (hs xs : List D) : Option (Ex × List D × List D) :=
  bif (!(decide ((D.int (dnth xs 3)) = (D.int (dnth xs 4))))) then
    bif (decide ((D.int (dnth xs 4)) < (D.int (dnth xs 3)))) then
      bif (swapOK (List.length (D.list (dnth hs 0))) (IntKind.wrap Go.IntKind.i64 ((D.int (dnth xs 1)) - (D.int (dnth xs 3)))) (D.int (dnth xs 1)) (D.int (dnth xs 4))) then
        (go [(D.r (swapR (D.list (dnth hs 0)) (Int.toNat (IntKind.wrap Go.IntKind.i64 ((D.int (dnth xs 1)) - (D.int (dnth xs 3))))) (Int.toNat (D.int (dnth xs 1))) (Int.toNat (D.int (dnth xs 4)))))] [(D.r []), (D.i (D.int (dnth xs 1))), (D.r []), (D.i (IntKind.wrap Go.IntKind.i64 ((D.int (dnth xs 3)) - (D.int (dnth xs 4))))), (D.i (D.int (dnth xs 4)))])
      else (Option.none)
    else bif (swapOK (List.length (D.list (dnth hs 0))) (IntKind.wrap Go.IntKind.i64 ((D.int (dnth xs 1)) - (D.int (dnth xs 3)))) (xstRotate0_0 xs) (D.int (dnth xs 3))) then
      (go [(D.r (swapR (D.list (dnth hs 0)) (Int.toNat (IntKind.wrap Go.IntKind.i64 ((D.int (dnth xs 1)) - (D.int (dnth xs 3))))) (Int.toNat (xstRotate0_0 xs)) (Int.toNat (D.int (dnth xs 3)))))] [(D.r []), (D.i (D.int (dnth xs 1))), (D.r []), (D.i (D.int (dnth xs 3))), (D.i (IntKind.wrap Go.IntKind.i64 ((D.int (dnth xs 4)) - (D.int (dnth xs 3)))))])
    else (Option.none)
  else (Option.some ((Ex.exit 0), ([(D.r (D.list (dnth hs 0)))], [(D.r []), (D.i (D.int (dnth xs 1))), (D.r []), (D.i (D.int (dnth xs 3)))])))
theorem evstRotate0 (go : List D → List D → Option (Ex × List D × List D)) (hs xs : List D) : stepOf (ERotate) (vlen sgRotate.heap) (loopN (bodyOf Try.f64) 0) liRotate0 go hs xs = stRotate0 go hs xs := by kernel_rfl

noncomputable def xmSymN_0 (hs : List D) (xs : List D) : Int :=
  (Int.ofNat (halve (fun h => (decide ((pId (dnth (D.list (dnth hs 0)) h)) < (pId (dnth (D.list (dnth hs 0)) (Int.toNat (D.int (dnth xs 1)))))))) (Int.toNat ((D.int (dnth xs 3)) - (D.int (dnth xs 2)))) (Int.toNat (D.int (dnth xs 2))) (Int.toNat (D.int (dnth xs 3)))))
noncomputable def xmSymN_1 (hs : List D) (xs : List D) : Bool :=
  (inRow (List.length (D.list (dnth hs 0))) (D.int (dnth xs 1)) (D.int (dnth xs 2)))
noncomputable def xmSymN_2 (xs : List D) : Int :=
  (IntKind.wrap Go.IntKind.i64 (ishr Go.IntKind.u64 (IntKind.wrap Go.IntKind.u64 (IntKind.wrap Go.IntKind.i64 ((D.int (dnth xs 1)) + (D.int (dnth xs 3))))) (1 : Int)))
noncomputable def xmSymN_3 (xs : List D) : Int :=
  (IntKind.wrap Go.IntKind.i64 ((xmSymN_2 xs) + (D.int (dnth xs 2))))
noncomputable def xmSymN_4 (xs : List D) : Int :=
  (IntKind.wrap Go.IntKind.i64 ((xmSymN_3 xs) - (D.int (dnth xs 3))))
noncomputable def xmSymN_5 (xs : List D) : Int :=
  (IntKind.wrap Go.IntKind.i64 ((xmSymN_3 xs) - (1 : Int)))
noncomputable def xmSymN_6 (xs : List D) : Int :=
  ((xmSymN_5 xs) + (1 : Int))
noncomputable def xmSymN_7 (xs : List D) : Nat :=
  (Int.toNat (xmSymN_2 xs))
noncomputable def xmSymN_8 (hs : List D) (xs : List D) : Int :=
  (Int.ofNat (halve (fun c => (!(decide ((pId (dnth (D.list (dnth hs 0)) (Int.toNat ((xmSymN_5 xs) - (Int.ofNat c))))) < (pId (dnth (D.list (dnth hs 0)) c)))))) (Int.toNat ((xmSymN_2 xs) - (xmSymN_4 xs))) (Int.toNat (xmSymN_4 xs)) (xmSymN_7 xs)))
noncomputable def xmSymN_9 (hs : List D) (xs : List D) : Int :=
  (IntKind.wrap Go.IntKind.i64 ((xmSymN_3 xs) - (xmSymN_8 hs xs)))
noncomputable def xmSymN_10 (hs : List D) (xs : List D) : Bool :=
  (decide ((D.int (dnth xs 1)) < (xmSymN_8 hs xs)))
noncomputable def xmSymN_11 (hs : List D) (xs : List D) : Bool :=
  (decide ((xmSymN_8 hs xs) < (xmSymN_2 xs)))
noncomputable def xmSymN_12 (hs : List D) (xs : List D) : Nat :=
  (Int.toNat (xmSymN_8 hs xs))
noncomputable def xmSymN_13 (hs : List D) (xs : List D) : Nat :=
  (Int.toNat (xmSymN_9 hs xs))
noncomputable def xmSymN_14 (hs : List D) (xs : List D) : List D :=
  (rotR (D.list (dnth hs 0)) (xmSymN_12 hs xs) (Int.toNat (D.int (dnth xs 2))) (xmSymN_13 hs xs))
noncomputable def xmSymN_15 (bd : Nat) (hs : List D) (xs : List D) : Bool :=
  (decide ((Int.toNat ((xmSymN_2 xs) - (D.int (dnth xs 1)))) < bd))
noncomputable def xmSymN_16 (hs : List D) (xs : List D) : Bool :=
  (decide ((xmSymN_2 xs) < (xmSymN_9 hs xs)))
noncomputable def xmSymN_17 (hs : List D) (xs : List D) : Bool :=
  (decide ((xmSymN_9 hs xs) < (D.int (dnth xs 3))))
noncomputable def xmSymN_18 (hs : List D) (xs : List D) : List D :=
  (symR (xmSymN_14 hs xs) (Int.toNat (D.int (dnth xs 1))) (xmSymN_12 hs xs) (xmSymN_7 xs))
noncomputable def xmSymN_19 (bd : Nat) (hs : List D) (xs : List D) : Bool :=
  (decide ((Int.toNat ((D.int (dnth xs 3)) - (xmSymN_2 xs))) < bd))
noncomputable def xmSymN_20 (hs : List D) (xs : List D) : Option (List D × List D) :=
  (Option.some ([(D.r (xmSymN_18 hs xs))], []))
noncomputable def xmSymN_21 (hs : List D) (xs : List D) : Option (List D × List D) :=
  (Option.some ([(D.r (xmSymN_14 hs xs))], []))
noncomputable def xmSymN_22 (bd : Nat) (hs : List D) (xs : List D) : Option (List D × List D) :=
  bif (xmSymN_16 hs xs) then
    bif (xmSymN_17 hs xs) then
      bif ((symOK (xmSymN_14 hs xs) (xmSymN_2 xs) (xmSymN_9 hs xs) (D.int (dnth xs 3))) && (xmSymN_19 bd hs xs)) then
        (Option.some ([(D.r (symR (xmSymN_14 hs xs) (xmSymN_7 xs) (xmSymN_13 hs xs) (Int.toNat (D.int (dnth xs 3)))))], []))
      else (Option.none)
    else (xmSymN_21 hs xs)
  else (xmSymN_21 hs xs)
noncomputable def xmSymN_23 (hs : List D) (xs : List D) : List D :=
  (symR (D.list (dnth hs 0)) (Int.toNat (D.int (dnth xs 1))) (xmSymN_12 hs xs) (xmSymN_7 xs))
noncomputable def xmSymN_24 (hs : List D) (xs : List D) : Option (List D × List D) :=
  (Option.some ([(D.r (xmSymN_23 hs xs))], []))
noncomputable def xmSymN_25 (bd : Nat) (hs : List D) (xs : List D) : Option (List D × List D) :=
  bif (xmSymN_16 hs xs) then
    bif (xmSymN_17 hs xs) then
      bif ((symOK (D.list (dnth hs 0)) (xmSymN_2 xs) (xmSymN_9 hs xs) (D.int (dnth xs 3))) && (xmSymN_19 bd hs xs)) then
        (Option.some ([(D.r (symR (D.list (dnth hs 0)) (xmSymN_7 xs) (xmSymN_13 hs xs) (Int.toNat (D.int (dnth xs 3)))))], []))
      else (Option.none)
    else (Option.some ([(D.r (D.list (dnth hs 0)))], []))
  else (Option.some ([(D.r (D.list (dnth hs 0)))], []))
noncomputable def xmSymN_26 (bd : Nat) (hs : List D) (xs : List D) : Option (List D × List D) :=
  bif (xmSymN_10 hs xs) then
    bif (xmSymN_11 hs xs) then
      bif ((symOK (D.list (dnth hs 0)) (D.int (dnth xs 1)) (xmSymN_8 hs xs) (xmSymN_2 xs)) && (xmSymN_15 bd hs xs)) then
        bif (xmSymN_16 hs xs) then
          bif (xmSymN_17 hs xs) then
            bif ((symOK (xmSymN_23 hs xs) (xmSymN_2 xs) (xmSymN_9 hs xs) (D.int (dnth xs 3))) && (xmSymN_19 bd hs xs)) then
              (Option.some ([(D.r (symR (xmSymN_23 hs xs) (xmSymN_7 xs) (xmSymN_13 hs xs) (Int.toNat (D.int (dnth xs 3)))))], []))
            else (Option.none)
          else (xmSymN_24 hs xs)
        else (xmSymN_24 hs xs)
      else (Option.none)
    else (xmSymN_25 bd hs xs)
  else (xmSymN_25 bd hs xs)
noncomputable def xmSymN_27 (hs : List D) (xs : List D) : Int :=
  (Int.ofNat (halve (fun c => (!(decide ((pId (dnth (D.list (dnth hs 0)) (Int.toNat ((xmSymN_5 xs) - (Int.ofNat c))))) < (pId (dnth (D.list (dnth hs 0)) c)))))) (Int.toNat ((D.int (dnth xs 2)) - (D.int (dnth xs 1)))) (Int.toNat (D.int (dnth xs 1))) (Int.toNat (D.int (dnth xs 2)))))
noncomputable def xmSymN_28 (hs : List D) (xs : List D) : Int :=
  (IntKind.wrap Go.IntKind.i64 ((xmSymN_3 xs) - (xmSymN_27 hs xs)))
noncomputable def xmSymN_29 (hs : List D) (xs : List D) : Bool :=
  (decide ((D.int (dnth xs 1)) < (xmSymN_27 hs xs)))
noncomputable def xmSymN_30 (hs : List D) (xs : List D) : Bool :=
  (decide ((xmSymN_27 hs xs) < (xmSymN_2 xs)))
noncomputable def xmSymN_31 (hs : List D) (xs : List D) : Nat :=
  (Int.toNat (xmSymN_27 hs xs))
noncomputable def xmSymN_32 (hs : List D) (xs : List D) : Nat :=
  (Int.toNat (xmSymN_28 hs xs))
noncomputable def xmSymN_33 (hs : List D) (xs : List D) : List D :=
  (rotR (D.list (dnth hs 0)) (xmSymN_31 hs xs) (Int.toNat (D.int (dnth xs 2))) (xmSymN_32 hs xs))
noncomputable def xmSymN_34 (bd : Nat) (hs : List D) (xs : List D) : Bool :=
  (decide ((Int.toNat ((xmSymN_2 xs) - (D.int (dnth xs 1)))) < bd))
noncomputable def xmSymN_35 (hs : List D) (xs : List D) : Bool :=
  (decide ((xmSymN_2 xs) < (xmSymN_28 hs xs)))
noncomputable def xmSymN_36 (hs : List D) (xs : List D) : Bool :=
  (decide ((xmSymN_28 hs xs) < (D.int (dnth xs 3))))
noncomputable def xmSymN_37 (hs : List D) (xs : List D) : List D :=
  (symR (xmSymN_33 hs xs) (Int.toNat (D.int (dnth xs 1))) (xmSymN_31 hs xs) (xmSymN_7 xs))
noncomputable def xmSymN_38 (bd : Nat) (hs : List D) (xs : List D) : Bool :=
  (decide ((Int.toNat ((D.int (dnth xs 3)) - (xmSymN_2 xs))) < bd))
noncomputable def xmSymN_39 (hs : List D) (xs : List D) : Option (List D × List D) :=
  (Option.some ([(D.r (xmSymN_37 hs xs))], []))
noncomputable def xmSymN_40 (hs : List D) (xs : List D) : Option (List D × List D) :=
  (Option.some ([(D.r (xmSymN_33 hs xs))], []))
noncomputable def xmSymN_41 (bd : Nat) (hs : List D) (xs : List D) : Option (List D × List D) :=
  bif (xmSymN_35 hs xs) then
    bif (xmSymN_36 hs xs) then
      bif ((symOK (xmSymN_33 hs xs) (xmSymN_2 xs) (xmSymN_28 hs xs) (D.int (dnth xs 3))) && (xmSymN_38 bd hs xs)) then
        (Option.some ([(D.r (symR (xmSymN_33 hs xs) (xmSymN_7 xs) (xmSymN_32 hs xs) (Int.toNat (D.int (dnth xs 3)))))], []))
      else (Option.none)
    else (xmSymN_40 hs xs)
  else (xmSymN_40 hs xs)
noncomputable def xmSymN_42 (hs : List D) (xs : List D) : List D :=
  (symR (D.list (dnth hs 0)) (Int.toNat (D.int (dnth xs 1))) (xmSymN_31 hs xs) (xmSymN_7 xs))
noncomputable def xmSymN_43 (hs : List D) (xs : List D) : Option (List D × List D) :=
  (Option.some ([(D.r (xmSymN_42 hs xs))], []))
noncomputable def xmSymN_44 (bd : Nat) (hs : List D) (xs : List D) : Option (List D × List D) :=
  bif (xmSymN_35 hs xs) then
    bif (xmSymN_36 hs xs) then
      bif ((symOK (D.list (dnth hs 0)) (xmSymN_2 xs) (xmSymN_28 hs xs) (D.int (dnth xs 3))) && (xmSymN_38 bd hs xs)) then
        (Option.some ([(D.r (symR (D.list (dnth hs 0)) (xmSymN_7 xs) (xmSymN_32 hs xs) (Int.toNat (D.int (dnth xs 3)))))], []))
      else (Option.none)
    else (Option.some ([(D.r (D.list (dnth hs 0)))], []))
  else (Option.some ([(D.r (D.list (dnth hs 0)))], []))
noncomputable def xmSymN_45 (bd : Nat) (hs : List D) (xs : List D) : Option (List D × List D) :=
  bif (xmSymN_29 hs xs) then
    bif (xmSymN_30 hs xs) then
      bif ((symOK (D.list (dnth hs 0)) (D.int (dnth xs 1)) (xmSymN_27 hs xs) (xmSymN_2 xs)) && (xmSymN_34 bd hs xs)) then
        bif (xmSymN_35 hs xs) then
          bif (xmSymN_36 hs xs) then
            bif ((symOK (xmSymN_42 hs xs) (xmSymN_2 xs) (xmSymN_28 hs xs) (D.int (dnth xs 3))) && (xmSymN_38 bd hs xs)) then
              (Option.some ([(D.r (symR (xmSymN_42 hs xs) (xmSymN_7 xs) (xmSymN_32 hs xs) (Int.toNat (D.int (dnth xs 3)))))], []))
            else (Option.none)
          else (xmSymN_43 hs xs)
        else (xmSymN_43 hs xs)
      else (Option.none)
    else (xmSymN_44 bd hs xs)
  else (xmSymN_44 bd hs xs)
noncomputable def mSymN (bd : Nat) (hs xs : List D) : Option (List D × List D) :=
  bif (decide ((IntKind.wrap Go.IntKind.i64 ((D.int (dnth xs 2)) - (D.int (dnth xs 1)))) = (1 : Int))) then
    bif (((inRow (List.length (D.list (dnth hs 0))) (D.int (dnth xs 2)) (D.int (dnth xs 3))) && (decide ((0 : Int) ≤ (D.int (dnth xs 1))))) && (decide ((D.int (dnth xs 1)) < (Int.ofNat (List.length (D.list (dnth hs 0))))))) then
      bif (((decide ((0 : Int) ≤ (D.int (dnth xs 1)))) && Bool.true) && (decide ((xmSymN_0 hs xs) ≤ (Int.ofNat (List.length (D.list (dnth hs 0))))))) then
        (Option.some ([(D.r (walkUp (Int.toNat (((xmSymN_0 hs xs) - (1 : Int)) - (D.int (dnth xs 1)))) (Int.toNat (D.int (dnth xs 1))) (D.list (dnth hs 0))))], []))
      else (Option.none)
    else (Option.none)
  else bif (decide ((IntKind.wrap Go.IntKind.i64 ((D.int (dnth xs 3)) - (D.int (dnth xs 2)))) = (1 : Int))) then
    bif (((xmSymN_1 hs xs) && (decide ((0 : Int) ≤ (D.int (dnth xs 2))))) && (decide ((D.int (dnth xs 2)) < (Int.ofNat (List.length (D.list (dnth hs 0))))))) then
      bif (decide ((D.int (dnth xs 2)) < (Int.ofNat (List.length (D.list (dnth hs 0)))))) then
        (Option.some ([(D.r (walkDown (Int.toNat ((D.int (dnth xs 2)) - (Int.ofNat (halve (fun h => (!(decide ((pId (dnth (D.list (dnth hs 0)) (Int.toNat (D.int (dnth xs 2))))) < (pId (dnth (D.list (dnth hs 0)) h)))))) (Int.toNat ((D.int (dnth xs 2)) - (D.int (dnth xs 1)))) (Int.toNat (D.int (dnth xs 1))) (Int.toNat (D.int (dnth xs 2))))))) (Int.toNat (D.int (dnth xs 2))) (D.list (dnth hs 0))))], []))
      else (Option.none)
    else (Option.none)
  else bif (decide ((xmSymN_2 xs) < (D.int (dnth xs 2)))) then
    bif (((inRow (List.length (D.list (dnth hs 0))) (xmSymN_4 xs) (xmSymN_2 xs)) && (decide ((xmSymN_2 xs) ≤ (xmSymN_6 xs)))) && (decide (((xmSymN_5 xs) - (xmSymN_4 xs)) < (Int.ofNat (List.length (D.list (dnth hs 0))))))) then
      bif (decide ((xmSymN_8 hs xs) < (D.int (dnth xs 2)))) then
        bif (decide ((D.int (dnth xs 2)) < (xmSymN_9 hs xs))) then
          bif (rotOK (List.length (D.list (dnth hs 0))) (xmSymN_8 hs xs) (D.int (dnth xs 2)) (xmSymN_9 hs xs)) then
            bif (xmSymN_10 hs xs) then
              bif (xmSymN_11 hs xs) then
                bif ((symOK (xmSymN_14 hs xs) (D.int (dnth xs 1)) (xmSymN_8 hs xs) (xmSymN_2 xs)) && (xmSymN_15 bd hs xs)) then
                  bif (xmSymN_16 hs xs) then
                    bif (xmSymN_17 hs xs) then
                      bif ((symOK (xmSymN_18 hs xs) (xmSymN_2 xs) (xmSymN_9 hs xs) (D.int (dnth xs 3))) && (xmSymN_19 bd hs xs)) then
                        (Option.some ([(D.r (symR (xmSymN_18 hs xs) (xmSymN_7 xs) (xmSymN_13 hs xs) (Int.toNat (D.int (dnth xs 3)))))], []))
                      else (Option.none)
                    else (xmSymN_20 hs xs)
                  else (xmSymN_20 hs xs)
                else (Option.none)
              else (xmSymN_22 bd hs xs)
            else (xmSymN_22 bd hs xs)
          else (Option.none)
        else (xmSymN_26 bd hs xs)
      else (xmSymN_26 bd hs xs)
    else (Option.none)
  else bif (((xmSymN_1 hs xs) && (decide ((D.int (dnth xs 2)) ≤ (xmSymN_6 xs)))) && (decide (((xmSymN_5 xs) - (D.int (dnth xs 1))) < (Int.ofNat (List.length (D.list (dnth hs 0))))))) then
    bif (decide ((xmSymN_27 hs xs) < (D.int (dnth xs 2)))) then
      bif (decide ((D.int (dnth xs 2)) < (xmSymN_28 hs xs))) then
        bif (rotOK (List.length (D.list (dnth hs 0))) (xmSymN_27 hs xs) (D.int (dnth xs 2)) (xmSymN_28 hs xs)) then
          bif (xmSymN_29 hs xs) then
            bif (xmSymN_30 hs xs) then
              bif ((symOK (xmSymN_33 hs xs) (D.int (dnth xs 1)) (xmSymN_27 hs xs) (xmSymN_2 xs)) && (xmSymN_34 bd hs xs)) then
                bif (xmSymN_35 hs xs) then
                  bif (xmSymN_36 hs xs) then
                    bif ((symOK (xmSymN_37 hs xs) (xmSymN_2 xs) (xmSymN_28 hs xs) (D.int (dnth xs 3))) && (xmSymN_38 bd hs xs)) then
                      (Option.some ([(D.r (symR (xmSymN_37 hs xs) (xmSymN_7 xs) (xmSymN_32 hs xs) (Int.toNat (D.int (dnth xs 3)))))], []))
                    else (Option.none)
                  else (xmSymN_39 hs xs)
                else (xmSymN_39 hs xs)
              else (Option.none)
            else (xmSymN_41 bd hs xs)
          else (xmSymN_41 bd hs xs)
        else (Option.none)
      else (xmSymN_45 bd hs xs)
    else (xmSymN_45 bd hs xs)
  else (Option.none)
theorem evSymN (bd : Nat) (hs xs : List D) : evF (ESymN bd) Try.f63 sgSym hs xs = mSymN bd hs xs := by kernel_rfl

noncomputable def xstSym0_0 (xs : List D) : Int :=
  (IntKind.wrap Go.IntKind.i64 (ishr Go.IntKind.u64 (IntKind.wrap Go.IntKind.u64 (IntKind.wrap Go.IntKind.i64 ((D.int (dnth xs 3)) + (D.int (dnth xs 4))))) (1 : Int)))
noncomputable def stSym0 (bd : Nat) (go : List D → List D → Option (Ex × List D × List D)) (hs xs : List D) : Option (Ex × List D × List D) :=
  bif (decide ((D.int (dnth xs 3)) < (D.int (dnth xs 4)))) then
    bif ((decide ((0 : Int) ≤ (xstSym0_0 xs))) && (decide ((xstSym0_0 xs) < (Int.ofNat (List.length (D.list (dnth hs 0))))))) then
      bif ((decide ((0 : Int) ≤ (D.int (dnth xs 1)))) && (decide ((D.int (dnth xs 1)) < (Int.ofNat (List.length (D.list (dnth hs 0))))))) then
        bif (decide ((cmpI (pId (dnth (D.list (dnth hs 0)) (Int.toNat (xstSym0_0 xs)))) (pId (dnth (D.list (dnth hs 0)) (Int.toNat (D.int (dnth xs 1)))))) < (0 : Int))) then
          (go [(D.r (D.list (dnth hs 0)))] [(D.r []), (D.i (D.int (dnth xs 1))), (D.r []), (D.i (IntKind.wrap Go.IntKind.i64 ((xstSym0_0 xs) + (1 : Int)))), (D.i (D.int (dnth xs 4)))])
        else (go [(D.r (D.list (dnth hs 0)))] [(D.r []), (D.i (D.int (dnth xs 1))), (D.r []), (D.i (D.int (dnth xs 3))), (D.i (xstSym0_0 xs))])
      else (Option.none)
    else (Option.none)
  else (Option.some ((Ex.exit 0), ([(D.r (D.list (dnth hs 0)))], [(D.r []), (D.i (D.int (dnth xs 1))), (D.i (D.int (dnth xs 3)))])))
theorem evstSym0 (bd : Nat) (go : List D → List D → Option (Ex × List D × List D)) (hs xs : List D) : stepOf (ESymN bd) (vlen sgSym.heap) (loopN (bodyOf Try.f63) 0) liSym0 go hs xs = stSym0 bd go hs xs := by kernel_rfl

noncomputable def xstSym1_0 (hs : List D) (xs : List D) : Bool :=
  ((decide ((0 : Int) ≤ (IntKind.wrap Go.IntKind.i64 ((D.int (dnth xs 2)) + (1 : Int))))) && (decide ((IntKind.wrap Go.IntKind.i64 ((D.int (dnth xs 2)) + (1 : Int))) < (Int.ofNat (List.length (D.list (dnth hs 0)))))))
noncomputable def xstSym1_1 (hs : List D) (xs : List D) : Bool :=
  ((decide ((0 : Int) ≤ (D.int (dnth xs 2)))) && (decide ((D.int (dnth xs 2)) < (Int.ofNat (List.length (D.list (dnth hs 0)))))))
noncomputable def xstSym1_2 (hs : List D) (xs : List D) : List D :=
  (dput (D.list (dnth hs 0)) (Int.toNat (D.int (dnth xs 2))) (dset (dnth (D.list (dnth hs 0)) (Int.toNat (D.int (dnth xs 2)))) [] (dnth (D.list (dnth hs 0)) (Int.toNat (IntKind.wrap Go.IntKind.i64 ((D.int (dnth xs 2)) + (1 : Int)))))))
noncomputable def stSym1 (bd : Nat) (go : List D → List D → Option (Ex × List D × List D)) (hs xs : List D) : Option (Ex × List D × List D) :=
  bif (decide ((D.int (dnth xs 2)) < (IntKind.wrap Go.IntKind.i64 ((D.int (dnth xs 1)) - (1 : Int))))) then
    bif (xstSym1_0 hs xs) then
      bif (xstSym1_1 hs xs) then
        bif (xstSym1_1 hs xs) then
          bif (xstSym1_0 hs xs) then
            (go [(D.r (dput (xstSym1_2 hs xs) (Int.toNat (IntKind.wrap Go.IntKind.i64 ((D.int (dnth xs 2)) + (1 : Int)))) (dset (dnth (xstSym1_2 hs xs) (Int.toNat (IntKind.wrap Go.IntKind.i64 ((D.int (dnth xs 2)) + (1 : Int))))) [] (dnth (D.list (dnth hs 0)) (Int.toNat (D.int (dnth xs 2)))))))] [(D.r []), (D.i (D.int (dnth xs 1))), (D.i (IntKind.wrap Go.IntKind.i64 ((D.int (dnth xs 2)) + (1 : Int))))])
          else (Option.none)
        else (Option.none)
      else (Option.none)
    else (Option.none)
  else (Option.some ((Ex.exit 2), ([(D.r (D.list (dnth hs 0)))], [])))
theorem evstSym1 (bd : Nat) (go : List D → List D → Option (Ex × List D × List D)) (hs xs : List D) : stepOf (ESymN bd) (vlen sgSym.heap) (loopN (bodyOf Try.f63) 1) liSym1 go hs xs = stSym1 bd go hs xs := by kernel_rfl

noncomputable def xstSym2_0 (xs : List D) : Int :=
  (IntKind.wrap Go.IntKind.i64 (ishr Go.IntKind.u64 (IntKind.wrap Go.IntKind.u64 (IntKind.wrap Go.IntKind.i64 ((D.int (dnth xs 3)) + (D.int (dnth xs 4))))) (1 : Int)))
noncomputable def stSym2 (bd : Nat) (go : List D → List D → Option (Ex × List D × List D)) (hs xs : List D) : Option (Ex × List D × List D) :=
  bif (decide ((D.int (dnth xs 3)) < (D.int (dnth xs 4)))) then
    bif ((decide ((0 : Int) ≤ (D.int (dnth xs 1)))) && (decide ((D.int (dnth xs 1)) < (Int.ofNat (List.length (D.list (dnth hs 0))))))) then
      bif ((decide ((0 : Int) ≤ (xstSym2_0 xs))) && (decide ((xstSym2_0 xs) < (Int.ofNat (List.length (D.list (dnth hs 0))))))) then
        bif (!(decide ((cmpI (pId (dnth (D.list (dnth hs 0)) (Int.toNat (D.int (dnth xs 1))))) (pId (dnth (D.list (dnth hs 0)) (Int.toNat (xstSym2_0 xs))))) < (0 : Int)))) then
          (go [(D.r (D.list (dnth hs 0)))] [(D.r []), (D.i (D.int (dnth xs 1))), (D.r []), (D.i (IntKind.wrap Go.IntKind.i64 ((xstSym2_0 xs) + (1 : Int)))), (D.i (D.int (dnth xs 4)))])
        else (go [(D.r (D.list (dnth hs 0)))] [(D.r []), (D.i (D.int (dnth xs 1))), (D.r []), (D.i (D.int (dnth xs 3))), (D.i (xstSym2_0 xs))])
      else (Option.none)
    else (Option.none)
  else (Option.some ((Ex.exit 4), ([(D.r (D.list (dnth hs 0)))], [(D.r []), (D.i (D.int (dnth xs 1))), (D.i (D.int (dnth xs 3)))])))
theorem evstSym2 (bd : Nat) (go : List D → List D → Option (Ex × List D × List D)) (hs xs : List D) : stepOf (ESymN bd) (vlen sgSym.heap) (loopN (bodyOf Try.f63) 2) liSym2 go hs xs = stSym2 bd go hs xs := by kernel_rfl

noncomputable def xstSym3_0 (hs : List D) (xs : List D) : Bool :=
  ((decide ((0 : Int) ≤ (IntKind.wrap Go.IntKind.i64 ((D.int (dnth xs 2)) - (1 : Int))))) && (decide ((IntKind.wrap Go.IntKind.i64 ((D.int (dnth xs 2)) - (1 : Int))) < (Int.ofNat (List.length (D.list (dnth hs 0)))))))
noncomputable def xstSym3_1 (hs : List D) (xs : List D) : Bool :=
  ((decide ((0 : Int) ≤ (D.int (dnth xs 2)))) && (decide ((D.int (dnth xs 2)) < (Int.ofNat (List.length (D.list (dnth hs 0)))))))
noncomputable def xstSym3_2 (hs : List D) (xs : List D) : List D :=
  (dput (D.list (dnth hs 0)) (Int.toNat (D.int (dnth xs 2))) (dset (dnth (D.list (dnth hs 0)) (Int.toNat (D.int (dnth xs 2)))) [] (dnth (D.list (dnth hs 0)) (Int.toNat (IntKind.wrap Go.IntKind.i64 ((D.int (dnth xs 2)) - (1 : Int)))))))
noncomputable def stSym3 (bd : Nat) (go : List D → List D → Option (Ex × List D × List D)) (hs xs : List D) : Option (Ex × List D × List D) :=
  bif (decide ((D.int (dnth xs 1)) < (D.int (dnth xs 2)))) then
    bif (xstSym3_0 hs xs) then
      bif (xstSym3_1 hs xs) then
        bif (xstSym3_1 hs xs) then
          bif (xstSym3_0 hs xs) then
            (go [(D.r (dput (xstSym3_2 hs xs) (Int.toNat (IntKind.wrap Go.IntKind.i64 ((D.int (dnth xs 2)) - (1 : Int)))) (dset (dnth (xstSym3_2 hs xs) (Int.toNat (IntKind.wrap Go.IntKind.i64 ((D.int (dnth xs 2)) - (1 : Int))))) [] (dnth (D.list (dnth hs 0)) (Int.toNat (D.int (dnth xs 2)))))))] [(D.r []), (D.i (D.int (dnth xs 1))), (D.i (IntKind.wrap Go.IntKind.i64 ((D.int (dnth xs 2)) - (1 : Int))))])
          else (Option.none)
        else (Option.none)
      else (Option.none)
    else (Option.none)
  else (Option.some ((Ex.exit 6), ([(D.r (D.list (dnth hs 0)))], [])))
theorem evstSym3 (bd : Nat) (go : List D → List D → Option (Ex × List D × List D)) (hs xs : List D) : stepOf (ESymN bd) (vlen sgSym.heap) (loopN (bodyOf Try.f63) 3) liSym3 go hs xs = stSym3 bd go hs xs := by kernel_rfl

noncomputable def xstSym4_0 (xs : List D) : Int :=
  (IntKind.wrap Go.IntKind.i64 (ishr Go.IntKind.u64 (IntKind.wrap Go.IntKind.u64 (IntKind.wrap Go.IntKind.i64 ((D.int (dnth xs 7)) + (D.int (dnth xs 8))))) (1 : Int)))
noncomputable def xstSym4_1 (xs : List D) : Int :=
  (IntKind.wrap Go.IntKind.i64 ((D.int (dnth xs 9)) - (xstSym4_0 xs)))
noncomputable def stSym4 (bd : Nat) (go : List D → List D → Option (Ex × List D × List D)) (hs xs : List D) : Option (Ex × List D × List D) :=
  bif (decide ((D.int (dnth xs 7)) < (D.int (dnth xs 8)))) then
    bif ((decide ((0 : Int) ≤ (xstSym4_1 xs))) && (decide ((xstSym4_1 xs) < (Int.ofNat (List.length (D.list (dnth hs 0))))))) then
      bif ((decide ((0 : Int) ≤ (xstSym4_0 xs))) && (decide ((xstSym4_0 xs) < (Int.ofNat (List.length (D.list (dnth hs 0))))))) then
        bif (!(decide ((cmpI (pId (dnth (D.list (dnth hs 0)) (Int.toNat (xstSym4_1 xs)))) (pId (dnth (D.list (dnth hs 0)) (Int.toNat (xstSym4_0 xs))))) < (0 : Int)))) then
          (go [(D.r (D.list (dnth hs 0)))] [(D.r []), (D.i (D.int (dnth xs 1))), (D.i (D.int (dnth xs 2))), (D.i (D.int (dnth xs 3))), (D.r []), (D.i (D.int (dnth xs 5))), (D.i (D.int (dnth xs 6))), (D.i (IntKind.wrap Go.IntKind.i64 ((xstSym4_0 xs) + (1 : Int)))), (D.i (D.int (dnth xs 8))), (D.i (D.int (dnth xs 9)))])
        else (go [(D.r (D.list (dnth hs 0)))] [(D.r []), (D.i (D.int (dnth xs 1))), (D.i (D.int (dnth xs 2))), (D.i (D.int (dnth xs 3))), (D.r []), (D.i (D.int (dnth xs 5))), (D.i (D.int (dnth xs 6))), (D.i (D.int (dnth xs 7))), (D.i (xstSym4_0 xs)), (D.i (D.int (dnth xs 9)))])
      else (Option.none)
    else (Option.none)
  else (Option.some ((Ex.exit 8), ([(D.r (D.list (dnth hs 0)))], [(D.r []), (D.i (D.int (dnth xs 1))), (D.i (D.int (dnth xs 2))), (D.i (D.int (dnth xs 3))), (D.r []), (D.i (D.int (dnth xs 5))), (D.i (D.int (dnth xs 6))), (D.i (D.int (dnth xs 7)))])))
theorem evstSym4 (bd : Nat) (go : List D → List D → Option (Ex × List D × List D)) (hs xs : List D) : stepOf (ESymN bd) (vlen sgSym.heap) (loopN (bodyOf Try.f63) 4) liSym4 go hs xs = stSym4 bd go hs xs := by kernel_rfl
end Go.Proofs.Ytkepijaabpkdbaa

/- What the evaluator makes of the sorting functions is what their definitions say: comparing, putting in, exchanging, turning. -/
namespace Go.Proofs.Ytkepijaabpkdbaa
open Go Go.Ev

theorem cmpI_neg (x y : Int) : decide (cmpI x y < 0) = decide (x < y) := by
  unfold cmpI
  by_cases h : x < y
  · simp [h]
  · by_cases h2 : y < x <;> simp [h, h2]

theorem phIsNaN (hs xs : List D) (r : List D × List D) (w : wfAll sgIsNaN.heap sgIsNaN.ins hs xs = true) (h : (phiIsNaN hs xs).val = some r) : mIsNaN hs xs = some r := by
  rw [← h]
  simp only [mIsNaN, decide_true, Bool.not_true]; rfl
theorem phCompare (hs xs : List D) (r : List D × List D) (w : wfAll sgCompare.heap sgCompare.ins hs xs = true) (h : (phiCompare hs xs).val = some r) : mCompare hs xs = some r := by
  rw [← h]
  simp only [mCompare, phiCompare, T.val, cmpI]
  cases decide ((dnth xs 0).int < (dnth xs 1).int) <;> cases decide ((dnth xs 1).int < (dnth xs 0).int) <;> rfl
theorem phById (hs xs : List D) (r : List D × List D) (w : wfAll sgById.heap sgById.ins hs xs = true) (h : (phiById hs xs).val = some r) : mById hs xs = some r := h

theorem i64_sub1 {n : Int} {len : Nat} (h0 : 0 < n) (h : n ≤ (len : Int)) (hl : len ≤ most) : IntKind.wrap .i64 (n - 1) = n - 1 := by
  rw [most_eq] at hl
  exact wrap_i64 (by omega) (by omega)

theorem jInsert1 : LoopJust EInsert (vlen sgInsert.heap) (loopN (bodyOf Try.f62) 1) liInsert1 := by
  refine loopJust_of (fun hs xs => (dnth xs 5).int.toNat) (by kernel_rfl) (by kernel_rfl) fun go hs xs p w h ih => ?_
  rw [evstInsert1]
  simp only [wf_loop, liInsert1, slotShapes, wfs_cons, wf_dat, wf_int, wf_bool, wf_str, wf_slice, wf_fn, wf_ref, wf_rall, wf_mref, wf_own, wf_agg, wf_rsub, wf_any, wfs_nil, wfh_cons, wfh_nil, wf_hmap, wf_hrow, wf_hbox, true_and] at w
  obtain ⟨⟨_, _, rfl, ⟨l, rfl, hl, _⟩, rfl⟩, d0, _, rfl, _, _, rfl, ⟨a, rfl, _⟩, _, _, rfl, ⟨b, rfl, _⟩, _, _, rfl, ⟨_, rfl, rfl⟩, _, _, rfl, ⟨i, rfl, _⟩, _, _, rfl, ⟨j, rfl, _⟩, rfl⟩ := w
  simp only [liInsert1, dnth_zero, dnth_succ, dnth_one, dnth_two, int_i, bool_b, str_s, list_r, f_r, rest, mapOf_ofMap] at h ih
  simp only [stInsert1, xstInsert1_0, xstInsert1_1, xstInsert1_2, xstInsert1_3, xstInsert1_4, dnth_zero, dnth_succ, dnth_one, dnth_two, int_i, bool_b, str_s, list_r, f_r, mapOf_ofMap]
  replace h := cond_fail h
  obtain ⟨hp, h⟩ := h
  simp only [insOK, Bool.and_eq_true, decide_eq_true_eq] at hp
  obtain ⟨⟨⟨⟨h1, h2⟩, h3⟩, h5⟩, h4⟩ := hp
  have hj0 : 0 ≤ j := by omega
  by_cases haj : a < j
  · have ew : IntKind.wrap .i64 (j - 1) = j - 1 := i64_sub1 (by omega) h3 hl
    have e1 : (0 : Int) ≤ j - 1 := by omega
    have e2 : j - 1 < (l.length : Int) := by omega
    simp only [haj, decide_true, cond_true, hj0, h4, Bool.and_self, Int.ofNat_eq_natCast, ew, e1, e2, cmpI_neg, dset_nil, pId]
    have ej : j.toNat = (j - 1).toNat + 1 := by omega
    have hb : insBack a.toNat j.toNat l = bif decide (pId (dnth l j.toNat) < pId (dnth l (j - 1).toNat)) then insBack a.toNat (j - 1).toNat (swapD l j.toNat (j - 1).toNat) else l := by
      rw [ej]
      have : a.toNat < (j - 1).toNat + 1 := by omega
      simp only [insBack, this, decide_true, Bool.true_and]
    rw [hb] at h
    by_cases hlt : pId (dnth l j.toNat) < pId (dnth l (j - 1).toNat)
    · have hlt' := hlt
      rw [decide_eq_true hlt, cond_true] at h
      rw [decide_eq_true hlt', cond_true]
      refine ih _ _ ?_ fun _ => cond_ok ?_ h
      · simp; omega
      · simp [insOK]; omega
    · have hlt' := hlt
      rw [decide_eq_false hlt, cond_false] at h
      rw [decide_eq_false hlt', cond_false]
      exact h
  · have : insBack a.toNat j.toNat l = l := by
      have : j.toNat = a.toNat := by omega
      rw [this]
      cases a.toNat <;> simp [insBack]
    rw [this] at h
    simp only [haj, decide_false, cond_false]
    exact h

@[simp] theorem swapD_length (xs : List D) (i j : Nat) : (swapD xs i j).length = xs.length := by simp [swapD]
@[simp] theorem insBack_length (a : Nat) : ∀ (j : Nat) (xs : List D), (insBack a j xs).length = xs.length
  | 0, _ => rfl
  | j + 1, xs => by
    simp only [insBack]
    cases (decide (a < j + 1) && decide (pId (dnth xs (j + 1)) < pId (dnth xs j)))
    · rfl
    · simp [insBack_length a j]

theorem jInsert0 : LoopJust EInsert (vlen sgInsert.heap) (loopN (bodyOf Try.f62) 0) liInsert0 := by
  refine loopJust_of (fun hs xs => ((dnth xs 2).int - (dnth xs 4).int).toNat) (by kernel_rfl) (by kernel_rfl) fun go hs xs p w h ih => ?_
  rw [evstInsert0]
  simp only [wf_loop, liInsert0, slotShapes, wfs_cons, wf_dat, wf_int, wf_bool, wf_str, wf_slice, wf_fn, wf_ref, wf_rall, wf_mref, wf_own, wf_agg, wf_rsub, wf_any, wfs_nil, wfh_cons, wfh_nil, wf_hmap, wf_hrow, wf_hbox, true_and] at w
  obtain ⟨⟨_, _, rfl, ⟨l, rfl, hl, _⟩, rfl⟩, d0, _, rfl, _, _, rfl, ⟨a, rfl, _⟩, _, _, rfl, ⟨b, rfl, _⟩, _, _, rfl, ⟨_, rfl, rfl⟩, _, _, rfl, ⟨i, rfl, _⟩, rfl⟩ := w
  simp only [liInsert0, dnth_zero, dnth_succ, dnth_one, dnth_two, int_i, bool_b, str_s, list_r, f_r, rest, mapOf_ofMap] at h ih
  simp only [stInsert0, dnth_zero, dnth_succ, dnth_one, dnth_two, int_i, bool_b, str_s, list_r, f_r, mapOf_ofMap]
  replace h := cond_fail h
  obtain ⟨hp, h⟩ := h
  simp only [insOK, Bool.and_eq_true, decide_eq_true_eq] at hp
  obtain ⟨⟨⟨⟨h1, h2⟩, h3⟩, h5⟩, h4⟩ := hp
  by_cases hi : i < b
  · have e1 : i < (l.length : Int) := by omega
    have e2 : (insOK l.length a i) = true := by simp [insOK]; omega
    simp only [hi, decide_true, cond_true, e1, e2, Bool.and_self, Int.ofNat_eq_natCast, wrap_next (l := l) (by omega) e1 hl]
    have ei : (b - i).toNat = (b - (i + 1)).toNat + 1 := by omega
    rw [ei] at h
    refine ih _ _ ?_ fun _ => cond_ok ?_ ?_
    · simp; omega
    · simp [insOK]; omega
    · simp only [insAll] at h
      have : (i + 1).toNat = i.toNat + 1 := by omega
      simp only [dnth_zero, dnth_succ, dnth_one, dnth_two, int_i, bool_b, str_s, list_r, f_r, this]
      exact h
  · have : (b - i).toNat = 0 := by omega
    rw [this] at h
    simp only [hi, decide_false, cond_false]
    exact h

/-- one element to its place in what is sorted ahead of it -/
theorem insBack_mid (p : List D) : ∀ (n : Nat) (s : List D) (x : D) (q : List D), s.length = n → sortedD s = true → insBack p.length (p.length + n) (p ++ s ++ x :: q) = p ++ insR x s ++ q
  | 0, s, x, q, hn, _ => by
    have : s = [] := List.eq_nil_of_length_eq_zero hn
    subst this
    simp only [Nat.add_zero, List.append_nil, insR]
    cases h : p.length with
    | zero => simp [insBack]
    | succ k => simp [insBack]
  | n + 1, s, x, q, hn, hs => by
    obtain ⟨s', y, rfl⟩ : ∃ s' y, s = s' ++ [y] := ⟨s.dropLast, s.getLast (by intro e; subst e; simp at hn), (List.dropLast_concat_getLast _).symm⟩
    have hn' : s'.length = n := by simpa using hn
    have hs' := sorted_append.1 hs
    have hlt : p.length < p.length + n + 1 := by omega
    have hx : dnth (p ++ (s' ++ [y]) ++ x :: q) (p.length + n + 1) = x := dnth_mid (by simp; omega)
    have ey : p ++ (s' ++ [y]) ++ x :: q = (p ++ s') ++ y :: x :: q := by simp
    have hy : dnth (p ++ (s' ++ [y]) ++ x :: q) (p.length + n) = y := by rw [ey]; exact dnth_mid (by simp; omega)
    rw [show p.length + (n + 1) = p.length + n + 1 by omega]
    simp only [insBack, hlt, hx, hy, decide_true, Bool.true_and]
    by_cases h : pId x < pId y
    · simp only [h, decide_true, cond_true]
      rw [ey, swapD_next (by simp; omega)]
      have := insBack_mid p n s' x (y :: q) hn' hs'.1
      rw [this, insR_before (v := [y]) (by simpa using h)]
      simp
    · simp only [h, decide_false, cond_false]
      rw [insR_end]
      · simp
      · intro z hz
        have : pId z ≤ pId y := by
          rcases List.mem_append.1 hz with hz | hz
          · exact hs'.2.2 z hz y (by simp)
          · simp at hz; subst hz; omega
        omega
theorem insAll_mid (p q : List D) : ∀ (n : Nat) (s t : List D), t.length = n → sortedD s = true → insAll p.length n (p.length + s.length) (p ++ s ++ t ++ q) = p ++ mergeD s t ++ q
  | 0, s, t, hn, _ => by
    have : t = [] := List.eq_nil_of_length_eq_zero hn
    subst this
    simp [insAll]
  | n + 1, s, [], hn, _ => by simp at hn
  | n + 1, s, x :: t, hn, hs => by
    simp only [insAll]
    have e : p ++ s ++ x :: t ++ q = p ++ s ++ x :: (t ++ q) := by simp
    rw [e, insBack_mid p s.length s x (t ++ q) rfl hs]
    have := insAll_mid p q n (insR x s) t (by simpa using hn) (insR_sorted hs)
    rw [insR_length] at this
    rw [mergeD_cons, show p.length + s.length + 1 = p.length + (s.length + 1) by omega, ← this]
    simp
theorem insAll_all {xs : List D} {a b : Nat} (h1 : a ≤ b) (h2 : b ≤ xs.length) : insAll a (b - (a + 1)) (a + 1) xs = xs.take a ++ isort (seg xs a b) ++ xs.drop b := by
  by_cases h : a = b
  · subst h
    have e : seg xs a a = [] := by simp [seg]
    rw [e, show a - (a + 1) = 0 by omega]
    simp [insAll, isort]
  · have h3 := three h1 h2
    have hl := seg_length h1 h2
    cases hs : seg xs a b with
    | nil => rw [hs] at hl; simp at hl; omega
    | cons x t =>
      rw [hs] at h3 hl
      have ha : (xs.take a).length = a := by simp; omega
      have := insAll_mid (xs.take a) (xs.drop b) (b - (a + 1)) [x] t (by simp at hl; omega) rfl
      rw [ha] at this
      simp only [List.length_singleton] at this
      have e : xs.take a ++ [x] ++ t ++ xs.drop b = xs := by
        have : xs.take a ++ [x] ++ t ++ xs.drop b = xs.take a ++ x :: t ++ xs.drop b := by simp
        rw [this]; exact h3.symm
      rw [e] at this
      rw [this]; rfl

theorem phInsert (hs xs : List D) (r : List D × List D) (w : wfAll sgInsert.heap sgInsert.ins hs xs = true) (h : (phiInsert hs xs).val = some r) : mInsert hs xs = some r := by
  simp only [sgInsert, wf_all, wfs_cons, wf_dat, wf_int, wf_bool, wf_str, wf_slice, wf_fn, wf_ref, wf_rall, wf_mref, wf_own, wf_agg, wf_rsub, wf_any, wfs_nil, wfh_cons, wfh_nil, wf_hmap, wf_hrow, wf_hbox, true_and] at w
  obtain ⟨⟨_, _, rfl, ⟨l, rfl, hl, _⟩, rfl⟩, d0, _, rfl, _, _, rfl, ⟨a, rfl, _⟩, _, _, rfl, ⟨b, rfl, _⟩, _, _, rfl, ⟨_, rfl, rfl⟩, rfl⟩ := w
  simp only [phiInsert] at h
  replace h := cond_fail h
  obtain ⟨hp, h⟩ := h
  have hp' := hp
  simp only [insOK, Bool.and_eq_true, decide_eq_true_eq, dnth_zero, dnth_succ, dnth_one, dnth_two, int_i, bool_b, str_s, list_r, f_r] at hp'
  obtain ⟨⟨⟨h1, h2⟩, h3⟩, h5⟩ := hp'
  have ew : IntKind.wrap .i64 (a + 1) = a + 1 := wrap_i64 (by omega) (by omega)
  have e1 : a < a + 1 := by omega
  simp only [dnth_zero, dnth_succ, dnth_one, dnth_two, int_i, bool_b, str_s, list_r, f_r] at hp
  have e2 : (a + 1).toNat = a.toNat + 1 := by omega
  have e3 : (b - (a + 1)).toNat = b.toNat - (a.toNat + 1) := by omega
  simp only [mInsert, dnth_zero, dnth_succ, dnth_one, dnth_two, int_i, bool_b, str_s, list_r, f_r, hp, ew, e1, decide_true, Bool.and_self, cond_true, e2, e3]
  rw [insAll_all (by omega) (by omega)]
  exact h

/-! ### Parts exchanged -/

theorem swapGo_mid (a b : Nat) : ∀ (n i : Nat) (p s m y q : List D), s.length = n → y.length = n → p.length = a + i → p.length + s.length + m.length = b + i → swapGo a b n i (p ++ s ++ m ++ y ++ q) = p ++ y ++ m ++ s ++ q
  | 0, i, p, s, m, y, q, h1, h2, _, _ => by
    have e1 : s = [] := List.eq_nil_of_length_eq_zero h1
    have e2 : y = [] := List.eq_nil_of_length_eq_zero h2
    subst e1; subst e2; rfl
  | n + 1, i, p, [], m, y, q, h1, h2, _, _ => by simp at h1
  | n + 1, i, p, x :: s, m, [], q, h1, h2, _, _ => by simp at h2
  | n + 1, i, p, x :: s, m, z :: y, q, h1, h2, h3, h4 => by
    simp only [swapGo]
    have e : p ++ x :: s ++ m ++ z :: y ++ q = p ++ x :: ((s ++ m) ++ z :: (y ++ q)) := by simp
    rw [e, swapD_mid (by omega) (by simp at h1 h4 ⊢; omega)]
    have := swapGo_mid a b n (i + 1) (p ++ [z]) s (m ++ [x]) y q (by simpa using h1) (by simpa using h2) (by simp; omega) (by simp at h1 h4 ⊢; omega)
    have e2 : p ++ z :: ((s ++ m) ++ x :: (y ++ q)) = p ++ [z] ++ s ++ (m ++ [x]) ++ y ++ q := by simp
    rw [e2, this]
    simp
theorem swapGo_all {xs : List D} {a b n : Nat} (h1 : a + n ≤ b) (h2 : b + n ≤ xs.length) : swapGo a b n 0 xs = swapR xs a b n := by
  have e : xs = xs.take a ++ seg xs a (a + n) ++ seg xs (a + n) b ++ seg xs b (b + n) ++ xs.drop (b + n) := by
    have h3 := three (xs := xs) (a := a) (b := b + n) (by omega) h2
    rw [seg_append xs (a := a) (m := a + n) (b := b + n) (by omega) (by omega), seg_append xs (a := a + n) (m := b) (b := b + n) (by omega) (by omega)] at h3
    simpa using h3
  have l1 : (xs.take a).length = a := by simp; omega
  have := swapGo_mid a b n 0 (xs.take a) (seg xs a (a + n)) (seg xs (a + n) b) (seg xs b (b + n)) (xs.drop (b + n)) (by rw [seg_length (by omega) (by omega)]; omega) (by rw [seg_length (by omega) (by omega)]; omega) (by omega)
    (by rw [l1, seg_length (by omega) (by omega), seg_length (by omega) (by omega)]; omega)
  rw [← e] at this
  exact this
@[simp] theorem swapGo_length (a b : Nat) : ∀ (n i : Nat) (xs : List D), (swapGo a b n i xs).length = xs.length
  | 0, _, _ => rfl
  | n + 1, i, xs => by simp [swapGo, swapGo_length a b n]

theorem jSwapR0 : LoopJust ESwapR (vlen sgSwapR.heap) (loopN (bodyOf Try.f65) 0) liSwapR0 := by
  refine loopJust_of (fun hs xs => ((dnth xs 3).int - (dnth xs 4).int).toNat) (by kernel_rfl) (by kernel_rfl) fun go hs xs p w h ih => ?_
  rw [evstSwapR0]
  simp only [wf_loop, liSwapR0, slotShapes, wfs_cons, wf_dat, wf_int, wf_bool, wf_str, wf_slice, wf_fn, wf_ref, wf_rall, wf_mref, wf_own, wf_agg, wf_rsub, wf_any, wfs_nil, wfh_cons, wfh_nil, wf_hmap, wf_hrow, wf_hbox, true_and] at w
  obtain ⟨⟨_, _, rfl, ⟨l, rfl, hl, _⟩, rfl⟩, d0, _, rfl, _, _, rfl, ⟨a, rfl, _⟩, _, _, rfl, ⟨b, rfl, _⟩, _, _, rfl, ⟨n, rfl, _⟩, _, _, rfl, ⟨i, rfl, _⟩, rfl⟩ := w
  simp only [liSwapR0, dnth_zero, dnth_succ, dnth_one, dnth_two, int_i, bool_b, str_s, list_r, f_r, rest, mapOf_ofMap] at h ih
  simp only [stSwapR0, xstSwapR0_0, xstSwapR0_1, xstSwapR0_2, xstSwapR0_3, dnth_zero, dnth_succ, dnth_one, dnth_two, int_i, bool_b, str_s, list_r, f_r, mapOf_ofMap]
  replace h := cond_fail h
  obtain ⟨hp, h⟩ := h
  simp only [swapOK, Bool.and_eq_true, decide_eq_true_eq] at hp
  obtain ⟨⟨⟨⟨h1, h2⟩, h3⟩, h4⟩, h5⟩ := hp
  have hl' := hl
  rw [most_eq] at hl'
  by_cases hi : i < n
  · have ea : IntKind.wrap .i64 (a + i) = a + i := wrap_i64 (by omega) (by omega)
    have eb : IntKind.wrap .i64 (b + i) = b + i := wrap_i64 (by omega) (by omega)
    have ei : IntKind.wrap .i64 (i + 1) = i + 1 := wrap_i64 (by omega) (by omega)
    have b1 : (0 : Int) ≤ a + i := by omega
    have b2 : a + i < (l.length : Int) := by omega
    have b3 : (0 : Int) ≤ b + i := by omega
    have b4 : b + i < (l.length : Int) := by omega
    simp only [hi, ea, eb, ei, b1, b2, b3, b4, decide_true, cond_true, Bool.and_self, Int.ofNat_eq_natCast, dset_nil]
    have en : (n - i).toNat = (n - (i + 1)).toNat + 1 := by omega
    rw [en] at h
    refine ih _ _ ?_ fun _ => cond_ok ?_ ?_
    · simp; omega
    · simp [swapOK]; omega
    · simp only [swapGo] at h
      have t1 : (i + 1).toNat = i.toNat + 1 := by omega
      have t2 : (a + i).toNat = a.toNat + i.toNat := by omega
      have t3 : (b + i).toNat = b.toNat + i.toNat := by omega
      simp only [dnth_zero, dnth_succ, dnth_one, dnth_two, int_i, bool_b, str_s, list_r, f_r, t1, t2, t3]
      exact h
  · have : (n - i).toNat = 0 := by omega
    rw [this] at h
    simp only [hi, decide_false, cond_false]
    exact h

theorem phSwapR (hs xs : List D) (r : List D × List D) (w : wfAll sgSwapR.heap sgSwapR.ins hs xs = true) (h : (phiSwapR hs xs).val = some r) : mSwapR hs xs = some r := by
  simp only [sgSwapR, wf_all, wfs_cons, wf_dat, wf_int, wf_bool, wf_str, wf_slice, wf_fn, wf_ref, wf_rall, wf_mref, wf_own, wf_agg, wf_rsub, wf_any, wfs_nil, wfh_cons, wfh_nil, wf_hmap, wf_hrow, wf_hbox, true_and] at w
  obtain ⟨⟨_, _, rfl, ⟨l, rfl, hl, _⟩, rfl⟩, d0, _, rfl, _, _, rfl, ⟨a, rfl, _⟩, _, _, rfl, ⟨b, rfl, _⟩, _, _, rfl, ⟨n, rfl, _⟩, _, _, rfl, ⟨_, rfl, rfl⟩, rfl⟩ := w
  simp only [phiSwapR] at h
  replace h := cond_fail h
  obtain ⟨hp, h⟩ := h
  have hp' := hp
  simp only [swapOK, Bool.and_eq_true, decide_eq_true_eq, dnth_zero, dnth_succ, dnth_one, dnth_two, int_i, bool_b, str_s, list_r, f_r] at hp'
  obtain ⟨⟨⟨h1, h2⟩, h3⟩, h4⟩ := hp'
  simp only [dnth_zero, dnth_succ, dnth_one, dnth_two, int_i, bool_b, str_s, list_r, f_r] at hp
  have e : (n - 0).toNat = n.toNat := by omega
  simp only [mSwapR, dnth_zero, dnth_succ, dnth_one, dnth_two, int_i, bool_b, str_s, list_r, f_r, hp, Bool.and_self, cond_true, e, Int.toNat_zero]
  rw [swapGo_all (by omega) (by omega)]
  exact h

/-! ### Neighbours exchanged -/

theorem swapR_mid {p s m y q : List D} {a b n : Nat} (h1 : p.length = a) (h2 : p.length + s.length + m.length = b) (h3 : s.length = n) (h4 : y.length = n) : swapR (p ++ s ++ m ++ y ++ q) a b n = p ++ y ++ m ++ s ++ q := by
  rw [← swapGo_all (by omega) (by simp; omega)]
  exact swapGo_mid a b n 0 p s m y q h3 h4 (by omega) (by omega)
@[simp] theorem swapR_length {xs : List D} {a b n : Nat} (h1 : a + n ≤ b) (h2 : b + n ≤ xs.length) : (swapR xs a b n).length = xs.length := by
  rw [← swapGo_all h1 h2]; simp

/-- the last exchange behind the loop makes the whole turn -/
theorem rotGo_mid (m : Nat) : ∀ (f i j : Nat) (p u v q : List D), i + j ≤ f → 0 < i → 0 < j → u.length = i → v.length = j → p.length + i = m →
    let r := rotGo m f i j (p ++ u ++ v ++ q)
    0 < r.2 ∧ r.2 ≤ m ∧ m + r.2 ≤ r.1.length ∧ r.1.length = (p ++ u ++ v ++ q).length ∧ swapR r.1 (m - r.2) m r.2 = p ++ v ++ u ++ q
  | 0, i, j, p, u, v, q, hf, hi, hj, hu, hv, hm => by omega
  | f + 1, i, j, p, u, v, q, hf, hi, hj, hu, hv, hm => by
    simp only [rotGo]
    by_cases e : i = j
    · subst e
      simp only [decide_true, cond_true]
      refine ⟨hi, by omega, by simp; omega, trivial, ?_⟩
      have := swapR_mid (p := p) (s := u) (m := []) (y := v) (q := q) (a := m - i) (b := m) (n := i) (by omega) (by simp; omega) hu hv
      simpa using this
    · simp only [e, decide_false, cond_false]
      by_cases hlt : j < i
      · simp only [hlt, decide_true, cond_true]
        have hu2 : u = u.take j ++ u.drop j := (List.take_append_drop _ _).symm
        have l1 : (u.take j).length = j := by simp; omega
        have l2 : (u.drop j).length = i - j := by simp; omega
        have e1 : swapR (p ++ u ++ v ++ q) (m - i) m j = (p ++ v) ++ u.drop j ++ u.take j ++ q := by
          rw [show p ++ u ++ v ++ q = p ++ u.take j ++ u.drop j ++ v ++ q by rw [List.append_assoc p (u.take j), List.take_append_drop]]
          exact swapR_mid (by omega) (by rw [l1, l2]; omega) l1 hv
        rw [e1]
        have := rotGo_mid m f (i - j) j (p ++ v) (u.drop j) (u.take j) q (by omega) (by omega) hj l2 l1 (by simp; omega)
        simp only at this
        refine ⟨this.1, this.2.1, this.2.2.1, ?_, ?_⟩
        · rw [this.2.2.2.1]; simp; omega
        · rw [this.2.2.2.2]
          rw [show p ++ v ++ u.take j ++ u.drop j ++ q = p ++ v ++ (u.take j ++ u.drop j) ++ q by simp, List.take_append_drop]
      · simp only [hlt, decide_false, cond_false]
        have l1 : (v.take (j - i)).length = j - i := by simp; omega
        have l2 : (v.drop (j - i)).length = i := by simp; omega
        have e1 : swapR (p ++ u ++ v ++ q) (m - i) (m + j - i) i = p ++ v.drop (j - i) ++ v.take (j - i) ++ (u ++ q) := by
          rw [show p ++ u ++ v ++ q = p ++ u ++ v.take (j - i) ++ v.drop (j - i) ++ q by rw [List.append_assoc (p ++ u) (v.take (j - i)), List.take_append_drop]]
          rw [swapR_mid (by omega) (by rw [l1]; omega) hu l2]
          simp
        rw [e1]
        have := rotGo_mid m f i (j - i) p (v.drop (j - i)) (v.take (j - i)) (u ++ q) (by omega) hi (by omega) l2 l1 (by omega)
        simp only at this
        refine ⟨this.1, this.2.1, this.2.2.1, ?_, ?_⟩
        · rw [this.2.2.2.1]; simp; omega
        · rw [this.2.2.2.2]
          rw [show p ++ v.take (j - i) ++ v.drop (j - i) ++ (u ++ q) = p ++ (v.take (j - i) ++ v.drop (j - i)) ++ u ++ q by simp, List.take_append_drop]
theorem rotGo_fuel (m : Nat) : ∀ (f g i j : Nat) (xs : List D), i + j ≤ f → i + j ≤ g → 0 < i → 0 < j → rotGo m f i j xs = rotGo m g i j xs
  | 0, g, i, j, xs, h1, h2, h3, h4 => by omega
  | f + 1, 0, i, j, xs, h1, h2, h3, h4 => by omega
  | f + 1, g + 1, i, j, xs, h1, h2, h3, h4 => by
    simp only [rotGo]
    by_cases e : i = j
    · simp [e]
    · by_cases hlt : j < i
      · simp only [e, hlt, decide_false, decide_true, cond_true, cond_false]
        exact rotGo_fuel m f g (i - j) j _ (by omega) (by omega) (by omega) h4
      · simp only [e, hlt, decide_false, cond_false]
        exact rotGo_fuel m f g i (j - i) _ (by omega) (by omega) h3 (by omega)

set_option maxHeartbeats 1000000 in
theorem jRotate0 : LoopJust ERotate (vlen sgRotate.heap) (loopN (bodyOf Try.f64) 0) liRotate0 := by
  refine loopJust_of (fun hs xs => (dnth xs 3).int.toNat + (dnth xs 4).int.toNat) (by kernel_rfl) (by kernel_rfl) fun go hs xs p w h ih => ?_
  rw [evstRotate0]
  simp only [wf_loop, liRotate0, slotShapes, wfs_cons, wf_dat, wf_int, wf_bool, wf_str, wf_slice, wf_fn, wf_ref, wf_rall, wf_mref, wf_own, wf_agg, wf_rsub, wf_any, wfs_nil, wfh_cons, wfh_nil, wf_hmap, wf_hrow, wf_hbox, true_and] at w
  obtain ⟨⟨_, _, rfl, ⟨l, rfl, hl, _⟩, rfl⟩, d0, _, rfl, _, _, rfl, ⟨m, rfl, _⟩, _, _, rfl, ⟨_, rfl, rfl⟩, _, _, rfl, ⟨i, rfl, _⟩, _, _, rfl, ⟨j, rfl, _⟩, rfl⟩ := w
  simp only [liRotate0, dnth_zero, dnth_succ, dnth_one, dnth_two, int_i, bool_b, str_s, list_r, f_r, rest, mapOf_ofMap] at h ih
  simp only [stRotate0, xstRotate0_0, dnth_zero, dnth_succ, dnth_one, dnth_two, int_i, bool_b, str_s, list_r, f_r, mapOf_ofMap]
  replace h := cond_fail h
  obtain ⟨hp, h⟩ := h
  simp only [rotAt, Bool.and_eq_true, decide_eq_true_eq] at hp
  obtain ⟨⟨⟨h1, h2⟩, h3⟩, h4⟩ := hp
  have hl' := hl
  rw [most_eq] at hl'
  have e1 : IntKind.wrap .i64 (m - i) = m - i := wrap_i64 (by omega) (by omega)
  have e2 : IntKind.wrap .i64 (m + j) = m + j := wrap_i64 (by omega) (by omega)
  have e3 : IntKind.wrap .i64 (m + j - i) = m + j - i := wrap_i64 (by omega) (by omega)
  have e4 : IntKind.wrap .i64 (i - j) = i - j := wrap_i64 (by omega) (by omega)
  have e5 : IntKind.wrap .i64 (j - i) = j - i := wrap_i64 (by omega) (by omega)
  simp only [e1, e2, e3, e4, e5]
  obtain ⟨f, hf⟩ : ∃ f, i.toNat + j.toNat = f + 1 := ⟨i.toNat + j.toNat - 1, by omega⟩
  rw [hf] at h
  simp only [rotGo] at h
  by_cases e : i = j
  · subst e
    simp only [decide_true, cond_true, Bool.not_true, cond_false] at h ⊢
    have : ((i.toNat : Nat) : Int) = i := by omega
    rw [this] at h
    exact h
  · have en : ¬ i.toNat = j.toNat := by omega
    simp only [e, en, decide_false, Bool.not_false, cond_true, cond_false] at h ⊢
    by_cases hlt : j < i
    · have hn : j.toNat < i.toNat := by omega
      simp only [hlt, hn, decide_true, cond_true] at h ⊢
      have ok : swapOK l.length (m - i) m j = true := by simp [swapOK]; omega
      simp only [ok, cond_true]
      have t1 : (m - i).toNat = m.toNat - i.toNat := by omega
      have t2 : (i - j).toNat = i.toNat - j.toNat := by omega
      refine ih _ _ ?_ fun _ => cond_ok ?_ ?_
      · simp; omega
      · have : (swapR l (m - i).toNat m.toNat j.toNat).length = l.length := swapR_length (by omega) (by omega)
        simp [rotAt, this]; omega
      · have hfu := rotGo_fuel m.toNat (i.toNat - j.toNat + j.toNat) f (i.toNat - j.toNat) j.toNat (swapR l (m.toNat - i.toNat) m.toNat j.toNat) (by omega) (by omega) (by omega) (by omega)
        simp only [dnth_zero, dnth_succ, dnth_one, dnth_two, int_i, bool_b, str_s, list_r, f_r, t1, t2, hfu]
        exact h
    · have hn : ¬ j.toNat < i.toNat := by omega
      simp only [hlt, hn, decide_false, cond_false] at h ⊢
      have ok : swapOK l.length (m - i) (m + j - i) i = true := by simp [swapOK]; omega
      simp only [ok, cond_true]
      have t1 : (m - i).toNat = m.toNat - i.toNat := by omega
      have t2 : (j - i).toNat = j.toNat - i.toNat := by omega
      have t3 : (m + j - i).toNat = m.toNat + j.toNat - i.toNat := by omega
      refine ih _ _ ?_ fun _ => cond_ok ?_ ?_
      · simp; omega
      · have : (swapR l (m - i).toNat (m + j - i).toNat i.toNat).length = l.length := swapR_length (by omega) (by omega)
        simp [rotAt, this]; omega
      · have hfu := rotGo_fuel m.toNat (i.toNat + (j.toNat - i.toNat)) f i.toNat (j.toNat - i.toNat) (swapR l (m.toNat - i.toNat) (m.toNat + j.toNat - i.toNat) i.toNat) (by omega) (by omega) (by omega) (by omega)
        simp only [dnth_zero, dnth_succ, dnth_one, dnth_two, int_i, bool_b, str_s, list_r, f_r, t1, t2, t3, hfu]
        exact h

theorem phRotate (hs xs : List D) (r : List D × List D) (w : wfAll sgRotate.heap sgRotate.ins hs xs = true) (h : (phiRotate hs xs).val = some r) : mRotate hs xs = some r := by
  simp only [sgRotate, wf_all, wfs_cons, wf_dat, wf_int, wf_bool, wf_str, wf_slice, wf_fn, wf_ref, wf_rall, wf_mref, wf_own, wf_agg, wf_rsub, wf_any, wfs_nil, wfh_cons, wfh_nil, wf_hmap, wf_hrow, wf_hbox, true_and] at w
  obtain ⟨⟨_, _, rfl, ⟨l, rfl, hl, _⟩, rfl⟩, d0, _, rfl, _, _, rfl, ⟨a, rfl, _⟩, _, _, rfl, ⟨m, rfl, _⟩, _, _, rfl, ⟨b, rfl, _⟩, _, _, rfl, ⟨_, rfl, rfl⟩, rfl⟩ := w
  simp only [phiRotate] at h
  replace h := cond_fail h
  obtain ⟨hp, h⟩ := h
  simp only [rotOK, Bool.and_eq_true, decide_eq_true_eq, dnth_zero, dnth_succ, dnth_one, dnth_two, int_i, bool_b, str_s, list_r, f_r] at hp
  obtain ⟨⟨⟨h1, h2⟩, h3⟩, h4⟩ := hp
  have hl' := hl
  rw [most_eq] at hl'
  have e1 : IntKind.wrap .i64 (m - a) = m - a := wrap_i64 (by omega) (by omega)
  have e2 : IntKind.wrap .i64 (b - m) = b - m := wrap_i64 (by omega) (by omega)
  have hu := seg_length (xs := l) (a := a.toNat) (b := m.toNat) (by omega) (by omega)
  have hv := seg_length (xs := l) (a := m.toNat) (b := b.toNat) (by omega) (by omega)
  have el : l = l.take a.toNat ++ seg l a.toNat m.toNat ++ seg l m.toNat b.toNat ++ l.drop b.toNat := by
    have := three (xs := l) (a := a.toNat) (b := b.toNat) (by omega) (by omega)
    rw [seg_append l (m := m.toNat) (by omega) (by omega)] at this
    simpa using this
  have key := rotGo_mid m.toNat ((m - a).toNat + (b - m).toNat) (m - a).toNat (b - m).toNat (l.take a.toNat) (seg l a.toNat m.toNat) (seg l m.toNat b.toNat) (l.drop b.toNat) (by omega) (by omega) (by omega) (by omega) (by omega) (by simp; omega)
  rw [← el] at key
  simp only at key
  generalize hr : rotGo m.toNat ((m - a).toNat + (b - m).toNat) (m - a).toNat (b - m).toNat l = rr at key
  obtain ⟨k1, k2, k3, k4, k5⟩ := key
  have ok1 : rotAt l.length m (m - a) (b - m) = true := by simp [rotAt]; omega
  have e3 : IntKind.wrap .i64 (m - (rr.2 : Int)) = m - (rr.2 : Int) := wrap_i64 (by omega) (by omega)
  have ok2 : swapOK rr.1.length (m - (rr.2 : Int)) m (rr.2 : Int) = true := by simp [swapOK]; omega
  have t1 : (m - (rr.2 : Int)).toNat = m.toNat - rr.2 := by omega
  simp only [mRotate, xmRotate_0, xmRotate_1, xmRotate_2, xmRotate_3, dnth_zero, dnth_succ, dnth_one, dnth_two, int_i, bool_b, str_s, list_r, f_r, e1, e2, ok1, hr, Int.ofNat_eq_natCast, e3, ok2, t1, cond_true, Int.toNat_natCast, k5]
  exact h

end Go.Proofs.Ytkepijaabpkdbaa

/- The contracts of these functions; printed by gen.py. -/
namespace Go.Proofs.Ytkepijaabpkdbaa
open Go Go.Ev
theorem okIsNaN : SpecOK Try.prog 61 sgIsNaN phiIsNaN :=
  spec_of (t := []) (loops := []) typesOK noMeth_ok .nil Try.func61 (by kernel_rfl) (by kernel_rfl) (by kernel_rfl) (by kernel_rfl)
    (loopsOK_list (l := []) (by kernel_rfl) trivial) (fun hs xs r w h => (evIsNaN hs xs).trans (phIsNaN hs xs r w h))
theorem okCompare : SpecOK Try.prog 57 sgCompare phiCompare :=
  spec_of (t := [eIsNaN]) (loops := []) typesOK noMeth_ok (.cons okIsNaN (by kernel_rfl) .nil) Try.func57 (by kernel_rfl) (by kernel_rfl) (by kernel_rfl) (by kernel_rfl)
    (loopsOK_list (l := []) (by kernel_rfl) trivial) (fun hs xs r w h => (evCompare hs xs).trans (phCompare hs xs r w h))
theorem okById : SpecOK Try.prog 56 sgById phiById :=
  spec_of (t := [eCompare]) (loops := []) typesOK noMeth_ok (.cons okCompare (by kernel_rfl) .nil) Try.func56 (by kernel_rfl) (by kernel_rfl) (by kernel_rfl) (by kernel_rfl)
    (loopsOK_list (l := []) (by kernel_rfl) trivial) (fun hs xs r w h => (evById hs xs).trans (phById hs xs r w h))
theorem lgInsert0 : LoopGood EInsert (vlen sgInsert.heap) (loopN (bodyOf Try.f62) 0) := LoopGood.of (i := 1) (li := liInsert0) (by kernel_rfl) (by kernel_rfl) jInsert0
theorem lgInsert1 : LoopGood EInsert (vlen sgInsert.heap) (loopN (bodyOf Try.f62) 1) := LoopGood.of (i := 4) (li := liInsert1) (by kernel_rfl) (by kernel_rfl) jInsert1
theorem okInsert : SpecOK Try.prog 62 sgInsert phiInsert :=
  spec_of (t := [eById]) (loops := [(1, liInsert0), (4, liInsert1)]) typesOK noMeth_ok (.cons okById (by kernel_rfl) .nil) Try.func62 (by kernel_rfl) (by kernel_rfl) (by kernel_rfl) (by kernel_rfl)
    (loopsOK_list (l := [loopN (bodyOf Try.f62) 0, loopN (bodyOf Try.f62) 1]) (by kernel_rfl) ⟨lgInsert0, ⟨lgInsert1, trivial⟩⟩) (fun hs xs r w h => (evInsert hs xs).trans (phInsert hs xs r w h))
theorem lgSwapR0 : LoopGood ESwapR (vlen sgSwapR.heap) (loopN (bodyOf Try.f65) 0) := LoopGood.of (i := 1) (li := liSwapR0) (by kernel_rfl) (by kernel_rfl) jSwapR0
theorem okSwapR : SpecOK Try.prog 65 sgSwapR phiSwapR :=
  spec_of (t := []) (loops := [(1, liSwapR0)]) typesOK noMeth_ok .nil Try.func65 (by kernel_rfl) (by kernel_rfl) (by kernel_rfl) (by kernel_rfl)
    (loopsOK_list (l := [loopN (bodyOf Try.f65) 0]) (by kernel_rfl) ⟨lgSwapR0, trivial⟩) (fun hs xs r w h => (evSwapR hs xs).trans (phSwapR hs xs r w h))
theorem lgRotate0 : LoopGood ERotate (vlen sgRotate.heap) (loopN (bodyOf Try.f64) 0) := LoopGood.of (i := 2) (li := liRotate0) (by kernel_rfl) (by kernel_rfl) jRotate0
theorem okRotate : SpecOK Try.prog 64 sgRotate phiRotate :=
  spec_of (t := [eSwapR]) (loops := [(2, liRotate0)]) typesOK noMeth_ok (.cons okSwapR (by kernel_rfl) .nil) Try.func64 (by kernel_rfl) (by kernel_rfl) (by kernel_rfl) (by kernel_rfl)
    (loopsOK_list (l := [loopN (bodyOf Try.f64) 0]) (by kernel_rfl) ⟨lgRotate0, trivial⟩) (fun hs xs r w h => (evRotate hs xs).trans (phRotate hs xs r w h))
end Go.Proofs.Ytkepijaabpkdbaa
