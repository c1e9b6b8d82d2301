/- What the evaluator makes of these functions: printed by gen.py out of the model, and proved by the kernel. What the evaluator makes of folding is what its definitions say. The contracts of these functions; printed by gen.py. -/
import Derived.Test.YtkepijaabpkdbaaA6
import Derived.Test.YtkepijaabpkdbaaB0
import Derived.Test.YtkepijaabpkdbaaB1
import Derived.Test.YtkepijaabpkdbaaB4
import Derived.Test.YtkepijaabpkdbaaProg
import Derived.KernelRfl
import Derived.Test.YtkepijaabpkdbaaChecked
set_option linter.unusedVariables false
set_option linter.unusedSimpArgs false

/- What the evaluator makes of these functions: printed by gen.py out of the model, and proved by the kernel. -/
namespace Go.Proofs.Ytkepijaabpkdbaa
open Go Go.Ev
set_option maxRecDepth 100000
noncomputable def ePart : Nat × (Sig × Phi) := (30, (sgPart, phiPart))
noncomputable def eRemoved : Nat × (Sig × Phi) := (47, (sgRemoved, phiRemoved))
noncomputable def eAllValid : Nat × (Sig × Phi) := (35, (sgAllValid, phiAllValid))
noncomputable def ePlaced : Nat × (Sig × Phi) := (58, (sgPlaced, phiPlaced))
noncomputable def eSide : Nat × (Sig × Phi) := (36, (sgSide, phiSide))
noncomputable def eFold : Nat × (Sig × Phi) := (10, (sgFold, phiFold))
noncomputable def eRFold : Nat × (Sig × Phi) := (11, (sgRFold, phiRFold))
noncomputable def eSpend : Nat × (Sig × Phi) := (15, (sgSpend, phiSpend))
noncomputable def eOpen : Nat × (Sig × Phi) := (16, (sgOpen, phiOpen))
noncomputable def eRSpend : Nat × (Sig × Phi) := (17, (sgRSpend, phiRSpend))
noncomputable def eROpen : Nat × (Sig × Phi) := (18, (sgROpen, phiROpen))
noncomputable def EPart : Env := mkEnv tyTab [eWMinus, eWPlus, eSort, eById] noMeth Try.f30.ntmps (vlen sgPart.heap) [(3, liPart0)]
noncomputable def ERemoved : Env := mkEnv tyTab [eRValid] noMeth Try.f47.ntmps (vlen sgRemoved.heap) [(2, liRemoved0)]
noncomputable def EAllValid : Env := mkEnv tyTab [eRValid] noMeth Try.f35.ntmps (vlen sgAllValid.heap) [(2, liAllValid0)]
noncomputable def EPlaced : Env := mkEnv tyTab [] noMeth Try.f58.ntmps (vlen sgPlaced.heap) [(4, liPlaced0)]
noncomputable def ESide : Env := mkEnv tyTab [eRemoved, eVMinus, eVPlus, ePlaced] noMeth Try.f36.ntmps (vlen sgSide.heap) [(3, liSide0)]
noncomputable def EFold : Env := mkEnv tyTab [eSum, eContainsI, eInvalid, eRemovals, eWPlus, ePart, eWValue] noMeth Try.f10.ntmps (vlen sgFold.heap) []
noncomputable def ERFold : Env := mkEnv tyTab [eRAmount, eAllValid, eVPlus, eSide, eVCut] noMeth Try.f11.ntmps (vlen sgRFold.heap) []
noncomputable def ESpend : Env := mkEnv tyTab [eFirst, eRemovals, eWPlus, eWMinus, eWValue, eAdds3, eAdds2] noMeth Try.f15.ntmps (vlen sgSpend.heap) [(6, liSpend0), (11, liSpend1)]
noncomputable def EOpen : Env := mkEnv tyTab [eFirst, eRemovals, eAdds0] noMeth Try.f16.ntmps (vlen sgOpen.heap) []
noncomputable def ERSpend : Env := mkEnv tyTab [eRFirst, eVPlus, eVMinus, eVCut, eRValid, eRemoved] noMeth Try.f17.ntmps (vlen sgRSpend.heap) [(9, liRSpend0), (15, liRSpend1)]
noncomputable def EROpen : Env := mkEnv tyTab [eRFirst, eRValid, eRemoved] noMeth Try.f18.ntmps (vlen sgROpen.heap) [(4, liROpen0)]

noncomputable def xmPart_0 (hs : List D) (xs : List D) : St3 :=
  (partG (mapOf (ofMap (mapOf (dnth hs 0)))) (D.bool (dnth xs 2)) (dnth xs 3) (dnth xs 4) [] (rest (D.r (D.list (dnth xs 0))) (D.i (0 : Int))))
noncomputable def xmPart_1 (hs : List D) (xs : List D) : D × List D :=
  ((xmPart_0 hs xs)).2
noncomputable def xmPart_2 (hs : List D) (xs : List D) : List D :=
  ((xmPart_1 hs xs)).2
noncomputable def mPart (hs xs : List D) : Option (List D × List D) :=
  bif (((@decide ((Int.ofNat (List.length (D.list (dnth xs 0)))) = (Int.ofNat (List.length (D.list (dnth xs 0))))) (Int.instDecidableEq (Int.ofNat (List.length (D.list (dnth xs 0)))) (Int.ofNat (List.length (D.list (dnth xs 0)))))) && Bool.true) && (decide ((0 + (List.length (rest (D.r (D.list (dnth xs 0))) (D.i (0 : Int))))) ≤ 4294967296))) then
    bif (decide ((List.length (xmPart_2 hs xs)) ≤ 4294967296)) then
      (Option.some ([(ofMap (mapOf (ofMap (mapOf (ofMap (mapOf (dnth hs 0)))))))], [((xmPart_0 hs xs)).1, ((xmPart_1 hs xs)).1, (D.r (isort (xmPart_2 hs xs)))]))
    else (Option.none)
  else (Option.none)
theorem evPart (hs xs : List D) : evF (EPart) Try.f30 sgPart hs xs = mPart hs xs := by kernel_rfl

noncomputable def xstPart0_0 (xs : List D) : D :=
  (D.i (D.int (D.f (dnth (D.list (dnth xs 7)) (Int.toNat (D.int (dnth xs 9)))) 1)))
noncomputable def xstPart0_1 (hs : List D) (xs : List D) : Int :=
  (D.int (Option.getD (entry (mapOf (dnth hs 0)) (xstPart0_0 xs)) (D.i (0 : Int))))
noncomputable def xstPart0_2 (hs : List D) : List D :=
  [(ofMap (mapOf (dnth hs 0))), (dnth hs 1), (dnth hs 2), (dnth hs 3), (dnth hs 4)]
noncomputable def xstPart0_3 (xs : List D) : List D :=
  [(D.r (D.list (dnth xs 7))), (D.i (D.int (dnth xs 8))), (D.i (IntKind.wrap Go.IntKind.i64 ((D.int (dnth xs 9)) + (1 : Int))))]
noncomputable def xstPart0_4 (xs : List D) : List D :=
  [(D.r []), (D.b (D.bool (dnth xs 1))), (D.r []), (D.r []), (D.r []), (D.r []), (D.r (D.list (dnth xs 6))), (D.r (D.list (dnth xs 7))), (D.i (D.int (dnth xs 8))), (D.i (IntKind.wrap Go.IntKind.i64 ((D.int (dnth xs 9)) + (1 : Int))))]
noncomputable def xstPart0_5 (go : List D → List D → Option (Ex × List D × List D)) (hs : List D) (xs : List D) : Option (Ex × List D × List D) :=
  (go (xstPart0_2 hs) (xstPart0_4 xs))
noncomputable def xstPart0_6 (hs : List D) (xs : List D) : D :=
  (wMinus (dnth hs 1) (D.int (D.f (dnth (D.list (dnth xs 7)) (Int.toNat (D.int (dnth xs 9)))) 2)))
noncomputable def xstPart0_7 (xs : List D) : List D :=
  ((D.list (dnth xs 6)) ++ [(D.r [(D.b (D.bool (dnth xs 1))), (xstPart0_0 xs), (D.i (D.int (D.f (dnth (D.list (dnth xs 7)) (Int.toNat (D.int (dnth xs 9)))) 2))), (D.f (dnth (D.list (dnth xs 7)) (Int.toNat (D.int (dnth xs 9)))) 3)])])
noncomputable def stPart0 (go : List D → List D → Option (Ex × List D × List D)) (hs xs : List D) : Option (Ex × List D × List D) :=
  bif (decide ((D.int (dnth xs 9)) < (D.int (dnth xs 8)))) then
    bif ((decide ((0 : Int) ≤ (D.int (dnth xs 9)))) && (decide ((D.int (dnth xs 9)) < (Int.ofNat (List.length (D.list (dnth xs 7))))))) then
      bif (!(!(decide ((D.int (D.f (dnth (D.list (dnth xs 7)) (Int.toNat (D.int (dnth xs 9)))) 0)) = (1 : Int))))) then
        bif (decide ((xstPart0_1 hs xs) = (3 : Int))) then
          (xstPart0_5 go hs xs)
        else bif (decide ((xstPart0_1 hs xs) = (2 : Int))) then
          (go [(ofMap (mapOf (dnth hs 0))), (xstPart0_6 hs xs), (wPlus (dnth hs 2) (D.int (D.f (dnth (D.list (dnth xs 7)) (Int.toNat (D.int (dnth xs 9)))) 2))), (dnth hs 3), (dnth hs 4)] (xstPart0_4 xs))
        else bif (decide ((List.length (xstPart0_7 xs)) ≤ 4294967296)) then
          (go [(ofMap (mapOf (dnth hs 0))), (xstPart0_6 hs xs), (dnth hs 2), (dnth hs 3), (dnth hs 4)] [(D.r []), (D.b (D.bool (dnth xs 1))), (D.r []), (D.r []), (D.r []), (D.r []), (D.r (xstPart0_7 xs)), (D.r (D.list (dnth xs 7))), (D.i (D.int (dnth xs 8))), (D.i (IntKind.wrap Go.IntKind.i64 ((D.int (dnth xs 9)) + (1 : Int))))])
        else (Option.none)
      else (xstPart0_5 go hs xs)
    else (Option.none)
  else (Option.some ((Ex.exit 0), ((xstPart0_2 hs), [(D.r []), (D.r []), (D.r []), (D.r []), (D.r (D.list (dnth xs 6)))])))
theorem evstPart0 (go : List D → List D → Option (Ex × List D × List D)) (hs xs : List D) : stepOf (EPart) (vlen sgPart.heap) (loopN (bodyOf Try.f30) 0) liPart0 go hs xs = stPart0 go hs xs := by kernel_rfl

noncomputable def mRemoved (hs xs : List D) : Option (List D × List D) :=
  bif (List.any (rest (D.r (D.list (dnth xs 0))) (D.i (0 : Int))) (isRem (D.int (dnth xs 1)))) then
    (Option.some ([], [(D.i (firstRem (D.int (dnth xs 1)) (rest (D.r (D.list (dnth xs 0))) (D.i (0 : Int)))))]))
  else (Option.some ([], [(D.i (0 : Int))]))
theorem evRemoved (hs xs : List D) : evF (ERemoved) Try.f47 sgRemoved hs xs = mRemoved hs xs := by kernel_rfl

noncomputable def xstRemoved0_0 (xs : List D) : Bool :=
  ((decide ((0 : Int) ≤ (D.int (dnth xs 2)))) && (decide ((D.int (dnth xs 2)) < (Int.ofNat (List.length (D.list (dnth xs 0)))))))
noncomputable def xstRemoved0_1 (go : List D → List D → Option (Ex × List D × List D)) (xs : List D) : Option (Ex × List D × List D) :=
  (go [] [(D.r (D.list (dnth xs 0))), (D.i (D.int (dnth xs 1))), (D.i (IntKind.wrap Go.IntKind.i64 ((D.int (dnth xs 2)) + (1 : Int))))])
noncomputable def stRemoved0 (go : List D → List D → Option (Ex × List D × List D)) (hs xs : List D) : Option (Ex × List D × List D) :=
  bif (decide ((D.int (dnth xs 2)) < (Int.ofNat (List.length (D.list (dnth xs 0)))))) then
    bif (xstRemoved0_0 xs) then
      bif (!(decide ((D.int (D.f (dnth (D.list (dnth xs 0)) (Int.toNat (D.int (dnth xs 2)))) 0)) = (1 : Int)))) then
        bif (xstRemoved0_0 xs) then
          bif (decide ((D.int (D.f (dnth (D.list (dnth xs 0)) (Int.toNat (D.int (dnth xs 2)))) 1)) = (D.int (dnth xs 1)))) then
            bif (xstRemoved0_0 xs) then
              bif (valid (dnth (D.list (dnth xs 0)) (Int.toNat (D.int (dnth xs 2))))) then
                bif (xstRemoved0_0 xs) then
                  (Option.some (Ex.ret, ([], [(D.i (D.int (D.f (dnth (D.list (dnth xs 0)) (Int.toNat (D.int (dnth xs 2)))) 0)))])))
                else (Option.none)
              else (xstRemoved0_1 go xs)
            else (Option.none)
          else (xstRemoved0_1 go xs)
        else (Option.none)
      else (xstRemoved0_1 go xs)
    else (Option.none)
  else (Option.some ((Ex.exit 0), ([], [])))
theorem evstRemoved0 (go : List D → List D → Option (Ex × List D × List D)) (hs xs : List D) : stepOf (ERemoved) (vlen sgRemoved.heap) (loopN (bodyOf Try.f47) 0) liRemoved0 go hs xs = stRemoved0 go hs xs := by kernel_rfl

noncomputable def mAllValid (hs xs : List D) : Option (List D × List D) :=
  bif (List.all (rest (D.r (D.list (dnth xs 0))) (D.i (0 : Int))) valid) then
    (Option.some ([], [(D.b Bool.true)]))
  else (Option.some ([], [(D.b Bool.false)]))
theorem evAllValid (hs xs : List D) : evF (EAllValid) Try.f35 sgAllValid hs xs = mAllValid hs xs := by kernel_rfl

noncomputable def stAllValid0 (go : List D → List D → Option (Ex × List D × List D)) (hs xs : List D) : Option (Ex × List D × List D) :=
  bif (decide ((D.int (dnth xs 1)) < (Int.ofNat (List.length (D.list (dnth xs 0)))))) then
    bif ((decide ((0 : Int) ≤ (D.int (dnth xs 1)))) && (decide ((D.int (dnth xs 1)) < (Int.ofNat (List.length (D.list (dnth xs 0))))))) then
      bif (!(valid (dnth (D.list (dnth xs 0)) (Int.toNat (D.int (dnth xs 1)))))) then
        (Option.some (Ex.ret, ([], [(D.b Bool.false)])))
      else (go [] [(D.r (D.list (dnth xs 0))), (D.i (IntKind.wrap Go.IntKind.i64 ((D.int (dnth xs 1)) + (1 : Int))))])
    else (Option.none)
  else (Option.some ((Ex.exit 0), ([], [])))
theorem evstAllValid0 (go : List D → List D → Option (Ex × List D × List D)) (hs xs : List D) : stepOf (EAllValid) (vlen sgAllValid.heap) (loopN (bodyOf Try.f35) 0) liAllValid0 go hs xs = stAllValid0 go hs xs := by kernel_rfl

noncomputable def xmPlaced_0 (xs : List D) : List D × Bool :=
  (placeL (dnth xs 1) Bool.false (rest (D.r (D.list (dnth xs 0))) (D.i (0 : Int))))
noncomputable def xmPlaced_1 (xs : List D) : List D :=
  ([] ++ ((xmPlaced_0 xs)).1)
noncomputable def xmPlaced_2 (xs : List D) : List D :=
  ((xmPlaced_1 xs) ++ [(dnth xs 1)])
noncomputable def mPlaced (hs xs : List D) : Option (List D × List D) :=
  bif (decide (((0 + (List.length (rest (D.r (D.list (dnth xs 0))) (D.i (0 : Int))))) + 1) ≤ 4294967296)) then
    bif (!((xmPlaced_0 xs)).2) then
      bif (decide ((List.length (xmPlaced_2 xs)) ≤ 4294967296)) then
        (Option.some ([], [(D.r (xmPlaced_2 xs))]))
      else (Option.none)
    else (Option.some ([], [(D.r (xmPlaced_1 xs))]))
  else (Option.none)
theorem evPlaced (hs xs : List D) : evF (EPlaced) Try.f58 sgPlaced hs xs = mPlaced hs xs := by kernel_rfl

noncomputable def xstPlaced0_0 (xs : List D) : Bool :=
  ((decide ((0 : Int) ≤ (D.int (dnth xs 4)))) && (decide ((D.int (dnth xs 4)) < (Int.ofNat (List.length (D.list (dnth xs 0)))))))
noncomputable def xstPlaced0_1 (hs : List D) (xs : List D) : List D :=
  (((D.list (dnth xs 2)) ++ [(dnth hs 0)]) ++ [(dnth (D.list (dnth xs 0)) (Int.toNat (D.int (dnth xs 4))))])
noncomputable def xstPlaced0_2 (xs : List D) : List D :=
  ((D.list (dnth xs 2)) ++ [(dnth (D.list (dnth xs 0)) (Int.toNat (D.int (dnth xs 4))))])
noncomputable def xstPlaced0_3 (go : List D → List D → Option (Ex × List D × List D)) (hs : List D) (xs : List D) : Option (Ex × List D × List D) :=
  bif (xstPlaced0_0 xs) then
    bif (decide ((List.length (xstPlaced0_2 xs)) ≤ 4294967296)) then
      (go [(dnth hs 0)] [(D.r (D.list (dnth xs 0))), (D.r []), (D.r (xstPlaced0_2 xs)), (D.b (D.bool (dnth xs 3))), (D.i (IntKind.wrap Go.IntKind.i64 ((D.int (dnth xs 4)) + (1 : Int))))])
    else (Option.none)
  else (Option.none)
noncomputable def stPlaced0 (go : List D → List D → Option (Ex × List D × List D)) (hs xs : List D) : Option (Ex × List D × List D) :=
  bif (decide ((D.int (dnth xs 4)) < (Int.ofNat (List.length (D.list (dnth xs 0)))))) then
    bif (!(D.bool (dnth xs 3))) then
      bif (xstPlaced0_0 xs) then
        bif (decide ((D.int (D.f (dnth hs 0) 1)) < (D.int (D.f (dnth (D.list (dnth xs 0)) (Int.toNat (D.int (dnth xs 4)))) 1)))) then
          bif (decide ((List.length ((D.list (dnth xs 2)) ++ [(dnth hs 0)])) ≤ 4294967296)) then
            bif (xstPlaced0_0 xs) then
              bif (decide ((List.length (xstPlaced0_1 hs xs)) ≤ 4294967296)) then
                (go [(dnth hs 0)] [(D.r (D.list (dnth xs 0))), (D.r []), (D.r (xstPlaced0_1 hs xs)), (D.b Bool.true), (D.i (IntKind.wrap Go.IntKind.i64 ((D.int (dnth xs 4)) + (1 : Int))))])
              else (Option.none)
            else (Option.none)
          else (Option.none)
        else (xstPlaced0_3 go hs xs)
      else (Option.none)
    else (xstPlaced0_3 go hs xs)
  else (Option.some ((Ex.exit 0), ([(dnth hs 0)], [(D.r []), (D.r (D.list (dnth xs 2))), (D.b (D.bool (dnth xs 3)))])))
theorem evstPlaced0 (go : List D → List D → Option (Ex × List D × List D)) (hs xs : List D) : stepOf (EPlaced) (vlen sgPlaced.heap) (loopN (bodyOf Try.f58) 0) liPlaced0 go hs xs = stPlaced0 go hs xs := by kernel_rfl

noncomputable def xmSide_0 (xs : List D) : St3 :=
  (sideG (D.list (dnth xs 3)) (D.bool (dnth xs 4)) (dnth xs 0) (dnth xs 1) [] (rest (D.r (D.list (dnth xs 2))) (D.i (0 : Int))))
noncomputable def xmSide_1 (xs : List D) : D × List D :=
  ((xmSide_0 xs)).2
noncomputable def mSide (hs xs : List D) : Option (List D × List D) :=
  bif (decide ((0 + (List.length (rest (D.r (D.list (dnth xs 2))) (D.i (0 : Int))))) ≤ 4294967296)) then
    (Option.some ([], [((xmSide_0 xs)).1, ((xmSide_1 xs)).1, (D.r ((xmSide_1 xs)).2)]))
  else (Option.none)
theorem evSide (hs xs : List D) : evF (ESide) Try.f36 sgSide hs xs = mSide hs xs := by kernel_rfl

noncomputable def xstSide0_0 (hs : List D) : List D :=
  [(dnth hs 0), (dnth hs 1), (dnth hs 2), (dnth hs 3)]
noncomputable def xstSide0_1 (xs : List D) : List D :=
  [(D.r (D.list (dnth xs 0))), (D.r (D.list (dnth xs 1))), (D.b (D.bool (dnth xs 2))), (D.r []), (D.r []), (D.r []), (D.r []), (D.r (D.list (dnth xs 7))), (D.i (IntKind.wrap Go.IntKind.i64 ((D.int (dnth xs 8)) + (1 : Int))))]
noncomputable def xstSide0_2 (go : List D → List D → Option (Ex × List D × List D)) (hs : List D) (xs : List D) : Option (Ex × List D × List D) :=
  (go (xstSide0_0 hs) (xstSide0_1 xs))
noncomputable def xstSide0_3 (xs : List D) : Int :=
  (firstRem (D.int (D.f (dnth (D.list (dnth xs 0)) (Int.toNat (D.int (dnth xs 8)))) 1)) (D.list (dnth xs 1)))
noncomputable def xstSide0_4 (hs : List D) (xs : List D) : D :=
  (vMinus (dnth hs 0) (D.int (D.f (dnth (D.list (dnth xs 0)) (Int.toNat (D.int (dnth xs 8)))) 2)))
noncomputable def stSide0 (go : List D → List D → Option (Ex × List D × List D)) (hs xs : List D) : Option (Ex × List D × List D) :=
  bif (decide ((D.int (dnth xs 8)) < (Int.ofNat (List.length (D.list (dnth xs 0)))))) then
    bif ((decide ((0 : Int) ≤ (D.int (dnth xs 8)))) && (decide ((D.int (dnth xs 8)) < (Int.ofNat (List.length (D.list (dnth xs 0))))))) then
      bif (!(decide ((D.int (D.f (dnth (D.list (dnth xs 0)) (Int.toNat (D.int (dnth xs 8)))) 0)) = (1 : Int)))) then
        (xstSide0_2 go hs xs)
      else bif (decide ((xstSide0_3 xs) = (2 : Int))) then
        (go [(xstSide0_4 hs xs), (vPlus (dnth hs 1) (D.int (D.f (dnth (D.list (dnth xs 0)) (Int.toNat (D.int (dnth xs 8)))) 2))), (dnth hs 2), (dnth hs 3)] (xstSide0_1 xs))
      else bif (decide ((xstSide0_3 xs) = (0 : Int))) then
        bif (decide (((List.length (D.list (dnth xs 7))) + 1) ≤ 4294967296)) then
          (go [(xstSide0_4 hs xs), (dnth hs 1), (dnth hs 2), (dnth hs 3)] [(D.r (D.list (dnth xs 0))), (D.r (D.list (dnth xs 1))), (D.b (D.bool (dnth xs 2))), (D.r []), (D.r []), (D.r []), (D.r []), (D.r (insR (D.r [(D.b (D.bool (dnth xs 2))), (D.i (D.int (D.f (dnth (D.list (dnth xs 0)) (Int.toNat (D.int (dnth xs 8)))) 1))), (D.i (D.int (D.f (dnth (D.list (dnth xs 0)) (Int.toNat (D.int (dnth xs 8)))) 2))), (D.f (dnth (D.list (dnth xs 0)) (Int.toNat (D.int (dnth xs 8)))) 3)]) (D.list (dnth xs 7)))), (D.i (IntKind.wrap Go.IntKind.i64 ((D.int (dnth xs 8)) + (1 : Int))))])
        else (Option.none)
      else (xstSide0_2 go hs xs)
    else (Option.none)
  else (Option.some ((Ex.exit 0), ((xstSide0_0 hs), [(D.r []), (D.r []), (D.r []), (D.r []), (D.r (D.list (dnth xs 7)))])))
theorem evstSide0 (go : List D → List D → Option (Ex × List D × List D)) (hs xs : List D) : stepOf (ESide) (vlen sgSide.heap) (loopN (bodyOf Try.f36) 0) liSide0 go hs xs = stSide0 go hs xs := by kernel_rfl

noncomputable def xmFold_0 : Option (List D × List D) :=
  (Option.some ([], [(D.r [(D.i (0 : Int)), (D.i (0 : Int)), (D.r [])]), (D.i (1 : Int))]))
noncomputable def xmFold_1 (xs : List D) : List D :=
  (List.drop 0 (List.take (Int.toNat (D.int (D.f (dnth xs 4) 0))) (D.list (dnth xs 2))))
noncomputable def xmFold_2 (xs : List D) : List D :=
  (List.drop 0 (List.take (Int.toNat (D.int (D.f (dnth xs 4) 1))) (D.list (dnth xs 3))))
noncomputable def xmFold_3 : Option (List D × List D) :=
  (Option.some ([], [(D.r [(D.i (0 : Int)), (D.i (0 : Int)), (D.r [])]), (D.i (120 : Int))]))
noncomputable def xmFold_4 (xs : List D) : St3 :=
  (partL (mapOf (ofMap (mapOf (ofMap (List.foldl remStep [] (xmFold_2 xs)))))) Bool.true (wPlus (D.r [(D.i (0 : Int)), (D.i (0 : Int))]) (D.int (dnth xs 0))) (wPlus (D.r [(D.i (0 : Int)), (D.i (0 : Int))]) (D.int (dnth xs 1))) (xmFold_1 xs))
noncomputable def xmFold_5 (xs : List D) : D × List D :=
  ((xmFold_4 xs)).2
noncomputable def xmFold_6 (xs : List D) : St3 :=
  (partL (mapOf (ofMap (mapOf (ofMap (List.foldl remStep [] (xmFold_1 xs)))))) Bool.false ((xmFold_5 xs)).1 ((xmFold_4 xs)).1 (xmFold_2 xs))
noncomputable def xmFold_7 (xs : List D) : D × List D :=
  ((xmFold_6 xs)).2
noncomputable def xmFold_8 (xs : List D) : List D :=
  ((isort ((xmFold_5 xs)).2) ++ (isort ((xmFold_7 xs)).2))
noncomputable def xmFold_9 (xs : List D) : Int :=
  (wValue ((xmFold_7 xs)).1)
noncomputable def xmFold_10 (xs : List D) : Int :=
  (wValue ((xmFold_6 xs)).1)
noncomputable def xmFold_11 : Option (List D × List D) :=
  (Option.some ([], [(D.r [(D.i (0 : Int)), (D.i (0 : Int)), (D.r [])]), (D.i (130 : Int))]))
noncomputable def mFold (hs xs : List D) : Option (List D × List D) :=
  bif (!(decide ((D.int (D.f (dnth xs 4) 0)) < (0 : Int)))) then
    bif (!(decide ((Int.ofNat (List.length (D.list (dnth xs 2)))) < (D.int (D.f (dnth xs 4) 0))))) then
      bif (!(decide ((D.int (D.f (dnth xs 4) 1)) < (0 : Int)))) then
        bif (decide ((Int.ofNat (List.length (D.list (dnth xs 3)))) < (D.int (D.f (dnth xs 4) 1)))) then
          (xmFold_0)
        else bif (Option.isSome (sumL (0 : Int) [(D.i (D.int (dnth xs 0))), (D.i (D.int (dnth xs 1)))])) then
          bif ((decide ((0 : Int) ≤ (D.int (D.f (dnth xs 4) 0)))) && (decide ((D.int (D.f (dnth xs 4) 0)) ≤ (Int.ofNat (List.length (D.list (dnth xs 2))))))) then
            bif ((decide ((0 : Int) ≤ (D.int (D.f (dnth xs 4) 1)))) && (decide ((D.int (D.f (dnth xs 4) 1)) ≤ (Int.ofNat (List.length (D.list (dnth xs 3))))))) then
              bif (!(!(List.all (xmFold_1 xs) valid))) then
                bif (!(List.all (xmFold_2 xs) valid)) then
                  (xmFold_3)
                else bif (decide ((List.length (xmFold_1 xs)) ≤ 4294967296)) then
                  bif (decide ((List.length (xmFold_2 xs)) ≤ 4294967296)) then
                    bif (decide ((List.length (xmFold_8 xs)) ≤ 4294967296)) then
                      bif (!(decide ((xmFold_9 xs) < (0 : Int)))) then
                        bif (decide ((xmFold_10 xs) < (0 : Int))) then
                          (xmFold_11)
                        else (Option.some ([], [(D.r [(D.i (xmFold_9 xs)), (D.i (xmFold_10 xs)), (D.r (xmFold_8 xs))]), (D.i (0 : Int))]))
                      else (xmFold_11)
                    else (Option.none)
                  else (Option.none)
                else (Option.none)
              else (xmFold_3)
            else (Option.none)
          else (Option.none)
        else (xmFold_0)
      else (xmFold_0)
    else (xmFold_0)
  else (xmFold_0)
theorem evFold (hs xs : List D) : evF (EFold) Try.f10 sgFold hs xs = mFold hs xs := by kernel_rfl

noncomputable def xmRFold_0 : Option (List D × List D) :=
  (Option.some ([], [(D.r [(D.i (0 : Int)), (D.i (0 : Int)), (D.r [])]), (D.i (1 : Int))]))
noncomputable def xmRFold_1 (xs : List D) : List D :=
  (List.drop 0 (List.take (Int.toNat (D.int (D.f (dnth xs 4) 0))) (D.list (dnth xs 2))))
noncomputable def xmRFold_2 (xs : List D) : List D :=
  (List.drop 0 (List.take (Int.toNat (D.int (D.f (dnth xs 4) 1))) (D.list (dnth xs 3))))
noncomputable def xmRFold_3 : Option (List D × List D) :=
  (Option.some ([], [(D.r [(D.i (0 : Int)), (D.i (0 : Int)), (D.r [])]), (D.i (120 : Int))]))
noncomputable def xmRFold_4 (xs : List D) : St3 :=
  (sideL (xmRFold_2 xs) Bool.true (vPlus (D.r [(D.i (0 : Int)), (D.i (0 : Int))]) (D.int (dnth xs 0))) (vPlus (D.r [(D.i (0 : Int)), (D.i (0 : Int))]) (D.int (dnth xs 1))) (xmRFold_1 xs))
noncomputable def xmRFold_5 (xs : List D) : D × List D :=
  ((xmRFold_4 xs)).2
noncomputable def xmRFold_6 (xs : List D) : St3 :=
  (sideL (xmRFold_1 xs) Bool.false ((xmRFold_5 xs)).1 ((xmRFold_4 xs)).1 (xmRFold_2 xs))
noncomputable def xmRFold_7 (xs : List D) : D × List D :=
  ((xmRFold_6 xs)).2
noncomputable def xmRFold_8 (xs : List D) : D :=
  ((xmRFold_7 xs)).1
noncomputable def xmRFold_9 (xs : List D) : D :=
  ((xmRFold_6 xs)).1
noncomputable def xmRFold_10 : Option (List D × List D) :=
  (Option.some ([], [(D.r [(D.i (0 : Int)), (D.i (0 : Int)), (D.r [])]), (D.i (130 : Int))]))
noncomputable def xmRFold_11 (xs : List D) : List D :=
  (((xmRFold_5 xs)).2 ++ ((xmRFold_7 xs)).2)
noncomputable def mRFold (hs xs : List D) : Option (List D × List D) :=
  bif (!(decide ((D.int (D.f (dnth xs 4) 0)) < (0 : Int)))) then
    bif (!(decide ((Int.ofNat (List.length (D.list (dnth xs 2)))) < (D.int (D.f (dnth xs 4) 0))))) then
      bif (!(decide ((D.int (D.f (dnth xs 4) 1)) < (0 : Int)))) then
        bif (!(decide ((Int.ofNat (List.length (D.list (dnth xs 3)))) < (D.int (D.f (dnth xs 4) 1))))) then
          bif (!(!(right (D.int (dnth xs 0))))) then
            bif (!(!(right (D.int (dnth xs 1))))) then
              bif (!(right (IntKind.wrap Go.IntKind.i64 ((D.int (dnth xs 0)) + (D.int (dnth xs 1)))))) then
                (xmRFold_0)
              else bif ((decide ((0 : Int) ≤ (D.int (D.f (dnth xs 4) 0)))) && (decide ((D.int (D.f (dnth xs 4) 0)) ≤ (Int.ofNat (List.length (D.list (dnth xs 2))))))) then
                bif ((decide ((0 : Int) ≤ (D.int (D.f (dnth xs 4) 1)))) && (decide ((D.int (D.f (dnth xs 4) 1)) ≤ (Int.ofNat (List.length (D.list (dnth xs 3))))))) then
                  bif (!(!(List.all (xmRFold_1 xs) valid))) then
                    bif (!(List.all (xmRFold_2 xs) valid)) then
                      (xmRFold_3)
                    else bif (decide ((List.length (xmRFold_1 xs)) ≤ 4294967296)) then
                      bif (decide ((List.length (xmRFold_2 xs)) ≤ 4294967296)) then
                        bif (!(decide ((D.int (D.f (xmRFold_8 xs) 0)) < (0 : Int)))) then
                          bif (decide ((D.int (D.f (xmRFold_9 xs) 0)) < (0 : Int))) then
                            (xmRFold_10)
                          else bif (decide ((List.length (xmRFold_11 xs)) ≤ 4294967296)) then
                            (Option.some ([], [(D.r [(D.i (vCut (xmRFold_8 xs))), (D.i (vCut (xmRFold_9 xs))), (D.r (xmRFold_11 xs))]), (D.i (0 : Int))]))
                          else (Option.none)
                        else (xmRFold_10)
                      else (Option.none)
                    else (Option.none)
                  else (xmRFold_3)
                else (Option.none)
              else (Option.none)
            else (xmRFold_0)
          else (xmRFold_0)
        else (xmRFold_0)
      else (xmRFold_0)
    else (xmRFold_0)
  else (xmRFold_0)
theorem evRFold (hs xs : List D) : evF (ERFold) Try.f11 sgRFold hs xs = mRFold hs xs := by kernel_rfl

noncomputable def xmSpend_0 (xs : List D) : List D :=
  (addsIf (test3 (mapOf (ofMap (mapOf (ofMap (List.foldl remStep [] (firstN (D.list (dnth xs 2)) (D.int (D.f (dnth xs 3) 1))))))))) (D.list (dnth xs 1)))
noncomputable def xmSpend_1 (xs : List D) : Int :=
  (Int.ofNat (List.length (xmSpend_0 xs)))
noncomputable def xmSpend_2 (xs : List D) : List D :=
  (addsIf (test2 (mapOf (ofMap (mapOf (ofMap (mapOf (ofMap (mapOf (ofMap (List.foldl remStep [] (firstN (D.list (dnth xs 1)) (D.int (D.f (dnth xs 3) 0))))))))))))) (D.list (dnth xs 2)))
noncomputable def xmSpend_3 (xs : List D) : Int :=
  (Int.ofNat (List.length (xmSpend_2 xs)))
noncomputable def xmSpend_4 (xs : List D) : Int :=
  (wValue (giveAll (takeAll (wPlus (D.r [(D.i (0 : Int)), (D.i (0 : Int))]) (if ((1152921504606846976 : Int) < (D.int (dnth xs 0))) then (1152921504606846976 : Int) else (D.int (dnth xs 0)))) (rest (D.r (xmSpend_0 xs)) (D.i (0 : Int)))) (rest (D.r (xmSpend_2 xs)) (D.i (0 : Int)))))
noncomputable def xmSpend_5 (xs : List D) : Int :=
  (if ((xmSpend_4 xs) < (0 : Int)) then (0 : Int) else (xmSpend_4 xs))
noncomputable def mSpend (hs xs : List D) : Option (List D × List D) :=
  bif (decide ((D.int (dnth xs 0)) < (0 : Int))) then
    (Option.some ([], [(D.i (0 : Int))]))
  else bif (decide ((List.length (D.list (dnth xs 1))) ≤ 4294967296)) then
    bif ((@decide ((xmSpend_1 xs) = (xmSpend_1 xs)) (Int.instDecidableEq (xmSpend_1 xs) (xmSpend_1 xs))) && Bool.true) then
      bif (decide ((List.length (D.list (dnth xs 2))) ≤ 4294967296)) then
        bif ((@decide ((xmSpend_3 xs) = (xmSpend_3 xs)) (Int.instDecidableEq (xmSpend_3 xs) (xmSpend_3 xs))) && Bool.true) then
          (Option.some ([], [(D.i (if ((1152921504606846976 : Int) < (xmSpend_5 xs)) then (1152921504606846976 : Int) else (xmSpend_5 xs)))]))
        else (Option.none)
      else (Option.none)
    else (Option.none)
  else (Option.none)
theorem evSpend (hs xs : List D) : evF (ESpend) Try.f15 sgSpend hs xs = mSpend hs xs := by kernel_rfl

noncomputable def stSpend0 (go : List D → List D → Option (Ex × List D × List D)) (hs xs : List D) : Option (Ex × List D × List D) :=
  bif (decide ((D.int (dnth xs 5)) < (D.int (dnth xs 4)))) then
    bif ((decide ((0 : Int) ≤ (D.int (dnth xs 5)))) && (decide ((D.int (dnth xs 5)) < (Int.ofNat (List.length (D.list (dnth xs 3))))))) then
      (go [(D.r []), (ofMap (mapOf (dnth hs 1))), (wMinus (dnth hs 2) (D.int (dnth (D.list (dnth xs 3)) (Int.toNat (D.int (dnth xs 5))))))] [(D.r (D.list (dnth xs 0))), (D.r []), (D.r []), (D.r (D.list (dnth xs 3))), (D.i (D.int (dnth xs 4))), (D.i (IntKind.wrap Go.IntKind.i64 ((D.int (dnth xs 5)) + (1 : Int))))])
    else (Option.none)
  else (Option.some ((Ex.exit 0), ([(D.r []), (ofMap (mapOf (dnth hs 1))), (dnth hs 2)], [(D.r (D.list (dnth xs 0))), (D.r []), (D.r [])])))
theorem evstSpend0 (go : List D → List D → Option (Ex × List D × List D)) (hs xs : List D) : stepOf (ESpend) (vlen sgSpend.heap) (loopN (bodyOf Try.f15) 0) liSpend0 go hs xs = stSpend0 go hs xs := by kernel_rfl

noncomputable def stSpend1 (go : List D → List D → Option (Ex × List D × List D)) (hs xs : List D) : Option (Ex × List D × List D) :=
  bif (decide ((D.int (dnth xs 3)) < (D.int (dnth xs 2)))) then
    bif ((decide ((0 : Int) ≤ (D.int (dnth xs 3)))) && (decide ((D.int (dnth xs 3)) < (Int.ofNat (List.length (D.list (dnth xs 1))))))) then
      (go [(wPlus (dnth hs 0) (D.int (dnth (D.list (dnth xs 1)) (Int.toNat (D.int (dnth xs 3))))))] [(D.r []), (D.r (D.list (dnth xs 1))), (D.i (D.int (dnth xs 2))), (D.i (IntKind.wrap Go.IntKind.i64 ((D.int (dnth xs 3)) + (1 : Int))))])
    else (Option.none)
  else (Option.some ((Ex.exit 2), ([(dnth hs 0)], [(D.r [])])))
theorem evstSpend1 (go : List D → List D → Option (Ex × List D × List D)) (hs xs : List D) : stepOf (ESpend) (vlen sgSpend.heap) (loopN (bodyOf Try.f15) 1) liSpend1 go hs xs = stSpend1 go hs xs := by kernel_rfl

noncomputable def mOpen (hs xs : List D) : Option (List D × List D) :=
  bif (decide ((List.length (D.list (dnth xs 0))) ≤ 4294967296)) then
    (Option.some ([], [(D.i (Int.ofNat (List.length (addsIf (test0 (mapOf (ofMap (mapOf (ofMap (List.foldl remStep [] (firstN (D.list (dnth xs 1)) (D.int (dnth xs 2))))))))) (D.list (dnth xs 0))))))]))
  else (Option.none)
theorem evOpen (hs xs : List D) : evF (EOpen) Try.f16 sgOpen hs xs = mOpen hs xs := by kernel_rfl

noncomputable def mRSpend (hs xs : List D) : Option (List D × List D) :=
  bif (decide ((D.int (dnth xs 0)) < (0 : Int))) then
    (Option.some ([], [(D.i (0 : Int))]))
  else bif (decide ((1152921504606846976 : Int) < (D.int (dnth xs 0)))) then
    (Option.some ([], [(D.i (vCut (rGive (firstN (D.list (dnth xs 1)) (D.int (D.f (dnth xs 3) 0))) (rTake (firstN (D.list (dnth xs 2)) (D.int (D.f (dnth xs 3) 1))) (vPlus (D.r [(D.i (0 : Int)), (D.i (0 : Int))]) (1152921504606846976 : Int)) (rest (D.r (D.list (dnth xs 1))) (D.i (0 : Int)))) (rest (D.r (D.list (dnth xs 2))) (D.i (0 : Int))))))]))
  else (Option.some ([], [(D.i (vCut (rGive (firstN (D.list (dnth xs 1)) (D.int (D.f (dnth xs 3) 0))) (rTake (firstN (D.list (dnth xs 2)) (D.int (D.f (dnth xs 3) 1))) (vPlus (D.r [(D.i (0 : Int)), (D.i (0 : Int))]) (D.int (dnth xs 0))) (rest (D.r (D.list (dnth xs 1))) (D.i (0 : Int)))) (rest (D.r (D.list (dnth xs 2))) (D.i (0 : Int))))))]))
theorem evRSpend (hs xs : List D) : evF (ERSpend) Try.f17 sgRSpend hs xs = mRSpend hs xs := by kernel_rfl

noncomputable def xstRSpend0_0 (xs : List D) : List D :=
  [(D.r (D.list (dnth xs 0))), (D.r (D.list (dnth xs 1))), (D.r (D.list (dnth xs 2))), (D.r (D.list (dnth xs 3))), (D.r []), (D.i (IntKind.wrap Go.IntKind.i64 ((D.int (dnth xs 5)) + (1 : Int))))]
noncomputable def xstRSpend0_1 (go : List D → List D → Option (Ex × List D × List D)) (hs : List D) (xs : List D) : Option (Ex × List D × List D) :=
  (go [(dnth hs 0)] (xstRSpend0_0 xs))
noncomputable def stRSpend0 (go : List D → List D → Option (Ex × List D × List D)) (hs xs : List D) : Option (Ex × List D × List D) :=
  bif (decide ((D.int (dnth xs 5)) < (Int.ofNat (List.length (D.list (dnth xs 0)))))) then
    bif ((decide ((0 : Int) ≤ (D.int (dnth xs 5)))) && (decide ((D.int (dnth xs 5)) < (Int.ofNat (List.length (D.list (dnth xs 0))))))) then
      bif (decide ((D.int (D.f (dnth (D.list (dnth xs 0)) (Int.toNat (D.int (dnth xs 5)))) 0)) = (1 : Int))) then
        bif (valid (dnth (D.list (dnth xs 0)) (Int.toNat (D.int (dnth xs 5))))) then
          bif (!(decide ((firstRem (D.int (D.f (dnth (D.list (dnth xs 0)) (Int.toNat (D.int (dnth xs 5)))) 1)) (D.list (dnth xs 3))) = (3 : Int)))) then
            (go [(vMinus (dnth hs 0) (D.int (D.f (dnth (D.list (dnth xs 0)) (Int.toNat (D.int (dnth xs 5)))) 2)))] (xstRSpend0_0 xs))
          else (xstRSpend0_1 go hs xs)
        else (xstRSpend0_1 go hs xs)
      else (xstRSpend0_1 go hs xs)
    else (Option.none)
  else (Option.some ((Ex.exit 0), ([(dnth hs 0)], [(D.r (D.list (dnth xs 1))), (D.r (D.list (dnth xs 2))), (D.r [])])))
theorem evstRSpend0 (go : List D → List D → Option (Ex × List D × List D)) (hs xs : List D) : stepOf (ERSpend) (vlen sgRSpend.heap) (loopN (bodyOf Try.f17) 0) liRSpend0 go hs xs = stRSpend0 go hs xs := by kernel_rfl

noncomputable def xstRSpend1_0 (xs : List D) : List D :=
  [(D.r (D.list (dnth xs 0))), (D.r (D.list (dnth xs 1))), (D.r []), (D.i (IntKind.wrap Go.IntKind.i64 ((D.int (dnth xs 3)) + (1 : Int))))]
noncomputable def xstRSpend1_1 (go : List D → List D → Option (Ex × List D × List D)) (hs : List D) (xs : List D) : Option (Ex × List D × List D) :=
  (go [(dnth hs 0)] (xstRSpend1_0 xs))
noncomputable def stRSpend1 (go : List D → List D → Option (Ex × List D × List D)) (hs xs : List D) : Option (Ex × List D × List D) :=
  bif (decide ((D.int (dnth xs 3)) < (Int.ofNat (List.length (D.list (dnth xs 0)))))) then
    bif ((decide ((0 : Int) ≤ (D.int (dnth xs 3)))) && (decide ((D.int (dnth xs 3)) < (Int.ofNat (List.length (D.list (dnth xs 0))))))) then
      bif (decide ((D.int (D.f (dnth (D.list (dnth xs 0)) (Int.toNat (D.int (dnth xs 3)))) 0)) = (1 : Int))) then
        bif (valid (dnth (D.list (dnth xs 0)) (Int.toNat (D.int (dnth xs 3))))) then
          bif (decide ((firstRem (D.int (D.f (dnth (D.list (dnth xs 0)) (Int.toNat (D.int (dnth xs 3)))) 1)) (D.list (dnth xs 1))) = (2 : Int))) then
            (go [(vPlus (dnth hs 0) (D.int (D.f (dnth (D.list (dnth xs 0)) (Int.toNat (D.int (dnth xs 3)))) 2)))] (xstRSpend1_0 xs))
          else (xstRSpend1_1 go hs xs)
        else (xstRSpend1_1 go hs xs)
      else (xstRSpend1_1 go hs xs)
    else (Option.none)
  else (Option.some ((Ex.exit 2), ([(dnth hs 0)], [(D.r [])])))
theorem evstRSpend1 (go : List D → List D → Option (Ex × List D × List D)) (hs xs : List D) : stepOf (ERSpend) (vlen sgRSpend.heap) (loopN (bodyOf Try.f17) 1) liRSpend1 go hs xs = stRSpend1 go hs xs := by kernel_rfl

noncomputable def mROpen (hs xs : List D) : Option (List D × List D) :=
  (Option.some ([], [(D.i ((0 : Int) + (Int.ofNat (List.countP.go (rAdd (firstN (D.list (dnth xs 1)) (D.int (dnth xs 2))) (0 : Int)) (rest (D.r (D.list (dnth xs 0))) (D.i (0 : Int))) 0))))]))
theorem evROpen (hs xs : List D) : evF (EROpen) Try.f18 sgROpen hs xs = mROpen hs xs := by kernel_rfl

noncomputable def xstROpen0_0 (xs : List D) : Bool :=
  ((decide ((0 : Int) ≤ (D.int (dnth xs 3)))) && (decide ((D.int (dnth xs 3)) < (Int.ofNat (List.length (D.list (dnth xs 0)))))))
noncomputable def xstROpen0_1 (go : List D → List D → Option (Ex × List D × List D)) (xs : List D) : Option (Ex × List D × List D) :=
  (go [] [(D.r (D.list (dnth xs 0))), (D.r (D.list (dnth xs 1))), (D.i (D.int (dnth xs 2))), (D.i (IntKind.wrap Go.IntKind.i64 ((D.int (dnth xs 3)) + (1 : Int))))])
noncomputable def stROpen0 (go : List D → List D → Option (Ex × List D × List D)) (hs xs : List D) : Option (Ex × List D × List D) :=
  bif (decide ((D.int (dnth xs 3)) < (Int.ofNat (List.length (D.list (dnth xs 0)))))) then
    bif (xstROpen0_0 xs) then
      bif (decide ((D.int (D.f (dnth (D.list (dnth xs 0)) (Int.toNat (D.int (dnth xs 3)))) 0)) = (1 : Int))) then
        bif (xstROpen0_0 xs) then
          bif (valid (dnth (D.list (dnth xs 0)) (Int.toNat (D.int (dnth xs 3))))) then
            bif (xstROpen0_0 xs) then
              bif (decide ((firstRem (D.int (D.f (dnth (D.list (dnth xs 0)) (Int.toNat (D.int (dnth xs 3)))) 1)) (D.list (dnth xs 1))) = (0 : Int))) then
                (go [] [(D.r (D.list (dnth xs 0))), (D.r (D.list (dnth xs 1))), (D.i (IntKind.wrap Go.IntKind.i64 ((D.int (dnth xs 2)) + (1 : Int)))), (D.i (IntKind.wrap Go.IntKind.i64 ((D.int (dnth xs 3)) + (1 : Int))))])
              else (xstROpen0_1 go xs)
            else (Option.none)
          else (xstROpen0_1 go xs)
        else (Option.none)
      else (xstROpen0_1 go xs)
    else (Option.none)
  else (Option.some ((Ex.exit 0), ([], [(D.i (D.int (dnth xs 2)))])))
theorem evstROpen0 (go : List D → List D → Option (Ex × List D × List D)) (hs xs : List D) : stepOf (EROpen) (vlen sgROpen.heap) (loopN (bodyOf Try.f18) 0) liROpen0 go hs xs = stROpen0 go hs xs := by kernel_rfl
end Go.Proofs.Ytkepijaabpkdbaa

/- What the evaluator makes of folding is what its definitions say. -/
namespace Go.Proofs.Ytkepijaabpkdbaa
open Go Go.Ev

theorem partF_open (es : List (D × D)) (mine : Bool) (s : St3) (u : D) : (partF es mine s u).2.2.length ≤ s.2.2.length + 1 := by
  unfold partF
  cases (!decide (uKind u = 1) || decide (kindIn es (uId u) = 3))
  · cases decide (kindIn es (uId u) = 2) <;> simp
  · simp
theorem partG_open (es : List (D × D)) (mine : Bool) : ∀ (l : List D) (own other : D) (o : List D), (partG es mine own other o l).2.2.length ≤ o.length + l.length
  | [], _, _, o => by simp [partG]
  | u :: l, own, other, o => by
    have h := partF_open es mine (own, other, o) u
    have h2 := partG_open es mine l (partF es mine (own, other, o) u).1 (partF es mine (own, other, o) u).2.1 (partF es mine (own, other, o) u).2.2
    have e : partG es mine own other o (u :: l) = partG es mine (partF es mine (own, other, o) u).1 (partF es mine (own, other, o) u).2.1 (partF es mine (own, other, o) u).2.2 l := rfl
    rw [e]
    simp only [List.length_cons] at h ⊢
    omega

theorem min_pend (m : Bool) (u : D) : D.r [.b m, .i (D.int (D.f u 1)), .i (D.int (D.f u 2)), D.f u 3] = pend m u := rfl

set_option maxHeartbeats 1000000 in
theorem jPart0 : LoopJust EPart (vlen sgPart.heap) (loopN (bodyOf Try.f30) 0) liPart0 := by
  refine loopJust_of (fun hs xs => (rest (dnth xs 7) (dnth xs 9)).length) (by kernel_rfl) (by kernel_rfl) fun go hs xs p w h ih => ?_
  rw [evstPart0]
  simp only [wf_loop, liPart0, slotShapes, wfs_cons, wf_dat, wf_int, wf_bool, wf_str, wf_slice, wf_fn, wf_ref, wf_rall, wf_mref, wf_own, wf_agg, wf_rsub, wf_any, wfs_nil, wfh_cons, wfh_nil, wf_hmap, wf_hrow, wf_hbox, true_and] at w
  obtain ⟨⟨_, _, rfl, ⟨es, rfl, _⟩, own, _, rfl, hw1, other, _, rfl, hw2, r1, _, rfl, hw3, r2, _, rfl, hw4, rfl⟩, d0, _, rfl, _, _, rfl, ⟨mine, rfl⟩, d2, _, rfl, d3, _, rfl, d4, _, rfl, d5, _, rfl, _, _, rfl, ⟨o, rfl, ho, _⟩, _, _, rfl, ⟨l, rfl, hl, _⟩, _, _, rfl, ⟨n, rfl, _⟩, _, _, rfl, ⟨i, rfl, _⟩, rfl⟩ := w
  simp only [liPart0, dnth_zero, dnth_succ, dnth_one, dnth_two, int_i, bool_b, str_s, list_r, f_r, rest, mapOf_ofMap] at h ih
  simp only [stPart0, xstPart0_0, xstPart0_1, xstPart0_2, xstPart0_3, xstPart0_4, xstPart0_5, xstPart0_6, xstPart0_7, dnth_zero, dnth_succ, dnth_one, dnth_two, int_i, bool_b, str_s, list_r, f_r, mapOf_ofMap]
  replace h := cond_fail h
  obtain ⟨hp, h⟩ := h
  simp only [Bool.and_eq_true, decide_eq_true_eq] at hp
  obtain ⟨⟨rfl, h0⟩, hm⟩ := hp
  by_cases hi : i < (l.length : Int)
  · rw [drop_step h0 hi] at h hm
    simp only [List.length_cons] at hm
    simp only [hi, h0, decide_true, cond_true, Bool.and_self, Int.ofNat_eq_natCast, wrap_next h0 hi hl, min_pend]
    have hm2 : (o ++ [pend mine (dnth l i.toNat)]).length ≤ 4294967296 := by simp; omega
    have key : ∀ (s : St3), partF es mine (own, other, o) (dnth l i.toNat) = s → s.2.2.length ≤ o.length + 1 →
        go [ofMap es, s.1, s.2.1, r1, r2] [.r [], .b mine, .r [], .r [], .r [], .r [], .r s.2.2, .r l, .i (l.length : Int), .i (i + 1)] = some p := by
      intro s hs hz
      refine ih _ _ ?_ fun _ => cond_ok ?_ ?_
      · simp; omega
      · simp at hm ⊢; omega
      · have e : partG es mine own other o (dnth l i.toNat :: l.drop (i + 1).toNat) = partG es mine s.1 s.2.1 s.2.2 (l.drop (i + 1).toNat) := by rw [← hs]; rfl
        rw [e] at h
        simpa using h
    simp only [hm2, decide_true, cond_true]
    have hF : partF es mine (own, other, o) (dnth l i.toNat) = bif !decide (D.int (D.f (dnth l i.toNat) 0) = 1) || decide (D.int (Option.getD (entry es (D.i (D.int (D.f (dnth l i.toNat) 1)))) (D.i 0)) = 3) then (own, other, o)
        else bif decide (D.int (Option.getD (entry es (D.i (D.int (D.f (dnth l i.toNat) 1)))) (D.i 0)) = 2) then (wMinus own (D.int (D.f (dnth l i.toNat) 2)), wPlus other (D.int (D.f (dnth l i.toNat) 2)), o)
        else (wMinus own (D.int (D.f (dnth l i.toNat) 2)), other, o ++ [pend mine (dnth l i.toNat)]) := rfl
    rw [hF] at key
    generalize decide (D.int (D.f (dnth l i.toNat) 0) = 1) = b1 at key ⊢
    generalize decide (D.int (Option.getD (entry es (D.i (D.int (D.f (dnth l i.toNat) 1)))) (D.i 0)) = 3) = b2 at key ⊢
    generalize decide (D.int (Option.getD (entry es (D.i (D.int (D.f (dnth l i.toNat) 1)))) (D.i 0)) = 2) = b3 at key ⊢
    cases b1 <;> cases b2 <;> cases b3 <;> exact key _ rfl (by simp)
  · rw [drop_end h0 hi] at h
    simp only [Int.ofNat_eq_natCast, hi, decide_false, cond_false]
    exact h
theorem phPart (hs xs : List D) (r : List D × List D) (w : wfAll sgPart.heap sgPart.ins hs xs = true) (h : (phiPart hs xs).val = some r) : mPart hs xs = some r := by
  simp only [phiPart] at h
  replace h := cond_fail h
  obtain ⟨hm, h⟩ := h
  simp only [T.val] at h
  rw [← h]
  have h2 := partG_open (mapOf (dnth hs 0)) (dnth xs 2).bool (dnth xs 0).list (dnth xs 3) (dnth xs 4) []
  have hm' := of_decide_eq_true hm
  simp only [List.length_nil, Nat.zero_add] at h2
  have h3 : (partG (mapOf (dnth hs 0)) (dnth xs 2).bool (dnth xs 3) (dnth xs 4) [] (dnth xs 0).list).2.2.length ≤ 4294967296 := by omega
  simp [mPart, xmPart_0, xmPart_1, xmPart_2, rest, partL, hm', h3]

theorem find_cons (id : Int) (u : D) (l : List D) : firstRem id (u :: l) = bif isRem id u then uKind u else firstRem id l := by
  unfold firstRem
  cases h : isRem id u <;> simp [List.find?_cons, h]

theorem jRemoved0 : LoopJust ERemoved (vlen sgRemoved.heap) (loopN (bodyOf Try.f47) 0) liRemoved0 := by
  refine loopJust_of (fun hs xs => (rest (dnth xs 0) (dnth xs 2)).length) (by kernel_rfl) (by kernel_rfl) fun go hs xs p w h ih => ?_
  rw [evstRemoved0]
  simp only [wf_loop, liRemoved0, slotShapes, wfs_cons, wf_dat, wf_int, wf_bool, wf_str, wf_slice, wf_fn, wf_ref, wf_rall, wf_mref, wf_own, wf_agg, wf_rsub, wf_any, wfs_nil, wfh_cons, wfh_nil, wf_hmap, wf_hrow, wf_hbox, true_and] at w
  obtain ⟨rfl, _, _, rfl, ⟨l, rfl, hl, _⟩, _, _, rfl, ⟨id, rfl, _⟩, _, _, rfl, ⟨i, rfl, _⟩, rfl⟩ := w
  simp only [liRemoved0, dnth_zero, dnth_succ, dnth_one, dnth_two, int_i, bool_b, str_s, list_r, f_r, rest, mapOf_ofMap] at h ih
  simp only [stRemoved0, xstRemoved0_0, xstRemoved0_1, dnth_zero, dnth_succ, dnth_one, dnth_two, int_i, bool_b, str_s, list_r, f_r, mapOf_ofMap]
  replace h := cond_fail h
  obtain ⟨hp, h⟩ := h
  simp only [decide_eq_true_eq] at hp
  by_cases hi : i < (l.length : Int)
  · rw [drop_step hp hi, List.any_cons, find_cons] at h
    simp only [hi, hp, decide_true, cond_true, Bool.and_self, Int.ofNat_eq_natCast, wrap_next hp hi hl]
    have hR : isRem id (dnth l i.toNat) = (!decide (D.int (D.f (dnth l i.toNat) 0) = 1) && decide (D.int (D.f (dnth l i.toNat) 1) = id) && valid (dnth l i.toNat)) := rfl
    have next : isRem id (dnth l i.toNat) = false → go [] [.r l, .i id, .i (i + 1)] = some p := by
      intro hf
      rw [hf] at h
      simp only [Bool.false_or, cond_false] at h
      refine ih _ _ ?_ fun _ => cond_ok ?_ h
      · simp; omega
      · simp; omega
    have done : isRem id (dnth l i.toNat) = true → (Ex.ret, ([] : List D), [D.i (D.int (D.f (dnth l i.toNat) 0))]) = p := by
      intro hf
      rw [hf] at h
      simp only [Bool.true_or, cond_true] at h
      exact Option.some.inj h
    rw [hR] at next done
    generalize decide (D.int (D.f (dnth l i.toNat) 0) = 1) = b1 at next done ⊢
    generalize decide (D.int (D.f (dnth l i.toNat) 1) = id) = b2 at next done ⊢
    generalize valid (dnth l i.toNat) = b3 at next done ⊢
    cases b1 <;> cases b2 <;> cases b3 <;> first | exact next rfl | exact congrArg some (done rfl)
  · rw [drop_end hp hi] at h
    simp only [Int.ofNat_eq_natCast, hi, decide_false, cond_false]
    exact h
theorem firstRem_none {id : Int} {l : List D} (h : l.any (isRem id) = false) : firstRem id l = 0 := by
  unfold firstRem
  rw [List.find?_eq_none.2]
  · rfl
  · intro x hx hr
    have : l.any (isRem id) = true := List.any_eq_true.2 ⟨x, hx, hr⟩
    rw [h] at this; simp at this
theorem phRemoved (hs xs : List D) (r : List D × List D) (w : wfAll sgRemoved.heap sgRemoved.ins hs xs = true) (h : (phiRemoved hs xs).val = some r) : mRemoved hs xs = some r := by
  simp only [phiRemoved, T.val] at h
  rw [← h]
  simp only [mRemoved, rest, dnth_zero, dnth_succ, dnth_one, dnth_two, int_i, bool_b, str_s, list_r, f_r, Int.toNat_zero, List.drop_zero]
  cases ha : (dnth xs 0).list.any (isRem (dnth xs 1).int)
  · rw [firstRem_none ha]; simp
  · simp

theorem jAllValid0 : LoopJust EAllValid (vlen sgAllValid.heap) (loopN (bodyOf Try.f35) 0) liAllValid0 := by
  refine loopJust_of (fun hs xs => (rest (dnth xs 0) (dnth xs 1)).length) (by kernel_rfl) (by kernel_rfl) fun go hs xs p w h ih => ?_
  rw [evstAllValid0]
  simp only [wf_loop, liAllValid0, slotShapes, wfs_cons, wf_dat, wf_int, wf_bool, wf_str, wf_slice, wf_fn, wf_ref, wf_rall, wf_mref, wf_own, wf_agg, wf_rsub, wf_any, wfs_nil, wfh_cons, wfh_nil, wf_hmap, wf_hrow, wf_hbox, true_and] at w
  obtain ⟨rfl, _, _, rfl, ⟨l, rfl, hl, _⟩, _, _, rfl, ⟨i, rfl, _⟩, rfl⟩ := w
  simp only [liAllValid0, dnth_zero, dnth_succ, dnth_one, dnth_two, int_i, bool_b, str_s, list_r, f_r, rest, mapOf_ofMap] at h ih
  simp only [stAllValid0, dnth_zero, dnth_succ, dnth_one, dnth_two, int_i, bool_b, str_s, list_r, f_r, mapOf_ofMap]
  replace h := cond_fail h
  obtain ⟨hp, h⟩ := h
  simp only [decide_eq_true_eq] at hp
  by_cases hi : i < (l.length : Int)
  · rw [drop_step hp hi, List.all_cons] at h
    simp only [hi, hp, decide_true, cond_true, Bool.and_self, Int.ofNat_eq_natCast, wrap_next hp hi hl]
    cases hv : valid (dnth l i.toNat) <;> simp only [hv, Bool.false_and, Bool.true_and, Bool.not_true, Bool.not_false, cond_true, cond_false] at h ⊢
    · exact h
    · refine ih _ _ ?_ fun _ => cond_ok ?_ h
      · simp; omega
      · simp; omega
  · rw [drop_end hp hi] at h
    simp only [Int.ofNat_eq_natCast, hi, decide_false, cond_false]
    exact h
theorem phAllValid (hs xs : List D) (r : List D × List D) (w : wfAll sgAllValid.heap sgAllValid.ins hs xs = true) (h : (phiAllValid hs xs).val = some r) : mAllValid hs xs = some r := by
  simp only [phiAllValid, T.val] at h
  rw [← h]
  simp only [mAllValid, rest, dnth_zero, dnth_succ, dnth_one, dnth_two, int_i, bool_b, str_s, list_r, f_r, Int.toNat_zero, List.drop_zero]
  cases (dnth xs 0).list.all valid <;> rfl

theorem placeL_len (p : D) : ∀ (l : List D) (d : Bool), (placeL p d l).1.length ≤ l.length + (bif d then 0 else 1)
  | [], d => by cases d <;> simp [placeL]
  | y :: l, d => by
    simp only [placeL]
    cases hb : (!d && decide (pId p < pId y))
    · have := placeL_len p l d
      simp only [cond_false, List.length_cons]; omega
    · have := placeL_len p l true
      simp only [Bool.and_eq_true, Bool.not_eq_true'] at hb
      rw [hb.1]
      simp only [cond_true, cond_false, List.length_cons] at this ⊢; omega
theorem placeL_true (p : D) : ∀ (l : List D), placeL p true l = (l, true)
  | [] => rfl
  | y :: l => by simp [placeL, placeL_true p l]
theorem placeL_false (p : D) : ∀ (l : List D), (bif (placeL p false l).2 then (placeL p false l).1 else (placeL p false l).1 ++ [p]) = insR p l
  | [] => rfl
  | y :: l => by
    simp only [placeL, insR, Bool.not_false, Bool.true_and]
    by_cases h : pId p < pId y
    · simp [h, placeL_true]
    · have := placeL_false p l
      simp only [h, decide_false, cond_false]
      rw [← this]
      cases (placeL p false l).2 <;> simp

set_option maxHeartbeats 1000000 in
theorem jPlaced0 : LoopJust EPlaced (vlen sgPlaced.heap) (loopN (bodyOf Try.f58) 0) liPlaced0 := by
  refine loopJust_of (fun hs xs => (rest (dnth xs 0) (dnth xs 4)).length) (by kernel_rfl) (by kernel_rfl) fun go hs xs p w h ih => ?_
  rw [evstPlaced0]
  simp only [wf_loop, liPlaced0, slotShapes, wfs_cons, wf_dat, wf_int, wf_bool, wf_str, wf_slice, wf_fn, wf_ref, wf_rall, wf_mref, wf_own, wf_agg, wf_rsub, wf_any, wfs_nil, wfh_cons, wfh_nil, wf_hmap, wf_hrow, wf_hbox, true_and] at w
  obtain ⟨⟨q, _, rfl, hq, rfl⟩, _, _, rfl, ⟨l, rfl, hl, _⟩, d1, _, rfl, _, _, rfl, ⟨o, rfl, ho, _⟩, _, _, rfl, ⟨d, rfl⟩, _, _, rfl, ⟨i, rfl, _⟩, rfl⟩ := w
  simp only [liPlaced0, dnth_zero, dnth_succ, dnth_one, dnth_two, int_i, bool_b, str_s, list_r, f_r, rest, mapOf_ofMap] at h ih
  simp only [stPlaced0, xstPlaced0_0, xstPlaced0_1, xstPlaced0_2, xstPlaced0_3, dnth_zero, dnth_succ, dnth_one, dnth_two, int_i, bool_b, str_s, list_r, f_r, mapOf_ofMap]
  replace h := cond_fail h
  obtain ⟨hp, h⟩ := h
  simp only [Bool.and_eq_true, decide_eq_true_eq] at hp
  obtain ⟨h0, hm⟩ := hp
  by_cases hi : i < (l.length : Int)
  · rw [drop_step h0 hi] at h hm
    simp only [List.length_cons] at hm
    simp only [hi, h0, decide_true, cond_true, Bool.and_self, Int.ofNat_eq_natCast, wrap_next h0 hi hl]
    have hb : pId q = D.int (D.f q 1) := rfl
    simp only [placeL] at h
    have next : ∀ (o' : List D) (d' : Bool), o'.length + (bif d' then 0 else 1) ≤ o.length + 1 + (bif d then 0 else 1) → (bif !d && decide (pId q < pId (dnth l i.toNat)) then (o ++ [q, dnth l i.toNat], true) else (o ++ [dnth l i.toNat], d)) = (o', d') →
        go [q] [.r l, .r [], .r o', .b d', .i (i + 1)] = some p := by
      intro o' d' hz he
      refine ih _ _ ?_ fun _ => cond_ok ?_ ?_
      · simp; omega
      · simp at hm ⊢; omega
      · simp only [dnth_zero, dnth_succ, dnth_one, dnth_two, int_i, bool_b, str_s, list_r, f_r]
        cases hc : (!d && decide (pId q < pId (dnth l i.toNat))) <;> simp only [hc, cond_true, cond_false, Prod.mk.injEq] at he h
        · obtain ⟨rfl, rfl⟩ := he
          simpa using h
        · obtain ⟨rfl, rfl⟩ := he
          simpa using h
    have m1 : (o ++ [dnth l i.toNat]).length ≤ 4294967296 := by simp; omega
    cases d
    · have m2 : (o ++ [q]).length ≤ 4294967296 := by simp at hm ⊢; omega
      have m3 : (o ++ [q] ++ [dnth l i.toNat]).length ≤ 4294967296 := by simp at hm ⊢; omega
      simp only [m1, m2, m3, decide_true, cond_true, Bool.not_false]
      simp only [pId, Bool.not_false, Bool.true_and] at next
      cases hc : decide (D.int (D.f q 1) < D.int (D.f (dnth l i.toNat) 1)) <;> simp only [hc, cond_true, cond_false] at next ⊢
      · exact next _ _ (by simp) rfl
      · refine next _ _ (by simp) ?_
        simp
    · simp only [m1, decide_true, cond_true, Bool.not_true, cond_false]
      exact next _ _ (by simp) rfl
  · rw [drop_end h0 hi] at h
    simp only [Int.ofNat_eq_natCast, hi, decide_false, cond_false]
    simp only [placeL, List.append_nil] at h
    exact h
theorem phPlaced (hs xs : List D) (r : List D × List D) (w : wfAll sgPlaced.heap sgPlaced.ins hs xs = true) (h : (phiPlaced hs xs).val = some r) : mPlaced hs xs = some r := by
  simp only [phiPlaced] at h
  replace h := cond_fail h
  obtain ⟨hm, h⟩ := h
  simp only [T.val] at h
  rw [← h]
  have hm' := of_decide_eq_true hm
  have h2 := placeL_len (dnth xs 1) (dnth xs 0).list false
  have h3 := placeL_false (dnth xs 1) (dnth xs 0).list
  simp only [cond_false] at h2
  have h4 : 0 + ((dnth xs 0).list).length + 1 ≤ 4294967296 := by omega
  simp only [mPlaced, xmPlaced_0, xmPlaced_1, xmPlaced_2, rest, dnth_zero, dnth_succ, dnth_one, dnth_two, int_i, bool_b, str_s, list_r, f_r, Int.toNat_zero, List.drop_zero, List.nil_append, h4, decide_true, cond_true]
  cases hc : (placeL (dnth xs 1) false (dnth xs 0).list).2 <;> simp only [hc, cond_true, cond_false, Bool.not_true, Bool.not_false] at h3 ⊢
  · have h5 : ((placeL (dnth xs 1) false (dnth xs 0).list).1 ++ [dnth xs 1]).length ≤ 4294967296 := by
      rw [h3, insR_length]; omega
    rw [h3] at h5
    simp only [h3, h5, decide_true, cond_true]
  · rw [h3]

theorem sideF_open (b : List D) (ours : Bool) (s : St3) (u : D) : (sideF b ours s u).2.2.length ≤ s.2.2.length + 1 := by
  unfold sideF
  cases (!decide (uKind u = 1))
  · cases decide (firstRem (uId u) b = 2)
    · cases decide (firstRem (uId u) b = 0) <;> simp
    · simp
  · simp
theorem sideG_open (b : List D) (ours : Bool) : ∀ (l : List D) (x y : D) (o : List D), (sideG b ours x y o l).2.2.length ≤ o.length + l.length
  | [], _, _, o => by simp [sideG]
  | u :: l, x, y, o => by
    have h := sideF_open b ours (x, y, o) u
    have h2 := sideG_open b ours l (sideF b ours (x, y, o) u).1 (sideF b ours (x, y, o) u).2.1 (sideF b ours (x, y, o) u).2.2
    have e : sideG b ours x y o (u :: l) = sideG b ours (sideF b ours (x, y, o) u).1 (sideF b ours (x, y, o) u).2.1 (sideF b ours (x, y, o) u).2.2 l := rfl
    rw [e]
    simp only [List.length_cons] at h ⊢
    omega

set_option maxHeartbeats 1000000 in
theorem jSide0 : LoopJust ESide (vlen sgSide.heap) (loopN (bodyOf Try.f36) 0) liSide0 := by
  refine loopJust_of (fun hs xs => (rest (dnth xs 0) (dnth xs 8)).length) (by kernel_rfl) (by kernel_rfl) fun go hs xs p w h ih => ?_
  rw [evstSide0]
  simp only [wf_loop, liSide0, slotShapes, wfs_cons, wf_dat, wf_int, wf_bool, wf_str, wf_slice, wf_fn, wf_ref, wf_rall, wf_mref, wf_own, wf_agg, wf_rsub, wf_any, wfs_nil, wfh_cons, wfh_nil, wf_hmap, wf_hrow, wf_hbox, true_and] at w
  obtain ⟨⟨x, _, rfl, hw1, y, _, rfl, hw2, r1, _, rfl, hw3, r2, _, rfl, hw4, rfl⟩, _, _, rfl, ⟨l, rfl, hl, _⟩, _, _, rfl, ⟨b, rfl, _⟩, _, _, rfl, ⟨ours, rfl⟩, d2, _, rfl, d3, _, rfl, d4, _, rfl, d5, _, rfl, _, _, rfl, ⟨o, rfl, ho, _⟩, _, _, rfl, ⟨i, rfl, _⟩, rfl⟩ := w
  simp only [liSide0, dnth_zero, dnth_succ, dnth_one, dnth_two, int_i, bool_b, str_s, list_r, f_r, rest, mapOf_ofMap] at h ih
  simp only [stSide0, xstSide0_0, xstSide0_1, xstSide0_2, xstSide0_3, xstSide0_4, dnth_zero, dnth_succ, dnth_one, dnth_two, int_i, bool_b, str_s, list_r, f_r, mapOf_ofMap]
  replace h := cond_fail h
  obtain ⟨hp, h⟩ := h
  simp only [Bool.and_eq_true, decide_eq_true_eq] at hp
  obtain ⟨h0, hm⟩ := hp
  by_cases hi : i < (l.length : Int)
  · rw [drop_step h0 hi] at h hm
    simp only [List.length_cons] at hm
    simp only [hi, h0, decide_true, cond_true, Bool.and_self, Int.ofNat_eq_natCast, wrap_next h0 hi hl, min_pend]
    have hm2 : o.length + 1 ≤ 4294967296 := by omega
    have key : ∀ (s : St3), sideF b ours (x, y, o) (dnth l i.toNat) = s → s.2.2.length ≤ o.length + 1 →
        go [s.1, s.2.1, r1, r2] [.r l, .r b, .b ours, .r [], .r [], .r [], .r [], .r s.2.2, .i (i + 1)] = some p := by
      intro s hs hz
      refine ih _ _ ?_ fun _ => cond_ok ?_ ?_
      · simp; omega
      · simp at hm ⊢; omega
      · have e : sideG b ours x y o (dnth l i.toNat :: l.drop (i + 1).toNat) = sideG b ours s.1 s.2.1 s.2.2 (l.drop (i + 1).toNat) := by rw [← hs]; rfl
        rw [e] at h
        simpa using h
    simp only [hm2, decide_true, cond_true]
    have hF : sideF b ours (x, y, o) (dnth l i.toNat) = bif !decide (D.int (D.f (dnth l i.toNat) 0) = 1) then (x, y, o)
        else bif decide (firstRem (D.int (D.f (dnth l i.toNat) 1)) b = 2) then (vMinus x (D.int (D.f (dnth l i.toNat) 2)), vPlus y (D.int (D.f (dnth l i.toNat) 2)), o)
        else bif decide (firstRem (D.int (D.f (dnth l i.toNat) 1)) b = 0) then (vMinus x (D.int (D.f (dnth l i.toNat) 2)), y, insR (pend ours (dnth l i.toNat)) o)
        else (x, y, o) := rfl
    rw [hF] at key
    generalize decide (D.int (D.f (dnth l i.toNat) 0) = 1) = b1 at key ⊢
    generalize decide (firstRem (D.int (D.f (dnth l i.toNat) 1)) b = 2) = b2 at key ⊢
    generalize decide (firstRem (D.int (D.f (dnth l i.toNat) 1)) b = 0) = b3 at key ⊢
    cases b1 <;> cases b2 <;> cases b3 <;> exact key _ rfl (by simp)
  · rw [drop_end h0 hi] at h
    simp only [Int.ofNat_eq_natCast, hi, decide_false, cond_false]
    exact h
theorem phSide (hs xs : List D) (r : List D × List D) (w : wfAll sgSide.heap sgSide.ins hs xs = true) (h : (phiSide hs xs).val = some r) : mSide hs xs = some r := by
  simp only [phiSide] at h
  replace h := cond_fail h
  obtain ⟨hm, h⟩ := h
  simp only [T.val] at h
  rw [← h]
  have hm' := of_decide_eq_true hm
  simp [mSide, xmSide_0, xmSide_1, rest, sideL, hm']

/-! ### Folding -/

theorem firstN_length (l : List D) (n : Int) : (firstN l n).length ≤ l.length := by simp [firstN]; omega
theorem partL_open (es : List (D × D)) (mine : Bool) (x y : D) (l : List D) : (partL es mine x y l).2.2.length ≤ l.length := by
  have := partG_open es mine l x y []
  rw [List.length_nil, Nat.zero_add] at this
  exact this
theorem sideL_open (b : List D) (ours : Bool) (x y : D) (l : List D) : (sideL b ours x y l).2.2.length ≤ l.length := by
  have := sideG_open b ours l x y []
  rw [List.length_nil, Nat.zero_add] at this
  exact this

set_option maxHeartbeats 2000000 in
theorem phFold (hs xs : List D) (r : List D × List D) (w : wfAll sgFold.heap sgFold.ins hs xs = true) (h : (phiFold hs xs).val = some r) : mFold hs xs = some r := by
  simp only [phiFold] at h
  replace h := cond_fail h
  obtain ⟨hm, h⟩ := h
  simp only [T.val] at h
  rw [← h]
  have hm' := of_decide_eq_true hm
  have l1 := firstN_length (dnth xs 2).list ((dnth xs 4).f 0).int
  have l2 := firstN_length (dnth xs 3).list ((dnth xs 4).f 1).int
  have k1 := partL_open ((firstN (dnth xs 3).list ((dnth xs 4).f 1).int).foldl remStep []) true (wPlus wZero (dnth xs 0).int) (wPlus wZero (dnth xs 1).int) (firstN (dnth xs 2).list ((dnth xs 4).f 0).int)
  have k2 := partL_open ((firstN (dnth xs 2).list ((dnth xs 4).f 0).int).foldl remStep []) false (fold1 (dnth xs 0).int (dnth xs 1).int (dnth xs 2).list (dnth xs 3).list (dnth xs 4)).2.1 (fold1 (dnth xs 0).int (dnth xs 1).int (dnth xs 2).list (dnth xs 3).list (dnth xs 4)).1 (firstN (dnth xs 3).list ((dnth xs 4).f 1).int)
  have hz : D.r [D.i 0, D.i 0] = wZero := rfl
  have hl : D.r [D.i 0, D.i 0, D.r []] = noLedger := rfl
  have hs : (sumL 0 [D.i (dnth xs 0).int, D.i (dnth xs 1).int]).isSome = sumOK (dnth xs 0).int (dnth xs 1).int := rfl
  have hf : ∀ (l : List D) (n : Int), l.take n.toNat = firstN l n := fun _ _ => rfl
  simp only [mFold, xmFold_0, xmFold_1, xmFold_2, xmFold_3, xmFold_4, xmFold_5, xmFold_6, xmFold_7, xmFold_8, xmFold_9, xmFold_10, xmFold_11, List.drop_zero, mapOf_ofMap, hz, hl, hs, hf, Int.ofNat_eq_natCast]
  simp only [foldX, cntBad]
  rw [show fold1 (dnth xs 0).int (dnth xs 1).int (dnth xs 2).list (dnth xs 3).list (dnth xs 4) = partL ((firstN (dnth xs 3).list ((dnth xs 4).f 1).int).foldl remStep []) true (wPlus wZero (dnth xs 0).int) (wPlus wZero (dnth xs 1).int) (firstN (dnth xs 2).list ((dnth xs 4).f 0).int) from rfl] at k2
  simp only [fold2, fold1]
  obtain ⟨s1, hs1⟩ : ∃ s, partL ((firstN (dnth xs 3).list ((dnth xs 4).f 1).int).foldl remStep []) true (wPlus wZero (dnth xs 0).int) (wPlus wZero (dnth xs 1).int) (firstN (dnth xs 2).list ((dnth xs 4).f 0).int) = s := ⟨_, rfl⟩
  simp only [hs1] at k1 k2 ⊢
  obtain ⟨s2, hs2⟩ : ∃ s, partL ((firstN (dnth xs 2).list ((dnth xs 4).f 0).int).foldl remStep []) false s1.2.1 s1.1 (firstN (dnth xs 3).list ((dnth xs 4).f 1).int) = s := ⟨_, rfl⟩
  simp only [hs2] at k2 ⊢
  have q1 : (firstN (dnth xs 2).list ((dnth xs 4).f 0).int).length ≤ 4294967296 := by omega
  have q2 : (firstN (dnth xs 3).list ((dnth xs 4).f 1).int).length ≤ 4294967296 := by omega
  have q3 : (isort s1.2.2 ++ isort s2.2.2).length ≤ 4294967296 := by simp; omega
  by_cases c1 : ((dnth xs 4).f 0).int < 0
  · simp [c1]
  by_cases c2 : ((dnth xs 2).list.length : Int) < ((dnth xs 4).f 0).int
  · simp [c1, c2]
  by_cases c3 : ((dnth xs 4).f 1).int < 0
  · simp [c1, c2, c3]
  by_cases c4 : ((dnth xs 3).list.length : Int) < ((dnth xs 4).f 1).int
  · simp [c1, c2, c3, c4]
  have d1 : (0 : Int) ≤ ((dnth xs 4).f 0).int := by omega
  have d2 : ((dnth xs 4).f 0).int ≤ ((dnth xs 2).list.length : Int) := by omega
  have d3 : (0 : Int) ≤ ((dnth xs 4).f 1).int := by omega
  have d4 : ((dnth xs 4).f 1).int ≤ ((dnth xs 3).list.length : Int) := by omega
  simp only [c1, c2, c3, c4, d1, d2, d3, d4, q1, q2, q3, decide_true, decide_false, Bool.not_false, Bool.not_true, cond_true, cond_false, Bool.or_self, Bool.false_or, Bool.and_self, Bool.not_not]
  generalize sumOK (dnth xs 0).int (dnth xs 1).int = b1
  generalize (firstN (dnth xs 2).list ((dnth xs 4).f 0).int).all valid = b2
  generalize (firstN (dnth xs 3).list ((dnth xs 4).f 1).int).all valid = b3
  by_cases c5 : wValue s2.2.1 < 0 <;> by_cases c6 : wValue s2.1 < 0 <;> simp only [c5, c6, decide_true, decide_false, Bool.not_false, Bool.not_true, cond_true, cond_false, Bool.or_self, Bool.or_true, Bool.or_false] <;> cases b1 <;> cases b2 <;> cases b3 <;> rfl

set_option maxHeartbeats 2000000 in
theorem phRFold (hs xs : List D) (r : List D × List D) (w : wfAll sgRFold.heap sgRFold.ins hs xs = true) (h : (phiRFold hs xs).val = some r) : mRFold hs xs = some r := by
  simp only [phiRFold] at h
  replace h := cond_fail h
  obtain ⟨hm, h⟩ := h
  simp only [T.val] at h
  rw [← h]
  have hm' := of_decide_eq_true hm
  have l1 := firstN_length (dnth xs 2).list ((dnth xs 4).f 0).int
  have l2 := firstN_length (dnth xs 3).list ((dnth xs 4).f 1).int
  have k1 := sideL_open (firstN (dnth xs 3).list ((dnth xs 4).f 1).int) true (vPlus wZero (dnth xs 0).int) (vPlus wZero (dnth xs 1).int) (firstN (dnth xs 2).list ((dnth xs 4).f 0).int)
  have k2 := sideL_open (firstN (dnth xs 2).list ((dnth xs 4).f 0).int) false (rfold1 (dnth xs 0).int (dnth xs 1).int (dnth xs 2).list (dnth xs 3).list (dnth xs 4)).2.1 (rfold1 (dnth xs 0).int (dnth xs 1).int (dnth xs 2).list (dnth xs 3).list (dnth xs 4)).1 (firstN (dnth xs 3).list ((dnth xs 4).f 1).int)
  have hz : D.r [D.i 0, D.i 0] = wZero := rfl
  have hl : D.r [D.i 0, D.i 0, D.r []] = noLedger := rfl
  have hf : ∀ (l : List D) (n : Int), l.take n.toNat = firstN l n := fun _ _ => rfl
  simp only [mRFold, xmRFold_0, xmRFold_1, xmRFold_2, xmRFold_3, xmRFold_4, xmRFold_5, xmRFold_6, xmRFold_7, xmRFold_8, xmRFold_9, xmRFold_10, xmRFold_11, List.drop_zero, mapOf_ofMap, hz, hl, hf, Int.ofNat_eq_natCast]
  simp only [foldR, cntBad]
  rw [show rfold1 (dnth xs 0).int (dnth xs 1).int (dnth xs 2).list (dnth xs 3).list (dnth xs 4) = sideL (firstN (dnth xs 3).list ((dnth xs 4).f 1).int) true (vPlus wZero (dnth xs 0).int) (vPlus wZero (dnth xs 1).int) (firstN (dnth xs 2).list ((dnth xs 4).f 0).int) from rfl] at k2
  simp only [rfold2, rfold1]
  obtain ⟨s1, hs1⟩ : ∃ s, sideL (firstN (dnth xs 3).list ((dnth xs 4).f 1).int) true (vPlus wZero (dnth xs 0).int) (vPlus wZero (dnth xs 1).int) (firstN (dnth xs 2).list ((dnth xs 4).f 0).int) = s := ⟨_, rfl⟩
  simp only [hs1] at k1 k2 ⊢
  obtain ⟨s2, hs2⟩ : ∃ s, sideL (firstN (dnth xs 2).list ((dnth xs 4).f 0).int) false s1.2.1 s1.1 (firstN (dnth xs 3).list ((dnth xs 4).f 1).int) = s := ⟨_, rfl⟩
  simp only [hs2] at k2 ⊢
  have q1 : (firstN (dnth xs 2).list ((dnth xs 4).f 0).int).length ≤ 4294967296 := by omega
  have q2 : (firstN (dnth xs 3).list ((dnth xs 4).f 1).int).length ≤ 4294967296 := by omega
  have q3 : (s1.2.2 ++ s2.2.2).length ≤ 4294967296 := by simp; omega
  by_cases c1 : ((dnth xs 4).f 0).int < 0
  · simp [c1]
  by_cases c2 : ((dnth xs 2).list.length : Int) < ((dnth xs 4).f 0).int
  · simp [c1, c2]
  by_cases c3 : ((dnth xs 4).f 1).int < 0
  · simp [c1, c2, c3]
  by_cases c4 : ((dnth xs 3).list.length : Int) < ((dnth xs 4).f 1).int
  · simp [c1, c2, c3, c4]
  have d1 : (0 : Int) ≤ ((dnth xs 4).f 0).int := by omega
  have d2 : ((dnth xs 4).f 0).int ≤ ((dnth xs 2).list.length : Int) := by omega
  have d3 : (0 : Int) ≤ ((dnth xs 4).f 1).int := by omega
  have d4 : ((dnth xs 4).f 1).int ≤ ((dnth xs 3).list.length : Int) := by omega
  simp only [c1, c2, c3, c4, d1, d2, d3, d4, q1, q2, q3, decide_true, decide_false, Bool.not_false, Bool.not_true, cond_true, cond_false, Bool.or_self, Bool.false_or, Bool.and_self, Bool.not_not]
  generalize right (dnth xs 0).int = b1
  generalize right (dnth xs 1).int = b6
  generalize right (IntKind.wrap .i64 ((dnth xs 0).int + (dnth xs 1).int)) = b7
  generalize (firstN (dnth xs 2).list ((dnth xs 4).f 0).int).all valid = b2
  generalize (firstN (dnth xs 3).list ((dnth xs 4).f 1).int).all valid = b3
  by_cases c5 : D.int (D.f s2.2.1 0) < 0 <;> by_cases c6 : D.int (D.f s2.1 0) < 0 <;> simp only [c5, c6, decide_true, decide_false, Bool.not_false, Bool.not_true, cond_true, cond_false, Bool.or_self, Bool.or_true, Bool.or_false] <;> cases b1 <;> cases b6 <;> cases b7 <;> cases b2 <;> cases b3 <;> rfl

/-! ### What may be spent -/

set_option maxHeartbeats 1000000 in
theorem jSpend0 : LoopJust ESpend (vlen sgSpend.heap) (loopN (bodyOf Try.f15) 0) liSpend0 := by
  refine loopJust_of (fun hs xs => (rest (dnth xs 3) (dnth xs 5)).length) (by kernel_rfl) (by kernel_rfl) fun go hs xs p w h ih => ?_
  rw [evstSpend0]
  simp only [wf_loop, liSpend0, slotShapes, wfs_cons, wf_dat, wf_int, wf_bool, wf_str, wf_slice, wf_fn, wf_ref, wf_rall, wf_mref, wf_own, wf_agg, wf_rsub, wf_any, wfs_nil, wfh_cons, wfh_nil, wf_hmap, wf_hrow, wf_hbox, true_and] at w
  obtain ⟨⟨b0, _, rfl, _, _, rfl, ⟨es, rfl, _⟩, w0, _, rfl, hw1, rfl⟩, _, _, rfl, ⟨ot, rfl, _⟩, d1, _, rfl, d2, _, rfl, _, _, rfl, ⟨l, rfl, hl, _⟩, _, _, rfl, ⟨n, rfl, _⟩, _, _, rfl, ⟨i, rfl, _⟩, rfl⟩ := w
  simp only [liSpend0, dnth_zero, dnth_succ, dnth_one, dnth_two, int_i, bool_b, str_s, list_r, f_r, rest, mapOf_ofMap] at h ih
  simp only [stSpend0, dnth_zero, dnth_succ, dnth_one, dnth_two, int_i, bool_b, str_s, list_r, f_r, mapOf_ofMap]
  replace h := cond_fail h
  obtain ⟨hp, h⟩ := h
  simp only [Bool.and_eq_true, decide_eq_true_eq] at hp
  obtain ⟨rfl, h0⟩ := hp
  by_cases hi : i < (l.length : Int)
  · rw [drop_step h0 hi] at h
    simp only [hi, h0, decide_true, cond_true, Bool.and_self, Int.ofNat_eq_natCast, wrap_next h0 hi hl]
    refine ih _ _ ?_ fun _ => cond_ok ?_ ?_
    · simp; omega
    · simp; omega
    · simp only [dnth_zero, dnth_succ, dnth_one, dnth_two, int_i, bool_b, str_s, list_r, f_r, mapOf_ofMap]; exact h
  · rw [drop_end h0 hi] at h
    simp only [Int.ofNat_eq_natCast, hi, decide_false, cond_false]
    exact h
theorem jSpend1 : LoopJust ESpend (vlen sgSpend.heap) (loopN (bodyOf Try.f15) 1) liSpend1 := by
  refine loopJust_of (fun hs xs => (rest (dnth xs 1) (dnth xs 3)).length) (by kernel_rfl) (by kernel_rfl) fun go hs xs p w h ih => ?_
  rw [evstSpend1]
  simp only [wf_loop, liSpend1, slotShapes, wfs_cons, wf_dat, wf_int, wf_bool, wf_str, wf_slice, wf_fn, wf_ref, wf_rall, wf_mref, wf_own, wf_agg, wf_rsub, wf_any, wfs_nil, wfh_cons, wfh_nil, wf_hmap, wf_hrow, wf_hbox, true_and] at w
  obtain ⟨⟨w0, _, rfl, hw1, rfl⟩, d1, _, rfl, _, _, rfl, ⟨l, rfl, hl, _⟩, _, _, rfl, ⟨n, rfl, _⟩, _, _, rfl, ⟨i, rfl, _⟩, rfl⟩ := w
  simp only [liSpend1, dnth_zero, dnth_succ, dnth_one, dnth_two, int_i, bool_b, str_s, list_r, f_r, rest, mapOf_ofMap] at h ih
  simp only [stSpend1, dnth_zero, dnth_succ, dnth_one, dnth_two, int_i, bool_b, str_s, list_r, f_r, mapOf_ofMap]
  replace h := cond_fail h
  obtain ⟨hp, h⟩ := h
  simp only [Bool.and_eq_true, decide_eq_true_eq] at hp
  obtain ⟨rfl, h0⟩ := hp
  by_cases hi : i < (l.length : Int)
  · rw [drop_step h0 hi] at h
    simp only [hi, h0, decide_true, cond_true, Bool.and_self, Int.ofNat_eq_natCast, wrap_next h0 hi hl]
    refine ih _ _ ?_ fun _ => cond_ok ?_ ?_
    · simp; omega
    · simp; omega
    · simp only [dnth_zero, dnth_succ, dnth_one, dnth_two, int_i, bool_b, str_s, list_r, f_r]; exact h
  · rw [drop_end h0 hi] at h
    simp only [Int.ofNat_eq_natCast, hi, decide_false, cond_false]
    exact h
theorem phSpend (hs xs : List D) (r : List D × List D) (w : wfAll sgSpend.heap sgSpend.ins hs xs = true) (h : (phiSpend hs xs).val = some r) : mSpend hs xs = some r := by
  simp only [phiSpend] at h
  replace h := cond_fail h
  obtain ⟨hm, h⟩ := h
  simp only [T.val] at h
  rw [← h]
  have hm' := of_decide_eq_true hm
  have q1 : (dnth xs 1).list.length ≤ 4294967296 := by omega
  have q2 : (dnth xs 2).list.length ≤ 4294967296 := by omega
  have hz : D.r [D.i 0, D.i 0] = wZero := rfl
  simp only [mSpend, xmSpend_0, xmSpend_1, xmSpend_2, xmSpend_3, xmSpend_4, xmSpend_5, q1, q2, hz, rest, mapOf_ofMap, dnth_zero, dnth_succ, dnth_one, dnth_two, int_i, bool_b, str_s, list_r, f_r, Int.toNat_zero, List.drop_zero, decide_true, Bool.and_self, cond_true, spendX]
  cases decide ((dnth xs 0).int < 0) <;> rfl
theorem phOpen (hs xs : List D) (r : List D × List D) (w : wfAll sgOpen.heap sgOpen.ins hs xs = true) (h : (phiOpen hs xs).val = some r) : mOpen hs xs = some r := by
  simp only [phiOpen] at h
  replace h := cond_fail h
  obtain ⟨hm, h⟩ := h
  simp only [T.val] at h
  rw [← h]
  have hm' := of_decide_eq_true hm
  simp only [mOpen, hm', mapOf_ofMap, decide_true, cond_true]
  rfl

set_option maxHeartbeats 1000000 in
theorem jRSpend0 : LoopJust ERSpend (vlen sgRSpend.heap) (loopN (bodyOf Try.f17) 0) liRSpend0 := by
  refine loopJust_of (fun hs xs => (rest (dnth xs 0) (dnth xs 5)).length) (by kernel_rfl) (by kernel_rfl) fun go hs xs p w h ih => ?_
  rw [evstRSpend0]
  simp only [wf_loop, liRSpend0, slotShapes, wfs_cons, wf_dat, wf_int, wf_bool, wf_str, wf_slice, wf_fn, wf_ref, wf_rall, wf_mref, wf_own, wf_agg, wf_rsub, wf_any, wfs_nil, wfh_cons, wfh_nil, wf_hmap, wf_hrow, wf_hbox, true_and] at w
  obtain ⟨⟨w0, _, rfl, hw1, rfl⟩, _, _, rfl, ⟨l, rfl, hl, _⟩, _, _, rfl, ⟨ot, rfl, _⟩, _, _, rfl, ⟨a, rfl, _⟩, _, _, rfl, ⟨b, rfl, _⟩, d1, _, rfl, _, _, rfl, ⟨i, rfl, _⟩, rfl⟩ := w
  simp only [liRSpend0, dnth_zero, dnth_succ, dnth_one, dnth_two, int_i, bool_b, str_s, list_r, f_r, rest, mapOf_ofMap] at h ih
  simp only [stRSpend0, xstRSpend0_0, xstRSpend0_1, dnth_zero, dnth_succ, dnth_one, dnth_two, int_i, bool_b, str_s, list_r, f_r, mapOf_ofMap]
  replace h := cond_fail h
  obtain ⟨hp, h⟩ := h
  simp only [decide_eq_true_eq] at hp
  by_cases hi : i < (l.length : Int)
  · rw [drop_step hp hi] at h
    simp only [hi, hp, decide_true, cond_true, Bool.and_self, Int.ofNat_eq_natCast, wrap_next hp hi hl]
    have key : ∀ w', (bif rAddNot b 3 (dnth l i.toNat) then vMinus w0 (uAmt (dnth l i.toNat)) else w0) = w' → go [w'] [.r l, .r ot, .r a, .r b, .r [], .i (i + 1)] = some p := by
      intro w' hw
      refine ih _ _ ?_ fun _ => cond_ok ?_ ?_
      · simp; omega
      · simp; omega
      · simp only [dnth_zero, dnth_succ, dnth_one, dnth_two, int_i, bool_b, str_s, list_r, f_r]; rw [← hw]; exact h
    simp only [rAddNot, uKind, uId, uAmt] at key
    generalize decide (D.int (D.f (dnth l i.toNat) 0) = 1) = b1 at key ⊢
    generalize valid (dnth l i.toNat) = b2 at key ⊢
    generalize decide (firstRem (D.int (D.f (dnth l i.toNat) 1)) b = 3) = b3 at key ⊢
    cases b1 <;> cases b2 <;> cases b3 <;> exact key _ rfl
  · rw [drop_end hp hi] at h
    simp only [Int.ofNat_eq_natCast, hi, decide_false, cond_false]
    exact h
set_option maxHeartbeats 1000000 in
theorem jRSpend1 : LoopJust ERSpend (vlen sgRSpend.heap) (loopN (bodyOf Try.f17) 1) liRSpend1 := by
  refine loopJust_of (fun hs xs => (rest (dnth xs 0) (dnth xs 3)).length) (by kernel_rfl) (by kernel_rfl) fun go hs xs p w h ih => ?_
  rw [evstRSpend1]
  simp only [wf_loop, liRSpend1, slotShapes, wfs_cons, wf_dat, wf_int, wf_bool, wf_str, wf_slice, wf_fn, wf_ref, wf_rall, wf_mref, wf_own, wf_agg, wf_rsub, wf_any, wfs_nil, wfh_cons, wfh_nil, wf_hmap, wf_hrow, wf_hbox, true_and] at w
  obtain ⟨⟨w0, _, rfl, hw1, rfl⟩, _, _, rfl, ⟨l, rfl, hl, _⟩, _, _, rfl, ⟨b, rfl, _⟩, d1, _, rfl, _, _, rfl, ⟨i, rfl, _⟩, rfl⟩ := w
  simp only [liRSpend1, dnth_zero, dnth_succ, dnth_one, dnth_two, int_i, bool_b, str_s, list_r, f_r, rest, mapOf_ofMap] at h ih
  simp only [stRSpend1, xstRSpend1_0, xstRSpend1_1, dnth_zero, dnth_succ, dnth_one, dnth_two, int_i, bool_b, str_s, list_r, f_r, mapOf_ofMap]
  replace h := cond_fail h
  obtain ⟨hp, h⟩ := h
  simp only [decide_eq_true_eq] at hp
  by_cases hi : i < (l.length : Int)
  · rw [drop_step hp hi] at h
    simp only [hi, hp, decide_true, cond_true, Bool.and_self, Int.ofNat_eq_natCast, wrap_next hp hi hl]
    have key : ∀ w', (bif rAdd b 2 (dnth l i.toNat) then vPlus w0 (uAmt (dnth l i.toNat)) else w0) = w' → go [w'] [.r l, .r b, .r [], .i (i + 1)] = some p := by
      intro w' hw
      refine ih _ _ ?_ fun _ => cond_ok ?_ ?_
      · simp; omega
      · simp; omega
      · simp only [dnth_zero, dnth_succ, dnth_one, dnth_two, int_i, bool_b, str_s, list_r, f_r]; rw [← hw]; exact h
    simp only [rAdd, uKind, uId, uAmt] at key
    generalize decide (D.int (D.f (dnth l i.toNat) 0) = 1) = b1 at key ⊢
    generalize valid (dnth l i.toNat) = b2 at key ⊢
    generalize decide (firstRem (D.int (D.f (dnth l i.toNat) 1)) b = 2) = b3 at key ⊢
    cases b1 <;> cases b2 <;> cases b3 <;> exact key _ rfl
  · rw [drop_end hp hi] at h
    simp only [Int.ofNat_eq_natCast, hi, decide_false, cond_false]
    exact h
theorem phRSpend (hs xs : List D) (r : List D × List D) (w : wfAll sgRSpend.heap sgRSpend.ins hs xs = true) (h : (phiRSpend hs xs).val = some r) : mRSpend hs xs = some r := by
  simp only [phiRSpend, T.val] at h
  rw [← h]
  have hz : D.r [D.i 0, D.i 0] = wZero := rfl
  simp only [mRSpend, hz, rest, dnth_zero, dnth_succ, dnth_one, dnth_two, int_i, bool_b, str_s, list_r, f_r, Int.toNat_zero, List.drop_zero, spendR, capped]
  by_cases c1 : (dnth xs 0).int < 0
  · simp [c1]
  · by_cases c2 : 1152921504606846976 < (dnth xs 0).int <;> simp [c1, c2]

set_option maxHeartbeats 1000000 in
theorem jROpen0 : LoopJust EROpen (vlen sgROpen.heap) (loopN (bodyOf Try.f18) 0) liROpen0 := by
  refine loopJust_of (fun hs xs => (rest (dnth xs 0) (dnth xs 3)).length) (by kernel_rfl) (by kernel_rfl) fun go hs xs p w h ih => ?_
  rw [evstROpen0]
  simp only [wf_loop, liROpen0, slotShapes, wfs_cons, wf_dat, wf_int, wf_bool, wf_str, wf_slice, wf_fn, wf_ref, wf_rall, wf_mref, wf_own, wf_agg, wf_rsub, wf_any, wfs_nil, wfh_cons, wfh_nil, wf_hmap, wf_hrow, wf_hbox, true_and] at w
  obtain ⟨rfl, _, _, rfl, ⟨l, rfl, hl, _⟩, _, _, rfl, ⟨b, rfl, _⟩, _, _, rfl, ⟨n, rfl, _⟩, _, _, rfl, ⟨i, rfl, _⟩, rfl⟩ := w
  simp only [liROpen0, dnth_zero, dnth_succ, dnth_one, dnth_two, int_i, bool_b, str_s, list_r, f_r, rest, mapOf_ofMap] at h ih
  simp only [stROpen0, xstROpen0_0, xstROpen0_1, dnth_zero, dnth_succ, dnth_one, dnth_two, int_i, bool_b, str_s, list_r, f_r, mapOf_ofMap]
  replace h := cond_fail h
  obtain ⟨hp, h⟩ := h
  simp only [Bool.and_eq_true, decide_eq_true_eq] at hp
  obtain ⟨⟨h0, h1⟩, h2⟩ := hp
  have hl' := hl
  rw [most_eq] at hl'
  by_cases hi : i < (l.length : Int)
  · rw [drop_step h0 hi, List.countP_cons] at h
    have en : IntKind.wrap .i64 (n + 1) = n + 1 := wrap_i64 (by omega) (by omega)
    simp only [hi, h0, decide_true, cond_true, Bool.and_self, Int.ofNat_eq_natCast, wrap_next h0 hi hl, en]
    have key : ∀ n', (bif rAdd b 0 (dnth l i.toNat) then n + 1 else n) = n' → go [] [.r l, .r b, .i n', .i (i + 1)] = some p := by
      intro n' hn
      have hn1 : n ≤ n' ∧ n' ≤ n + 1 := by
        rw [← hn]; cases rAdd b 0 (dnth l i.toNat) <;> simp <;> omega
      refine ih _ _ ?_ fun _ => cond_ok ?_ ?_
      · simp; omega
      · simp; omega
      · simp only [dnth_zero, dnth_succ, dnth_one, dnth_two, int_i, bool_b, str_s, list_r, f_r]
        have e : n + ((List.countP (rAdd b 0) (l.drop (i + 1).toNat) + if rAdd b 0 (dnth l i.toNat) = true then 1 else 0 : Nat) : Int) = n' + (List.countP (rAdd b 0) (l.drop (i + 1).toNat) : Int) := by
          rw [← hn]; cases rAdd b 0 (dnth l i.toNat) <;> simp <;> omega
        rw [e] at h
        exact h
    simp only [rAdd, uKind, uId] at key
    generalize decide (D.int (D.f (dnth l i.toNat) 0) = 1) = b1 at key ⊢
    generalize valid (dnth l i.toNat) = b2 at key ⊢
    generalize decide (firstRem (D.int (D.f (dnth l i.toNat) 1)) b = 0) = b3 at key ⊢
    cases b1 <;> cases b2 <;> cases b3 <;> exact key _ rfl
  · rw [drop_end h0 hi] at h
    simp only [Int.ofNat_eq_natCast, hi, decide_false, cond_false]
    simp only [List.countP_nil] at h
    rw [show n + ((0 : Nat) : Int) = n by omega] at h
    exact h
theorem phROpen (hs xs : List D) (r : List D × List D) (w : wfAll sgROpen.heap sgROpen.ins hs xs = true) (h : (phiROpen hs xs).val = some r) : mROpen hs xs = some r := by
  simp only [phiROpen, T.val] at h
  rw [← h]
  simp only [mROpen, rest, dnth_zero, dnth_succ, dnth_one, dnth_two, int_i, bool_b, str_s, list_r, f_r, Int.toNat_zero, List.drop_zero, openR, Int.zero_add]
  rfl

end Go.Proofs.Ytkepijaabpkdbaa

/- The contracts of these functions; printed by gen.py. -/
namespace Go.Proofs.Ytkepijaabpkdbaa
open Go Go.Ev
theorem lgPart0 : LoopGood EPart (vlen sgPart.heap) (loopN (bodyOf Try.f30) 0) := LoopGood.of (i := 3) (li := liPart0) (by kernel_rfl) (by kernel_rfl) jPart0
theorem okPart : SpecOK Try.prog 30 sgPart phiPart :=
  spec_of (t := [eWMinus, eWPlus, eSort, eById]) (loops := [(3, liPart0)]) typesOK noMeth_ok (.cons okWMinus (by kernel_rfl) (.cons okWPlus (by kernel_rfl) (.cons okSort (by kernel_rfl) (.cons okById (by kernel_rfl) .nil)))) Try.func30 (by kernel_rfl) (by kernel_rfl) (by kernel_rfl) (by kernel_rfl)
    (loopsOK_list (l := [loopN (bodyOf Try.f30) 0]) (by kernel_rfl) ⟨lgPart0, trivial⟩) (fun hs xs r w h => (evPart hs xs).trans (phPart hs xs r w h))
theorem lgRemoved0 : LoopGood ERemoved (vlen sgRemoved.heap) (loopN (bodyOf Try.f47) 0) := LoopGood.of (i := 2) (li := liRemoved0) (by kernel_rfl) (by kernel_rfl) jRemoved0
theorem okRemoved : SpecOK Try.prog 47 sgRemoved phiRemoved :=
  spec_of (t := [eRValid]) (loops := [(2, liRemoved0)]) typesOK noMeth_ok (.cons okRValid (by kernel_rfl) .nil) Try.func47 (by kernel_rfl) (by kernel_rfl) (by kernel_rfl) (by kernel_rfl)
    (loopsOK_list (l := [loopN (bodyOf Try.f47) 0]) (by kernel_rfl) ⟨lgRemoved0, trivial⟩) (fun hs xs r w h => (evRemoved hs xs).trans (phRemoved hs xs r w h))
theorem lgAllValid0 : LoopGood EAllValid (vlen sgAllValid.heap) (loopN (bodyOf Try.f35) 0) := LoopGood.of (i := 2) (li := liAllValid0) (by kernel_rfl) (by kernel_rfl) jAllValid0
theorem okAllValid : SpecOK Try.prog 35 sgAllValid phiAllValid :=
  spec_of (t := [eRValid]) (loops := [(2, liAllValid0)]) typesOK noMeth_ok (.cons okRValid (by kernel_rfl) .nil) Try.func35 (by kernel_rfl) (by kernel_rfl) (by kernel_rfl) (by kernel_rfl)
    (loopsOK_list (l := [loopN (bodyOf Try.f35) 0]) (by kernel_rfl) ⟨lgAllValid0, trivial⟩) (fun hs xs r w h => (evAllValid hs xs).trans (phAllValid hs xs r w h))
theorem lgPlaced0 : LoopGood EPlaced (vlen sgPlaced.heap) (loopN (bodyOf Try.f58) 0) := LoopGood.of (i := 4) (li := liPlaced0) (by kernel_rfl) (by kernel_rfl) jPlaced0
theorem okPlaced : SpecOK Try.prog 58 sgPlaced phiPlaced :=
  spec_of (t := []) (loops := [(4, liPlaced0)]) typesOK noMeth_ok .nil Try.func58 (by kernel_rfl) (by kernel_rfl) (by kernel_rfl) (by kernel_rfl)
    (loopsOK_list (l := [loopN (bodyOf Try.f58) 0]) (by kernel_rfl) ⟨lgPlaced0, trivial⟩) (fun hs xs r w h => (evPlaced hs xs).trans (phPlaced hs xs r w h))
theorem lgSide0 : LoopGood ESide (vlen sgSide.heap) (loopN (bodyOf Try.f36) 0) := LoopGood.of (i := 3) (li := liSide0) (by kernel_rfl) (by kernel_rfl) jSide0
theorem okSide : SpecOK Try.prog 36 sgSide phiSide :=
  spec_of (t := [eRemoved, eVMinus, eVPlus, ePlaced]) (loops := [(3, liSide0)]) typesOK noMeth_ok (.cons okRemoved (by kernel_rfl) (.cons okVMinus (by kernel_rfl) (.cons okVPlus (by kernel_rfl) (.cons okPlaced (by kernel_rfl) .nil)))) Try.func36 (by kernel_rfl) (by kernel_rfl) (by kernel_rfl) (by kernel_rfl)
    (loopsOK_list (l := [loopN (bodyOf Try.f36) 0]) (by kernel_rfl) ⟨lgSide0, trivial⟩) (fun hs xs r w h => (evSide hs xs).trans (phSide hs xs r w h))
theorem okFold : SpecOK Try.prog 10 sgFold phiFold :=
  spec_of (t := [eSum, eContainsI, eInvalid, eRemovals, eWPlus, ePart, eWValue]) (loops := []) typesOK noMeth_ok (.cons okSum (by kernel_rfl) (.cons okContainsI (by kernel_rfl) (.cons okInvalid (by kernel_rfl) (.cons okRemovals (by kernel_rfl) (.cons okWPlus (by kernel_rfl) (.cons okPart (by kernel_rfl) (.cons okWValue (by kernel_rfl) .nil))))))) Try.func10 (by kernel_rfl) (by kernel_rfl) (by kernel_rfl) (by kernel_rfl)
    (loopsOK_list (l := []) (by kernel_rfl) trivial) (fun hs xs r w h => (evFold hs xs).trans (phFold hs xs r w h))
theorem okRFold : SpecOK Try.prog 11 sgRFold phiRFold :=
  spec_of (t := [eRAmount, eAllValid, eVPlus, eSide, eVCut]) (loops := []) typesOK noMeth_ok (.cons okRAmount (by kernel_rfl) (.cons okAllValid (by kernel_rfl) (.cons okVPlus (by kernel_rfl) (.cons okSide (by kernel_rfl) (.cons okVCut (by kernel_rfl) .nil))))) Try.func11 (by kernel_rfl) (by kernel_rfl) (by kernel_rfl) (by kernel_rfl)
    (loopsOK_list (l := []) (by kernel_rfl) trivial) (fun hs xs r w h => (evRFold hs xs).trans (phRFold hs xs r w h))
theorem lgSpend0 : LoopGood ESpend (vlen sgSpend.heap) (loopN (bodyOf Try.f15) 0) := LoopGood.of (i := 6) (li := liSpend0) (by kernel_rfl) (by kernel_rfl) jSpend0
theorem lgSpend1 : LoopGood ESpend (vlen sgSpend.heap) (loopN (bodyOf Try.f15) 1) := LoopGood.of (i := 11) (li := liSpend1) (by kernel_rfl) (by kernel_rfl) jSpend1
theorem okSpend : SpecOK Try.prog 15 sgSpend phiSpend :=
  spec_of (t := [eFirst, eRemovals, eWPlus, eWMinus, eWValue, eAdds3, eAdds2]) (loops := [(6, liSpend0), (11, liSpend1)]) typesOK noMeth_ok (.cons okFirst (by kernel_rfl) (.cons okRemovals (by kernel_rfl) (.cons okWPlus (by kernel_rfl) (.cons okWMinus (by kernel_rfl) (.cons okWValue (by kernel_rfl) (.cons okAdds3 (by kernel_rfl) (.cons okAdds2 (by kernel_rfl) .nil))))))) Try.func15 (by kernel_rfl) (by kernel_rfl) (by kernel_rfl) (by kernel_rfl)
    (loopsOK_list (l := [loopN (bodyOf Try.f15) 0, loopN (bodyOf Try.f15) 1]) (by kernel_rfl) ⟨lgSpend0, ⟨lgSpend1, trivial⟩⟩) (fun hs xs r w h => (evSpend hs xs).trans (phSpend hs xs r w h))
theorem okOpen : SpecOK Try.prog 16 sgOpen phiOpen :=
  spec_of (t := [eFirst, eRemovals, eAdds0]) (loops := []) typesOK noMeth_ok (.cons okFirst (by kernel_rfl) (.cons okRemovals (by kernel_rfl) (.cons okAdds0 (by kernel_rfl) .nil))) Try.func16 (by kernel_rfl) (by kernel_rfl) (by kernel_rfl) (by kernel_rfl)
    (loopsOK_list (l := []) (by kernel_rfl) trivial) (fun hs xs r w h => (evOpen hs xs).trans (phOpen hs xs r w h))
theorem lgRSpend0 : LoopGood ERSpend (vlen sgRSpend.heap) (loopN (bodyOf Try.f17) 0) := LoopGood.of (i := 9) (li := liRSpend0) (by kernel_rfl) (by kernel_rfl) jRSpend0
theorem lgRSpend1 : LoopGood ERSpend (vlen sgRSpend.heap) (loopN (bodyOf Try.f17) 1) := LoopGood.of (i := 15) (li := liRSpend1) (by kernel_rfl) (by kernel_rfl) jRSpend1
theorem okRSpend : SpecOK Try.prog 17 sgRSpend phiRSpend :=
  spec_of (t := [eRFirst, eVPlus, eVMinus, eVCut, eRValid, eRemoved]) (loops := [(9, liRSpend0), (15, liRSpend1)]) typesOK noMeth_ok (.cons okRFirst (by kernel_rfl) (.cons okVPlus (by kernel_rfl) (.cons okVMinus (by kernel_rfl) (.cons okVCut (by kernel_rfl) (.cons okRValid (by kernel_rfl) (.cons okRemoved (by kernel_rfl) .nil)))))) Try.func17 (by kernel_rfl) (by kernel_rfl) (by kernel_rfl) (by kernel_rfl)
    (loopsOK_list (l := [loopN (bodyOf Try.f17) 0, loopN (bodyOf Try.f17) 1]) (by kernel_rfl) ⟨lgRSpend0, ⟨lgRSpend1, trivial⟩⟩) (fun hs xs r w h => (evRSpend hs xs).trans (phRSpend hs xs r w h))
theorem lgROpen0 : LoopGood EROpen (vlen sgROpen.heap) (loopN (bodyOf Try.f18) 0) := LoopGood.of (i := 4) (li := liROpen0) (by kernel_rfl) (by kernel_rfl) jROpen0
theorem okROpen : SpecOK Try.prog 18 sgROpen phiROpen :=
  spec_of (t := [eRFirst, eRValid, eRemoved]) (loops := [(4, liROpen0)]) typesOK noMeth_ok (.cons okRFirst (by kernel_rfl) (.cons okRValid (by kernel_rfl) (.cons okRemoved (by kernel_rfl) .nil))) Try.func18 (by kernel_rfl) (by kernel_rfl) (by kernel_rfl) (by kernel_rfl)
    (loopsOK_list (l := [loopN (bodyOf Try.f18) 0]) (by kernel_rfl) ⟨lgROpen0, trivial⟩) (fun hs xs r w h => (evROpen hs xs).trans (phROpen hs xs r w h))
end Go.Proofs.Ytkepijaabpkdbaa
