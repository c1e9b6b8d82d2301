/- The types of this translation are what the evaluator takes them for. What the evaluator makes of these functions: printed by gen.py out of the model, and proved by the kernel. What the evaluator makes of these functions is what their definitions say. The contracts of these functions; printed by gen.py. -/
import Derived.Test.YtkepijaabpkdbaaA6
import Derived.Test.YtkepijaabpkdbaaChecked
import Derived.KernelRfl
import Derived.Test.YtkepijaabpkdbaaB0
import Derived.Test.YtkepijaabpkdbaaProg
set_option linter.unusedVariables false
set_option linter.unusedSimpArgs false

/- The types of this translation are what the evaluator takes them for. -/
namespace Go.Proofs.Ytkepijaabpkdbaa
open Go Go.Ev
theorem typesOK : TypesOK Try.prog tyTab := typesOK_of (by kernel_rfl) (by kernel_rfl) (by kernel_rfl)
end Go.Proofs.Ytkepijaabpkdbaa

/- What the evaluator makes of these functions: printed by gen.py out of the model, and proved by the kernel. -/
namespace Go.Proofs.Ytkepijaabpkdbaa
open Go Go.Ev
set_option maxRecDepth 100000
noncomputable def eValid : Nat × (Sig × Phi) := (54, (sgValid, phiValid))
noncomputable def eRValid : Nat × (Sig × Phi) := (46, (sgRValid, phiRValid))
noncomputable def eInvalid : Nat × (Sig × Phi) := (29, (sgInvalid, phiInvalid))
noncomputable def eRight : Nat × (Sig × Phi) := (59, (sgRight, phiRight))
noncomputable def ePlus : Nat × (Sig × Phi) := (52, (sgPlus, phiPlus))
noncomputable def eSum : Nat × (Sig × Phi) := (27, (sgSum, phiSum))
noncomputable def eIndexI : Nat × (Sig × Phi) := (53, (sgIndexI, phiIndexI))
noncomputable def eContainsI : Nat × (Sig × Phi) := (28, (sgContainsI, phiContainsI))
noncomputable def eRemovals : Nat × (Sig × Phi) := (31, (sgRemovals, phiRemovals))
noncomputable def eWPlus : Nat × (Sig × Phi) := (32, (sgWPlus, phiWPlus))
noncomputable def eWMinus : Nat × (Sig × Phi) := (42, (sgWMinus, phiWMinus))
noncomputable def eWValue : Nat × (Sig × Phi) := (33, (sgWValue, phiWValue))
noncomputable def eVPlus : Nat × (Sig × Phi) := (37, (sgVPlus, phiVPlus))
noncomputable def eVMinus : Nat × (Sig × Phi) := (48, (sgVMinus, phiVMinus))
noncomputable def eVCut : Nat × (Sig × Phi) := (38, (sgVCut, phiVCut))
noncomputable def eRAmount : Nat × (Sig × Phi) := (34, (sgRAmount, phiRAmount))
noncomputable def eFirst : Nat × (Sig × Phi) := (39, (sgFirst, phiFirst))
noncomputable def eRFirst : Nat × (Sig × Phi) := (45, (sgRFirst, phiRFirst))
noncomputable def eCl3 : Nat × (Sig × Phi) := (41, (sgCl3, phiCl3))
noncomputable def eCl2 : Nat × (Sig × Phi) := (43, (sgCl2, phiCl2))
noncomputable def eCl0 : Nat × (Sig × Phi) := (44, (sgCl0, phiCl0))
noncomputable def eAdds3 : Nat × (Sig × Phi) := (40, (sgAdds3, phiAdds3))
noncomputable def eAdds2 : Nat × (Sig × Phi) := (40, (sgAdds2, phiAdds2))
noncomputable def eAdds0 : Nat × (Sig × Phi) := (40, (sgAdds0, phiAdds0))
noncomputable def EValid : Env := mkEnv tyTab [] noMeth Try.f54.ntmps (vlen sgValid.heap) []
noncomputable def ERValid : Env := mkEnv tyTab [] noMeth Try.f46.ntmps (vlen sgRValid.heap) []
noncomputable def EInvalid : Env := mkEnv tyTab [eValid] noMeth Try.f29.ntmps (vlen sgInvalid.heap) []
noncomputable def ERight : Env := mkEnv tyTab [] noMeth Try.f59.ntmps (vlen sgRight.heap) []
noncomputable def EPlus : Env := mkEnv tyTab [eRight] noMeth Try.f52.ntmps (vlen sgPlus.heap) []
noncomputable def ESum : Env := mkEnv tyTab [ePlus] noMeth Try.f27.ntmps (vlen sgSum.heap) [(3, liSum0)]
noncomputable def EIndexI : Env := mkEnv tyTab [eInvalid] noMeth Try.f53.ntmps (vlen sgIndexI.heap) [(2, liIndexI0)]
noncomputable def EContainsI : Env := mkEnv tyTab [eIndexI, eInvalid] noMeth Try.f28.ntmps (vlen sgContainsI.heap) []
noncomputable def ERemovals : Env := mkEnv tyTab [eValid] noMeth Try.f31.ntmps (vlen sgRemovals.heap) [(3, liRemovals0)]
noncomputable def EWPlus : Env := mkEnv tyTab [] noMeth Try.f32.ntmps (vlen sgWPlus.heap) []
noncomputable def EWMinus : Env := mkEnv tyTab [] noMeth Try.f42.ntmps (vlen sgWMinus.heap) []
noncomputable def EWValue : Env := mkEnv tyTab [] noMeth Try.f33.ntmps (vlen sgWValue.heap) []
noncomputable def EVPlus : Env := mkEnv tyTab [] noMeth Try.f37.ntmps (vlen sgVPlus.heap) []
noncomputable def EVMinus : Env := mkEnv tyTab [] noMeth Try.f48.ntmps (vlen sgVMinus.heap) []
noncomputable def EVCut : Env := mkEnv tyTab [] noMeth Try.f38.ntmps (vlen sgVCut.heap) []
noncomputable def ERAmount : Env := mkEnv tyTab [] noMeth Try.f34.ntmps (vlen sgRAmount.heap) []
noncomputable def EFirst : Env := mkEnv tyTab [] noMeth Try.f39.ntmps (vlen sgFirst.heap) []
noncomputable def ERFirst : Env := mkEnv tyTab [] noMeth Try.f45.ntmps (vlen sgRFirst.heap) []
noncomputable def ECl3 : Env := mkEnv tyTab [] noMeth Try.f41.ntmps (vlen sgCl3.heap) []
noncomputable def ECl2 : Env := mkEnv tyTab [] noMeth Try.f43.ntmps (vlen sgCl2.heap) []
noncomputable def ECl0 : Env := mkEnv tyTab [] noMeth Try.f44.ntmps (vlen sgCl0.heap) []
noncomputable def EAdds3 : Env := mkEnv tyTab [eValid, eCl3] noMeth Try.f40.ntmps (vlen sgAdds3.heap) [(3, liAdds30)]
noncomputable def EAdds2 : Env := mkEnv tyTab [eValid, eCl2] noMeth Try.f40.ntmps (vlen sgAdds2.heap) [(3, liAdds20)]
noncomputable def EAdds0 : Env := mkEnv tyTab [eValid, eCl0] noMeth Try.f40.ntmps (vlen sgAdds0.heap) [(3, liAdds00)]

noncomputable def mValid (hs xs : List D) : Option (List D × List D) :=
  bif (!(decide ((D.int (D.f (dnth xs 0) 1)) < (0 : Int)))) then
    bif (decide ((2048 : Int) ≤ (D.int (D.f (dnth xs 0) 1)))) then
      (Option.some ([], [(D.b Bool.false)]))
    else bif (decide ((D.int (D.f (dnth xs 0) 0)) = (1 : Int))) then
      bif (decide ((1 : Int) ≤ (D.int (D.f (dnth xs 0) 2)))) then
        bif (decide ((D.int (D.f (dnth xs 0) 2)) ≤ (1152921504606846976 : Int))) then
          (Option.some ([], [(D.b (decide ((D.str (D.f (dnth xs 0) 4)) = [])))]))
        else (Option.some ([], [(D.b Bool.false)]))
      else (Option.some ([], [(D.b Bool.false)]))
    else bif (decide ((D.int (D.f (dnth xs 0) 0)) = (2 : Int))) then
      bif (decide ((D.int (D.f (dnth xs 0) 2)) = (0 : Int))) then
        (Option.some ([], [(D.b (decide ((D.str (D.f (dnth xs 0) 4)) = [])))]))
      else (Option.some ([], [(D.b Bool.false)]))
    else bif (decide ((D.int (D.f (dnth xs 0) 0)) = (3 : Int))) then
      bif (decide ((D.int (D.f (dnth xs 0) 2)) = (0 : Int))) then
        bif (D.beq (D.f (dnth xs 0) 3) (D.r [(D.i (0 : Int)), (D.i (0 : Int)), (D.i (0 : Int)), (D.i (0 : Int)), (D.i (0 : Int)), (D.i (0 : Int)), (D.i (0 : Int)), (D.i (0 : Int)), (D.i (0 : Int)), (D.i (0 : Int)), (D.i (0 : Int)), (D.i (0 : Int)), (D.i (0 : Int)), (D.i (0 : Int)), (D.i (0 : Int)), (D.i (0 : Int)), (D.i (0 : Int)), (D.i (0 : Int)), (D.i (0 : Int)), (D.i (0 : Int)), (D.i (0 : Int)), (D.i (0 : Int)), (D.i (0 : Int)), (D.i (0 : Int)), (D.i (0 : Int)), (D.i (0 : Int)), (D.i (0 : Int)), (D.i (0 : Int)), (D.i (0 : Int)), (D.i (0 : Int)), (D.i (0 : Int)), (D.i (0 : Int))])) then
          (Option.some ([], [(D.b (decide ((Int.ofNat (List.length (D.str (D.f (dnth xs 0) 4)))) ≤ (64 : Int))))]))
        else (Option.some ([], [(D.b Bool.false)]))
      else (Option.some ([], [(D.b Bool.false)]))
    else (Option.some ([], [(D.b Bool.false)]))
  else (Option.some ([], [(D.b Bool.false)]))
theorem evValid (hs xs : List D) : evF EValid Try.f54 sgValid hs xs = mValid hs xs := by kernel_rfl

noncomputable def mRValid (hs xs : List D) : Option (List D × List D) :=
  bif (!(decide ((D.int (D.f (dnth xs 0) 1)) < (0 : Int)))) then
    bif (decide ((2048 : Int) ≤ (D.int (D.f (dnth xs 0) 1)))) then
      (Option.some ([], [(D.b Bool.false)]))
    else bif (decide ((D.int (D.f (dnth xs 0) 0)) = (1 : Int))) then
      bif (decide ((1 : Int) ≤ (D.int (D.f (dnth xs 0) 2)))) then
        bif (decide ((D.int (D.f (dnth xs 0) 2)) ≤ (1152921504606846976 : Int))) then
          (Option.some ([], [(D.b (decide ((D.str (D.f (dnth xs 0) 4)) = [])))]))
        else (Option.some ([], [(D.b Bool.false)]))
      else (Option.some ([], [(D.b Bool.false)]))
    else bif (decide ((D.int (D.f (dnth xs 0) 0)) = (2 : Int))) then
      bif (decide ((D.int (D.f (dnth xs 0) 2)) = (0 : Int))) then
        (Option.some ([], [(D.b (decide ((D.str (D.f (dnth xs 0) 4)) = [])))]))
      else (Option.some ([], [(D.b Bool.false)]))
    else bif (decide ((D.int (D.f (dnth xs 0) 0)) = (3 : Int))) then
      bif (decide ((D.int (D.f (dnth xs 0) 2)) = (0 : Int))) then
        bif (D.beq (D.f (dnth xs 0) 3) (D.r [(D.i (0 : Int)), (D.i (0 : Int)), (D.i (0 : Int)), (D.i (0 : Int)), (D.i (0 : Int)), (D.i (0 : Int)), (D.i (0 : Int)), (D.i (0 : Int)), (D.i (0 : Int)), (D.i (0 : Int)), (D.i (0 : Int)), (D.i (0 : Int)), (D.i (0 : Int)), (D.i (0 : Int)), (D.i (0 : Int)), (D.i (0 : Int)), (D.i (0 : Int)), (D.i (0 : Int)), (D.i (0 : Int)), (D.i (0 : Int)), (D.i (0 : Int)), (D.i (0 : Int)), (D.i (0 : Int)), (D.i (0 : Int)), (D.i (0 : Int)), (D.i (0 : Int)), (D.i (0 : Int)), (D.i (0 : Int)), (D.i (0 : Int)), (D.i (0 : Int)), (D.i (0 : Int)), (D.i (0 : Int))])) then
          (Option.some ([], [(D.b (decide ((Int.ofNat (List.length (D.str (D.f (dnth xs 0) 4)))) ≤ (64 : Int))))]))
        else (Option.some ([], [(D.b Bool.false)]))
      else (Option.some ([], [(D.b Bool.false)]))
    else (Option.some ([], [(D.b Bool.false)]))
  else (Option.some ([], [(D.b Bool.false)]))
theorem evRValid (hs xs : List D) : evF ERValid Try.f46 sgRValid hs xs = mRValid hs xs := by kernel_rfl

noncomputable def mInvalid (hs xs : List D) : Option (List D × List D) :=
  (Option.some ([], [(D.b (!(valid (dnth xs 0))))]))
theorem evInvalid (hs xs : List D) : evF EInvalid Try.f29 sgInvalid hs xs = mInvalid hs xs := by kernel_rfl

noncomputable def mRight (hs xs : List D) : Option (List D × List D) :=
  bif (decide ((0 : Int) ≤ (D.int (dnth xs 0)))) then
    (Option.some ([], [(D.b (decide ((D.int (dnth xs 0)) ≤ (1152921504606846976 : Int))))]))
  else (Option.some ([], [(D.b Bool.false)]))
theorem evRight (hs xs : List D) : evF ERight Try.f59 sgRight hs xs = mRight hs xs := by kernel_rfl

noncomputable def mPlus (hs xs : List D) : Option (List D × List D) :=
  bif (!(!(right (D.int (dnth xs 0))))) then
    bif (!(!(right (D.int (dnth xs 1))))) then
      bif (!(right (IntKind.wrap Go.IntKind.i64 ((D.int (dnth xs 0)) + (D.int (dnth xs 1)))))) then
        (Option.some ([], [(D.i (0 : Int)), (D.i (80 : Int))]))
      else (Option.some ([], [(D.i (IntKind.wrap Go.IntKind.i64 ((D.int (dnth xs 0)) + (D.int (dnth xs 1))))), (D.i (0 : Int))]))
    else (Option.some ([], [(D.i (0 : Int)), (D.i (80 : Int))]))
  else (Option.some ([], [(D.i (0 : Int)), (D.i (80 : Int))]))
theorem evPlus (hs xs : List D) : evF EPlus Try.f52 sgPlus hs xs = mPlus hs xs := by kernel_rfl

noncomputable def mSum (hs xs : List D) : Option (List D × List D) :=
  bif ((@decide ((Int.ofNat (List.length (D.list (dnth xs 0)))) = (Int.ofNat (List.length (D.list (dnth xs 0))))) (Int.instDecidableEq (Int.ofNat (List.length (D.list (dnth xs 0)))) (Int.ofNat (List.length (D.list (dnth xs 0)))))) && Bool.true) then
    bif (Option.isSome (sumL (0 : Int) (rest (D.r (D.list (dnth xs 0))) (D.i (0 : Int))))) then
      (Option.some ([], [(D.i (Option.getD (sumL (0 : Int) (rest (D.r (D.list (dnth xs 0))) (D.i (0 : Int)))) (0 : Int))), (D.i (0 : Int))]))
    else (Option.some ([], [(D.i (0 : Int)), (D.i (80 : Int))]))
  else (Option.none)
theorem evSum (hs xs : List D) : evF ESum Try.f27 sgSum hs xs = mSum hs xs := by kernel_rfl

noncomputable def stSum0 (go : List D → List D → Option (Ex × List D × List D)) (hs xs : List D) : Option (Ex × List D × List D) :=
  bif (decide ((D.int (dnth xs 3)) < (D.int (dnth xs 2)))) then
    bif ((decide ((0 : Int) ≤ (D.int (dnth xs 3)))) && (decide ((D.int (dnth xs 3)) < (Int.ofNat (List.length (D.list (dnth xs 1))))))) then
      bif (sums (D.int (dnth xs 0)) (D.int (dnth (D.list (dnth xs 1)) (Int.toNat (D.int (dnth xs 3)))))) then
        (go [] [(D.i (IntKind.wrap Go.IntKind.i64 ((D.int (dnth xs 0)) + (D.int (dnth (D.list (dnth xs 1)) (Int.toNat (D.int (dnth xs 3)))))))), (D.r (D.list (dnth xs 1))), (D.i (D.int (dnth xs 2))), (D.i (IntKind.wrap Go.IntKind.i64 ((D.int (dnth xs 3)) + (1 : Int))))])
      else (Option.some (Ex.ret, ([], [(D.i (0 : Int)), (D.i (80 : Int))])))
    else (Option.none)
  else (Option.some ((Ex.exit 0), ([], [(D.i (D.int (dnth xs 0)))])))
theorem evstSum0 (go : List D → List D → Option (Ex × List D × List D)) (hs xs : List D) : stepOf ESum (vlen sgSum.heap) (loopN (bodyOf Try.f27) 0) liSum0 go hs xs = stSum0 go hs xs := by kernel_rfl

noncomputable def mIndexI (hs xs : List D) : Option (List D × List D) :=
  bif ((@decide ((Int.ofNat (List.length (D.list (dnth xs 0)))) = (Int.ofNat (List.length (D.list (dnth xs 0))))) (Int.instDecidableEq (Int.ofNat (List.length (D.list (dnth xs 0)))) (Int.ofNat (List.length (D.list (dnth xs 0)))))) && Bool.true) then
    bif (decide ((indexI (rest (D.r (D.list (dnth xs 0))) (D.i (0 : Int))) (0 : Int)) < (0 : Int))) then
      (Option.some ([], [(D.i (-1 : Int))]))
    else (Option.some ([], [(D.i (indexI (rest (D.r (D.list (dnth xs 0))) (D.i (0 : Int))) (0 : Int)))]))
  else (Option.none)
theorem evIndexI (hs xs : List D) : evF EIndexI Try.f53 sgIndexI hs xs = mIndexI hs xs := by kernel_rfl

noncomputable def stIndexI0 (go : List D → List D → Option (Ex × List D × List D)) (hs xs : List D) : Option (Ex × List D × List D) :=
  bif (decide ((D.int (dnth xs 3)) < (D.int (dnth xs 2)))) then
    bif ((decide ((0 : Int) ≤ (D.int (dnth xs 3)))) && (decide ((D.int (dnth xs 3)) < (Int.ofNat (List.length (D.list (dnth xs 0))))))) then
      bif (!(valid (dnth (D.list (dnth xs 0)) (Int.toNat (D.int (dnth xs 3)))))) then
        (Option.some (Ex.ret, ([], [(D.i (D.int (dnth xs 3)))])))
      else (go [] [(D.r (D.list (dnth xs 0))), (D.r []), (D.i (D.int (dnth xs 2))), (D.i (IntKind.wrap Go.IntKind.i64 ((D.int (dnth xs 3)) + (1 : Int))))])
    else (Option.none)
  else (Option.some ((Ex.exit 0), ([], [])))
theorem evstIndexI0 (go : List D → List D → Option (Ex × List D × List D)) (hs xs : List D) : stepOf EIndexI (vlen sgIndexI.heap) (loopN (bodyOf Try.f53) 0) liIndexI0 go hs xs = stIndexI0 go hs xs := by kernel_rfl

noncomputable def mContainsI (hs xs : List D) : Option (List D × List D) :=
  (Option.some ([], [(D.b (decide ((0 : Int) ≤ (indexI (D.list (dnth xs 0)) (0 : Int)))))]))
theorem evContainsI (hs xs : List D) : evF EContainsI Try.f28 sgContainsI hs xs = mContainsI hs xs := by kernel_rfl

noncomputable def mRemovals (hs xs : List D) : Option (List D × List D) :=
  bif ((@decide ((Int.ofNat (List.length (D.list (dnth xs 0)))) = (Int.ofNat (List.length (D.list (dnth xs 0))))) (Int.instDecidableEq (Int.ofNat (List.length (D.list (dnth xs 0)))) (Int.ofNat (List.length (D.list (dnth xs 0)))))) && Bool.true) then
    (Option.some ([(ofMap (mapOf (ofMap (List.foldl remStep (mapOf (ofMap [])) (rest (D.r (D.list (dnth xs 0))) (D.i (0 : Int)))))))], [(D.r [])]))
  else (Option.none)
theorem evRemovals (hs xs : List D) : evF ERemovals Try.f31 sgRemovals hs xs = mRemovals hs xs := by kernel_rfl

noncomputable def stRemovals0 (go : List D → List D → Option (Ex × List D × List D)) (hs xs : List D) : Option (Ex × List D × List D) :=
  bif (decide ((D.int (dnth xs 3)) < (D.int (dnth xs 2)))) then
    bif ((decide ((0 : Int) ≤ (D.int (dnth xs 3)))) && (decide ((D.int (dnth xs 3)) < (Int.ofNat (List.length (D.list (dnth xs 1))))))) then
      bif (!(Option.isSome (entry (mapOf (dnth hs 0)) (D.i (D.int (D.f (dnth (D.list (dnth xs 1)) (Int.toNat (D.int (dnth xs 3)))) 1)))))) then
        bif (!(decide ((D.int (D.f (dnth (D.list (dnth xs 1)) (Int.toNat (D.int (dnth xs 3)))) 0)) = (1 : Int)))) then
          bif (valid (dnth (D.list (dnth xs 1)) (Int.toNat (D.int (dnth xs 3))))) then
            (go [(ofMap (setEntry (mapOf (dnth hs 0)) (D.i (D.int (D.f (dnth (D.list (dnth xs 1)) (Int.toNat (D.int (dnth xs 3)))) 1))) (D.i (D.int (D.f (dnth (D.list (dnth xs 1)) (Int.toNat (D.int (dnth xs 3)))) 0)))))] [(D.r []), (D.r (D.list (dnth xs 1))), (D.i (D.int (dnth xs 2))), (D.i (IntKind.wrap Go.IntKind.i64 ((D.int (dnth xs 3)) + (1 : Int))))])
          else (go [(ofMap (mapOf (dnth hs 0)))] [(D.r []), (D.r (D.list (dnth xs 1))), (D.i (D.int (dnth xs 2))), (D.i (IntKind.wrap Go.IntKind.i64 ((D.int (dnth xs 3)) + (1 : Int))))])
        else (go [(ofMap (mapOf (dnth hs 0)))] [(D.r []), (D.r (D.list (dnth xs 1))), (D.i (D.int (dnth xs 2))), (D.i (IntKind.wrap Go.IntKind.i64 ((D.int (dnth xs 3)) + (1 : Int))))])
      else (go [(ofMap (mapOf (dnth hs 0)))] [(D.r []), (D.r (D.list (dnth xs 1))), (D.i (D.int (dnth xs 2))), (D.i (IntKind.wrap Go.IntKind.i64 ((D.int (dnth xs 3)) + (1 : Int))))])
    else (Option.none)
  else (Option.some ((Ex.exit 0), ([(ofMap (mapOf (dnth hs 0)))], [(D.r [])])))
theorem evstRemovals0 (go : List D → List D → Option (Ex × List D × List D)) (hs xs : List D) : stepOf ERemovals (vlen sgRemovals.heap) (loopN (bodyOf Try.f31) 0) liRemovals0 go hs xs = stRemovals0 go hs xs := by kernel_rfl

noncomputable def mWPlus (hs xs : List D) : Option (List D × List D) :=
  (Option.some ([], [(D.r [(D.i (IntKind.wrap Go.IntKind.i64 ((D.int (D.f (dnth xs 0) 0)) + (ishr Go.IntKind.i64 (D.int (dnth xs 1)) (30 : Int))))), (D.i (IntKind.wrap Go.IntKind.i64 ((D.int (D.f (dnth xs 0) 1)) + (iand Go.IntKind.i64 (D.int (dnth xs 1)) (1073741823 : Int)))))])]))
theorem evWPlus (hs xs : List D) : evF EWPlus Try.f32 sgWPlus hs xs = mWPlus hs xs := by kernel_rfl

noncomputable def mWMinus (hs xs : List D) : Option (List D × List D) :=
  (Option.some ([], [(D.r [(D.i (IntKind.wrap Go.IntKind.i64 ((D.int (D.f (dnth xs 0) 0)) - (ishr Go.IntKind.i64 (D.int (dnth xs 1)) (30 : Int))))), (D.i (IntKind.wrap Go.IntKind.i64 ((D.int (D.f (dnth xs 0) 1)) - (iand Go.IntKind.i64 (D.int (dnth xs 1)) (1073741823 : Int)))))])]))
theorem evWMinus (hs xs : List D) : evF EWMinus Try.f42 sgWMinus hs xs = mWMinus hs xs := by kernel_rfl

noncomputable def mWValue (hs xs : List D) : Option (List D × List D) :=
  bif (decide ((IntKind.wrap Go.IntKind.i64 ((D.int (D.f (dnth xs 0) 0)) + (ishr Go.IntKind.i64 (D.int (D.f (dnth xs 0) 1)) (30 : Int)))) < (0 : Int))) then
    (Option.some ([], [(D.i (-1 : Int))]))
  else bif (decide ((1073741824 : Int) < (IntKind.wrap Go.IntKind.i64 ((D.int (D.f (dnth xs 0) 0)) + (ishr Go.IntKind.i64 (D.int (D.f (dnth xs 0) 1)) (30 : Int)))))) then
    (Option.some ([], [(D.i (1152921504606846977 : Int))]))
  else (Option.some ([], [(D.i (ior Go.IntKind.i64 (ishl Go.IntKind.i64 (IntKind.wrap Go.IntKind.i64 ((D.int (D.f (dnth xs 0) 0)) + (ishr Go.IntKind.i64 (D.int (D.f (dnth xs 0) 1)) (30 : Int)))) (30 : Int)) (iand Go.IntKind.i64 (D.int (D.f (dnth xs 0) 1)) (1073741823 : Int))))]))
theorem evWValue (hs xs : List D) : evF EWValue Try.f33 sgWValue hs xs = mWValue hs xs := by kernel_rfl

noncomputable def mVPlus (hs xs : List D) : Option (List D × List D) :=
  bif (decide ((D.int (dnth xs 1)) = (1152921504606846976 : Int))) then
    (Option.some ([], [(D.r [(D.i (IntKind.wrap Go.IntKind.i64 ((D.int (D.f (dnth xs 0) 0)) + (1 : Int)))), (D.i (D.int (D.f (dnth xs 0) 1)))])]))
  else bif (decide ((1152921504606846976 : Int) ≤ (D.int (D.f (dset (dnth xs 0) [1] (D.i (IntKind.wrap Go.IntKind.i64 ((D.int (D.f (dnth xs 0) 1)) + (D.int (dnth xs 1)))))) 1)))) then
    (Option.some ([], [(D.r [(D.i (IntKind.wrap Go.IntKind.i64 ((D.int (D.f (dset (dnth xs 0) [1] (D.i (IntKind.wrap Go.IntKind.i64 ((D.int (D.f (dnth xs 0) 1)) + (D.int (dnth xs 1)))))) 0)) + (1 : Int)))), (D.i (IntKind.wrap Go.IntKind.i64 ((D.int (D.f (dset (dnth xs 0) [1] (D.i (IntKind.wrap Go.IntKind.i64 ((D.int (D.f (dnth xs 0) 1)) + (D.int (dnth xs 1)))))) 1)) - (1152921504606846976 : Int))))])]))
  else (Option.some ([], [(dset (dnth xs 0) [1] (D.i (IntKind.wrap Go.IntKind.i64 ((D.int (D.f (dnth xs 0) 1)) + (D.int (dnth xs 1))))))]))
theorem evVPlus (hs xs : List D) : evF EVPlus Try.f37 sgVPlus hs xs = mVPlus hs xs := by kernel_rfl

noncomputable def mVMinus (hs xs : List D) : Option (List D × List D) :=
  bif (decide ((D.int (dnth xs 1)) = (1152921504606846976 : Int))) then
    (Option.some ([], [(D.r [(D.i (IntKind.wrap Go.IntKind.i64 ((D.int (D.f (dnth xs 0) 0)) - (1 : Int)))), (D.i (D.int (D.f (dnth xs 0) 1)))])]))
  else bif (decide ((D.int (D.f (dset (dnth xs 0) [1] (D.i (IntKind.wrap Go.IntKind.i64 ((D.int (D.f (dnth xs 0) 1)) - (D.int (dnth xs 1)))))) 1)) < (0 : Int))) then
    (Option.some ([], [(D.r [(D.i (IntKind.wrap Go.IntKind.i64 ((D.int (D.f (dset (dnth xs 0) [1] (D.i (IntKind.wrap Go.IntKind.i64 ((D.int (D.f (dnth xs 0) 1)) - (D.int (dnth xs 1)))))) 0)) - (1 : Int)))), (D.i (IntKind.wrap Go.IntKind.i64 ((D.int (D.f (dset (dnth xs 0) [1] (D.i (IntKind.wrap Go.IntKind.i64 ((D.int (D.f (dnth xs 0) 1)) - (D.int (dnth xs 1)))))) 1)) + (1152921504606846976 : Int))))])]))
  else (Option.some ([], [(dset (dnth xs 0) [1] (D.i (IntKind.wrap Go.IntKind.i64 ((D.int (D.f (dnth xs 0) 1)) - (D.int (dnth xs 1))))))]))
theorem evVMinus (hs xs : List D) : evF EVMinus Try.f48 sgVMinus hs xs = mVMinus hs xs := by kernel_rfl

noncomputable def mVCut (hs xs : List D) : Option (List D × List D) :=
  bif (decide ((D.int (D.f (dnth xs 0) 0)) < (0 : Int))) then
    (Option.some ([], [(D.i (0 : Int))]))
  else bif (decide ((0 : Int) < (D.int (D.f (dnth xs 0) 0)))) then
    (Option.some ([], [(D.i (1152921504606846976 : Int))]))
  else (Option.some ([], [(D.i (D.int (D.f (dnth xs 0) 1)))]))
theorem evVCut (hs xs : List D) : evF EVCut Try.f38 sgVCut hs xs = mVCut hs xs := by kernel_rfl

noncomputable def mRAmount (hs xs : List D) : Option (List D × List D) :=
  bif (decide ((0 : Int) ≤ (D.int (dnth xs 0)))) then
    (Option.some ([], [(D.b (decide ((D.int (dnth xs 0)) ≤ (1152921504606846976 : Int))))]))
  else (Option.some ([], [(D.b Bool.false)]))
theorem evRAmount (hs xs : List D) : evF ERAmount Try.f34 sgRAmount hs xs = mRAmount hs xs := by kernel_rfl

noncomputable def mFirst (hs xs : List D) : Option (List D × List D) :=
  bif ((decide ((0 : Int) ≤ (if ((Int.ofNat (List.length (D.list (dnth xs 0)))) < (if ((D.int (dnth xs 1)) < (0 : Int)) then (0 : Int) else (D.int (dnth xs 1)))) then (Int.ofNat (List.length (D.list (dnth xs 0)))) else (if ((D.int (dnth xs 1)) < (0 : Int)) then (0 : Int) else (D.int (dnth xs 1)))))) && (decide ((if ((Int.ofNat (List.length (D.list (dnth xs 0)))) < (if ((D.int (dnth xs 1)) < (0 : Int)) then (0 : Int) else (D.int (dnth xs 1)))) then (Int.ofNat (List.length (D.list (dnth xs 0)))) else (if ((D.int (dnth xs 1)) < (0 : Int)) then (0 : Int) else (D.int (dnth xs 1)))) ≤ (Int.ofNat (List.length (D.list (dnth xs 0))))))) then
    (Option.some ([], [(D.r (List.drop 0 (List.take (Int.toNat (if ((Int.ofNat (List.length (D.list (dnth xs 0)))) < (if ((D.int (dnth xs 1)) < (0 : Int)) then (0 : Int) else (D.int (dnth xs 1)))) then (Int.ofNat (List.length (D.list (dnth xs 0)))) else (if ((D.int (dnth xs 1)) < (0 : Int)) then (0 : Int) else (D.int (dnth xs 1))))) (D.list (dnth xs 0)))))]))
  else (Option.none)
theorem evFirst (hs xs : List D) : evF EFirst Try.f39 sgFirst hs xs = mFirst hs xs := by kernel_rfl

noncomputable def mRFirst (hs xs : List D) : Option (List D × List D) :=
  bif (decide ((D.int (dnth xs 1)) < (0 : Int))) then
    (Option.some ([], [(D.r (List.drop 0 (List.take 0 (D.list (dnth xs 0)))))]))
  else bif (decide ((Int.ofNat (List.length (D.list (dnth xs 0)))) < (D.int (dnth xs 1)))) then
    bif (decide ((Int.ofNat (List.length (D.list (dnth xs 0)))) ≤ (Int.ofNat (List.length (D.list (dnth xs 0)))))) then
      (Option.some ([], [(D.r (List.drop 0 (List.take (Int.toNat (Int.ofNat (List.length (D.list (dnth xs 0))))) (D.list (dnth xs 0)))))]))
    else (Option.none)
  else bif ((decide ((0 : Int) ≤ (D.int (dnth xs 1)))) && (decide ((D.int (dnth xs 1)) ≤ (Int.ofNat (List.length (D.list (dnth xs 0))))))) then
    (Option.some ([], [(D.r (List.drop 0 (List.take (Int.toNat (D.int (dnth xs 1))) (D.list (dnth xs 0)))))]))
  else (Option.none)
theorem evRFirst (hs xs : List D) : evF ERFirst Try.f45 sgRFirst hs xs = mRFirst hs xs := by kernel_rfl

noncomputable def mCl3 (hs xs : List D) : Option (List D × List D) :=
  (Option.some ([(D.r []), (ofMap (mapOf (dnth hs 1)))], [(D.b (!(decide ((D.int (Option.getD (entry (mapOf (dnth hs 1)) (D.i (D.int (dnth xs 0)))) (D.i (0 : Int)))) = (3 : Int)))))]))
theorem evCl3 (hs xs : List D) : evF ECl3 Try.f41 sgCl3 hs xs = mCl3 hs xs := by kernel_rfl

noncomputable def mCl2 (hs xs : List D) : Option (List D × List D) :=
  (Option.some ([(D.r []), (ofMap (mapOf (dnth hs 1)))], [(D.b (decide ((D.int (Option.getD (entry (mapOf (dnth hs 1)) (D.i (D.int (dnth xs 0)))) (D.i (0 : Int)))) = (2 : Int))))]))
theorem evCl2 (hs xs : List D) : evF ECl2 Try.f43 sgCl2 hs xs = mCl2 hs xs := by kernel_rfl

noncomputable def mCl0 (hs xs : List D) : Option (List D × List D) :=
  (Option.some ([(D.r []), (ofMap (mapOf (dnth hs 1)))], [(D.b (decide ((D.int (Option.getD (entry (mapOf (dnth hs 1)) (D.i (D.int (dnth xs 0)))) (D.i (0 : Int)))) = (0 : Int))))]))
theorem evCl0 (hs xs : List D) : evF ECl0 Try.f44 sgCl0 hs xs = mCl0 hs xs := by kernel_rfl

noncomputable def mAdds3 (hs xs : List D) : Option (List D × List D) :=
  bif (((@decide ((Int.ofNat (List.length (D.list (dnth xs 0)))) = (Int.ofNat (List.length (D.list (dnth xs 0))))) (Int.instDecidableEq (Int.ofNat (List.length (D.list (dnth xs 0)))) (Int.ofNat (List.length (D.list (dnth xs 0)))))) && Bool.true) && (decide ((0 + (List.length (rest (D.r (D.list (dnth xs 0))) (D.i (0 : Int))))) ≤ 4294967296))) then
    (Option.some ([(D.r []), (ofMap (mapOf (ofMap (mapOf (ofMap (mapOf (dnth hs 1)))))))], [(D.r ([] ++ (addsIf (test3 (mapOf (ofMap (mapOf (dnth hs 1))))) (rest (D.r (D.list (dnth xs 0))) (D.i (0 : Int))))))]))
  else (Option.none)
theorem evAdds3 (hs xs : List D) : evF EAdds3 Try.f40 sgAdds3 hs xs = mAdds3 hs xs := by kernel_rfl

noncomputable def stAdds30 (go : List D → List D → Option (Ex × List D × List D)) (hs xs : List D) : Option (Ex × List D × List D) :=
  bif (decide ((D.int (dnth xs 4)) < (D.int (dnth xs 3)))) then
    bif ((decide ((0 : Int) ≤ (D.int (dnth xs 4)))) && (decide ((D.int (dnth xs 4)) < (Int.ofNat (List.length (D.list (dnth xs 2))))))) then
      bif (decide ((D.int (D.f (dnth (D.list (dnth xs 2)) (Int.toNat (D.int (dnth xs 4)))) 0)) = (1 : Int))) then
        bif (valid (dnth (D.list (dnth xs 2)) (Int.toNat (D.int (dnth xs 4))))) then
          bif (!(decide ((kindIn (mapOf (ofMap (mapOf (dnth hs 1)))) (D.int (D.f (dnth (D.list (dnth xs 2)) (Int.toNat (D.int (dnth xs 4)))) 1))) = (3 : Int)))) then
            bif (decide ((List.length ((D.list (dnth xs 1)) ++ [(D.i (D.int (D.f (dnth (D.list (dnth xs 2)) (Int.toNat (D.int (dnth xs 4)))) 2)))])) ≤ 4294967296)) then
              (go [(D.r []), (ofMap (mapOf (ofMap (mapOf (ofMap (mapOf (dnth hs 1)))))))] [(D.r [(D.r [])]), (D.r ((D.list (dnth xs 1)) ++ [(D.i (D.int (D.f (dnth (D.list (dnth xs 2)) (Int.toNat (D.int (dnth xs 4)))) 2)))])), (D.r (D.list (dnth xs 2))), (D.i (D.int (dnth xs 3))), (D.i (IntKind.wrap Go.IntKind.i64 ((D.int (dnth xs 4)) + (1 : Int))))])
            else (Option.none)
          else (go [(D.r []), (ofMap (mapOf (ofMap (mapOf (ofMap (mapOf (dnth hs 1)))))))] [(D.r [(D.r [])]), (D.r (D.list (dnth xs 1))), (D.r (D.list (dnth xs 2))), (D.i (D.int (dnth xs 3))), (D.i (IntKind.wrap Go.IntKind.i64 ((D.int (dnth xs 4)) + (1 : Int))))])
        else (go [(D.r []), (ofMap (mapOf (dnth hs 1)))] [(D.r [(D.r [])]), (D.r (D.list (dnth xs 1))), (D.r (D.list (dnth xs 2))), (D.i (D.int (dnth xs 3))), (D.i (IntKind.wrap Go.IntKind.i64 ((D.int (dnth xs 4)) + (1 : Int))))])
      else (go [(D.r []), (ofMap (mapOf (dnth hs 1)))] [(D.r [(D.r [])]), (D.r (D.list (dnth xs 1))), (D.r (D.list (dnth xs 2))), (D.i (D.int (dnth xs 3))), (D.i (IntKind.wrap Go.IntKind.i64 ((D.int (dnth xs 4)) + (1 : Int))))])
    else (Option.none)
  else (Option.some ((Ex.exit 0), ([(D.r []), (ofMap (mapOf (dnth hs 1)))], [(D.r (D.list (dnth xs 1)))])))
theorem evstAdds30 (go : List D → List D → Option (Ex × List D × List D)) (hs xs : List D) : stepOf EAdds3 (vlen sgAdds3.heap) (loopN (bodyOf Try.f40) 0) liAdds30 go hs xs = stAdds30 go hs xs := by kernel_rfl

noncomputable def mAdds2 (hs xs : List D) : Option (List D × List D) :=
  bif (((@decide ((Int.ofNat (List.length (D.list (dnth xs 0)))) = (Int.ofNat (List.length (D.list (dnth xs 0))))) (Int.instDecidableEq (Int.ofNat (List.length (D.list (dnth xs 0)))) (Int.ofNat (List.length (D.list (dnth xs 0)))))) && Bool.true) && (decide ((0 + (List.length (rest (D.r (D.list (dnth xs 0))) (D.i (0 : Int))))) ≤ 4294967296))) then
    (Option.some ([(D.r []), (ofMap (mapOf (ofMap (mapOf (ofMap (mapOf (dnth hs 1)))))))], [(D.r ([] ++ (addsIf (test2 (mapOf (ofMap (mapOf (dnth hs 1))))) (rest (D.r (D.list (dnth xs 0))) (D.i (0 : Int))))))]))
  else (Option.none)
theorem evAdds2 (hs xs : List D) : evF EAdds2 Try.f40 sgAdds2 hs xs = mAdds2 hs xs := by kernel_rfl

noncomputable def stAdds20 (go : List D → List D → Option (Ex × List D × List D)) (hs xs : List D) : Option (Ex × List D × List D) :=
  bif (decide ((D.int (dnth xs 4)) < (D.int (dnth xs 3)))) then
    bif ((decide ((0 : Int) ≤ (D.int (dnth xs 4)))) && (decide ((D.int (dnth xs 4)) < (Int.ofNat (List.length (D.list (dnth xs 2))))))) then
      bif (decide ((D.int (D.f (dnth (D.list (dnth xs 2)) (Int.toNat (D.int (dnth xs 4)))) 0)) = (1 : Int))) then
        bif (valid (dnth (D.list (dnth xs 2)) (Int.toNat (D.int (dnth xs 4))))) then
          bif (decide ((kindIn (mapOf (ofMap (mapOf (dnth hs 1)))) (D.int (D.f (dnth (D.list (dnth xs 2)) (Int.toNat (D.int (dnth xs 4)))) 1))) = (2 : Int))) then
            bif (decide ((List.length ((D.list (dnth xs 1)) ++ [(D.i (D.int (D.f (dnth (D.list (dnth xs 2)) (Int.toNat (D.int (dnth xs 4)))) 2)))])) ≤ 4294967296)) then
              (go [(D.r []), (ofMap (mapOf (ofMap (mapOf (ofMap (mapOf (dnth hs 1)))))))] [(D.r [(D.r [])]), (D.r ((D.list (dnth xs 1)) ++ [(D.i (D.int (D.f (dnth (D.list (dnth xs 2)) (Int.toNat (D.int (dnth xs 4)))) 2)))])), (D.r (D.list (dnth xs 2))), (D.i (D.int (dnth xs 3))), (D.i (IntKind.wrap Go.IntKind.i64 ((D.int (dnth xs 4)) + (1 : Int))))])
            else (Option.none)
          else (go [(D.r []), (ofMap (mapOf (ofMap (mapOf (ofMap (mapOf (dnth hs 1)))))))] [(D.r [(D.r [])]), (D.r (D.list (dnth xs 1))), (D.r (D.list (dnth xs 2))), (D.i (D.int (dnth xs 3))), (D.i (IntKind.wrap Go.IntKind.i64 ((D.int (dnth xs 4)) + (1 : Int))))])
        else (go [(D.r []), (ofMap (mapOf (dnth hs 1)))] [(D.r [(D.r [])]), (D.r (D.list (dnth xs 1))), (D.r (D.list (dnth xs 2))), (D.i (D.int (dnth xs 3))), (D.i (IntKind.wrap Go.IntKind.i64 ((D.int (dnth xs 4)) + (1 : Int))))])
      else (go [(D.r []), (ofMap (mapOf (dnth hs 1)))] [(D.r [(D.r [])]), (D.r (D.list (dnth xs 1))), (D.r (D.list (dnth xs 2))), (D.i (D.int (dnth xs 3))), (D.i (IntKind.wrap Go.IntKind.i64 ((D.int (dnth xs 4)) + (1 : Int))))])
    else (Option.none)
  else (Option.some ((Ex.exit 0), ([(D.r []), (ofMap (mapOf (dnth hs 1)))], [(D.r (D.list (dnth xs 1)))])))
theorem evstAdds20 (go : List D → List D → Option (Ex × List D × List D)) (hs xs : List D) : stepOf EAdds2 (vlen sgAdds2.heap) (loopN (bodyOf Try.f40) 0) liAdds20 go hs xs = stAdds20 go hs xs := by kernel_rfl

noncomputable def mAdds0 (hs xs : List D) : Option (List D × List D) :=
  bif (((@decide ((Int.ofNat (List.length (D.list (dnth xs 0)))) = (Int.ofNat (List.length (D.list (dnth xs 0))))) (Int.instDecidableEq (Int.ofNat (List.length (D.list (dnth xs 0)))) (Int.ofNat (List.length (D.list (dnth xs 0)))))) && Bool.true) && (decide ((0 + (List.length (rest (D.r (D.list (dnth xs 0))) (D.i (0 : Int))))) ≤ 4294967296))) then
    (Option.some ([(D.r []), (ofMap (mapOf (ofMap (mapOf (ofMap (mapOf (dnth hs 1)))))))], [(D.r ([] ++ (addsIf (test0 (mapOf (ofMap (mapOf (dnth hs 1))))) (rest (D.r (D.list (dnth xs 0))) (D.i (0 : Int))))))]))
  else (Option.none)
theorem evAdds0 (hs xs : List D) : evF EAdds0 Try.f40 sgAdds0 hs xs = mAdds0 hs xs := by kernel_rfl

noncomputable def stAdds00 (go : List D → List D → Option (Ex × List D × List D)) (hs xs : List D) : Option (Ex × List D × List D) :=
  bif (decide ((D.int (dnth xs 4)) < (D.int (dnth xs 3)))) then
    bif ((decide ((0 : Int) ≤ (D.int (dnth xs 4)))) && (decide ((D.int (dnth xs 4)) < (Int.ofNat (List.length (D.list (dnth xs 2))))))) then
      bif (decide ((D.int (D.f (dnth (D.list (dnth xs 2)) (Int.toNat (D.int (dnth xs 4)))) 0)) = (1 : Int))) then
        bif (valid (dnth (D.list (dnth xs 2)) (Int.toNat (D.int (dnth xs 4))))) then
          bif (decide ((kindIn (mapOf (ofMap (mapOf (dnth hs 1)))) (D.int (D.f (dnth (D.list (dnth xs 2)) (Int.toNat (D.int (dnth xs 4)))) 1))) = (0 : Int))) then
            bif (decide ((List.length ((D.list (dnth xs 1)) ++ [(D.i (D.int (D.f (dnth (D.list (dnth xs 2)) (Int.toNat (D.int (dnth xs 4)))) 2)))])) ≤ 4294967296)) then
              (go [(D.r []), (ofMap (mapOf (ofMap (mapOf (ofMap (mapOf (dnth hs 1)))))))] [(D.r [(D.r [])]), (D.r ((D.list (dnth xs 1)) ++ [(D.i (D.int (D.f (dnth (D.list (dnth xs 2)) (Int.toNat (D.int (dnth xs 4)))) 2)))])), (D.r (D.list (dnth xs 2))), (D.i (D.int (dnth xs 3))), (D.i (IntKind.wrap Go.IntKind.i64 ((D.int (dnth xs 4)) + (1 : Int))))])
            else (Option.none)
          else (go [(D.r []), (ofMap (mapOf (ofMap (mapOf (ofMap (mapOf (dnth hs 1)))))))] [(D.r [(D.r [])]), (D.r (D.list (dnth xs 1))), (D.r (D.list (dnth xs 2))), (D.i (D.int (dnth xs 3))), (D.i (IntKind.wrap Go.IntKind.i64 ((D.int (dnth xs 4)) + (1 : Int))))])
        else (go [(D.r []), (ofMap (mapOf (dnth hs 1)))] [(D.r [(D.r [])]), (D.r (D.list (dnth xs 1))), (D.r (D.list (dnth xs 2))), (D.i (D.int (dnth xs 3))), (D.i (IntKind.wrap Go.IntKind.i64 ((D.int (dnth xs 4)) + (1 : Int))))])
      else (go [(D.r []), (ofMap (mapOf (dnth hs 1)))] [(D.r [(D.r [])]), (D.r (D.list (dnth xs 1))), (D.r (D.list (dnth xs 2))), (D.i (D.int (dnth xs 3))), (D.i (IntKind.wrap Go.IntKind.i64 ((D.int (dnth xs 4)) + (1 : Int))))])
    else (Option.none)
  else (Option.some ((Ex.exit 0), ([(D.r []), (ofMap (mapOf (dnth hs 1)))], [(D.r (D.list (dnth xs 1)))])))
theorem evstAdds00 (go : List D → List D → Option (Ex × List D × List D)) (hs xs : List D) : stepOf EAdds0 (vlen sgAdds0.heap) (loopN (bodyOf Try.f40) 0) liAdds00 go hs xs = stAdds00 go hs xs := by kernel_rfl
end Go.Proofs.Ytkepijaabpkdbaa

/- What the evaluator makes of these functions is what their definitions say. -/
namespace Go.Proofs.Ytkepijaabpkdbaa
open Go Go.Ev

theorem zero32_eq : D.r [(D.i (0 : Int)), (D.i (0 : Int)), (D.i (0 : Int)), (D.i (0 : Int)), (D.i (0 : Int)), (D.i (0 : Int)), (D.i (0 : Int)), (D.i (0 : Int)), (D.i (0 : Int)), (D.i (0 : Int)), (D.i (0 : Int)), (D.i (0 : Int)), (D.i (0 : Int)), (D.i (0 : Int)), (D.i (0 : Int)), (D.i (0 : Int)), (D.i (0 : Int)), (D.i (0 : Int)), (D.i (0 : Int)), (D.i (0 : Int)), (D.i (0 : Int)), (D.i (0 : Int)), (D.i (0 : Int)), (D.i (0 : Int)), (D.i (0 : Int)), (D.i (0 : Int)), (D.i (0 : Int)), (D.i (0 : Int)), (D.i (0 : Int)), (D.i (0 : Int)), (D.i (0 : Int)), (D.i (0 : Int))] = zero32 := rfl

theorem bool_tree_valid (a b k1 k2 k3 p q r s t u : Bool) :
    (bif !a then bif b then some ([], [D.b false]) else bif k1 then bif p then bif q then some ([], [D.b r]) else some ([], [D.b false]) else some ([], [D.b false])
      else bif k2 then bif s then some ([], [D.b r]) else some ([], [D.b false]) else bif k3 then bif s then bif t then some ([], [D.b u]) else some ([], [D.b false]) else some ([], [D.b false]) else some ([], [D.b false])
     else some (([] : List D), [D.b false])) =
    some ([], [D.b (!a && !b && (bif k1 then p && q && r else bif k2 then s && r else bif k3 then s && t && u else false))]) := by
  cases a <;> cases b <;> cases k1 <;> cases k2 <;> cases k3 <;> cases p <;> cases q <;> cases s <;> cases t <;> rfl

theorem le64 (l : List UInt8) : decide (Int.ofNat l.length ≤ (64 : Int)) = decide (l.length ≤ 64) := by
  congr 1; apply propext; constructor <;> intro h <;> (simp at *; omega)

theorem phValid (hs xs : List D) (r) (w : wfAll sgValid.heap sgValid.ins hs xs = true) (h : (phiValid hs xs).val = some r) : mValid hs xs = some r := by
  simp only [phiValid, T.val] at h
  rw [← h]
  simp only [mValid, zero32_eq, le64]
  exact bool_tree_valid _ _ _ _ _ _ _ _ _ _ _
theorem phRValid (hs xs : List D) (r) (w : wfAll sgRValid.heap sgRValid.ins hs xs = true) (h : (phiRValid hs xs).val = some r) : mRValid hs xs = some r := by
  simp only [phiRValid, T.val] at h
  rw [← h]
  simp only [mRValid, zero32_eq, le64]
  exact bool_tree_valid _ _ _ _ _ _ _ _ _ _ _
theorem phInvalid (hs xs : List D) (r) (w : wfAll sgInvalid.heap sgInvalid.ins hs xs = true) (h : (phiInvalid hs xs).val = some r) : mInvalid hs xs = some r := h

theorem phRight (hs xs : List D) (r) (w : wfAll sgRight.heap sgRight.ins hs xs = true) (h : (phiRight hs xs).val = some r) : mRight hs xs = some r := by
  simp only [phiRight, T.val, right] at h
  rw [← h]
  simp only [mRight]
  cases decide (0 ≤ (dnth xs 0).int) <;> rfl
theorem phRAmount (hs xs : List D) (r) (w : wfAll sgRAmount.heap sgRAmount.ins hs xs = true) (h : (phiRAmount hs xs).val = some r) : mRAmount hs xs = some r := by
  simp only [phiRAmount, T.val, right] at h
  rw [← h]
  simp only [mRAmount]
  cases decide (0 ≤ (dnth xs 0).int) <;> rfl
theorem phPlus (hs xs : List D) (r) (w : wfAll sgPlus.heap sgPlus.ins hs xs = true) (h : (phiPlus hs xs).val = some r) : mPlus hs xs = some r := by
  simp only [phiPlus, T.val, sums] at h
  rw [← h]
  simp only [mPlus]
  cases right (dnth xs 0).int <;> cases right (dnth xs 1).int <;> cases right (IntKind.wrap .i64 ((dnth xs 0).int + (dnth xs 1).int)) <;> rfl

theorem sumL_step (a : Int) (l : List D) (i : Int) (h0 : 0 ≤ i) (h : i < (l.length : Int)) : sumL a (l.drop i.toNat) = bif sums a (dnth l i.toNat).int then sumL (IntKind.wrap .i64 (a + (dnth l i.toNat).int)) (l.drop (i + 1).toNat) else none := by
  rw [drop_step h0 h]; rfl

theorem jSum0 : LoopJust ESum (vlen sgSum.heap) (loopN (bodyOf Try.f27) 0) liSum0 := by
  refine loopJust_of (fun hs xs => (rest (dnth xs 1) (dnth xs 3)).length) (by kernel_rfl) (by kernel_rfl) fun go hs xs p w h ih => ?_
  rw [evstSum0]
  simp only [wf_loop, liSum0, slotShapes, wfs_cons, wf_dat, wf_int, wf_bool, wf_str, wf_slice, wf_fn, wf_ref, wf_rall, wf_mref, wf_own, wf_agg, wf_rsub, wf_any, wfs_nil, wfh_cons, wfh_nil, wf_hmap, wf_hrow, wf_hbox, true_and] at w
  obtain ⟨_, _, _, rfl, ⟨a, rfl, _⟩, _, _, rfl, ⟨l, rfl, hl, _⟩, _, _, rfl, ⟨n, rfl, _⟩, _, _, rfl, ⟨i, rfl, _⟩, rfl⟩ := w
  simp only [liSum0, dnth_zero, dnth_succ, dnth_one, dnth_two, int_i, bool_b, str_s, list_r, f_r, rest, mapOf_ofMap] at h ih
  simp only [stSum0, dnth_zero, dnth_succ, dnth_one, dnth_two, int_i, bool_b, str_s, list_r, f_r, mapOf_ofMap]
  replace h := cond_fail h
  obtain ⟨hp, h⟩ := h
  simp only [Bool.and_eq_true, decide_eq_true_eq] at hp
  obtain ⟨rfl, h0⟩ := hp
  by_cases hi : i < (l.length : Int)
  · rw [sumL_step a l i h0 hi] at h
    simp only [hi, h0, decide_true, cond_true, Bool.and_self, Int.ofNat_eq_natCast, wrap_next h0 hi hl]
    cases hs : sums a (dnth l i.toNat).int <;> simp only [hs, cond_false, cond_true] at h ⊢
    · exact h
    · refine ih _ _ ?_ fun _ => cond_ok ?_ h
      · simp; omega
      · simp; omega
  · rw [drop_end h0 hi] at h
    simp only [hi, decide_false, cond_false]
    exact h

theorem phSum (hs xs : List D) (r) (w : wfAll sgSum.heap sgSum.ins hs xs = true) (h : (phiSum hs xs).val = some r) : mSum hs xs = some r := by
  simp only [phiSum, T.val] at h
  simpa [mSum, rest] using h

/-! ### Tests of all -/

theorem indexI_step (l : List D) (i : Int) (h0 : 0 ≤ i) (h : i < (l.length : Int)) : indexI (l.drop i.toNat) i = bif !valid (dnth l i.toNat) then i else indexI (l.drop (i + 1).toNat) (i + 1) := by
  rw [drop_step h0 h]; rfl

theorem jIndexI0 : LoopJust EIndexI (vlen sgIndexI.heap) (loopN (bodyOf Try.f53) 0) liIndexI0 := by
  refine loopJust_of (fun hs xs => (rest (dnth xs 0) (dnth xs 3)).length) (by kernel_rfl) (by kernel_rfl) fun go hs xs p w h ih => ?_
  rw [evstIndexI0]
  simp only [wf_loop, liIndexI0, slotShapes, wfs_cons, wf_dat, wf_int, wf_bool, wf_str, wf_slice, wf_fn, wf_ref, wf_rall, wf_mref, wf_own, wf_agg, wf_rsub, wf_any, wfs_nil, wfh_cons, wfh_nil, wf_hmap, wf_hrow, wf_hbox, true_and] at w
  obtain ⟨rfl, _, _, rfl, ⟨l, rfl, hl, _⟩, _, _, rfl, ⟨_, rfl, rfl⟩, _, _, rfl, ⟨n, rfl, _⟩, _, _, rfl, ⟨i, rfl, _⟩, rfl⟩ := w
  simp only [liIndexI0, dnth_zero, dnth_succ, dnth_one, dnth_two, int_i, bool_b, str_s, list_r, f_r, rest, mapOf_ofMap] at h ih
  simp only [stIndexI0, dnth_zero, dnth_succ, dnth_one, dnth_two, int_i, bool_b, str_s, list_r, f_r, mapOf_ofMap]
  replace h := cond_fail h
  obtain ⟨hp, h⟩ := h
  simp only [Bool.and_eq_true, decide_eq_true_eq] at hp
  obtain ⟨rfl, h0⟩ := hp
  by_cases hi : i < (l.length : Int)
  · rw [indexI_step l i h0 hi] at h
    simp only [hi, h0, decide_true, cond_true, Bool.and_self, Int.ofNat_eq_natCast, wrap_next h0 hi hl]
    cases hs : valid (dnth l i.toNat) <;> simp only [hs, Bool.not_true, Bool.not_false, cond_false, cond_true] at h ⊢
    · have h1 : ¬ i < 0 := by omega
      simp only [h1, decide_false] at h
      exact h
    · refine ih _ _ ?_ fun _ => cond_ok ?_ h
      · simp; omega
      · simp; omega
  · rw [drop_end h0 hi] at h
    simp only [hi, decide_false, cond_false]
    exact h

theorem indexI_neg : ∀ (l : List D) (i : Int), 0 ≤ i → (0 ≤ indexI l i ↔ l.all valid = false)
  | [], i, _ => by simp [indexI]
  | u :: l, i, h => by
    simp only [indexI, List.all_cons]
    cases hv : valid u
    · simpa using h
    · simpa using indexI_neg l (i + 1) (by omega)
theorem indexI_fix : ∀ (l : List D) (i : Int), 0 ≤ i → indexI l i < 0 → indexI l i = -1
  | [], i, _, _ => rfl
  | u :: l, i, h, h2 => by
    simp only [indexI] at *
    cases hv : valid u
    · simp [hv] at h2; omega
    · simp only [hv, Bool.not_true, cond_false] at h2 ⊢
      exact indexI_fix l (i + 1) (by omega) h2

theorem phIndexI (hs xs : List D) (r) (w : wfAll sgIndexI.heap sgIndexI.ins hs xs = true) (h : (phiIndexI hs xs).val = some r) : mIndexI hs xs = some r := by
  simp only [phiIndexI, T.val] at h
  rw [← h]
  simp only [mIndexI, rest, list_r, int_i, Int.toNat_zero, List.drop_zero, decide_true, cond_true]
  by_cases hn : indexI (dnth xs 0).list 0 < 0
  · simp [hn, indexI_fix _ _ (Int.le_refl 0) hn]
  · simp [hn]
theorem phContainsI (hs xs : List D) (r) (w : wfAll sgContainsI.heap sgContainsI.ins hs xs = true) (h : (phiContainsI hs xs).val = some r) : mContainsI hs xs = some r := by
  simp only [phiContainsI, T.val] at h
  rw [← h]
  simp only [mContainsI]
  have := indexI_neg (dnth xs 0).list 0 (Int.le_refl 0)
  cases hv : (dnth xs 0).list.all valid
  · simp [this.2 hv]
  · have h2 : ¬ 0 ≤ indexI (dnth xs 0).list 0 := fun h => by rw [this.1 h] at hv; simp at hv
    simp [h2]

/-! ### Removals -/

theorem jRemovals0 : LoopJust ERemovals (vlen sgRemovals.heap) (loopN (bodyOf Try.f31) 0) liRemovals0 := by
  refine loopJust_of (fun hs xs => (rest (dnth xs 1) (dnth xs 3)).length) (by kernel_rfl) (by kernel_rfl) fun go hs xs p w h ih => ?_
  rw [evstRemovals0]
  simp only [wf_loop, liRemovals0, slotShapes, wfs_cons, wf_dat, wf_int, wf_bool, wf_str, wf_slice, wf_fn, wf_ref, wf_rall, wf_mref, wf_own, wf_agg, wf_rsub, wf_any, wfs_nil, wfh_cons, wfh_nil, wf_hmap, wf_hrow, wf_hbox, true_and] at w
  obtain ⟨⟨_, _, rfl, ⟨es, rfl, _⟩, rfl⟩, d0, _, rfl, _, _, rfl, ⟨l, rfl, hl, _⟩, _, _, rfl, ⟨n, rfl, _⟩, _, _, rfl, ⟨i, rfl, _⟩, rfl⟩ := w
  simp only [liRemovals0, dnth_zero, dnth_succ, dnth_one, dnth_two, int_i, bool_b, str_s, list_r, f_r, rest, mapOf_ofMap] at h ih
  simp only [stRemovals0, dnth_zero, dnth_succ, dnth_one, dnth_two, int_i, bool_b, str_s, list_r, f_r, mapOf_ofMap]
  replace h := cond_fail h
  obtain ⟨hp, h⟩ := h
  simp only [Bool.and_eq_true, decide_eq_true_eq] at hp
  obtain ⟨rfl, h0⟩ := hp
  by_cases hi : i < (l.length : Int)
  · rw [drop_step h0 hi, List.foldl_cons] at h
    simp only [hi, h0, decide_true, cond_true, Bool.and_self, Int.ofNat_eq_natCast, wrap_next h0 hi hl]
    have key : ∀ es', remStep es (dnth l i.toNat) = es' → go [ofMap es'] [.r [], .r l, .i (l.length : Int), .i (i + 1)] = some p := by
      intro es' he
      refine ih _ _ ?_ fun _ => cond_ok ?_ ?_
      · simp; omega
      · simp; omega
      · rw [← he]; simpa using h
    simp only [remStep, uId, uKind] at key
    generalize (entry es (D.i (D.int (D.f (dnth l i.toNat) 1)))).isSome = b1 at key ⊢
    generalize decide (D.int (D.f (dnth l i.toNat) 0) = 1) = b2 at key ⊢
    cases b1 <;> cases b2 <;> cases hv : valid (dnth l i.toNat) <;> simp only [hv] at key <;> exact key _ rfl
  · rw [drop_end h0 hi] at h
    simp only [hi, decide_false, cond_false]
    exact h

theorem phRemovals (hs xs : List D) (r) (w : wfAll sgRemovals.heap sgRemovals.ins hs xs = true) (h : (phiRemovals hs xs).val = some r) : mRemovals hs xs = some r := by
  simp only [phiRemovals, T.val] at h
  rw [← h]
  simp [mRemovals, rest]

/-! ### Wide sums -/
theorem phWPlus (hs xs : List D) (r) (w : wfAll sgWPlus.heap sgWPlus.ins hs xs = true) (h : (phiWPlus hs xs).val = some r) : mWPlus hs xs = some r := h
theorem phWMinus (hs xs : List D) (r) (w : wfAll sgWMinus.heap sgWMinus.ins hs xs = true) (h : (phiWMinus hs xs).val = some r) : mWMinus hs xs = some r := h
theorem tree2 {α β : Type} (f : β → α) (b c : Bool) (x y z : β) : (bif b then f x else bif c then f y else f z) = f (bif b then x else bif c then y else z) := by
  cases b <;> cases c <;> rfl
theorem phWValue (hs xs : List D) (r : List D × List D) (w : wfAll sgWValue.heap sgWValue.ins hs xs = true) (h : (phiWValue hs xs).val = some r) : mWValue hs xs = some r := by
  rw [← h]
  exact tree2 (fun d => some (([] : List D), [D.i d])) _ _ _ _ _
theorem phVPlus (hs xs : List D) (r : List D × List D) (w : wfAll sgVPlus.heap sgVPlus.ins hs xs = true) (h : (phiVPlus hs xs).val = some r) : mVPlus hs xs = some r := by
  rw [← h]
  simp only [sgVPlus, wf_all, T_escrowref13_Wide, wfs_cons, wf_dat, wf_int, wf_bool, wf_str, wf_slice, wf_fn, wf_ref, wf_rall, wf_mref, wf_own, wf_agg, wf_rsub, wf_any, wfs_nil, wfh_cons, wfh_nil, wf_hmap, wf_hrow, wf_hbox, true_and, wf_struct, wfd_cons, wfd_nil] at w
  obtain ⟨_, _, _, rfl, ⟨_, rfl, _, _, rfl, ⟨u, rfl, _⟩, _, _, rfl, ⟨v, rfl, _⟩, rfl⟩, _, _, rfl, ⟨a, rfl, _⟩, rfl⟩ := w
  exact tree2 (fun d => some (([] : List D), [d])) _ _ _ _ _
theorem phVMinus (hs xs : List D) (r : List D × List D) (w : wfAll sgVMinus.heap sgVMinus.ins hs xs = true) (h : (phiVMinus hs xs).val = some r) : mVMinus hs xs = some r := by
  rw [← h]
  simp only [sgVMinus, wf_all, T_escrowref13_Wide, wfs_cons, wf_dat, wf_int, wf_bool, wf_str, wf_slice, wf_fn, wf_ref, wf_rall, wf_mref, wf_own, wf_agg, wf_rsub, wf_any, wfs_nil, wfh_cons, wfh_nil, wf_hmap, wf_hrow, wf_hbox, true_and, wf_struct, wfd_cons, wfd_nil] at w
  obtain ⟨_, _, _, rfl, ⟨_, rfl, _, _, rfl, ⟨u, rfl, _⟩, _, _, rfl, ⟨v, rfl, _⟩, rfl⟩, _, _, rfl, ⟨a, rfl, _⟩, rfl⟩ := w
  exact tree2 (fun d => some (([] : List D), [d])) _ _ _ _ _
theorem phVCut (hs xs : List D) (r : List D × List D) (w : wfAll sgVCut.heap sgVCut.ins hs xs = true) (h : (phiVCut hs xs).val = some r) : mVCut hs xs = some r := by
  rw [← h]
  exact tree2 (fun d => some (([] : List D), [D.i d])) _ _ _ _ _
theorem phFirst (hs xs : List D) (r : List D × List D) (w : wfAll sgFirst.heap sgFirst.ins hs xs = true) (h : (phiFirst hs xs).val = some r) : mFirst hs xs = some r := by
  rw [← h]
  simp only [mFirst, phiFirst, T.val, firstN, Int.ofNat_eq_natCast]
  generalize (dnth xs 0).list = l
  generalize (dnth xs 1).int = n
  have e : ((if (l.length : Int) < (if n < 0 then 0 else n) then (l.length : Int) else (if n < 0 then 0 else n))) = ((min n.toNat l.length : Nat) : Int) := by
    by_cases h1 : n < 0 <;> simp only [h1, if_true, if_false] <;> split <;> omega
  rw [e]
  have h1 : (0 : Int) ≤ ((min n.toNat l.length : Nat) : Int) := by omega
  have h2 : ((min n.toNat l.length : Nat) : Int) ≤ (l.length : Int) := by omega
  simp only [h1, h2, decide_true, Bool.and_self, cond_true, List.drop_zero, Int.toNat_natCast]
  rw [← List.take_take, List.take_length]
theorem phRFirst (hs xs : List D) (r : List D × List D) (w : wfAll sgRFirst.heap sgRFirst.ins hs xs = true) (h : (phiRFirst hs xs).val = some r) : mRFirst hs xs = some r := by
  rw [← h]
  simp only [mRFirst, phiRFirst, T.val, firstN, Int.ofNat_eq_natCast, List.drop_zero]
  generalize (dnth xs 0).list = l
  generalize (dnth xs 1).int = n
  by_cases h1 : n < 0
  · have : n.toNat = 0 := by omega
    simp [h1, this]
  · by_cases h2 : (l.length : Int) < n
    · have : l.take n.toNat = l := List.take_of_length_le (by omega)
      simp [h1, h2, this]
    · have h3 : 0 ≤ n := by omega
      have h4 : n ≤ (l.length : Int) := by omega
      simp [h1, h2, h3, h4]

/-! ### Amounts of adds -/
theorem phCl3 (hs xs : List D) (r : List D × List D) (w : wfAll sgCl3.heap sgCl3.ins hs xs = true) (h : (phiCl3 hs xs).val = some r) : mCl3 hs xs = some r := h
theorem phCl2 (hs xs : List D) (r : List D × List D) (w : wfAll sgCl2.heap sgCl2.ins hs xs = true) (h : (phiCl2 hs xs).val = some r) : mCl2 hs xs = some r := h
theorem phCl0 (hs xs : List D) (r : List D × List D) (w : wfAll sgCl0.heap sgCl0.ins hs xs = true) (h : (phiCl0 hs xs).val = some r) : mCl0 hs xs = some r := h

theorem addsIf_cons (t : Int → Bool) (u : D) (l : List D) : addsIf t (u :: l) = (bif decide (uKind u = 1) && valid u && t (uId u) then [.i (uAmt u)] else []) ++ addsIf t l := by
  unfold addsIf
  cases hb : (decide (uKind u = 1) && valid u && t (uId u)) <;> simp [List.filter_cons, hb]

theorem jAdds30 : LoopJust EAdds3 (vlen sgAdds3.heap) (loopN (bodyOf Try.f40) 0) liAdds30 := by
  refine loopJust_of (fun hs xs => (rest (dnth xs 2) (dnth xs 4)).length) (by kernel_rfl) (by kernel_rfl) fun go hs xs p w h ih => ?_
  rw [evstAdds30]
  simp only [wf_loop, liAdds30, liAdds, slotShapes, wfs_cons, wf_dat, wf_int, wf_bool, wf_str, wf_slice, wf_fn, wf_ref, wf_rall, wf_mref, wf_own, wf_agg, wf_rsub, wf_any, wfs_nil, wfh_cons, wfh_nil, wf_hmap, wf_hrow, wf_hbox, true_and] at w
  obtain ⟨⟨_, _, rfl, _, _, rfl, ⟨es, rfl, _⟩, rfl⟩, _, _, rfl, ⟨_, rfl, _, _, rfl, rfl⟩, _, _, rfl, ⟨o, rfl, ho, _⟩, _, _, rfl, ⟨l, rfl, hl, _⟩, _, _, rfl, ⟨n, rfl, _⟩, _, _, rfl, ⟨i, rfl, _⟩, rfl⟩ := w
  simp only [liAdds30, liAdds, dnth_zero, dnth_succ, dnth_one, dnth_two, int_i, bool_b, str_s, list_r, f_r, rest, mapOf_ofMap] at h ih
  simp only [stAdds30, dnth_zero, dnth_succ, dnth_one, dnth_two, int_i, bool_b, str_s, list_r, f_r, mapOf_ofMap]
  replace h := cond_fail h
  obtain ⟨hp, h⟩ := h
  simp only [Bool.and_eq_true, decide_eq_true_eq] at hp
  obtain ⟨⟨rfl, h0⟩, hm⟩ := hp
  by_cases hi : i < (l.length : Int)
  · rw [drop_step h0 hi] at h hm
    rw [addsIf_cons] at h
    simp only [List.length_cons] at hm
    simp only [hi, h0, decide_true, cond_true, Bool.and_self, Int.ofNat_eq_natCast, wrap_next h0 hi hl]
    have key : ∀ (o' : List D) (z : List D), o'.length ≤ o.length + 1 → o' ++ addsIf (test3 es) (l.drop (i + 1).toNat) = o ++ z ++ addsIf (test3 es) (l.drop (i + 1).toNat) →
        (bif decide (uKind (dnth l i.toNat) = 1) && valid (dnth l i.toNat) && test3 es (uId (dnth l i.toNat)) then [.i (uAmt (dnth l i.toNat))] else []) = z →
        go [.r [], ofMap es] [.r [.r []], .r o', .r l, .i (l.length : Int), .i (i + 1)] = some p := by
      intro o' z hz he hc
      refine ih _ _ ?_ fun _ => cond_ok ?_ ?_
      · simp; omega
      · simp at hm ⊢; omega
      · rw [hc] at h
        simp only [dnth_zero, dnth_succ, dnth_one, dnth_two, int_i, bool_b, str_s, list_r, f_r, mapOf_ofMap, he, List.append_assoc]
        exact h
    simp only [uKind, test3] at key
    have hm2 : (o ++ [D.i (D.int (D.f (dnth l i.toNat) 2))]).length ≤ 4294967296 := by
      have : mostElems = 4294967296 := rfl
      simp; omega
    simp only [hm2, decide_true, cond_true]
    generalize decide (D.int (D.f (dnth l i.toNat) 0) = 1) = b2 at key ⊢
    generalize (!decide (kindIn es (uId (dnth l i.toNat)) = 3)) = b3 at key ⊢
    generalize valid (dnth l i.toNat) = b4 at key ⊢
    cases b2 <;> cases b4 <;> cases b3 <;> first | exact key o [] (by omega) (by simp) rfl | exact key _ [_] (by simp) (by simp) rfl
  · rw [drop_end h0 hi] at h
    simp only [hi, decide_false, cond_false]
    simp only [addsIf, List.filter_nil, List.map_nil, List.append_nil] at h
    exact h
theorem phAdds3 (hs xs : List D) (r : List D × List D) (w : wfAll sgAdds3.heap sgAdds3.ins hs xs = true) (h : (phiAdds3 hs xs).val = some r) : mAdds3 hs xs = some r := by
  simp only [phiAdds3, phiAdds] at h
  replace h := cond_fail h
  obtain ⟨hm, h⟩ := h
  simp only [T.val] at h
  rw [← h]
  have : mostElems = 4294967296 := rfl
  simp only [this] at hm
  simp [mAdds3, rest, of_decide_eq_true hm]

theorem jAdds20 : LoopJust EAdds2 (vlen sgAdds2.heap) (loopN (bodyOf Try.f40) 0) liAdds20 := by
  refine loopJust_of (fun hs xs => (rest (dnth xs 2) (dnth xs 4)).length) (by kernel_rfl) (by kernel_rfl) fun go hs xs p w h ih => ?_
  rw [evstAdds20]
  simp only [wf_loop, liAdds20, liAdds, slotShapes, wfs_cons, wf_dat, wf_int, wf_bool, wf_str, wf_slice, wf_fn, wf_ref, wf_rall, wf_mref, wf_own, wf_agg, wf_rsub, wf_any, wfs_nil, wfh_cons, wfh_nil, wf_hmap, wf_hrow, wf_hbox, true_and] at w
  obtain ⟨⟨_, _, rfl, _, _, rfl, ⟨es, rfl, _⟩, rfl⟩, _, _, rfl, ⟨_, rfl, _, _, rfl, rfl⟩, _, _, rfl, ⟨o, rfl, ho, _⟩, _, _, rfl, ⟨l, rfl, hl, _⟩, _, _, rfl, ⟨n, rfl, _⟩, _, _, rfl, ⟨i, rfl, _⟩, rfl⟩ := w
  simp only [liAdds20, liAdds, dnth_zero, dnth_succ, dnth_one, dnth_two, int_i, bool_b, str_s, list_r, f_r, rest, mapOf_ofMap] at h ih
  simp only [stAdds20, dnth_zero, dnth_succ, dnth_one, dnth_two, int_i, bool_b, str_s, list_r, f_r, mapOf_ofMap]
  replace h := cond_fail h
  obtain ⟨hp, h⟩ := h
  simp only [Bool.and_eq_true, decide_eq_true_eq] at hp
  obtain ⟨⟨rfl, h0⟩, hm⟩ := hp
  by_cases hi : i < (l.length : Int)
  · rw [drop_step h0 hi] at h hm
    rw [addsIf_cons] at h
    simp only [List.length_cons] at hm
    simp only [hi, h0, decide_true, cond_true, Bool.and_self, Int.ofNat_eq_natCast, wrap_next h0 hi hl]
    have key : ∀ (o' : List D) (z : List D), o'.length ≤ o.length + 1 → o' ++ addsIf (test2 es) (l.drop (i + 1).toNat) = o ++ z ++ addsIf (test2 es) (l.drop (i + 1).toNat) →
        (bif decide (uKind (dnth l i.toNat) = 1) && valid (dnth l i.toNat) && test2 es (uId (dnth l i.toNat)) then [.i (uAmt (dnth l i.toNat))] else []) = z →
        go [.r [], ofMap es] [.r [.r []], .r o', .r l, .i (l.length : Int), .i (i + 1)] = some p := by
      intro o' z hz he hc
      refine ih _ _ ?_ fun _ => cond_ok ?_ ?_
      · simp; omega
      · simp at hm ⊢; omega
      · rw [hc] at h
        simp only [dnth_zero, dnth_succ, dnth_one, dnth_two, int_i, bool_b, str_s, list_r, f_r, mapOf_ofMap, he, List.append_assoc]
        exact h
    simp only [uKind, test2] at key
    have hm2 : (o ++ [D.i (D.int (D.f (dnth l i.toNat) 2))]).length ≤ 4294967296 := by
      have : mostElems = 4294967296 := rfl
      simp; omega
    simp only [hm2, decide_true, cond_true]
    generalize decide (D.int (D.f (dnth l i.toNat) 0) = 1) = b2 at key ⊢
    generalize decide (kindIn es (uId (dnth l i.toNat)) = 2) = b3 at key ⊢
    generalize valid (dnth l i.toNat) = b4 at key ⊢
    cases b2 <;> cases b4 <;> cases b3 <;> first | exact key o [] (by omega) (by simp) rfl | exact key _ [_] (by simp) (by simp) rfl
  · rw [drop_end h0 hi] at h
    simp only [hi, decide_false, cond_false]
    simp only [addsIf, List.filter_nil, List.map_nil, List.append_nil] at h
    exact h
theorem phAdds2 (hs xs : List D) (r : List D × List D) (w : wfAll sgAdds2.heap sgAdds2.ins hs xs = true) (h : (phiAdds2 hs xs).val = some r) : mAdds2 hs xs = some r := by
  simp only [phiAdds2, phiAdds] at h
  replace h := cond_fail h
  obtain ⟨hm, h⟩ := h
  simp only [T.val] at h
  rw [← h]
  have : mostElems = 4294967296 := rfl
  simp only [this] at hm
  simp [mAdds2, rest, of_decide_eq_true hm]

theorem jAdds00 : LoopJust EAdds0 (vlen sgAdds0.heap) (loopN (bodyOf Try.f40) 0) liAdds00 := by
  refine loopJust_of (fun hs xs => (rest (dnth xs 2) (dnth xs 4)).length) (by kernel_rfl) (by kernel_rfl) fun go hs xs p w h ih => ?_
  rw [evstAdds00]
  simp only [wf_loop, liAdds00, liAdds, slotShapes, wfs_cons, wf_dat, wf_int, wf_bool, wf_str, wf_slice, wf_fn, wf_ref, wf_rall, wf_mref, wf_own, wf_agg, wf_rsub, wf_any, wfs_nil, wfh_cons, wfh_nil, wf_hmap, wf_hrow, wf_hbox, true_and] at w
  obtain ⟨⟨_, _, rfl, _, _, rfl, ⟨es, rfl, _⟩, rfl⟩, _, _, rfl, ⟨_, rfl, _, _, rfl, rfl⟩, _, _, rfl, ⟨o, rfl, ho, _⟩, _, _, rfl, ⟨l, rfl, hl, _⟩, _, _, rfl, ⟨n, rfl, _⟩, _, _, rfl, ⟨i, rfl, _⟩, rfl⟩ := w
  simp only [liAdds00, liAdds, dnth_zero, dnth_succ, dnth_one, dnth_two, int_i, bool_b, str_s, list_r, f_r, rest, mapOf_ofMap] at h ih
  simp only [stAdds00, dnth_zero, dnth_succ, dnth_one, dnth_two, int_i, bool_b, str_s, list_r, f_r, mapOf_ofMap]
  replace h := cond_fail h
  obtain ⟨hp, h⟩ := h
  simp only [Bool.and_eq_true, decide_eq_true_eq] at hp
  obtain ⟨⟨rfl, h0⟩, hm⟩ := hp
  by_cases hi : i < (l.length : Int)
  · rw [drop_step h0 hi] at h hm
    rw [addsIf_cons] at h
    simp only [List.length_cons] at hm
    simp only [hi, h0, decide_true, cond_true, Bool.and_self, Int.ofNat_eq_natCast, wrap_next h0 hi hl]
    have key : ∀ (o' : List D) (z : List D), o'.length ≤ o.length + 1 → o' ++ addsIf (test0 es) (l.drop (i + 1).toNat) = o ++ z ++ addsIf (test0 es) (l.drop (i + 1).toNat) →
        (bif decide (uKind (dnth l i.toNat) = 1) && valid (dnth l i.toNat) && test0 es (uId (dnth l i.toNat)) then [.i (uAmt (dnth l i.toNat))] else []) = z →
        go [.r [], ofMap es] [.r [.r []], .r o', .r l, .i (l.length : Int), .i (i + 1)] = some p := by
      intro o' z hz he hc
      refine ih _ _ ?_ fun _ => cond_ok ?_ ?_
      · simp; omega
      · simp at hm ⊢; omega
      · rw [hc] at h
        simp only [dnth_zero, dnth_succ, dnth_one, dnth_two, int_i, bool_b, str_s, list_r, f_r, mapOf_ofMap, he, List.append_assoc]
        exact h
    simp only [uKind, test0] at key
    have hm2 : (o ++ [D.i (D.int (D.f (dnth l i.toNat) 2))]).length ≤ 4294967296 := by
      have : mostElems = 4294967296 := rfl
      simp; omega
    simp only [hm2, decide_true, cond_true]
    generalize decide (D.int (D.f (dnth l i.toNat) 0) = 1) = b2 at key ⊢
    generalize decide (kindIn es (uId (dnth l i.toNat)) = 0) = b3 at key ⊢
    generalize valid (dnth l i.toNat) = b4 at key ⊢
    cases b2 <;> cases b4 <;> cases b3 <;> first | exact key o [] (by omega) (by simp) rfl | exact key _ [_] (by simp) (by simp) rfl
  · rw [drop_end h0 hi] at h
    simp only [hi, decide_false, cond_false]
    simp only [addsIf, List.filter_nil, List.map_nil, List.append_nil] at h
    exact h
theorem phAdds0 (hs xs : List D) (r : List D × List D) (w : wfAll sgAdds0.heap sgAdds0.ins hs xs = true) (h : (phiAdds0 hs xs).val = some r) : mAdds0 hs xs = some r := by
  simp only [phiAdds0, phiAdds] at h
  replace h := cond_fail h
  obtain ⟨hm, h⟩ := h
  simp only [T.val] at h
  rw [← h]
  have : mostElems = 4294967296 := rfl
  simp only [this] at hm
  simp [mAdds0, rest, of_decide_eq_true hm]

end Go.Proofs.Ytkepijaabpkdbaa

/- The contracts of these functions; printed by gen.py. -/
namespace Go.Proofs.Ytkepijaabpkdbaa
open Go Go.Ev
theorem okValid : SpecOK Try.prog 54 sgValid phiValid :=
  spec_of (t := []) (loops := []) typesOK noMeth_ok .nil Try.func54 (by kernel_rfl) (by kernel_rfl) (by kernel_rfl) (by kernel_rfl)
    (loopsOK_list (l := []) (by kernel_rfl) trivial) (fun hs xs r w h => (evValid hs xs).trans (phValid hs xs r w h))
theorem okRValid : SpecOK Try.prog 46 sgRValid phiRValid :=
  spec_of (t := []) (loops := []) typesOK noMeth_ok .nil Try.func46 (by kernel_rfl) (by kernel_rfl) (by kernel_rfl) (by kernel_rfl)
    (loopsOK_list (l := []) (by kernel_rfl) trivial) (fun hs xs r w h => (evRValid hs xs).trans (phRValid hs xs r w h))
theorem okInvalid : SpecOK Try.prog 29 sgInvalid phiInvalid :=
  spec_of (t := [eValid]) (loops := []) typesOK noMeth_ok (.cons okValid (by kernel_rfl) .nil) Try.func29 (by kernel_rfl) (by kernel_rfl) (by kernel_rfl) (by kernel_rfl)
    (loopsOK_list (l := []) (by kernel_rfl) trivial) (fun hs xs r w h => (evInvalid hs xs).trans (phInvalid hs xs r w h))
theorem okRight : SpecOK Try.prog 59 sgRight phiRight :=
  spec_of (t := []) (loops := []) typesOK noMeth_ok .nil Try.func59 (by kernel_rfl) (by kernel_rfl) (by kernel_rfl) (by kernel_rfl)
    (loopsOK_list (l := []) (by kernel_rfl) trivial) (fun hs xs r w h => (evRight hs xs).trans (phRight hs xs r w h))
theorem okPlus : SpecOK Try.prog 52 sgPlus phiPlus :=
  spec_of (t := [eRight]) (loops := []) typesOK noMeth_ok (.cons okRight (by kernel_rfl) .nil) Try.func52 (by kernel_rfl) (by kernel_rfl) (by kernel_rfl) (by kernel_rfl)
    (loopsOK_list (l := []) (by kernel_rfl) trivial) (fun hs xs r w h => (evPlus hs xs).trans (phPlus hs xs r w h))
theorem lgSum0 : LoopGood ESum (vlen sgSum.heap) (loopN (bodyOf Try.f27) 0) := LoopGood.of (i := 3) (li := liSum0) (by kernel_rfl) (by kernel_rfl) jSum0
theorem okSum : SpecOK Try.prog 27 sgSum phiSum :=
  spec_of (t := [ePlus]) (loops := [(3, liSum0)]) typesOK noMeth_ok (.cons okPlus (by kernel_rfl) .nil) Try.func27 (by kernel_rfl) (by kernel_rfl) (by kernel_rfl) (by kernel_rfl)
    (loopsOK_list (l := [loopN (bodyOf Try.f27) 0]) (by kernel_rfl) ⟨lgSum0, trivial⟩) (fun hs xs r w h => (evSum hs xs).trans (phSum hs xs r w h))
theorem lgIndexI0 : LoopGood EIndexI (vlen sgIndexI.heap) (loopN (bodyOf Try.f53) 0) := LoopGood.of (i := 2) (li := liIndexI0) (by kernel_rfl) (by kernel_rfl) jIndexI0
theorem okIndexI : SpecOK Try.prog 53 sgIndexI phiIndexI :=
  spec_of (t := [eInvalid]) (loops := [(2, liIndexI0)]) typesOK noMeth_ok (.cons okInvalid (by kernel_rfl) .nil) Try.func53 (by kernel_rfl) (by kernel_rfl) (by kernel_rfl) (by kernel_rfl)
    (loopsOK_list (l := [loopN (bodyOf Try.f53) 0]) (by kernel_rfl) ⟨lgIndexI0, trivial⟩) (fun hs xs r w h => (evIndexI hs xs).trans (phIndexI hs xs r w h))
theorem okContainsI : SpecOK Try.prog 28 sgContainsI phiContainsI :=
  spec_of (t := [eIndexI, eInvalid]) (loops := []) typesOK noMeth_ok (.cons okIndexI (by kernel_rfl) (.cons okInvalid (by kernel_rfl) .nil)) Try.func28 (by kernel_rfl) (by kernel_rfl) (by kernel_rfl) (by kernel_rfl)
    (loopsOK_list (l := []) (by kernel_rfl) trivial) (fun hs xs r w h => (evContainsI hs xs).trans (phContainsI hs xs r w h))
theorem lgRemovals0 : LoopGood ERemovals (vlen sgRemovals.heap) (loopN (bodyOf Try.f31) 0) := LoopGood.of (i := 3) (li := liRemovals0) (by kernel_rfl) (by kernel_rfl) jRemovals0
theorem okRemovals : SpecOK Try.prog 31 sgRemovals phiRemovals :=
  spec_of (t := [eValid]) (loops := [(3, liRemovals0)]) typesOK noMeth_ok (.cons okValid (by kernel_rfl) .nil) Try.func31 (by kernel_rfl) (by kernel_rfl) (by kernel_rfl) (by kernel_rfl)
    (loopsOK_list (l := [loopN (bodyOf Try.f31) 0]) (by kernel_rfl) ⟨lgRemovals0, trivial⟩) (fun hs xs r w h => (evRemovals hs xs).trans (phRemovals hs xs r w h))
theorem okWPlus : SpecOK Try.prog 32 sgWPlus phiWPlus :=
  spec_of (t := []) (loops := []) typesOK noMeth_ok .nil Try.func32 (by kernel_rfl) (by kernel_rfl) (by kernel_rfl) (by kernel_rfl)
    (loopsOK_list (l := []) (by kernel_rfl) trivial) (fun hs xs r w h => (evWPlus hs xs).trans (phWPlus hs xs r w h))
theorem okWMinus : SpecOK Try.prog 42 sgWMinus phiWMinus :=
  spec_of (t := []) (loops := []) typesOK noMeth_ok .nil Try.func42 (by kernel_rfl) (by kernel_rfl) (by kernel_rfl) (by kernel_rfl)
    (loopsOK_list (l := []) (by kernel_rfl) trivial) (fun hs xs r w h => (evWMinus hs xs).trans (phWMinus hs xs r w h))
theorem okWValue : SpecOK Try.prog 33 sgWValue phiWValue :=
  spec_of (t := []) (loops := []) typesOK noMeth_ok .nil Try.func33 (by kernel_rfl) (by kernel_rfl) (by kernel_rfl) (by kernel_rfl)
    (loopsOK_list (l := []) (by kernel_rfl) trivial) (fun hs xs r w h => (evWValue hs xs).trans (phWValue hs xs r w h))
theorem okVPlus : SpecOK Try.prog 37 sgVPlus phiVPlus :=
  spec_of (t := []) (loops := []) typesOK noMeth_ok .nil Try.func37 (by kernel_rfl) (by kernel_rfl) (by kernel_rfl) (by kernel_rfl)
    (loopsOK_list (l := []) (by kernel_rfl) trivial) (fun hs xs r w h => (evVPlus hs xs).trans (phVPlus hs xs r w h))
theorem okVMinus : SpecOK Try.prog 48 sgVMinus phiVMinus :=
  spec_of (t := []) (loops := []) typesOK noMeth_ok .nil Try.func48 (by kernel_rfl) (by kernel_rfl) (by kernel_rfl) (by kernel_rfl)
    (loopsOK_list (l := []) (by kernel_rfl) trivial) (fun hs xs r w h => (evVMinus hs xs).trans (phVMinus hs xs r w h))
theorem okVCut : SpecOK Try.prog 38 sgVCut phiVCut :=
  spec_of (t := []) (loops := []) typesOK noMeth_ok .nil Try.func38 (by kernel_rfl) (by kernel_rfl) (by kernel_rfl) (by kernel_rfl)
    (loopsOK_list (l := []) (by kernel_rfl) trivial) (fun hs xs r w h => (evVCut hs xs).trans (phVCut hs xs r w h))
theorem okRAmount : SpecOK Try.prog 34 sgRAmount phiRAmount :=
  spec_of (t := []) (loops := []) typesOK noMeth_ok .nil Try.func34 (by kernel_rfl) (by kernel_rfl) (by kernel_rfl) (by kernel_rfl)
    (loopsOK_list (l := []) (by kernel_rfl) trivial) (fun hs xs r w h => (evRAmount hs xs).trans (phRAmount hs xs r w h))
theorem okFirst : SpecOK Try.prog 39 sgFirst phiFirst :=
  spec_of (t := []) (loops := []) typesOK noMeth_ok .nil Try.func39 (by kernel_rfl) (by kernel_rfl) (by kernel_rfl) (by kernel_rfl)
    (loopsOK_list (l := []) (by kernel_rfl) trivial) (fun hs xs r w h => (evFirst hs xs).trans (phFirst hs xs r w h))
theorem okRFirst : SpecOK Try.prog 45 sgRFirst phiRFirst :=
  spec_of (t := []) (loops := []) typesOK noMeth_ok .nil Try.func45 (by kernel_rfl) (by kernel_rfl) (by kernel_rfl) (by kernel_rfl)
    (loopsOK_list (l := []) (by kernel_rfl) trivial) (fun hs xs r w h => (evRFirst hs xs).trans (phRFirst hs xs r w h))
theorem okCl3 : SpecOK Try.prog 41 sgCl3 phiCl3 :=
  spec_of (t := []) (loops := []) typesOK noMeth_ok .nil Try.func41 (by kernel_rfl) (by kernel_rfl) (by kernel_rfl) (by kernel_rfl)
    (loopsOK_list (l := []) (by kernel_rfl) trivial) (fun hs xs r w h => (evCl3 hs xs).trans (phCl3 hs xs r w h))
theorem okCl2 : SpecOK Try.prog 43 sgCl2 phiCl2 :=
  spec_of (t := []) (loops := []) typesOK noMeth_ok .nil Try.func43 (by kernel_rfl) (by kernel_rfl) (by kernel_rfl) (by kernel_rfl)
    (loopsOK_list (l := []) (by kernel_rfl) trivial) (fun hs xs r w h => (evCl2 hs xs).trans (phCl2 hs xs r w h))
theorem okCl0 : SpecOK Try.prog 44 sgCl0 phiCl0 :=
  spec_of (t := []) (loops := []) typesOK noMeth_ok .nil Try.func44 (by kernel_rfl) (by kernel_rfl) (by kernel_rfl) (by kernel_rfl)
    (loopsOK_list (l := []) (by kernel_rfl) trivial) (fun hs xs r w h => (evCl0 hs xs).trans (phCl0 hs xs r w h))
theorem lgAdds30 : LoopGood EAdds3 (vlen sgAdds3.heap) (loopN (bodyOf Try.f40) 0) := LoopGood.of (i := 3) (li := liAdds30) (by kernel_rfl) (by kernel_rfl) jAdds30
theorem okAdds3 : SpecOK Try.prog 40 sgAdds3 phiAdds3 :=
  spec_of (t := [eValid, eCl3]) (loops := [(3, liAdds30)]) typesOK noMeth_ok (.cons okValid (by kernel_rfl) (.cons okCl3 (by kernel_rfl) .nil)) Try.func40 (by kernel_rfl) (by kernel_rfl) (by kernel_rfl) (by kernel_rfl)
    (loopsOK_list (l := [loopN (bodyOf Try.f40) 0]) (by kernel_rfl) ⟨lgAdds30, trivial⟩) (fun hs xs r w h => (evAdds3 hs xs).trans (phAdds3 hs xs r w h))
theorem lgAdds20 : LoopGood EAdds2 (vlen sgAdds2.heap) (loopN (bodyOf Try.f40) 0) := LoopGood.of (i := 3) (li := liAdds20) (by kernel_rfl) (by kernel_rfl) jAdds20
theorem okAdds2 : SpecOK Try.prog 40 sgAdds2 phiAdds2 :=
  spec_of (t := [eValid, eCl2]) (loops := [(3, liAdds20)]) typesOK noMeth_ok (.cons okValid (by kernel_rfl) (.cons okCl2 (by kernel_rfl) .nil)) Try.func40 (by kernel_rfl) (by kernel_rfl) (by kernel_rfl) (by kernel_rfl)
    (loopsOK_list (l := [loopN (bodyOf Try.f40) 0]) (by kernel_rfl) ⟨lgAdds20, trivial⟩) (fun hs xs r w h => (evAdds2 hs xs).trans (phAdds2 hs xs r w h))
theorem lgAdds00 : LoopGood EAdds0 (vlen sgAdds0.heap) (loopN (bodyOf Try.f40) 0) := LoopGood.of (i := 3) (li := liAdds00) (by kernel_rfl) (by kernel_rfl) jAdds00
theorem okAdds0 : SpecOK Try.prog 40 sgAdds0 phiAdds0 :=
  spec_of (t := [eValid, eCl0]) (loops := [(3, liAdds00)]) typesOK noMeth_ok (.cons okValid (by kernel_rfl) (.cons okCl0 (by kernel_rfl) .nil)) Try.func40 (by kernel_rfl) (by kernel_rfl) (by kernel_rfl) (by kernel_rfl)
    (loopsOK_list (l := [loopN (bodyOf Try.f40) 0]) (by kernel_rfl) ⟨lgAdds00, trivial⟩) (fun hs xs r w h => (evAdds0 hs xs).trans (phAdds0 hs xs r w h))
end Go.Proofs.Ytkepijaabpkdbaa
