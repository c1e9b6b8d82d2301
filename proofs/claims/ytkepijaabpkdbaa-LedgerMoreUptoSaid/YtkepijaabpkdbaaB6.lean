/- What the evaluator makes of these functions: printed by gen.py out of the model, and proved by the kernel. What the evaluator makes of the law's helpers, and of the laws, is what their definitions say. The contracts of these functions; printed by gen.py. LedgerFolds and LedgerSpends hold: for every input of bulk at most 1048576 each answers true and leaves its arguments as they were.
   CONDITION: the second form of the statements ('..UptoSaid'): what the arguments hold is of bulk at most 1048576. -/
import Derived.Test.YtkepijaabpkdbaaA6
import Derived.Test.YtkepijaabpkdbaaB0
import Derived.Test.YtkepijaabpkdbaaB5
import Derived.Test.YtkepijaabpkdbaaProg
import Derived.KernelRfl
import Derived.Test.YtkepijaabpkdbaaChecked
import Derived.Test.YtkepijaabpkdbaaRows
set_option linter.unusedVariables false
set_option linter.unusedSimpArgs false

/- What the evaluator makes of these functions: printed by gen.py out of the model, and proved by the kernel. -/
namespace Go.Proofs.Ytkepijaabpkdbaa
open Go Go.Ev
set_option maxRecDepth 100000
noncomputable def eLend : Nat × (Sig × Phi) := (9, (sgLend, phiLend))
noncomputable def eSame : Nat × (Sig × Phi) := (12, (sgSame, phiSame))
noncomputable def eKept : Nat × (Sig × Phi) := (13, (sgKept, phiKept))
noncomputable def eMore : Nat × (Sig × Phi) := (14, (sgMore, phiMore))
noncomputable def eFirstL : Nat × (Sig × Phi) := (8, (sgFirstL, phiFirstL))
noncomputable def eFolds : Nat × (Sig × Phi) := (3, (sgFolds, phiFolds))
noncomputable def eSpends : Nat × (Sig × Phi) := (4, (sgSpends, phiSpends))
noncomputable def ELend : Env := mkEnv tyTab [] noMeth Try.f9.ntmps (vlen sgLend.heap) []
noncomputable def ESame : Env := mkEnv tyTab [] noMeth Try.f12.ntmps (vlen sgSame.heap) [(4, liSame0)]
noncomputable def EKept : Env := mkEnv tyTab [] noMeth Try.f13.ntmps (vlen sgKept.heap) [(2, liKept0)]
noncomputable def EMore : Env := mkEnv tyTab [] noMeth Try.f14.ntmps (vlen sgMore.heap) [(3, liMore0)]
noncomputable def EFirstL : Env := mkEnv tyTab [eFold, eSpend, eOpen, eSame] noMeth Try.f8.ntmps (vlen sgFirstL.heap) []
noncomputable def EFolds : Env := mkEnv tyTab [eFirstL, eLend, eFold, eRFold, eSame, eKept, eMore] noMeth Try.f3.ntmps (vlen sgFolds.heap) [(10, liFolds0)]
noncomputable def ESpends : Env := mkEnv tyTab [eFirstL, eLend, eSpend, eOpen, eRSpend, eROpen, eKept, eMore] noMeth Try.f4.ntmps (vlen sgSpends.heap) []

noncomputable def xmLend_0 (xs : List D) : List D :=
  ((D.list (dnth xs 0)) ++ [(D.r [(D.i (-7 : Int)), (D.i (0 : Int)), (D.i (0 : Int)), (D.r (List.replicate 32 (D.i (0 : Int)))), (D.s [])])])
noncomputable def xmLend_1 (xs : List D) : Nat :=
  (List.length (xmLend_0 xs))
noncomputable def mLend (hs xs : List D) : Option (List D × List D) :=
  bif (decide ((List.length (D.list (dnth xs 0))) ≤ 4294967296)) then
    bif (decide ((xmLend_1 xs) ≤ 4294967296)) then
      bif (decide ((Int.ofNat (List.length (D.list (dnth xs 0)))) ≤ (Int.ofNat (xmLend_1 xs)))) then
        (Option.some ([(D.r (xmLend_0 xs))], [(D.r [(D.i (0 : Int)), (D.i (Int.ofNat ((Int.toNat (Int.ofNat (List.length (D.list (dnth xs 0))))) - 0)))])]))
      else (Option.none)
    else (Option.none)
  else (Option.none)
theorem evLend (hs xs : List D) : evF (ELend) Try.f9 sgLend hs xs = mLend hs xs := by kernel_rfl

noncomputable def mSame (hs xs : List D) : Option (List D × List D) :=
  bif (!(!(decide ((D.int (D.f (dnth xs 0) 0)) = (D.int (D.f (dnth xs 1) 0)))))) then
    bif (!(!(decide ((D.int (D.f (dnth xs 0) 1)) = (D.int (D.f (dnth xs 1) 1)))))) then
      bif (!(decide ((Int.ofNat (List.length (D.list (D.f (dnth xs 0) 2)))) = (Int.ofNat (List.length (D.list (D.f (dnth xs 1) 2))))))) then
        (Option.some ([], [(D.b Bool.false)]))
      else bif (decide ((List.length (D.list (D.f (dnth xs 0) 2))) = (List.length (D.list (D.f (dnth xs 1) 2))))) then
        bif (D.beqs (List.drop (Int.toNat (0 : Int)) (D.list (D.f (dnth xs 0) 2))) (List.drop (Int.toNat (0 : Int)) (D.list (D.f (dnth xs 1) 2)))) then
          (Option.some ([], [(D.b Bool.true)]))
        else (Option.some ([], [(D.b Bool.false)]))
      else (Option.none)
    else (Option.some ([], [(D.b Bool.false)]))
  else (Option.some ([], [(D.b Bool.false)]))
theorem evSame (hs xs : List D) : evF (ESame) Try.f12 sgSame hs xs = mSame hs xs := by kernel_rfl

noncomputable def xstSame0_0 (hs : List D) (xs : List D) : Bool :=
  (decide ((D.int (dnth xs 2)) < (Int.ofNat (List.length (D.list (D.f (dnth hs 0) 2))))))
noncomputable def stSame0 (go : List D → List D → Option (Ex × List D × List D)) (hs xs : List D) : Option (Ex × List D × List D) :=
  bif (xstSame0_0 hs xs) then
    bif ((decide ((0 : Int) ≤ (D.int (dnth xs 2)))) && (xstSame0_0 hs xs)) then
      bif ((decide ((0 : Int) ≤ (D.int (dnth xs 2)))) && (decide ((D.int (dnth xs 2)) < (Int.ofNat (List.length (D.list (D.f (dnth hs 1) 2))))))) then
        bif (!(D.beq (dnth (D.list (D.f (dnth hs 0) 2)) (Int.toNat (D.int (dnth xs 2)))) (dnth (D.list (D.f (dnth hs 1) 2)) (Int.toNat (D.int (dnth xs 2)))))) then
          (Option.some (Ex.ret, ([], [(D.b Bool.false)])))
        else (go [(dnth hs 0), (dnth hs 1)] [(D.r []), (D.r []), (D.i (IntKind.wrap Go.IntKind.i64 ((D.int (dnth xs 2)) + (1 : Int))))])
      else (Option.none)
    else (Option.none)
  else (Option.some ((Ex.exit 0), ([], [])))
theorem evstSame0 (go : List D → List D → Option (Ex × List D × List D)) (hs xs : List D) : stepOf (ESame) (vlen sgSame.heap) (loopN (bodyOf Try.f12) 0) liSame0 go hs xs = stSame0 go hs xs := by kernel_rfl

noncomputable def mKept (hs xs : List D) : Option (List D × List D) :=
  bif ((lentOK (D.list (dnth hs 0)) (D.r [(D.i (Int.ofNat (Int.toNat (D.int (D.f (dnth xs 0) 0))))), (D.i (Int.ofNat (Int.toNat (D.int (D.f (dnth xs 0) 1)))))]) (List.length (D.list (dnth xs 1)))) && Bool.true) then
    bif (D.beqs (List.drop (Int.toNat (0 : Int)) (List.take (List.length (D.list (dnth xs 1))) (D.list (dnth hs 0)))) (List.drop (Int.toNat (0 : Int)) (D.list (dnth xs 1)))) then
      bif (decide ((Int.ofNat (Int.toNat (Int.ofNat (List.length (D.list (dnth xs 1)))))) = (Int.ofNat (List.length (D.list (dnth xs 1)))))) then
        bif ((decide ((0 : Int) ≤ (IntKind.wrap Go.IntKind.i64 ((Int.ofNat (List.length (D.list (dnth xs 1)))) + (1 : Int))))) && (decide ((IntKind.wrap Go.IntKind.i64 ((Int.ofNat (List.length (D.list (dnth xs 1)))) + (1 : Int))) ≤ (Int.ofNat ((List.length (D.list (dnth hs 0))) - (Int.toNat (0 : Int))))))) then
          bif (decide ((Int.ofNat (List.length (D.list (dnth xs 1)))) < (Int.ofNat ((Int.toNat (IntKind.wrap Go.IntKind.i64 ((Int.ofNat (List.length (D.list (dnth xs 1)))) + (1 : Int)))) - 0)))) then
            (Option.some ([(D.r (D.list (dnth hs 0)))], [(D.b (D.beq (dnth (D.list (dnth hs 0)) (((Int.toNat (0 : Int)) + 0) + (Int.toNat (Int.ofNat (List.length (D.list (dnth xs 1))))))) (D.r [(D.i (-7 : Int)), (D.i (0 : Int)), (D.i (0 : Int)), (D.r (List.replicate 32 (D.i (0 : Int)))), (D.s [])])))]))
          else (Option.none)
        else (Option.none)
      else (Option.some ([(D.r (D.list (dnth hs 0)))], [(D.b Bool.false)]))
    else (Option.some ([(D.r (D.list (dnth hs 0)))], [(D.b Bool.false)]))
  else (Option.none)
theorem evKept (hs xs : List D) : evF (EKept) Try.f13 sgKept hs xs = mKept hs xs := by kernel_rfl

noncomputable def xstKept0_0 (xs : List D) : D :=
  (D.r [(D.i (Int.ofNat (Int.toNat (D.int (D.f (dnth xs 0) 0))))), (D.i (Int.ofNat (Int.toNat (D.int (D.f (dnth xs 0) 1)))))])
noncomputable def stKept0 (go : List D → List D → Option (Ex × List D × List D)) (hs xs : List D) : Option (Ex × List D × List D) :=
  bif (decide ((D.int (dnth xs 2)) < (Int.ofNat (List.length (D.list (dnth xs 1)))))) then
    bif ((decide ((0 : Int) ≤ (D.int (dnth xs 2)))) && (decide ((D.int (dnth xs 2)) < (Int.ofNat (Int.toNat (D.int (D.f (dnth xs 0) 1))))))) then
      bif ((decide ((0 : Int) ≤ (D.int (dnth xs 2)))) && (decide ((D.int (dnth xs 2)) < (Int.ofNat (List.length (D.list (dnth xs 1))))))) then
        bif (!(D.beq (dnth (D.list (dnth hs 0)) ((Int.toNat (D.int (D.f (dnth xs 0) 0))) + (Int.toNat (D.int (dnth xs 2))))) (dnth (D.list (dnth xs 1)) (Int.toNat (D.int (dnth xs 2)))))) then
          (Option.some (Ex.ret, ([(D.r (D.list (dnth hs 0)))], [(D.b Bool.false)])))
        else (go [(D.r (D.list (dnth hs 0)))] [(xstKept0_0 xs), (D.r (D.list (dnth xs 1))), (D.i (IntKind.wrap Go.IntKind.i64 ((D.int (dnth xs 2)) + (1 : Int))))])
      else (Option.none)
    else (Option.none)
  else (Option.some ((Ex.exit 0), ([(D.r (D.list (dnth hs 0)))], [(xstKept0_0 xs), (D.r (D.list (dnth xs 1)))])))
theorem evstKept0 (go : List D → List D → Option (Ex × List D × List D)) (hs xs : List D) : stepOf (EKept) (vlen sgKept.heap) (loopN (bodyOf Try.f13) 0) liKept0 go hs xs = stKept0 go hs xs := by kernel_rfl

noncomputable def mMore (hs xs : List D) : Option (List D × List D) :=
  bif (decide ((0 + (List.length (rest (D.r (D.list (dnth xs 0))) (D.i (0 : Int))))) ≤ 4294967296)) then
    (Option.some ([], [(D.r ([] ++ (List.map moreU (rest (D.r (D.list (dnth xs 0))) (D.i (0 : Int))))))]))
  else (Option.none)
theorem evMore (hs xs : List D) : evF (EMore) Try.f14 sgMore hs xs = mMore hs xs := by kernel_rfl

noncomputable def xstMore0_0 (xs : List D) : List D :=
  ((D.list (dnth xs 1)) ++ [(dset (dnth (D.list (dnth xs 0)) (Int.toNat (D.int (dnth xs 2)))) [2] (D.i (ixor Go.IntKind.i64 (D.int (D.f (dnth (D.list (dnth xs 0)) (Int.toNat (D.int (dnth xs 2)))) 2)) (1 : Int))))])
noncomputable def stMore0 (go : List D → List D → Option (Ex × List D × List D)) (hs xs : List D) : Option (Ex × List D × List D) :=
  bif (decide ((D.int (dnth xs 2)) < (Int.ofNat (List.length (D.list (dnth xs 0)))))) then
    bif ((decide ((0 : Int) ≤ (D.int (dnth xs 2)))) && (decide ((D.int (dnth xs 2)) < (Int.ofNat (List.length (D.list (dnth xs 0))))))) then
      bif (decide ((List.length (xstMore0_0 xs)) ≤ 4294967296)) then
        (go [] [(D.r (D.list (dnth xs 0))), (D.r (xstMore0_0 xs)), (D.i (IntKind.wrap Go.IntKind.i64 ((D.int (dnth xs 2)) + (1 : Int))))])
      else (Option.none)
    else (Option.none)
  else (Option.some ((Ex.exit 0), ([], [(D.r (D.list (dnth xs 1)))])))
theorem evstMore0 (go : List D → List D → Option (Ex × List D × List D)) (hs xs : List D) : stepOf (EMore) (vlen sgMore.heap) (loopN (bodyOf Try.f14) 0) liMore0 go hs xs = stMore0 go hs xs := by kernel_rfl

noncomputable def mFirstL (hs xs : List D) : Option (List D × List D) :=
  (Option.some ([], [(D.b Bool.true)]))
theorem evFirstL (hs xs : List D) : evF (EFirstL) Try.f8 sgFirstL hs xs = mFirstL hs xs := by kernel_rfl

noncomputable def xmFolds_0 (xs : List D) : List D :=
  (List.take (Int.toNat (Int.ofNat (List.length (D.list (dnth xs 2))))) (List.drop (Int.toNat (0 : Int)) ((D.list (dnth xs 2)) ++ [markU])))
noncomputable def xmFolds_1 (xs : List D) : List D :=
  (List.take (Int.toNat (Int.ofNat (List.length (D.list (dnth xs 3))))) (List.drop (Int.toNat (0 : Int)) ((D.list (dnth xs 3)) ++ [markU])))
noncomputable def xmFolds_2 (xs : List D) : Bool :=
  (decide (((List.length (xmFolds_0 xs)) + (List.length (xmFolds_1 xs))) ≤ 4294967296))
noncomputable def xmFolds_3 (xs : List D) : Int × D :=
  (foldX (D.int (dnth xs 0)) (D.int (dnth xs 1)) (xmFolds_0 xs) (xmFolds_1 xs) (dnth xs 4))
noncomputable def xmFolds_4 (xs : List D) : D :=
  ((xmFolds_3 xs)).2
noncomputable def xmFolds_5 (xs : List D) : List D :=
  (D.list (D.f (xmFolds_4 xs) 2))
noncomputable def xmFolds_6 (xs : List D) : Int × D :=
  (foldR (D.int (dnth xs 0)) (D.int (dnth xs 1)) (D.list (dnth xs 2)) (D.list (dnth xs 3)) (dnth xs 4))
noncomputable def xmFolds_7 (xs : List D) : D :=
  ((xmFolds_6 xs)).2
noncomputable def xmFolds_8 (xs : List D) : List D :=
  (D.list (D.f (xmFolds_7 xs) 2))
noncomputable def xmFolds_9 (xs : List D) : Bool :=
  (D.beq (D.r [(D.i (D.int (D.f (xmFolds_4 xs) 0))), (D.i (D.int (D.f (xmFolds_4 xs) 1))), (D.r (xmFolds_5 xs))]) (D.r [(D.i (D.int (D.f (xmFolds_7 xs) 0))), (D.i (D.int (D.f (xmFolds_7 xs) 1))), (D.r (xmFolds_8 xs))]))
noncomputable def xmFolds_10 (xs : List D) : Bool :=
  (!(!(xmFolds_9 xs)))
noncomputable def xmFolds_11 (xs : List D) : Bool :=
  (!(!(decide (((xmFolds_3 xs)).1 = ((xmFolds_6 xs)).1))))
noncomputable def xmFolds_12 (xs : List D) : Nat :=
  (List.length ((wipe (Int.toNat (0 : Int)) (xmFolds_5 xs)) ++ [(D.r [(D.b Bool.false), (D.i (-2 : Int)), (D.i (0 : Int)), (D.r (List.replicate 32 (D.i (0 : Int))))])]))
noncomputable def xmFolds_13 (xs : List D) : List D :=
  (List.take (Int.toNat (Int.ofNat (Int.toNat (Int.ofNat (List.length (D.list (dnth xs 2))))))) (List.drop (Int.toNat (Int.ofNat (Int.toNat (0 : Int)))) (splice ((D.list (dnth xs 2)) ++ [markU]) (Int.toNat (Int.ofNat (Int.toNat (0 : Int)))) (List.take (Int.toNat (Int.ofNat (Int.toNat (Int.ofNat (List.length (D.list (dnth xs 2))))))) (List.map moreU (D.list (dnth xs 2)))))))
noncomputable def xmFolds_14 (xs : List D) : List D :=
  (List.take (Int.toNat (Int.ofNat (Int.toNat (Int.ofNat (List.length (D.list (dnth xs 3))))))) (List.drop (Int.toNat (Int.ofNat (Int.toNat (0 : Int)))) (splice ((D.list (dnth xs 3)) ++ [markU]) (Int.toNat (Int.ofNat (Int.toNat (0 : Int)))) (List.take (Int.toNat (Int.ofNat (Int.toNat (Int.ofNat (List.length (D.list (dnth xs 3))))))) (List.map moreU (D.list (dnth xs 3)))))))
noncomputable def xmFolds_15 (xs : List D) : Int × D :=
  (foldX (D.int (dnth xs 0)) (D.int (dnth xs 1)) (xmFolds_13 xs) (xmFolds_14 xs) (dnth xs 4))
noncomputable def xmFolds_16 (xs : List D) : D :=
  ((xmFolds_15 xs)).2
noncomputable def xmFolds_17 (xs : List D) : Int × D :=
  (foldR (D.int (dnth xs 0)) (D.int (dnth xs 1)) (List.map moreU (D.list (dnth xs 2))) (List.map moreU (D.list (dnth xs 3))) (dnth xs 4))
noncomputable def xmFolds_18 (xs : List D) : D :=
  ((xmFolds_17 xs)).2
noncomputable def mFolds (hs xs : List D) : Option (List D × List D) :=
  bif (small (D.list (dnth xs 2))) then
    bif (small (D.list (dnth xs 3))) then
      bif (xmFolds_2 xs) then
        bif (xmFolds_2 xs) then
          bif (decide (((List.length (D.list (dnth xs 2))) + (List.length (D.list (dnth xs 3)))) ≤ 4294967296)) then
            bif (xmFolds_10 xs) then
              bif (xmFolds_10 xs) then
                bif (xmFolds_11 xs) then
                  bif (xmFolds_11 xs) then
                    bif (lentOK ((D.list (dnth xs 2)) ++ [markU]) (D.r [(D.i (Int.ofNat (Int.toNat (0 : Int)))), (D.i (Int.ofNat (Int.toNat (Int.ofNat (List.length (D.list (dnth xs 2)))))))]) (List.length (D.list (dnth xs 2)))) then
                      bif (!(!(keptB ((D.list (dnth xs 2)) ++ [markU]) (D.list (dnth xs 2))))) then
                        bif (lentOK ((D.list (dnth xs 3)) ++ [markU]) (D.r [(D.i (Int.ofNat (Int.toNat (0 : Int)))), (D.i (Int.ofNat (Int.toNat (Int.ofNat (List.length (D.list (dnth xs 3)))))))]) (List.length (D.list (dnth xs 3)))) then
                          bif (!(keptB ((D.list (dnth xs 3)) ++ [markU]) (D.list (dnth xs 3)))) then
                            (Option.some ([], [(D.b Bool.false)]))
                          else bif (decide ((xmFolds_12 xs) ≤ 4294967296)) then
                            bif (small (D.list (dnth xs 2))) then
                              bif (small (D.list (dnth xs 3))) then
                                bif (decide (((List.length (xmFolds_13 xs)) + (List.length (xmFolds_14 xs))) ≤ 4294967296)) then
                                  bif (small (D.list (dnth xs 2))) then
                                    bif (small (D.list (dnth xs 3))) then
                                      bif (decide (((List.length (List.map moreU (D.list (dnth xs 2)))) + (List.length (List.map moreU (D.list (dnth xs 3))))) ≤ 4294967296)) then
                                        bif (decide ((Int.ofNat (xmFolds_12 xs)) = (IntKind.wrap Go.IntKind.i64 ((Int.ofNat (List.length (xmFolds_8 xs))) + (1 : Int))))) then
                                          bif (xmFolds_9 xs) then
                                            bif (D.beq (D.r [(D.i (D.int (D.f (xmFolds_16 xs) 0))), (D.i (D.int (D.f (xmFolds_16 xs) 1))), (D.r (D.list (D.f (xmFolds_16 xs) 2)))]) (D.r [(D.i (D.int (D.f (xmFolds_18 xs) 0))), (D.i (D.int (D.f (xmFolds_18 xs) 1))), (D.r (D.list (D.f (xmFolds_18 xs) 2)))])) then
                                              (Option.some ([], [(D.b (decide (((xmFolds_15 xs)).1 = ((xmFolds_17 xs)).1)))]))
                                            else (Option.some ([], [(D.b Bool.false)]))
                                          else (Option.some ([], [(D.b Bool.false)]))
                                        else (Option.some ([], [(D.b Bool.false)]))
                                      else (Option.none)
                                    else (Option.none)
                                  else (Option.none)
                                else (Option.none)
                              else (Option.none)
                            else (Option.none)
                          else (Option.none)
                        else (Option.none)
                      else (Option.some ([], [(D.b Bool.false)]))
                    else (Option.none)
                  else (Option.some ([], [(D.b Bool.false)]))
                else (Option.some ([], [(D.b Bool.false)]))
              else (Option.some ([], [(D.b Bool.false)]))
            else (Option.some ([], [(D.b Bool.false)]))
          else (Option.none)
        else (Option.none)
      else (Option.none)
    else (Option.none)
  else (Option.none)
theorem evFolds (hs xs : List D) : evF (EFolds) Try.f3 sgFolds hs xs = mFolds hs xs := by kernel_rfl

noncomputable def xstFolds0_0 (hs : List D) (xs : List D) : Bool :=
  (decide ((D.int (dnth xs 10)) < (Int.ofNat (List.length (D.list (D.f (dnth hs 3) 2))))))
noncomputable def xstFolds0_1 (hs : List D) : List D :=
  [(D.r [(D.i (D.int (D.f (dnth hs 4) 0))), (D.i (D.int (D.f (dnth hs 4) 1))), (D.r (D.list (D.f (dnth hs 4) 2)))]), (D.r [(D.i (D.int (D.f (dnth hs 5) 0))), (D.i (D.int (D.f (dnth hs 5) 1))), (D.r (D.list (D.f (dnth hs 5) 2)))])]
noncomputable def xstFolds0_2 (xs : List D) : D :=
  (D.r [(D.i (Int.ofNat (Int.toNat (D.int (D.f (dnth xs 5) 0))))), (D.i (Int.ofNat (Int.toNat (D.int (D.f (dnth xs 5) 1)))))])
noncomputable def xstFolds0_3 (xs : List D) : D :=
  (D.r [(D.i (Int.ofNat (Int.toNat (D.int (D.f (dnth xs 6) 0))))), (D.i (Int.ofNat (Int.toNat (D.int (D.f (dnth xs 6) 1)))))])
noncomputable def stFolds0 (go : List D → List D → Option (Ex × List D × List D)) (hs xs : List D) : Option (Ex × List D × List D) :=
  bif (xstFolds0_0 hs xs) then
    bif ((decide ((0 : Int) ≤ (D.int (dnth xs 10)))) && (xstFolds0_0 hs xs)) then
      (go [(D.r (D.list (dnth hs 0))), (D.r (D.list (dnth hs 1))), (dnth hs 2), (D.r [(D.i (D.int (D.f (dnth hs 3) 0))), (D.i (D.int (D.f (dnth hs 3) 1))), (D.r (dput (D.list (D.f (dnth hs 3) 2)) (Int.toNat (D.int (dnth xs 10))) (dset (dnth (D.list (D.f (dnth hs 3) 2)) (Int.toNat (D.int (dnth xs 10)))) [] (D.r [(D.b Bool.false), (D.i (-1 : Int)), (D.i (0 : Int)), (D.r (List.replicate 32 (D.i (0 : Int))))]))))]), (D.r [(D.i (D.int (D.f (dnth hs 4) 0))), (D.i (D.int (D.f (dnth hs 4) 1))), (D.r (D.list (D.f (dnth hs 4) 2)))]), (D.r [(D.i (D.int (D.f (dnth hs 5) 0))), (D.i (D.int (D.f (dnth hs 5) 1))), (D.r (D.list (D.f (dnth hs 5) 2)))])] [(D.i (D.int (dnth xs 0))), (D.i (D.int (dnth xs 1))), (D.r (D.list (dnth xs 2))), (D.r (D.list (dnth xs 3))), (D.r []), (xstFolds0_2 xs), (xstFolds0_3 xs), (D.r []), (D.r []), (D.r []), (D.i (IntKind.wrap Go.IntKind.i64 ((D.int (dnth xs 10)) + (1 : Int))))])
    else (Option.none)
  else (Option.some ((Ex.exit 0), ([(D.r (D.list (dnth hs 0))), (D.r (D.list (dnth hs 1))), (dnth hs 2), (D.r [(D.i (D.int (D.f (dnth hs 3) 0))), (D.i (D.int (D.f (dnth hs 3) 1))), (D.r (D.list (D.f (dnth hs 3) 2)))]), (D.r [(D.i (D.int (D.f (dnth hs 4) 0))), (D.i (D.int (D.f (dnth hs 4) 1))), (D.r (D.list (D.f (dnth hs 4) 2)))]), (D.r [(D.i (D.int (D.f (dnth hs 5) 0))), (D.i (D.int (D.f (dnth hs 5) 1))), (D.r (D.list (D.f (dnth hs 5) 2)))])], [(D.i (D.int (dnth xs 0))), (D.i (D.int (dnth xs 1))), (D.r (D.list (dnth xs 2))), (D.r (D.list (dnth xs 3))), (D.r []), (xstFolds0_2 xs), (xstFolds0_3 xs), (D.r []), (D.r []), (D.r [])])))
theorem evstFolds0 (go : List D → List D → Option (Ex × List D × List D)) (hs xs : List D) : stepOf (EFolds) (vlen sgFolds.heap) (loopN (bodyOf Try.f3) 0) liFolds0 go hs xs = stFolds0 go hs xs := by kernel_rfl

noncomputable def xmSpends_0 (xs : List D) : List D :=
  (List.take (Int.toNat (Int.ofNat (List.length (D.list (dnth xs 1))))) (List.drop (Int.toNat (0 : Int)) ((D.list (dnth xs 1)) ++ [markU])))
noncomputable def xmSpends_1 (xs : List D) : Nat :=
  (List.length (xmSpends_0 xs))
noncomputable def xmSpends_2 (xs : List D) : List D :=
  (List.take (Int.toNat (Int.ofNat (List.length (D.list (dnth xs 2))))) (List.drop (Int.toNat (0 : Int)) ((D.list (dnth xs 2)) ++ [markU])))
noncomputable def xmSpends_3 (xs : List D) : List D :=
  (List.take (Int.toNat (Int.ofNat (List.length (D.list (dnth xs 1))))) (List.drop (Int.toNat (0 : Int)) (splice ((D.list (dnth xs 1)) ++ [markU]) (Int.toNat (0 : Int)) (List.take (Int.toNat (Int.ofNat (List.length (D.list (dnth xs 1))))) (List.map moreU (D.list (dnth xs 1)))))))
noncomputable def xmSpends_4 (xs : List D) : Nat :=
  (List.length (xmSpends_3 xs))
noncomputable def xmSpends_5 (xs : List D) : List D :=
  (List.take (Int.toNat (Int.ofNat (List.length (D.list (dnth xs 2))))) (List.drop (Int.toNat (0 : Int)) (splice ((D.list (dnth xs 2)) ++ [markU]) (Int.toNat (0 : Int)) (List.take (Int.toNat (Int.ofNat (List.length (D.list (dnth xs 2))))) (List.map moreU (D.list (dnth xs 2)))))))
noncomputable def mSpends (hs xs : List D) : Option (List D × List D) :=
  bif (small (D.list (dnth xs 1))) then
    bif (small (D.list (dnth xs 2))) then
      bif (decide (((xmSpends_1 xs) + (List.length (xmSpends_2 xs))) ≤ 4294967296)) then
        bif (decide ((xmSpends_1 xs) ≤ 4294967296)) then
          bif (!(!(decide ((spendX (D.int (dnth xs 0)) (xmSpends_0 xs) (xmSpends_2 xs) (dnth xs 3)) = (spendR (D.int (dnth xs 0)) (D.list (dnth xs 1)) (D.list (dnth xs 2)) (dnth xs 3)))))) then
            bif (!(!(decide ((openX (xmSpends_0 xs) (xmSpends_2 xs) (D.int (D.f (dnth xs 3) 1))) = (openR (D.list (dnth xs 1)) (D.list (dnth xs 2)) (D.int (D.f (dnth xs 3) 1))))))) then
              bif (lentOK ((D.list (dnth xs 1)) ++ [markU]) (D.r [(D.i (Int.ofNat (Int.toNat (0 : Int)))), (D.i (Int.ofNat (Int.toNat (Int.ofNat (List.length (D.list (dnth xs 1)))))))]) (List.length (D.list (dnth xs 1)))) then
                bif (!(!(keptB ((D.list (dnth xs 1)) ++ [markU]) (D.list (dnth xs 1))))) then
                  bif (lentOK ((D.list (dnth xs 2)) ++ [markU]) (D.r [(D.i (Int.ofNat (Int.toNat (0 : Int)))), (D.i (Int.ofNat (Int.toNat (Int.ofNat (List.length (D.list (dnth xs 2)))))))]) (List.length (D.list (dnth xs 2)))) then
                    bif (!(keptB ((D.list (dnth xs 2)) ++ [markU]) (D.list (dnth xs 2)))) then
                      (Option.some ([], [(D.b Bool.false)]))
                    else bif (small (D.list (dnth xs 1))) then
                      bif (small (D.list (dnth xs 2))) then
                        bif (decide (((xmSpends_4 xs) + (List.length (xmSpends_5 xs))) ≤ 4294967296)) then
                          bif (decide ((xmSpends_4 xs) ≤ 4294967296)) then
                            bif (small (D.list (dnth xs 1))) then
                              bif (small (D.list (dnth xs 2))) then
                                bif (decide ((spendX (D.int (dnth xs 0)) (xmSpends_3 xs) (xmSpends_5 xs) (dnth xs 3)) = (spendR (D.int (dnth xs 0)) (List.map moreU (D.list (dnth xs 1))) (List.map moreU (D.list (dnth xs 2))) (dnth xs 3)))) then
                                  bif (small (D.list (dnth xs 1))) then
                                    bif (small (D.list (dnth xs 2))) then
                                      (Option.some ([], [(D.b (decide ((openX (xmSpends_3 xs) (xmSpends_5 xs) (D.int (D.f (dnth xs 3) 1))) = (openR (List.map moreU (D.list (dnth xs 1))) (List.map moreU (D.list (dnth xs 2))) (D.int (D.f (dnth xs 3) 1))))))]))
                                    else (Option.none)
                                  else (Option.none)
                                else (Option.some ([], [(D.b Bool.false)]))
                              else (Option.none)
                            else (Option.none)
                          else (Option.none)
                        else (Option.none)
                      else (Option.none)
                    else (Option.none)
                  else (Option.none)
                else (Option.some ([], [(D.b Bool.false)]))
              else (Option.none)
            else (Option.some ([], [(D.b Bool.false)]))
          else (Option.some ([], [(D.b Bool.false)]))
        else (Option.none)
      else (Option.none)
    else (Option.none)
  else (Option.none)
theorem evSpends (hs xs : List D) : evF (ESpends) Try.f4 sgSpends hs xs = mSpends hs xs := by kernel_rfl
end Go.Proofs.Ytkepijaabpkdbaa

/- What the evaluator makes of the law's helpers, and of the laws, is what their definitions say. -/
namespace Go.Proofs.Ytkepijaabpkdbaa
open Go Go.Ev

theorem mark_eq : D.r [D.i (-7), D.i 0, D.i 0, D.r (List.replicate 32 (D.i 0)), D.s []] = markU := rfl

theorem phLend (hs xs : List D) (r : List D × List D) (w : wfAll sgLend.heap sgLend.ins hs xs = true) (h : (phiLend hs xs).val = some r) : mLend hs xs = some r := by
  simp only [phiLend] at h
  replace h := cond_fail h
  obtain ⟨hm, h⟩ := h
  simp only [small, decide_eq_true_eq] at hm
  simp only [mLend, xmLend_0, xmLend_1, mark_eq]
  have q1 : (dnth xs 0).list.length ≤ 4294967296 := by omega
  have q2 : ((dnth xs 0).list ++ [markU]).length ≤ 4294967296 := by simp; omega
  have q3 : Int.ofNat (dnth xs 0).list.length ≤ Int.ofNat ((dnth xs 0).list ++ [markU]).length := by simp; omega
  simp only [q1, q2, q3, decide_true, cond_true]
  exact h

theorem beqs_len {a b : List D} (h : D.beqs a b = true) : a.length = b.length := by
  rw [(D.beqs_iff a b).1 h]
theorem beqs_step {a b : List D} {i : Int} (h0 : 0 ≤ i) (h1 : i < (a.length : Int)) (h2 : i < (b.length : Int)) : D.beqs (a.drop i.toNat) (b.drop i.toNat) = (D.beq (dnth a i.toNat) (dnth b i.toNat) && D.beqs (a.drop (i + 1).toNat) (b.drop (i + 1).toNat)) := by
  rw [drop_step h0 h1, drop_step h0 h2]; rfl

theorem jSame0 : LoopJust ESame (vlen sgSame.heap) (loopN (bodyOf Try.f12) 0) liSame0 := by
  refine loopJust_of (fun hs xs => (((dnth hs 0).f 2).list.length - (dnth xs 2).int.toNat)) (by kernel_rfl) (by kernel_rfl) fun go hs xs p w h ih => ?_
  rw [evstSame0]
  simp only [wf_loop, liSame0, slotShapes, wfs_cons, wf_dat, wf_int, wf_bool, wf_str, wf_slice, wf_fn, wf_ref, wf_rall, wf_mref, wf_own, wf_agg, wf_rsub, wf_any, wfs_nil, wfh_cons, wfh_nil, wf_hmap, wf_hrow, wf_hbox, true_and] at w
  obtain ⟨⟨a, _, rfl, ha, b, _, rfl, hb, rfl⟩, d0, _, rfl, d1, _, rfl, _, _, rfl, ⟨i, rfl, _⟩, rfl⟩ := w
  simp only [liSame0, dnth_zero, dnth_succ, dnth_one, dnth_two, int_i, bool_b, str_s, list_r, f_r, rest, mapOf_ofMap] at h ih
  simp only [stSame0, xstSame0_0, dnth_zero, dnth_succ, dnth_one, dnth_two, int_i, bool_b, str_s, list_r, f_r, mapOf_ofMap]
  replace h := cond_fail h
  obtain ⟨hp, h⟩ := h
  simp only [Bool.and_eq_true, decide_eq_true_eq] at hp
  obtain ⟨h0, hlen⟩ := hp
  rw [wf_struct] at ha
  obtain ⟨la, rfl, ha⟩ := ha
  simp only [wfd_cons, wfd_nil, wf_int, wf_slice] at ha
  obtain ⟨_, _, rfl, ⟨a0, rfl, _⟩, _, _, rfl, ⟨a1, rfl, _⟩, _, _, rfl, ⟨la, rfl, hla, _⟩, rfl⟩ := ha
  simp only [dnth_zero, dnth_succ, dnth_one, dnth_two, int_i, bool_b, str_s, list_r, f_r] at h ih hlen ⊢
  by_cases hi : i < (la.length : Int)
  · have hi2 : i < (((b.f 2).list).length : Int) := by omega
    rw [beqs_step h0 hi hi2] at h
    simp only [hi, hi2, h0, decide_true, cond_true, Bool.and_self, Int.ofNat_eq_natCast, wrap_next h0 hi hla]
    cases hb : D.beq (dnth la i.toNat) (dnth (b.f 2).list i.toNat) <;> simp only [hb, Bool.true_and, Bool.false_and, Bool.not_true, Bool.not_false, cond_true, cond_false] at h ⊢
    · exact h
    · refine ih _ _ ?_ fun _ => cond_ok ?_ h
      · simp; omega
      · simp [hlen]; omega
  · have e1 : la.drop i.toNat = [] := List.drop_eq_nil_of_le (by omega)
    have e2 : (b.f 2).list.drop i.toNat = [] := List.drop_eq_nil_of_le (by omega)
    rw [e1, e2] at h
    simp only [hi, decide_false, cond_false, Int.ofNat_eq_natCast]
    exact h
theorem phSame (hs xs : List D) (r : List D × List D) (w : wfAll sgSame.heap sgSame.ins hs xs = true) (h : (phiSame hs xs).val = some r) : mSame hs xs = some r := by
  simp only [sgSame, wf_all, wfs_cons, wf_dat, wf_int, wf_bool, wf_str, wf_slice, wf_fn, wf_ref, wf_rall, wf_mref, wf_own, wf_agg, wf_rsub, wf_any, wfs_nil, wfh_cons, wfh_nil, wf_hmap, wf_hrow, wf_hbox, true_and, wf_struct, wfd_cons, wfd_nil] at w
  obtain ⟨_, _, _, rfl, ⟨_, rfl, _, _, rfl, ⟨a0, rfl, _⟩, _, _, rfl, ⟨a1, rfl, _⟩, _, _, rfl, ⟨la, rfl, _⟩, rfl⟩, _, _, rfl, ⟨_, rfl, _, _, rfl, ⟨b0, rfl, _⟩, _, _, rfl, ⟨b1, rfl, _⟩, _, _, rfl, ⟨lb, rfl, _⟩, rfl⟩, rfl⟩ := w
  rw [← h]
  simp only [mSame, phiSame, T.val, dnth_zero, dnth_succ, dnth_one, dnth_two, int_i, bool_b, str_s, list_r, f_r, D.beq, D.beqs, Bool.and_true, Int.toNat_zero, List.drop_zero, Int.ofNat_eq_natCast]
  by_cases c1 : a0 = b0
  · by_cases c2 : a1 = b1
    · by_cases c3 : la.length = lb.length
      · have c3' : (la.length : Int) = (lb.length : Int) := by omega
        simp only [c1, c2, c3, c3', decide_true, Bool.not_true, Bool.not_false, cond_true, cond_false, Bool.true_and]
        cases D.beqs la lb <;> rfl
      · have c3' : ¬ (la.length : Int) = (lb.length : Int) := by omega
        have : D.beqs la lb = false := by
          cases e : D.beqs la lb
          · rfl
          · exact (c3 (beqs_len e)).elim
        simp [c1, c2, c3', this]
    · simp [c1, c2]
  · simp [c1]

theorem lent_d {xs : List D} {d : D} {n : Nat} (h : lentOK xs d n = true) : (d.f 0).int = 0 ∧ (d.f 1).int = (n : Int) ∧ xs.length = n + 1 ∧ n ≤ 4194304 := by
  simp only [lentOK, Bool.and_eq_true, decide_eq_true_eq] at h
  exact ⟨h.1.1.1, h.1.1.2, h.1.2, h.2⟩

theorem jKept0 : LoopJust EKept (vlen sgKept.heap) (loopN (bodyOf Try.f13) 0) liKept0 := by
  refine loopJust_of (fun hs xs => ((dnth xs 1).list.length - (dnth xs 2).int.toNat)) (by kernel_rfl) (by kernel_rfl) fun go hs xs p w h ih => ?_
  rw [evstKept0]
  simp only [wf_loop, liKept0, slotShapes, wfs_cons, wf_dat, wf_int, wf_bool, wf_str, wf_slice, wf_fn, wf_ref, wf_rall, wf_mref, wf_own, wf_agg, wf_rsub, wf_any, wfs_nil, wfh_cons, wfh_nil, wf_hmap, wf_hrow, wf_hbox, true_and] at w
  obtain ⟨⟨_, _, rfl, ⟨r, rfl, hr, _⟩, rfl⟩, d, _, rfl, hd, _, _, rfl, ⟨l, rfl, hl, _⟩, _, _, rfl, ⟨i, rfl, _⟩, rfl⟩ := w
  simp only [liKept0, dnth_zero, dnth_succ, dnth_one, dnth_two, int_i, bool_b, str_s, list_r, f_r, rest, mapOf_ofMap] at h ih
  simp only [stKept0, xstKept0_0, dnth_zero, dnth_succ, dnth_one, dnth_two, int_i, bool_b, str_s, list_r, f_r, mapOf_ofMap]
  replace h := cond_fail h
  obtain ⟨hp, h⟩ := h
  simp only [Bool.and_eq_true, decide_eq_true_eq] at hp
  obtain ⟨hk, h0⟩ := hp
  obtain ⟨k1, k2, k3, k4⟩ := lent_d hk
  have e0 : Int.ofNat (d.f 0).int.toNat = 0 := by rw [k1]; rfl
  have e1 : Int.ofNat (d.f 1).int.toNat = (l.length : Int) := by rw [k2]; simp
  rw [e0, e1, k1]
  simp only [Int.toNat_zero, Nat.zero_add]
  by_cases hi : i < (l.length : Int)
  · have ht : (r.take l.length).length = l.length := by simp; omega
    have hi2 : i < ((r.take l.length).length : Int) := by omega
    have hg : dnth (r.take l.length) i.toNat = dnth r i.toNat := by
      rw [dnth_eq, dnth_eq, List.getElem?_take, if_pos (by omega)]
    rw [beqs_step h0 hi2 hi, hg] at h
    simp only [hi, h0, decide_true, cond_true, Bool.and_self, Int.ofNat_eq_natCast, wrap_next h0 hi hl]
    cases hb : D.beq (dnth r i.toNat) (dnth l i.toNat) <;> simp only [hb, Bool.true_and, Bool.false_and, Bool.not_true, Bool.not_false, cond_true, cond_false] at h ⊢
    · exact h
    · refine ih _ _ ?_ fun _ => cond_ok ?_ h
      · simp; omega
      · simp [lentOK, k3, k4]; omega
  · have e1 : (r.take l.length).drop i.toNat = [] := List.drop_eq_nil_of_le (by simp; omega)
    have e2 : l.drop i.toNat = [] := List.drop_eq_nil_of_le (by omega)
    rw [e1, e2] at h
    simp only [hi, decide_false, cond_false, Int.ofNat_eq_natCast]
    exact h
theorem phKept (hs xs : List D) (r : List D × List D) (w : wfAll sgKept.heap sgKept.ins hs xs = true) (h : (phiKept hs xs).val = some r) : mKept hs xs = some r := by
  simp only [phiKept] at h
  replace h := cond_fail h
  obtain ⟨hk, h⟩ := h
  simp only [T.val] at h
  rw [← h]
  obtain ⟨k1, k2, k3, k4⟩ := lent_d hk
  have e0 : Int.ofNat (D.int (D.f (dnth xs 0) 0)).toNat = 0 := by rw [k1]; rfl
  have e1 : Int.ofNat (D.int (D.f (dnth xs 0) 1)).toNat = ((dnth xs 1).list.length : Int) := by rw [k2]; simp
  simp only [mKept, ]
  rw [e0, e1]
  generalize (dnth hs 0).list = r at *
  generalize (dnth xs 1).list = l at *
  have ok : lentOK r (D.r [D.i 0, D.i (l.length : Int)]) l.length = true := by simp [lentOK, k3, k4]
  have ew : IntKind.wrap .i64 (Int.ofNat l.length + 1) = (l.length : Int) + 1 := wrap_i64 (by simp; omega) (by simp; omega)
  rw [ew]
  have b1 : (0 : Int) ≤ (l.length : Int) + 1 := by omega
  have b2 : (l.length : Int) + 1 ≤ Int.ofNat (r.length - 0) := by simp; omega
  have b3 : Int.ofNat l.length < Int.ofNat (((l.length : Int) + 1).toNat - 0) := by simp; omega
  have b4 : Int.ofNat (Int.ofNat l.length).toNat = Int.ofNat l.length := by simp
  simp only [ok, mark_eq, b1, b4, decide_true, Bool.and_self, cond_true, Int.toNat_zero, List.drop_zero, decide_eq_true b2, decide_eq_true b3]
  unfold keptB
  have e5 : 0 + 0 + (Int.ofNat l.length).toNat = l.length := by simp
  rw [e5]
  cases D.beqs (r.take l.length) l <;> rfl

theorem more_eq {u : D} (h : wfD T_api_Update u = true) : dset u [2] (D.i (ixor .i64 (D.int (D.f u 2)) 1)) = moreU u := by
  simp only [wf_struct, wfd_cons, wfd_nil, wf_int, wf_str] at h
  obtain ⟨_, rfl, _, _, rfl, ⟨k, rfl, _⟩, _, _, rfl, ⟨id, rfl, _⟩, _, _, rfl, ⟨a, rfl, _⟩, x, _, rfl, hx, _, _, rfl, ⟨n, rfl, _⟩, rfl⟩ := h
  rfl
theorem jMore0 : LoopJust EMore (vlen sgMore.heap) (loopN (bodyOf Try.f14) 0) liMore0 := by
  refine loopJust_of (fun hs xs => (rest (dnth xs 0) (dnth xs 2)).length) (by kernel_rfl) (by kernel_rfl) fun go hs xs p w h ih => ?_
  rw [evstMore0]
  simp only [wf_loop, liMore0, slotShapes, wfs_cons, wf_dat, wf_int, wf_bool, wf_str, wf_slice, wf_fn, wf_ref, wf_rall, wf_mref, wf_own, wf_agg, wf_rsub, wf_any, wfs_nil, wfh_cons, wfh_nil, wf_hmap, wf_hrow, wf_hbox, true_and] at w
  obtain ⟨rfl, _, _, rfl, ⟨l, rfl, hl, hw⟩, _, _, rfl, ⟨o, rfl, ho, _⟩, _, _, rfl, ⟨i, rfl, _⟩, rfl⟩ := w
  simp only [liMore0, dnth_zero, dnth_succ, dnth_one, dnth_two, int_i, bool_b, str_s, list_r, f_r, rest, mapOf_ofMap] at h ih
  simp only [stMore0, xstMore0_0, dnth_zero, dnth_succ, dnth_one, dnth_two, int_i, bool_b, str_s, list_r, f_r, mapOf_ofMap]
  replace h := cond_fail h
  obtain ⟨hp, h⟩ := h
  simp only [Bool.and_eq_true, decide_eq_true_eq] at hp
  obtain ⟨h0, hm⟩ := hp
  by_cases hi : i < (l.length : Int)
  · have hu : wfD T_api_Update (dnth l i.toNat) = true := List.all_eq_true.1 hw _ (dnth_mem (by omega))
    rw [drop_step h0 hi] at h hm
    simp only [List.length_cons] at hm
    rw [more_eq hu]
    have m1 : (o ++ [moreU (dnth l i.toNat)]).length ≤ 4294967296 := by simp; omega
    simp only [hi, h0, m1, decide_true, cond_true, Bool.and_self, Int.ofNat_eq_natCast, wrap_next h0 hi hl]
    refine ih _ _ ?_ fun _ => cond_ok ?_ ?_
    · simp; omega
    · simp at hm ⊢; omega
    · simp only [dnth_zero, dnth_succ, dnth_one, dnth_two, int_i, bool_b, str_s, list_r, f_r]
      rw [List.map_cons] at h
      simpa using h
  · rw [drop_end h0 hi] at h
    simp only [hi, decide_false, cond_false, Int.ofNat_eq_natCast]
    simp only [List.map_nil, List.append_nil] at h
    exact h
theorem phMore (hs xs : List D) (r : List D × List D) (w : wfAll sgMore.heap sgMore.ins hs xs = true) (h : (phiMore hs xs).val = some r) : mMore hs xs = some r := by
  simp only [phiMore] at h
  replace h := cond_fail h
  obtain ⟨hm, h⟩ := h
  simp only [small, decide_eq_true_eq] at hm
  have q : 0 + (dnth xs 0).list.length ≤ 4294967296 := by omega
  simp only [mMore, rest, dnth_zero, dnth_succ, dnth_one, dnth_two, int_i, bool_b, str_s, list_r, f_r, Int.toNat_zero, List.drop_zero, List.nil_append, q, decide_true, cond_true]
  exact h
theorem phFirstL (hs xs : List D) (r : List D × List D) (w : wfAll sgFirstL.heap sgFirstL.ins hs xs = true) (h : (phiFirstL hs xs).val = some r) : mFirstL hs xs = some r := h

/-! ### The laws -/

theorem bulk_parts {vs : List D} {d : D} (h : d ∈ vs) : bulkD d ≤ bulkDs vs := by
  induction vs with
  | nil => simp at h
  | cons x vs ih =>
    simp only [bulkDs]
    rcases List.mem_cons.1 h with rfl | h
    · omega
    · have := ih h; omega
theorem bulk_list {vs l : List D} (h : D.r l ∈ vs) (hb : bulkDs vs ≤ 1048576) : l.length ≤ 1048576 := by
  have h1 := bulk_parts h
  have h2 := bulkDs_length l
  simp only [bulkD] at h1
  omega
theorem lent_take (l : List D) : ((l ++ [markU]).drop 0).take l.length = l := by simp
theorem lent_ok {l : List D} (h : l.length ≤ 4194304) : lentOK (l ++ [markU]) (D.r [D.i 0, D.i (l.length : Int)]) l.length = true := by
  simp [lentOK]; omega
theorem kept_ok (l : List D) : keptB (l ++ [markU]) l = true := by
  unfold keptB
  have e1 : (l ++ [markU]).take l.length = l := List.take_left
  have e2 : dnth (l ++ [markU]) l.length = markU := dnth_mid rfl
  rw [e1, e2, D.beq_self, (D.beqs_iff l l).2 rfl]; rfl
theorem more_splice (l : List D) : ((splice (l ++ [markU]) 0 ((l.map moreU).take l.length)).drop 0).take l.length = l.map moreU := by
  have e : (l.map moreU).take l.length = l.map moreU := List.take_of_length_le (by simp)
  rw [e]
  simp [splice]
theorem fold_form (bo bp : Int) (ours peers : List D) (c : D) : ∃ a b l, (foldR bo bp ours peers c).2 = .r [.i a, .i b, .r l] ∧ l.length ≤ ours.length + peers.length := by
  unfold foldR
  cases (cntBad ours peers c || !right bo || !right bp || !right (IntKind.wrap .i64 (bo + bp)))
  · cases (!(firstN ours (c.f 0).int).all valid || !(firstN peers (c.f 1).int).all valid)
    · cases (decide (D.int (D.f (rfold2 bo bp ours peers c).2.1 0) < 0) || decide (D.int (D.f (rfold2 bo bp ours peers c).1 0) < 0))
      · refine ⟨_, _, _, rfl, ?_⟩
        have k1 := sideL_open (firstN peers (c.f 1).int) true (vPlus wZero bo) (vPlus wZero bp) (firstN ours (c.f 0).int)
        have k2 := sideL_open (firstN ours (c.f 0).int) false (rfold1 bo bp ours peers c).2.1 (rfold1 bo bp ours peers c).1 (firstN peers (c.f 1).int)
        have l1 := firstN_length ours (c.f 0).int
        have l2 := firstN_length peers (c.f 1).int
        rw [List.length_append]
        have k1' : (rfold1 bo bp ours peers c).2.2.length ≤ (firstN ours (c.f 0).int).length := k1
        have k2' : (rfold2 bo bp ours peers c).2.2.length ≤ (firstN peers (c.f 1).int).length := k2
        omega
      · exact ⟨0, 0, [], rfl, by simp⟩
    · exact ⟨0, 0, [], rfl, by simp⟩
  · exact ⟨0, 0, [], rfl, by simp⟩
theorem wipe_step {l : List D} {i : Int} (h0 : 0 ≤ i) (h : i < (l.length : Int)) : wipe (i + 1).toNat (dput l i.toNat markP) = wipe i.toNat l := by
  have e : (i + 1).toNat = i.toNat + 1 := by omega
  have hlt : i.toNat < l.length := by omega
  unfold wipe
  rw [e, dput_length, dput_eq]
  have e2 : l.length - i.toNat = (l.length - (i.toNat + 1)) + 1 := by omega
  rw [e2, List.replicate_succ, List.take_add_one, List.take_set_of_le (Nat.le_refl _)]
  rw [List.getElem?_set_self hlt]
  simp

set_option maxHeartbeats 1000000 in
theorem jFolds0 : LoopJust EFolds (vlen sgFolds.heap) (loopN (bodyOf Try.f3) 0) liFolds0 := by
  refine loopJust_of (fun hs xs => (((dnth hs 3).f 2).list.length - (dnth xs 10).int.toNat)) (by kernel_rfl) (by kernel_rfl) fun go hs xs p w h ih => ?_
  rw [evstFolds0]
  simp only [wf_loop, liFolds0, slotShapes, wfs_cons, wf_dat, wf_int, wf_bool, wf_str, wf_slice, wf_fn, wf_ref, wf_rall, wf_mref, wf_own, wf_agg, wf_rsub, wf_any, wfs_nil, wfh_cons, wfh_nil, wf_hmap, wf_hrow, wf_hbox, true_and] at w
  obtain ⟨⟨_, _, rfl, ⟨x, rfl, _⟩, _, _, rfl, ⟨y, rfl, _⟩, c, _, rfl, hc, _, _, rfl, ⟨_, rfl, _, _, rfl, ⟨a0, rfl, _⟩, _, _, rfl, ⟨a1, rfl, _⟩, _, _, rfl, ⟨al, rfl, hal, _⟩, rfl⟩, _, _, rfl, ⟨_, rfl, _, _, rfl, ⟨b0, rfl, _⟩, _, _, rfl, ⟨b1, rfl, _⟩, _, _, rfl, ⟨bl, rfl, _⟩, rfl⟩, _, _, rfl, ⟨_, rfl, _, _, rfl, ⟨c0, rfl, _⟩, _, _, rfl, ⟨c1, rfl, _⟩, _, _, rfl, ⟨cl, rfl, _⟩, rfl⟩, rfl⟩,
    _, _, rfl, ⟨bo, rfl, _⟩, _, _, rfl, ⟨bp, rfl, _⟩, _, _, rfl, ⟨ours, rfl, _⟩, _, _, rfl, ⟨peers, rfl, _⟩, d4, _, rfl, _, _, rfl, ⟨o5, n5, rfl, h5, h5', _⟩, _, _, rfl, ⟨o6, n6, rfl, h6, h6', _⟩, d7, _, rfl, d8, _, rfl, d9, _, rfl, _, _, rfl, ⟨i, rfl, _⟩, rfl⟩ := w
  simp only [liFolds0, dnth_zero, dnth_succ, dnth_one, dnth_two, int_i, bool_b, str_s, list_r, f_r, rest, mapOf_ofMap] at h ih
  simp only [stFolds0, xstFolds0_0, xstFolds0_1, xstFolds0_2, xstFolds0_3, dnth_zero, dnth_succ, dnth_one, dnth_two, int_i, bool_b, str_s, list_r, f_r, mapOf_ofMap]
  replace h := cond_fail h
  obtain ⟨h0, h⟩ := h
  simp only [decide_eq_true_eq] at h0
  have e5 : Int.ofNat o5.toNat = o5 := by simp; omega
  have e6 : Int.ofNat n5.toNat = n5 := by simp; omega
  have e7 : Int.ofNat o6.toNat = o6 := by simp; omega
  have e8 : Int.ofNat n6.toNat = n6 := by simp; omega
  rw [e5, e6, e7, e8]
  have em : D.r [D.b false, D.i (-1), D.i 0, D.r (List.replicate 32 (D.i 0))] = markP := rfl
  by_cases hi : i < (al.length : Int)
  · simp only [hi, h0, em, dset_nil, decide_true, cond_true, Bool.and_self, Int.ofNat_eq_natCast, wrap_next h0 hi hal]
    refine ih _ _ ?_ fun _ => cond_ok ?_ ?_
    · simp; omega
    · simp; omega
    · simp only [dnth_zero, dnth_succ, dnth_one, dnth_two, int_i, bool_b, str_s, list_r, f_r, wipe_step h0 hi]
      exact h
  · have : wipe i.toNat al = al := by
      unfold wipe
      rw [List.take_of_length_le (by omega), show al.length - i.toNat = 0 by omega]; simp
    rw [this] at h
    simp only [hi, decide_false, cond_false, Int.ofNat_eq_natCast]
    exact h

set_option maxHeartbeats 4000000 in
theorem phFolds (hs xs : List D) (r : List D × List D) (w : wfAll sgFolds.heap sgFolds.ins hs xs = true) (h : (phiFolds hs xs).val = some r) : mFolds hs xs = some r := by
  simp only [sgFolds, wf_all, wfs_cons, wf_dat, wf_int, wf_bool, wf_str, wf_slice, wf_fn, wf_ref, wf_rall, wf_mref, wf_own, wf_agg, wf_rsub, wf_any, wfs_nil, wfh_cons, wfh_nil, wf_hmap, wf_hrow, wf_hbox, true_and] at w
  obtain ⟨rfl, _, _, rfl, ⟨bo, rfl, b1, b2⟩, _, _, rfl, ⟨bp, rfl, _⟩, _, _, rfl, ⟨ours, rfl, _⟩, _, _, rfl, ⟨peers, rfl, _⟩, c, _, rfl, hc, rfl⟩ := w
  simp only [phiFolds, lawPhi] at h
  replace h := cond_fail h
  obtain ⟨hb, h⟩ := h
  simp only [bulkOK, decide_eq_true_eq] at hb
  have l1 : ours.length ≤ 1048576 := bulk_list (by simp) hb
  have l2 : peers.length ≤ 1048576 := bulk_list (by simp) hb
  rw [i64min] at b1
  rw [i64max] at b2
  have s1 : small ours = true := by simp [small]; omega
  have s2 : small peers = true := by simp [small]; omega
  have q0 : ours.length + peers.length ≤ 4294967296 := by omega
  have q1 : (ours.map moreU).length + (peers.map moreU).length ≤ 4294967296 := by simp; omega
  have f1 : foldX bo bp ours peers c = foldR bo bp ours peers c := fold_eq b1 b2 (by omega) (by omega)
  have f2 : foldX bo bp (ours.map moreU) (peers.map moreU) c = foldR bo bp (ours.map moreU) (peers.map moreU) c := fold_eq b1 b2 (by simp; omega) (by simp; omega)
  obtain ⟨a1, a2, al, ea, hal⟩ := fold_form bo bp ours peers c
  have k1 := lent_ok (l := ours) (by omega)
  have k2 := lent_ok (l := peers) (by omega)
  have ew : IntKind.wrap .i64 (Int.ofNat al.length + 1) = (al.length : Int) + 1 := wrap_i64 (by simp; omega) (by simp; omega)
  have z0 : Int.ofNat (Int.toNat 0) = 0 := rfl
  have zl : ∀ n : Nat, (Int.ofNat n).toNat = n := fun _ => rfl
  have zi : ∀ n : Nat, Int.ofNat n = (n : Int) := fun _ => rfl
  have zz : ((0 : Nat) : Int) = 0 := rfl
  simp only [mFolds, xmFolds_0, xmFolds_1, xmFolds_2, xmFolds_3, xmFolds_4, xmFolds_5, xmFolds_6, xmFolds_7, xmFolds_8, xmFolds_9, xmFolds_10, xmFolds_11, xmFolds_12, xmFolds_13, xmFolds_14, xmFolds_15, xmFolds_16, xmFolds_17, xmFolds_18, dnth_zero, dnth_succ, dnth_one, dnth_two, int_i, bool_b, str_s, list_r, f_r, z0, zl, zi, zz, Int.toNat_zero, Int.toNat_natCast, lent_take, more_splice, f1, f2, s1, s2, q0, q1, k1, k2, kept_ok, ea, D.beq_self, decide_true, Bool.not_true, Bool.not_false, cond_true, cond_false]
  have m1 : (wipe 0 al ++ [D.r [D.b false, D.i (-2), D.i 0, D.r (List.replicate 32 (D.i 0))]]).length = al.length + 1 := by simp [wipe]
  have m2 : al.length + 1 ≤ 4294967296 := by omega
  rw [zi] at ew
  simp only [m1, m2, ew, decide_true, cond_true]
  have m3 : ((al.length + 1 : Nat) : Int) = (al.length : Int) + 1 := by omega
  simp only [m3, decide_true, cond_true]
  exact h

set_option maxHeartbeats 4000000 in
theorem phSpends (hs xs : List D) (r : List D × List D) (w : wfAll sgSpends.heap sgSpends.ins hs xs = true) (h : (phiSpends hs xs).val = some r) : mSpends hs xs = some r := by
  simp only [sgSpends, wf_all, wfs_cons, wf_dat, wf_int, wf_bool, wf_str, wf_slice, wf_fn, wf_ref, wf_rall, wf_mref, wf_own, wf_agg, wf_rsub, wf_any, wfs_nil, wfh_cons, wfh_nil, wf_hmap, wf_hrow, wf_hbox, true_and] at w
  obtain ⟨rfl, _, _, rfl, ⟨bo, rfl, _⟩, _, _, rfl, ⟨ours, rfl, _⟩, _, _, rfl, ⟨peers, rfl, _⟩, c, _, rfl, hc, rfl⟩ := w
  simp only [phiSpends, lawPhi] at h
  replace h := cond_fail h
  obtain ⟨hb, h⟩ := h
  simp only [bulkOK, decide_eq_true_eq] at hb
  have l1 : ours.length ≤ 1048576 := bulk_list (by simp) hb
  have l2 : peers.length ≤ 1048576 := bulk_list (by simp) hb
  have s1 : small ours = true := by simp [small]; omega
  have s2 : small peers = true := by simp [small]; omega
  have q0 : ours.length + peers.length ≤ 4294967296 := by omega
  have q2 : ours.length ≤ 4294967296 := by omega
  have q1 : (ours.map moreU).length + (peers.map moreU).length ≤ 4294967296 := by simp; omega
  have q3 : (ours.map moreU).length ≤ 4294967296 := by simp; omega
  have f1 : spendX bo ours peers c = spendR bo ours peers c := spend_eq (by omega) (by omega)
  have f2 : spendX bo (ours.map moreU) (peers.map moreU) c = spendR bo (ours.map moreU) (peers.map moreU) c := spend_eq (by simp; omega) (by simp; omega)
  have k1 := lent_ok (l := ours) (by omega)
  have k2 := lent_ok (l := peers) (by omega)
  have z0 : Int.ofNat (Int.toNat 0) = 0 := rfl
  have zl : ∀ n : Nat, (Int.ofNat n).toNat = n := fun _ => rfl
  have zi : ∀ n : Nat, Int.ofNat n = (n : Int) := fun _ => rfl
  have zz : ((0 : Nat) : Int) = 0 := rfl
  simp only [mSpends, xmSpends_0, xmSpends_1, xmSpends_2, xmSpends_3, xmSpends_4, xmSpends_5, dnth_zero, dnth_succ, dnth_one, dnth_two, int_i, bool_b, str_s, list_r, f_r, z0, zl, zi, zz, Int.toNat_zero, Int.toNat_natCast, lent_take, more_splice, f1, f2, open_eq, s1, s2, q0, q1, q2, q3, k1, k2, kept_ok, decide_true, Bool.not_true, Bool.not_false, cond_true, cond_false]
  exact h

end Go.Proofs.Ytkepijaabpkdbaa

/- The contracts of these functions; printed by gen.py. -/
namespace Go.Proofs.Ytkepijaabpkdbaa
open Go Go.Ev
theorem okLend : SpecOK Try.prog 9 sgLend phiLend :=
  spec_of (t := []) (loops := []) typesOK noMeth_ok .nil Try.func9 (by kernel_rfl) (by kernel_rfl) (by kernel_rfl) (by kernel_rfl)
    (loopsOK_list (l := []) (by kernel_rfl) trivial) (fun hs xs r w h => (evLend hs xs).trans (phLend hs xs r w h))
theorem lgSame0 : LoopGood ESame (vlen sgSame.heap) (loopN (bodyOf Try.f12) 0) := LoopGood.of (i := 4) (li := liSame0) (by kernel_rfl) (by kernel_rfl) jSame0
theorem okSame : SpecOK Try.prog 12 sgSame phiSame :=
  spec_of (t := []) (loops := [(4, liSame0)]) typesOK noMeth_ok .nil Try.func12 (by kernel_rfl) (by kernel_rfl) (by kernel_rfl) (by kernel_rfl)
    (loopsOK_list (l := [loopN (bodyOf Try.f12) 0]) (by kernel_rfl) ⟨lgSame0, trivial⟩) (fun hs xs r w h => (evSame hs xs).trans (phSame hs xs r w h))
theorem lgKept0 : LoopGood EKept (vlen sgKept.heap) (loopN (bodyOf Try.f13) 0) := LoopGood.of (i := 2) (li := liKept0) (by kernel_rfl) (by kernel_rfl) jKept0
theorem okKept : SpecOK Try.prog 13 sgKept phiKept :=
  spec_of (t := []) (loops := [(2, liKept0)]) typesOK noMeth_ok .nil Try.func13 (by kernel_rfl) (by kernel_rfl) (by kernel_rfl) (by kernel_rfl)
    (loopsOK_list (l := [loopN (bodyOf Try.f13) 0]) (by kernel_rfl) ⟨lgKept0, trivial⟩) (fun hs xs r w h => (evKept hs xs).trans (phKept hs xs r w h))
theorem lgMore0 : LoopGood EMore (vlen sgMore.heap) (loopN (bodyOf Try.f14) 0) := LoopGood.of (i := 3) (li := liMore0) (by kernel_rfl) (by kernel_rfl) jMore0
theorem okMore : SpecOK Try.prog 14 sgMore phiMore :=
  spec_of (t := []) (loops := [(3, liMore0)]) typesOK noMeth_ok .nil Try.func14 (by kernel_rfl) (by kernel_rfl) (by kernel_rfl) (by kernel_rfl)
    (loopsOK_list (l := [loopN (bodyOf Try.f14) 0]) (by kernel_rfl) ⟨lgMore0, trivial⟩) (fun hs xs r w h => (evMore hs xs).trans (phMore hs xs r w h))
theorem okFirstL : SpecOK Try.prog 8 sgFirstL phiFirstL :=
  spec_of (t := [eFold, eSpend, eOpen, eSame]) (loops := []) typesOK noMeth_ok (.cons okFold (by kernel_rfl) (.cons okSpend (by kernel_rfl) (.cons okOpen (by kernel_rfl) (.cons okSame (by kernel_rfl) .nil)))) Try.func8 (by kernel_rfl) (by kernel_rfl) (by kernel_rfl) (by kernel_rfl)
    (loopsOK_list (l := []) (by kernel_rfl) trivial) (fun hs xs r w h => (evFirstL hs xs).trans (phFirstL hs xs r w h))
theorem lgFolds0 : LoopGood EFolds (vlen sgFolds.heap) (loopN (bodyOf Try.f3) 0) := LoopGood.of (i := 10) (li := liFolds0) (by kernel_rfl) (by kernel_rfl) jFolds0
theorem okFolds : SpecOK Try.prog 3 sgFolds phiFolds :=
  spec_of (t := [eFirstL, eLend, eFold, eRFold, eSame, eKept, eMore]) (loops := [(10, liFolds0)]) typesOK noMeth_ok (.cons okFirstL (by kernel_rfl) (.cons okLend (by kernel_rfl) (.cons okFold (by kernel_rfl) (.cons okRFold (by kernel_rfl) (.cons okSame (by kernel_rfl) (.cons okKept (by kernel_rfl) (.cons okMore (by kernel_rfl) .nil))))))) Try.func3 (by kernel_rfl) (by kernel_rfl) (by kernel_rfl) (by kernel_rfl)
    (loopsOK_list (l := [loopN (bodyOf Try.f3) 0]) (by kernel_rfl) ⟨lgFolds0, trivial⟩) (fun hs xs r w h => (evFolds hs xs).trans (phFolds hs xs r w h))
theorem okSpends : SpecOK Try.prog 4 sgSpends phiSpends :=
  spec_of (t := [eFirstL, eLend, eSpend, eOpen, eRSpend, eROpen, eKept, eMore]) (loops := []) typesOK noMeth_ok (.cons okFirstL (by kernel_rfl) (.cons okLend (by kernel_rfl) (.cons okSpend (by kernel_rfl) (.cons okOpen (by kernel_rfl) (.cons okRSpend (by kernel_rfl) (.cons okROpen (by kernel_rfl) (.cons okKept (by kernel_rfl) (.cons okMore (by kernel_rfl) .nil)))))))) Try.func4 (by kernel_rfl) (by kernel_rfl) (by kernel_rfl) (by kernel_rfl)
    (loopsOK_list (l := []) (by kernel_rfl) trivial) (fun hs xs r w h => (evSpends hs xs).trans (phSpends hs xs r w h))
end Go.Proofs.Ytkepijaabpkdbaa

/- LedgerFolds and LedgerSpends hold: for every input of bulk at most 1048576 each answers true and leaves its arguments as they were.
   CONDITION: the second form of the statements ('..UptoSaid'): what the arguments hold is of bulk at most 1048576. -/
namespace Go.Proofs.Ytkepijaabpkdbaa
open Go Go.Ev Go.ChangeShapes Go.WideShapes Go.ChangeAt Go.RowKit

mutual
theorem bulkW_eq {H : Type} : ∀ d : DataW H, bulkW d ≤ Rows.uptoBulk d
  | .lit l => by cases l <;> simp [bulkW, Rows.uptoBulk]
  | .nil => by simp [bulkW, Rows.uptoBulk]
  | .ptr d => by have := bulkW_eq d; simp only [bulkW, Rows.uptoBulk]; omega
  | .slice a b => by have := bulkWs_eq a; have := bulkWs_eq b; simp only [bulkW, Rows.uptoBulk]; omega
  | .agg a => by have := bulkWs_eq a; simp only [bulkW, Rows.uptoBulk]; omega
  | .iface _ d => by have := bulkW_eq d; simp only [bulkW, Rows.uptoBulk]; omega
  | .map _ => by simp [bulkW, Rows.uptoBulk]
  | .held _ => by simp [bulkW, Rows.uptoBulk]
theorem bulkWs_eq {H : Type} : ∀ l : List (DataW H), bulkWs l ≤ Rows.uptoBulkAll l
  | [] => by simp [bulkWs, Rows.uptoBulkAll]
  | d :: l => by have := bulkW_eq d; have := bulkWs_eq l; simp only [bulkWs, Rows.uptoBulkAll]; omega
end

theorem ownNone : ownKnob Try.prog.godebug = none := by kernel_rfl
theorem kidsOK : Kids Try.prog (· < Try.prog.types.size) := kids_rows (by kernel_rfl) (by kernel_rfl)
theorem slicesOK : ∀ t e, t < Try.prog.types.size → Try.prog.underlying t = some (.slice e) → 0 < Try.prog.cellsOf e := slices_full_of _ (by kernel_rfl)
theorem lawPhi_ok {ins : List Sh} : ∀ vs, wfShs ins vs = true → bulkDs vs ≤ 1048576 → (lawPhi [] vs).val = some ([], [.b true]) := by
  intro vs _ hb
  simp only [lawPhi, bulkOK, hb, decide_true]
  rfl

namespace ledgerFolds
theorem contract (H : Type) (enc : TypeId × Value → H) (W : World) (base : Nat) (args : Array Value) (ds gs : List (DataW H)) (before : List MemPlace)
    (hval : ∀ (j : Nat) t v, Try.f3.params[j]? = some t → args[j]? = some v → Value.okWide Try.prog W .any base t v)
    (hW : DataW.Whole enc Try.prog Try.f3.params.toList Rows.ledgerFoldsSpec.vars false W args.toList ds gs before) (hk : Rows.uptoSmall H (ds ++ gs) = true) :
    Calls Try.prog 3 args W fun e W' => ∃ v, e = .returned v ∧ Rows.ledgerFoldsSpec.post enc Try.prog Try.f3 false true false false W args v W' :=
  law_contract (tys := tysFolds) (most_ := 1048576) okFolds lawPhi_ok
    (by rw [Try.params3]; exact .cons (typesOK.ty _ _ (by kernel_rfl)) (by kernel_rfl) (.cons (typesOK.ty _ _ (by kernel_rfl)) (by kernel_rfl) (.cons (typesOK.ty _ _ (by kernel_rfl)) (by kernel_rfl) (.cons (typesOK.ty _ _ (by kernel_rfl)) (by kernel_rfl) (.cons (typesOK.ty _ _ (by kernel_rfl)) (by kernel_rfl) .nil)))))
    Try.func3 (by kernel_rfl) (by kernel_rfl) kidsOK slicesOK (of_decide_eq_true (by kernel_rfl)) (tb := 4) (by kernel_rfl) Try.underlying4 rfl
    (fun ds hl => by
      rw [Try.params3] at hl
      match ds, hl with
      | [_, _, _, _, _], _ => exact ⟨rfl, rfl, rfl⟩)
    hval hW (Nat.le_trans (bulkWs_eq _) (of_decide_eq_true hk))

set_option maxRecDepth 100000 in
theorem lifted (os : Os) (started : os.Started) (H : Type) (enc : TypeId × Value → H) (F : Stop.Interp) :
    ReturnsInHanded {} Try.checked os 3 .any ((Rows.OpenSpec.upto Rows.ledgerFoldsSpec).pre6 enc Try.prog Try.f3 Rows.ledgerFoldsUptoRow.domain false) (((Rows.OpenSpec.upto Rows.ledgerFoldsSpec).at F).post enc Try.prog Try.f3 false true false false) := by
  refine returnsInHanded_of_cond (C := Try.checked) (s := Rows.OpenSpec.upto Rows.ledgerFoldsSpec) (k := Rows.uptoSmall) rfl ownNone started (by kernel_rfl) Try.func3
    (OpenSpec.witness (enc := enc) (C := Try.checked) (s := Rows.OpenSpec.upto Rows.ledgerFoldsSpec) (k := Rows.uptoSmall) rfl false ⟨#[], #[.int .i64 0, .int .i64 0, .slice none 0 0, .slice none 0 0, .agg #[.int .i64 0, .int .i64 0]], []⟩ 8 (by kernel_rfl) (by kernel_rfl) (by kernel_rfl)
      (x := ([.lit (.int .i64 0), .lit (.int .i64 0), .nil, .nil, .agg [.lit (.int .i64 0), .lit (.int .i64 0)]], [], [])) (by kernel_rfl) rfl (by kernel_rfl)) ?_
  intro W base args ds gs before hval hW _ hk _
  exact contract H enc W base args ds gs before hval hW hk

theorem proved : Rows.LedgerFoldsUptoSaid :=
  OpenClaim.holds_of_cond 3 Try.f3 rfl rfl rfl rfl rfl rfl rfl ⟨rfl, rfl, rfl, rfl, rfl⟩ rfl rfl rfl rfl rfl (by kernel_rfl) Try.func3 (by kernel_rfl)
    (of_decide_eq_true (by kernel_rfl)) (by unfold Func.isWrapper; rw [if_neg (of_decide_eq_false (by kernel_rfl))]; exact ⟨rfl, rfl⟩)
    (fun os started H enc _ F => lifted os started H enc F)
end ledgerFolds

namespace ledgerSpends
theorem contract (H : Type) (enc : TypeId × Value → H) (W : World) (base : Nat) (args : Array Value) (ds gs : List (DataW H)) (before : List MemPlace)
    (hval : ∀ (j : Nat) t v, Try.f4.params[j]? = some t → args[j]? = some v → Value.okWide Try.prog W .any base t v)
    (hW : DataW.Whole enc Try.prog Try.f4.params.toList Rows.ledgerSpendsSpec.vars false W args.toList ds gs before) (hk : Rows.uptoSmall H (ds ++ gs) = true) :
    Calls Try.prog 4 args W fun e W' => ∃ v, e = .returned v ∧ Rows.ledgerSpendsSpec.post enc Try.prog Try.f4 false true false false W args v W' :=
  law_contract (tys := tysSpends) (most_ := 1048576) okSpends lawPhi_ok
    (by rw [Try.params4]; exact .cons (typesOK.ty _ _ (by kernel_rfl)) (by kernel_rfl) (.cons (typesOK.ty _ _ (by kernel_rfl)) (by kernel_rfl) (.cons (typesOK.ty _ _ (by kernel_rfl)) (by kernel_rfl) (.cons (typesOK.ty _ _ (by kernel_rfl)) (by kernel_rfl) .nil))))
    Try.func4 (by kernel_rfl) (by kernel_rfl) kidsOK slicesOK (of_decide_eq_true (by kernel_rfl)) (tb := 4) (by kernel_rfl) Try.underlying4 rfl
    (fun ds hl => by
      rw [Try.params4] at hl
      match ds, hl with
      | [_, _, _, _], _ => exact ⟨rfl, rfl, rfl⟩)
    hval hW (Nat.le_trans (bulkWs_eq _) (of_decide_eq_true hk))

set_option maxRecDepth 100000 in
theorem lifted (os : Os) (started : os.Started) (H : Type) (enc : TypeId × Value → H) (F : Stop.Interp) :
    ReturnsInHanded {} Try.checked os 4 .any ((Rows.OpenSpec.upto Rows.ledgerSpendsSpec).pre6 enc Try.prog Try.f4 Rows.ledgerSpendsUptoRow.domain false) (((Rows.OpenSpec.upto Rows.ledgerSpendsSpec).at F).post enc Try.prog Try.f4 false true false false) := by
  refine returnsInHanded_of_cond (C := Try.checked) (s := Rows.OpenSpec.upto Rows.ledgerSpendsSpec) (k := Rows.uptoSmall) rfl ownNone started (by kernel_rfl) Try.func4
    (OpenSpec.witness (enc := enc) (C := Try.checked) (s := Rows.OpenSpec.upto Rows.ledgerSpendsSpec) (k := Rows.uptoSmall) rfl false ⟨#[], #[.int .i64 0, .slice none 0 0, .slice none 0 0, .agg #[.int .i64 0, .int .i64 0]], []⟩ 8 (by kernel_rfl) (by kernel_rfl) (by kernel_rfl)
      (x := ([.lit (.int .i64 0), .nil, .nil, .agg [.lit (.int .i64 0), .lit (.int .i64 0)]], [], [])) (by kernel_rfl) rfl (by kernel_rfl)) ?_
  intro W base args ds gs before hval hW _ hk _
  exact contract H enc W base args ds gs before hval hW hk

theorem proved : Rows.LedgerSpendsUptoSaid :=
  OpenClaim.holds_of_cond 4 Try.f4 rfl rfl rfl rfl rfl rfl rfl ⟨rfl, rfl, rfl, rfl, rfl⟩ rfl rfl rfl rfl rfl (by kernel_rfl) Try.func4 (by kernel_rfl)
    (of_decide_eq_true (by kernel_rfl)) (by unfold Func.isWrapper; rw [if_neg (of_decide_eq_false (by kernel_rfl))]; exact ⟨rfl, rfl⟩)
    (fun os started H enc _ F => lifted os started H enc F)
end ledgerSpends
end Go.Proofs.Ytkepijaabpkdbaa
