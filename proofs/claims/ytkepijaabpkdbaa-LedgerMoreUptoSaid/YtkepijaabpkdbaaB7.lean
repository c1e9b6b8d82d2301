/- What the evaluator makes of these functions: printed by gen.py out of the model, and proved by the kernel. What the evaluator makes of the makers, of a ledger turned and of a whole ledger is what their definitions say. The contracts of these functions; printed by gen.py. LedgerViews and LedgerMore hold: for every input of bulk at most 1048576 each answers true and leaves its arguments as they were.
   CONDITION: the second form of the statements ('..UptoSaid'): what the arguments hold is of bulk at most 1048576. -/
import Derived.Test.YtkepijaabpkdbaaA6
import Derived.Test.YtkepijaabpkdbaaB0
import Derived.Test.YtkepijaabpkdbaaB6
import Derived.Test.YtkepijaabpkdbaaProg
import Derived.KernelRfl
import Derived.Laws.Bits64
import Derived.Test.YtkepijaabpkdbaaChecked
import Derived.Test.YtkepijaabpkdbaaRows
set_option linter.unusedVariables false
set_option linter.unusedSimpArgs false

/- What the evaluator makes of these functions: printed by gen.py out of the model, and proved by the kernel. -/
namespace Go.Proofs.Ytkepijaabpkdbaa
open Go Go.Ev
set_option maxRecDepth 100000
noncomputable def eBases : Nat × (Sig × Phi) := (19, (sgBases, phiBases))
noncomputable def eMade : Nat × (Sig × Phi) := (20, (sgMade, phiMade))
noncomputable def eCounts : Nat × (Sig × Phi) := (21, (sgCounts, phiCounts))
noncomputable def eTurned : Nat × (Sig × Phi) := (22, (sgTurned, phiTurned))
noncomputable def eWhole : Nat × (Sig × Phi) := (23, (sgWhole, phiWhole))
noncomputable def eViews : Nat × (Sig × Phi) := (5, (sgViews, phiViews))
noncomputable def eOneMore : Nat × (Sig × Phi) := (7, (sgOneMore, phiOneMore))
noncomputable def EBases : Env := mkEnv tyTab [] noMeth Try.f19.ntmps (vlen sgBases.heap) []
noncomputable def EMade : Env := mkEnv tyTab [] noMeth Try.f20.ntmps (vlen sgMade.heap) [(3, liMade0)]
noncomputable def ECounts : Env := mkEnv tyTab [] noMeth Try.f21.ntmps (vlen sgCounts.heap) []
noncomputable def ETurned : Env := mkEnv tyTab [] noMeth Try.f22.ntmps (vlen sgTurned.heap) [(3, liTurned0), (6, liTurned1)]
noncomputable def EWhole : Env := mkEnv tyTab [] noMeth Try.f23.ntmps (vlen sgWhole.heap) [(5, liWhole0)]
noncomputable def EViews : Env := mkEnv tyTab [eFirstL, eBases, eMade, eCounts, eFold, eTurned, eSame, eWhole] noMeth Try.f5.ntmps (vlen sgViews.heap) []
noncomputable def EOneMore : Env := mkEnv tyTab [eFirstL, eBases, eMade, eCounts, eFold, eSame, eWhole] noMeth Try.f7.ntmps (vlen sgOneMore.heap) [(11, liOneMore0), (25, liOneMore1)]

noncomputable def mBases (hs xs : List D) : Option (List D × List D) :=
  (Option.some ([], [(D.i (iand Go.IntKind.i64 (D.int (dnth xs 0)) (576460752303423487 : Int))), (D.i (iand Go.IntKind.i64 (D.int (dnth xs 1)) (576460752303423487 : Int)))]))
theorem evBases (hs xs : List D) : evF (EBases) Try.f19 sgBases hs xs = mBases hs xs := by kernel_rfl

noncomputable def mMade (hs xs : List D) : Option (List D × List D) :=
  bif (decide ((0 + (List.length (rest (D.r (D.list (dnth xs 0))) (D.i (0 : Int))))) ≤ 4294967296)) then
    (Option.some ([], [(D.r ([] ++ (List.map madeU (rest (D.r (D.list (dnth xs 0))) (D.i (0 : Int))))))]))
  else (Option.none)
theorem evMade (hs xs : List D) : evF (EMade) Try.f20 sgMade hs xs = mMade hs xs := by kernel_rfl

noncomputable def xstMade0_0 (xs : List D) : Bool :=
  ((decide ((0 : Int) ≤ (D.int (dnth xs 2)))) && (decide ((D.int (dnth xs 2)) < (Int.ofNat (List.length (D.list (dnth xs 0)))))))
noncomputable def xstMade0_1 (xs : List D) : Int :=
  (iand Go.IntKind.i64 (D.int (D.f (dnth (D.list (dnth xs 0)) (Int.toNat (D.int (dnth xs 2)))) 0)) (3 : Int))
noncomputable def xstMade0_2 (xs : List D) : D :=
  (D.r [(D.i (1 : Int)), (D.i (iand Go.IntKind.i64 (D.int (D.f (dnth (D.list (dnth xs 0)) (Int.toNat (D.int (dnth xs 2)))) 1)) (2047 : Int))), (D.i (0 : Int)), (D.r (List.replicate 32 (D.i (0 : Int)))), (D.s [])])
noncomputable def xstMade0_3 (xs : List D) : List D :=
  ((D.list (dnth xs 1)) ++ [(dset (dset (xstMade0_2 xs) [0] (D.i (2 : Int))) [3] (D.f (dnth (D.list (dnth xs 0)) (Int.toNat (D.int (dnth xs 2)))) 3))])
noncomputable def xstMade0_4 (xs : List D) : List D :=
  ((D.list (dnth xs 1)) ++ [(dset (xstMade0_2 xs) [0] (D.i (3 : Int)))])
noncomputable def xstMade0_5 (xs : List D) : List D :=
  ((D.list (dnth xs 1)) ++ [(dset (dset (xstMade0_2 xs) [2] (D.i (IntKind.wrap Go.IntKind.i64 ((1 : Int) + (iand Go.IntKind.i64 (D.int (D.f (dnth (D.list (dnth xs 0)) (Int.toNat (D.int (dnth xs 2)))) 2)) (1152921504606846975 : Int)))))) [3] (D.f (dnth (D.list (dnth xs 0)) (Int.toNat (D.int (dnth xs 2)))) 3))])
noncomputable def stMade0 (go : List D → List D → Option (Ex × List D × List D)) (hs xs : List D) : Option (Ex × List D × List D) :=
  bif (decide ((D.int (dnth xs 2)) < (Int.ofNat (List.length (D.list (dnth xs 0)))))) then
    bif (xstMade0_0 xs) then
      bif (xstMade0_0 xs) then
        bif (decide ((xstMade0_1 xs) = (2 : Int))) then
          bif (xstMade0_0 xs) then
            bif (decide ((List.length (xstMade0_3 xs)) ≤ 4294967296)) then
              (go [] [(D.r (D.list (dnth xs 0))), (D.r (xstMade0_3 xs)), (D.i (IntKind.wrap Go.IntKind.i64 ((D.int (dnth xs 2)) + (1 : Int))))])
            else (Option.none)
          else (Option.none)
        else bif (decide ((xstMade0_1 xs) = (3 : Int))) then
          bif (decide ((List.length (xstMade0_4 xs)) ≤ 4294967296)) then
            (go [] [(D.r (D.list (dnth xs 0))), (D.r (xstMade0_4 xs)), (D.i (IntKind.wrap Go.IntKind.i64 ((D.int (dnth xs 2)) + (1 : Int))))])
          else (Option.none)
        else bif (xstMade0_0 xs) then
          bif (xstMade0_0 xs) then
            bif (decide ((List.length (xstMade0_5 xs)) ≤ 4294967296)) then
              (go [] [(D.r (D.list (dnth xs 0))), (D.r (xstMade0_5 xs)), (D.i (IntKind.wrap Go.IntKind.i64 ((D.int (dnth xs 2)) + (1 : Int))))])
            else (Option.none)
          else (Option.none)
        else (Option.none)
      else (Option.none)
    else (Option.none)
  else (Option.some ((Ex.exit 0), ([], [(D.r (D.list (dnth xs 1)))])))
theorem evstMade0 (go : List D → List D → Option (Ex × List D × List D)) (hs xs : List D) : stepOf (EMade) (vlen sgMade.heap) (loopN (bodyOf Try.f20) 0) liMade0 go hs xs = stMade0 go hs xs := by kernel_rfl

noncomputable def mCounts (hs xs : List D) : Option (List D × List D) :=
  bif (decide ((IntKind.wrap Go.IntKind.u64 (IntKind.wrap Go.IntKind.i64 ((D.int (dnth xs 1)) + (1 : Int)))) = (0 : Int))) then
    (Option.none)
  else bif (decide ((IntKind.wrap Go.IntKind.u64 (IntKind.wrap Go.IntKind.i64 ((D.int (dnth xs 2)) + (1 : Int)))) = (0 : Int))) then
    (Option.none)
  else (Option.some ([], [(D.r [(D.i (IntKind.wrap Go.IntKind.i64 (Int.tmod (IntKind.wrap Go.IntKind.u64 (D.int (D.f (dnth xs 0) 0))) (IntKind.wrap Go.IntKind.u64 (IntKind.wrap Go.IntKind.i64 ((D.int (dnth xs 1)) + (1 : Int))))))), (D.i (IntKind.wrap Go.IntKind.i64 (Int.tmod (IntKind.wrap Go.IntKind.u64 (D.int (D.f (dnth xs 0) 1))) (IntKind.wrap Go.IntKind.u64 (IntKind.wrap Go.IntKind.i64 ((D.int (dnth xs 2)) + (1 : Int)))))))])]))
theorem evCounts (hs xs : List D) : evF (ECounts) Try.f21 sgCounts hs xs = mCounts hs xs := by kernel_rfl

noncomputable def mTurned (hs xs : List D) : Option (List D × List D) :=
  bif (decide ((0 + ((2 - (Int.toNat (0 : Int))) * (List.length (D.list (D.f (dnth xs 0) 2))))) ≤ 4294967296)) then
    (Option.some ([], [(D.r [(D.i (D.int (D.f (dnth xs 0) 1))), (D.i (D.int (D.f (dnth xs 0) 0))), (D.r ([] ++ (bif Bool.true then ((turnF (0 : Int) (D.list (D.f (dnth xs 0) 2))) ++ (turnF (1 : Int) (D.list (D.f (dnth xs 0) 2)))) else (bif Bool.false then (turnF (1 : Int) (D.list (D.f (dnth xs 0) 2))) else []))))])]))
  else (Option.none)
theorem evTurned (hs xs : List D) : evF (ETurned) Try.f22 sgTurned hs xs = mTurned hs xs := by kernel_rfl

noncomputable def stTurned0 (go : List D → List D → Option (Ex × List D × List D)) (hs xs : List D) : Option (Ex × List D × List D) :=
  bif (decide ((D.int (dnth xs 3)) < (2 : Int))) then
    bif (decide (((List.length (D.list (D.f (dnth hs 2) 2))) + (List.length (List.drop (Int.toNat (0 : Int)) (D.list (D.f (dnth hs 0) 2))))) ≤ 4294967296)) then
      (go [(dnth hs 0), (dnth hs 1), (D.r [(D.i (D.int (D.f (dnth hs 2) 0))), (D.i (D.int (D.f (dnth hs 2) 1))), (D.r ((D.list (D.f (dnth hs 2) 2)) ++ (turnF (D.int (dnth xs 3)) (List.drop (Int.toNat (0 : Int)) (D.list (D.f (dnth hs 0) 2))))))])] [(D.r []), (D.r []), (D.r []), (D.i (IntKind.wrap Go.IntKind.i64 ((D.int (dnth xs 3)) + (1 : Int))))])
    else (Option.none)
  else (Option.some ((Ex.exit 0), ([(dnth hs 1), (D.r [(D.i (D.int (D.f (dnth hs 2) 0))), (D.i (D.int (D.f (dnth hs 2) 1))), (D.r (D.list (D.f (dnth hs 2) 2)))])], [(D.r []), (D.r [])])))
theorem evstTurned0 (go : List D → List D → Option (Ex × List D × List D)) (hs xs : List D) : stepOf (ETurned) (vlen sgTurned.heap) (loopN (bodyOf Try.f22) 0) liTurned0 go hs xs = stTurned0 go hs xs := by kernel_rfl

noncomputable def xstTurned1_0 (hs : List D) (xs : List D) : Bool :=
  (decide ((D.int (dnth xs 4)) < (Int.ofNat (List.length (D.list (D.f (dnth hs 0) 2))))))
noncomputable def xstTurned1_1 (hs : List D) (xs : List D) : Bool :=
  (D.bool (D.f (dnth (D.list (D.f (dnth hs 0) 2)) (Int.toNat (D.int (dnth xs 4)))) 0))
noncomputable def xstTurned1_2 (hs : List D) (xs : List D) : List D :=
  ((D.list (D.f (dnth hs 2) 2)) ++ [(dset (dnth (D.list (D.f (dnth hs 0) 2)) (Int.toNat (D.int (dnth xs 4)))) [0] (D.b (!(xstTurned1_1 hs xs))))])
noncomputable def xstTurned1_3 (xs : List D) : List D :=
  [(D.r []), (D.r []), (D.r []), (D.i (D.int (dnth xs 3))), (D.i (IntKind.wrap Go.IntKind.i64 ((D.int (dnth xs 4)) + (1 : Int))))]
noncomputable def xstTurned1_4 (hs : List D) : List D :=
  [(dnth hs 0), (dnth hs 1), (D.r [(D.i (D.int (D.f (dnth hs 2) 0))), (D.i (D.int (D.f (dnth hs 2) 1))), (D.r (D.list (D.f (dnth hs 2) 2)))])]
noncomputable def stTurned1 (go : List D → List D → Option (Ex × List D × List D)) (hs xs : List D) : Option (Ex × List D × List D) :=
  bif (xstTurned1_0 hs xs) then
    bif ((decide ((0 : Int) ≤ (D.int (dnth xs 4)))) && (xstTurned1_0 hs xs)) then
      bif (BEq.beq (xstTurned1_1 hs xs) (decide ((D.int (dnth xs 3)) = (1 : Int)))) then
        bif (decide ((List.length (xstTurned1_2 hs xs)) ≤ 4294967296)) then
          (go [(dnth hs 0), (dnth hs 1), (D.r [(D.i (D.int (D.f (dnth hs 2) 0))), (D.i (D.int (D.f (dnth hs 2) 1))), (D.r (xstTurned1_2 hs xs))])] (xstTurned1_3 xs))
        else (Option.none)
      else (go (xstTurned1_4 hs) (xstTurned1_3 xs))
    else (Option.none)
  else (Option.some ((Ex.exit 2), ((xstTurned1_4 hs), [(D.r []), (D.r []), (D.r []), (D.i (D.int (dnth xs 3)))])))
theorem evstTurned1 (go : List D → List D → Option (Ex × List D × List D)) (hs xs : List D) : stepOf (ETurned) (vlen sgTurned.heap) (loopN (bodyOf Try.f22) 1) liTurned1 go hs xs = stTurned1 go hs xs := by kernel_rfl

noncomputable def xmWhole_0 (xs : List D) : Int × Bool :=
  (wholeG (prevOf (D.list (D.f (dnth xs 0) 2)) (0 : Int)) Bool.false (IntKind.wrap Go.IntKind.i64 ((IntKind.wrap Go.IntKind.i64 ((D.int (dnth xs 1)) - (D.int (D.f (dnth xs 0) 0)))) - (D.int (D.f (dnth xs 0) 1)))) (List.drop (Int.toNat (0 : Int)) (D.list (D.f (dnth xs 0) 2))))
noncomputable def mWhole (hs xs : List D) : Option (List D × List D) :=
  bif (!(decide ((D.int (D.f (dnth xs 0) 0)) < (0 : Int)))) then
    bif (!(decide ((D.int (D.f (dnth xs 0) 1)) < (0 : Int)))) then
      bif (!(decide ((D.int (dnth xs 1)) < (D.int (D.f (dnth xs 0) 0))))) then
        bif (decide ((IntKind.wrap Go.IntKind.i64 ((D.int (dnth xs 1)) - (D.int (D.f (dnth xs 0) 0)))) < (D.int (D.f (dnth xs 0) 1)))) then
          (Option.some ([], [(D.b Bool.false)]))
        else bif ((xmWhole_0 xs)).2 then
          (Option.some ([], [(D.b (decide (((xmWhole_0 xs)).1 = (0 : Int))))]))
        else (Option.some ([], [(D.b Bool.false)]))
      else (Option.some ([], [(D.b Bool.false)]))
    else (Option.some ([], [(D.b Bool.false)]))
  else (Option.some ([], [(D.b Bool.false)]))
theorem evWhole (hs xs : List D) : evF (EWhole) Try.f23 sgWhole hs xs = mWhole hs xs := by kernel_rfl

noncomputable def xstWhole0_0 (hs : List D) (xs : List D) : Bool :=
  (decide ((D.int (dnth xs 2)) < (Int.ofNat (List.length (D.list (D.f (dnth hs 0) 2))))))
noncomputable def xstWhole0_1 (hs : List D) (xs : List D) : Int :=
  (D.int (D.f (dnth (D.list (D.f (dnth hs 0) 2)) (Int.toNat (D.int (dnth xs 2)))) 2))
noncomputable def xstWhole0_2 (hs : List D) (xs : List D) : Bool :=
  (D.bool (D.f (dnth (D.list (D.f (dnth hs 0) 2)) (Int.toNat (D.int (dnth xs 2)))) 0))
noncomputable def xstWhole0_3 (hs : List D) (xs : List D) : Bool :=
  ((decide ((0 : Int) ≤ (IntKind.wrap Go.IntKind.i64 ((D.int (dnth xs 2)) - (1 : Int))))) && (decide ((IntKind.wrap Go.IntKind.i64 ((D.int (dnth xs 2)) - (1 : Int))) < (Int.ofNat (List.length (D.list (D.f (dnth hs 0) 2)))))))
noncomputable def xstWhole0_4 (hs : List D) (xs : List D) : D :=
  (dnth (D.list (D.f (dnth hs 0) 2)) (Int.toNat (IntKind.wrap Go.IntKind.i64 ((D.int (dnth xs 2)) - (1 : Int)))))
noncomputable def xstWhole0_5 (hs : List D) (xs : List D) : Bool :=
  (D.bool (D.f (xstWhole0_4 hs xs) 0))
noncomputable def xstWhole0_6 (go : List D → List D → Option (Ex × List D × List D)) (hs : List D) (xs : List D) : Option (Ex × List D × List D) :=
  (go [(dnth hs 0)] [(D.r []), (D.i (IntKind.wrap Go.IntKind.i64 ((D.int (dnth xs 1)) - (xstWhole0_1 hs xs)))), (D.i (IntKind.wrap Go.IntKind.i64 ((D.int (dnth xs 2)) + (1 : Int))))])
noncomputable def xstWhole0_7 (go : List D → List D → Option (Ex × List D × List D)) (hs : List D) (xs : List D) : Option (Ex × List D × List D) :=
  bif (xstWhole0_3 hs xs) then
    bif (BEq.beq (xstWhole0_2 hs xs) (xstWhole0_5 hs xs)) then
      bif (xstWhole0_3 hs xs) then
        bif (decide ((D.int (D.f (dnth (D.list (D.f (dnth hs 0) 2)) (Int.toNat (D.int (dnth xs 2)))) 1)) < (D.int (D.f (xstWhole0_4 hs xs) 1)))) then
          (Option.some (Ex.ret, ([], [(D.b Bool.false)])))
        else (xstWhole0_6 go hs xs)
      else (Option.none)
    else (xstWhole0_6 go hs xs)
  else (Option.none)
noncomputable def stWhole0 (go : List D → List D → Option (Ex × List D × List D)) (hs xs : List D) : Option (Ex × List D × List D) :=
  bif (xstWhole0_0 hs xs) then
    bif ((decide ((0 : Int) ≤ (D.int (dnth xs 2)))) && (xstWhole0_0 hs xs)) then
      bif (!(decide ((xstWhole0_1 hs xs) < (1 : Int)))) then
        bif (!(decide ((D.int (dnth xs 1)) < (xstWhole0_1 hs xs)))) then
          bif (decide ((0 : Int) < (D.int (dnth xs 2)))) then
            bif (xstWhole0_2 hs xs) then
              bif (xstWhole0_3 hs xs) then
                bif (!(!(xstWhole0_5 hs xs))) then
                  (xstWhole0_7 go hs xs)
                else (Option.some (Ex.ret, ([], [(D.b Bool.false)])))
              else (Option.none)
            else (xstWhole0_7 go hs xs)
          else (xstWhole0_6 go hs xs)
        else (Option.some (Ex.ret, ([], [(D.b Bool.false)])))
      else (Option.some (Ex.ret, ([], [(D.b Bool.false)])))
    else (Option.none)
  else (Option.some ((Ex.exit 0), ([], [(D.i (D.int (dnth xs 1)))])))
theorem evstWhole0 (go : List D → List D → Option (Ex × List D × List D)) (hs xs : List D) : stepOf (EWhole) (vlen sgWhole.heap) (loopN (bodyOf Try.f23) 0) liWhole0 go hs xs = stWhole0 go hs xs := by kernel_rfl

noncomputable def xmViews_0 (xs : List D) : D :=
  (D.i (countOf (D.int (D.f (dnth xs 4) 0)) (Int.ofNat (List.length (List.map madeU (D.list (dnth xs 2)))))))
noncomputable def xmViews_1 (xs : List D) : D :=
  (D.i (countOf (D.int (D.f (dnth xs 4) 1)) (Int.ofNat (List.length (List.map madeU (D.list (dnth xs 3)))))))
noncomputable def xmViews_2 (xs : List D) : Int × D :=
  (foldX (baseOf (D.int (dnth xs 0))) (baseOf (D.int (dnth xs 1))) (List.map madeU (D.list (dnth xs 2))) (List.map madeU (D.list (dnth xs 3))) (D.r [(xmViews_0 xs), (xmViews_1 xs)]))
noncomputable def xmViews_3 (xs : List D) : Int :=
  ((xmViews_2 xs)).1
noncomputable def xmViews_4 (xs : List D) : Int × D :=
  (foldX (baseOf (D.int (dnth xs 1))) (baseOf (D.int (dnth xs 0))) (List.map madeU (D.list (dnth xs 3))) (List.map madeU (D.list (dnth xs 2))) (D.r [(xmViews_1 xs), (xmViews_0 xs)]))
noncomputable def xmViews_5 (xs : List D) : D :=
  ((xmViews_2 xs)).2
noncomputable def xmViews_6 (xs : List D) : List D :=
  (D.list (D.f (xmViews_5 xs) 2))
noncomputable def xmViews_7 (xs : List D) : D :=
  (D.i (D.int (D.f (xmViews_5 xs) 1)))
noncomputable def xmViews_8 (xs : List D) : D :=
  (D.i (D.int (D.f (xmViews_5 xs) 0)))
noncomputable def xmViews_9 (xs : List D) : D :=
  ((xmViews_4 xs)).2
noncomputable def xmViews_10 (xs : List D) : D :=
  (D.r [(xmViews_8 xs), (xmViews_7 xs), (D.r (xmViews_6 xs))])
noncomputable def mViews (hs xs : List D) : Option (List D × List D) :=
  bif (decide ((List.length (D.list (dnth xs 2))) ≤ 4294967296)) then
    bif (decide ((List.length (D.list (dnth xs 3))) ≤ 4294967296)) then
      bif (((decide ((Int.ofNat (List.length (List.map madeU (D.list (dnth xs 2))))) ≤ (4294967296 : Int))) && Bool.true) && (decide ((Int.ofNat (List.length (List.map madeU (D.list (dnth xs 3))))) ≤ (4294967296 : Int)))) then
        bif (decide (((List.length (List.map madeU (D.list (dnth xs 2)))) + (List.length (List.map madeU (D.list (dnth xs 3))))) ≤ 4294967296)) then
          bif (decide (((List.length (List.map madeU (D.list (dnth xs 3)))) + (List.length (List.map madeU (D.list (dnth xs 2))))) ≤ 4294967296)) then
            bif (!(!(decide ((xmViews_3 xs) = ((xmViews_4 xs)).1)))) then
              bif (decide ((List.length (xmViews_6 xs)) ≤ 2147483648)) then
                bif (!(D.beq (D.r [(xmViews_7 xs), (xmViews_8 xs), (D.r ((turnF (0 : Int) (xmViews_6 xs)) ++ (turnF (1 : Int) (xmViews_6 xs))))]) (D.r [(D.i (D.int (D.f (xmViews_9 xs) 0))), (D.i (D.int (D.f (xmViews_9 xs) 1))), (D.r (D.list (D.f (xmViews_9 xs) 2)))]))) then
                  (Option.some ([], [(D.b Bool.false)]))
                else bif (!(decide ((xmViews_3 xs) = (0 : Int)))) then
                  bif (decide ((xmViews_3 xs) = (130 : Int))) then
                    (Option.some ([], [(D.b (D.beq (xmViews_10 xs) (D.r [(D.i (0 : Int)), (D.i (0 : Int)), (D.r [])])))]))
                  else (Option.some ([], [(D.b Bool.false)]))
                else (Option.some ([], [(D.b (wholeB (xmViews_10 xs) (IntKind.wrap Go.IntKind.i64 ((baseOf (D.int (dnth xs 0))) + (baseOf (D.int (dnth xs 1)))))))]))
              else (Option.none)
            else (Option.some ([], [(D.b Bool.false)]))
          else (Option.none)
        else (Option.none)
      else (Option.none)
    else (Option.none)
  else (Option.none)
theorem evViews (hs xs : List D) : evF (EViews) Try.f5 sgViews hs xs = mViews hs xs := by kernel_rfl

noncomputable def xmOneMore_0 (xs : List D) : Int :=
  (countOf (D.int (D.f (dnth xs 4) 0)) (Int.ofNat (List.length (List.map madeU (D.list (dnth xs 2))))))
noncomputable def xmOneMore_1 (xs : List D) : Int :=
  (countOf (D.int (D.f (dnth xs 4) 1)) (Int.ofNat (List.length (List.map madeU (D.list (dnth xs 3))))))
noncomputable def xmOneMore_2 (xs : List D) : List D :=
  [(D.i (xmOneMore_1 xs))]
noncomputable def xmOneMore_3 (xs : List D) : Int × D :=
  (foldX (baseOf (D.int (dnth xs 0))) (baseOf (D.int (dnth xs 1))) (List.map madeU (D.list (dnth xs 2))) (List.map madeU (D.list (dnth xs 3))) (D.r [(D.i (xmOneMore_0 xs)), (D.i (xmOneMore_1 xs))]))
noncomputable def xmOneMore_4 (xs : List D) : Int :=
  ((xmOneMore_3 xs)).1
noncomputable def xmOneMore_5 (xs : List D) : Int :=
  (newId (0 : Int) (List.drop (Int.toNat (0 : Int)) (firstN (List.map madeU (D.list (dnth xs 3))) (xmOneMore_1 xs))))
noncomputable def xmOneMore_6 (xs : List D) : List D :=
  ([] ++ (List.drop 0 (List.take (Int.toNat (xmOneMore_0 xs)) (List.map madeU (D.list (dnth xs 2))))))
noncomputable def xmOneMore_7 (xs : List D) : List D :=
  ((xmOneMore_6 xs) ++ [(D.r [(D.i (1 : Int)), (D.i (xmOneMore_5 xs)), (D.i (IntKind.wrap Go.IntKind.i64 ((1 : Int) + (iand Go.IntKind.i64 (D.int (dnth xs 5)) (1152921504606846975 : Int))))), (D.r (List.replicate 32 (D.i (0 : Int)))), (D.s [])])])
noncomputable def xmOneMore_8 (xs : List D) : Nat :=
  (List.length (xmOneMore_7 xs))
noncomputable def xmOneMore_9 (xs : List D) : D :=
  ((xmOneMore_3 xs)).2
noncomputable def xmOneMore_10 (xs : List D) : Int :=
  (D.int (D.f (xmOneMore_9 xs) 0))
noncomputable def xmOneMore_11 (xs : List D) : Int × D :=
  (foldX (baseOf (D.int (dnth xs 0))) (baseOf (D.int (dnth xs 1))) (xmOneMore_7 xs) (List.map madeU (D.list (dnth xs 3))) (D.r [(D.i (IntKind.wrap Go.IntKind.i64 ((xmOneMore_0 xs) + (1 : Int)))), (D.i (xmOneMore_1 xs))]))
noncomputable def xmOneMore_12 (xs : List D) : Int :=
  ((xmOneMore_11 xs)).1
noncomputable def xmOneMore_13 (xs : List D) : D :=
  ((xmOneMore_11 xs)).2
noncomputable def xmOneMore_14 (xs : List D) : Int :=
  (D.int (D.f (xmOneMore_13 xs) 0))
noncomputable def xmOneMore_15 (xs : List D) : Int :=
  (D.int (D.f (xmOneMore_13 xs) 1))
noncomputable def xmOneMore_16 (xs : List D) : List D :=
  (D.list (D.f (xmOneMore_13 xs) 2))
noncomputable def xmOneMore_17 (xs : List D) : D :=
  (D.r [(D.i (xmOneMore_14 xs)), (D.i (xmOneMore_15 xs)), (D.r (xmOneMore_16 xs))])
noncomputable def mOneMore (hs xs : List D) : Option (List D × List D) :=
  bif (decide ((List.length (D.list (dnth xs 2))) ≤ 4294967296)) then
    bif (decide ((List.length (D.list (dnth xs 3))) ≤ 4294967296)) then
      bif (((decide ((Int.ofNat (List.length (List.map madeU (D.list (dnth xs 2))))) ≤ (4294967296 : Int))) && Bool.true) && (decide ((Int.ofNat (List.length (List.map madeU (D.list (dnth xs 3))))) ≤ (4294967296 : Int)))) then
        bif (decide (((List.length (List.map madeU (D.list (dnth xs 2)))) + (List.length (List.map madeU (D.list (dnth xs 3))))) ≤ 4294967296)) then
          bif (!(decide ((xmOneMore_4 xs) = (0 : Int)))) then
            (Option.some ([], [(D.b (decide ((xmOneMore_4 xs) = (130 : Int))))]))
          else bif (decide ((xmOneMore_1 xs) ≤ (Int.ofNat (List.length (List.map madeU (D.list (dnth xs 3))))))) then
            bif (decide ((2047 : Int) < (xmOneMore_5 xs))) then
              (Option.some ([], [(D.b Bool.true)]))
            else bif ((decide ((0 : Int) ≤ (xmOneMore_0 xs))) && (decide ((xmOneMore_0 xs) ≤ (Int.ofNat (List.length (List.map madeU (D.list (dnth xs 2)))))))) then
              bif (decide ((List.length (xmOneMore_6 xs)) ≤ 4294967296)) then
                bif (decide ((xmOneMore_8 xs) ≤ 4294967296)) then
                  bif (decide (((xmOneMore_8 xs) + (List.length (List.map madeU (D.list (dnth xs 3))))) ≤ 4294967296)) then
                    bif (decide ((xmOneMore_10 xs) < (IntKind.wrap Go.IntKind.i64 ((1 : Int) + (iand Go.IntKind.i64 (D.int (dnth xs 5)) (1152921504606846975 : Int)))))) then
                      bif (decide ((xmOneMore_12 xs) = (130 : Int))) then
                        (Option.some ([], [(D.b (D.beq (xmOneMore_17 xs) (D.r [(D.i (0 : Int)), (D.i (0 : Int)), (D.r [])])))]))
                      else (Option.some ([], [(D.b Bool.false)]))
                    else bif (!(!(decide ((xmOneMore_12 xs) = (0 : Int))))) then
                      bif (!(!(decide ((xmOneMore_14 xs) = (IntKind.wrap Go.IntKind.i64 ((xmOneMore_10 xs) - (IntKind.wrap Go.IntKind.i64 ((1 : Int) + (iand Go.IntKind.i64 (D.int (dnth xs 5)) (1152921504606846975 : Int)))))))))) then
                        bif (!(!(decide ((xmOneMore_15 xs) = (D.int (D.f (xmOneMore_9 xs) 1)))))) then
                          bif (!(decide ((Int.ofNat (List.length (xmOneMore_16 xs))) = (IntKind.wrap Go.IntKind.i64 ((Int.ofNat (List.length (D.list (D.f (xmOneMore_9 xs) 2)))) + (1 : Int)))))) then
                            (Option.some ([], [(D.b Bool.false)]))
                          else bif (List.any (List.drop (Int.toNat (0 : Int)) (xmOneMore_16 xs)) (fun p => (D.beq p (newP (xmOneMore_5 xs) (D.r [(D.i (1 : Int)), (D.i (xmOneMore_5 xs)), (D.i (IntKind.wrap Go.IntKind.i64 ((1 : Int) + (iand Go.IntKind.i64 (D.int (dnth xs 5)) (1152921504606846975 : Int))))), (D.r (List.replicate 32 (D.i (0 : Int)))), (D.s [])]))))) then
                            (Option.some ([], [(D.b (wholeB (xmOneMore_17 xs) (IntKind.wrap Go.IntKind.i64 ((baseOf (D.int (dnth xs 0))) + (baseOf (D.int (dnth xs 1)))))))]))
                          else (Option.some ([], [(D.b Bool.false)]))
                        else (Option.some ([], [(D.b Bool.false)]))
                      else (Option.some ([], [(D.b Bool.false)]))
                    else (Option.some ([], [(D.b Bool.false)]))
                  else (Option.none)
                else (Option.none)
              else (Option.none)
            else (Option.none)
          else (Option.none)
        else (Option.none)
      else (Option.none)
    else (Option.none)
  else (Option.none)
theorem evOneMore (hs xs : List D) : evF (EOneMore) Try.f7 sgOneMore hs xs = mOneMore hs xs := by kernel_rfl

noncomputable def xstOneMore0_0 (xs : List D) : Bool :=
  ((decide ((0 : Int) ≤ (D.int (dnth xs 8)))) && (decide ((D.int (dnth xs 8)) < (Int.ofNat (List.length (D.list (dnth xs 5)))))))
noncomputable def xstOneMore0_1 (go : List D → List D → Option (Ex × List D × List D)) (hs : List D) (xs : List D) : Option (Ex × List D × List D) :=
  (go [(dnth hs 0), (dnth hs 1)] [(D.i (D.int (dnth xs 0))), (D.i (D.int (dnth xs 1))), (D.i (D.int (dnth xs 2))), (D.r []), (D.r (D.list (dnth xs 4))), (D.r (D.list (dnth xs 5))), (D.r []), (D.i (D.int (dnth xs 7))), (D.i (IntKind.wrap Go.IntKind.i64 ((D.int (dnth xs 8)) + (1 : Int))))])
noncomputable def stOneMore0 (go : List D → List D → Option (Ex × List D × List D)) (hs xs : List D) : Option (Ex × List D × List D) :=
  bif (decide ((D.int (dnth xs 8)) < (D.int (D.f (dnth hs 0) 1)))) then
    bif (xstOneMore0_0 xs) then
      bif (!(decide ((D.int (D.f (dnth (D.list (dnth xs 5)) (Int.toNat (D.int (dnth xs 8)))) 0)) = (1 : Int)))) then
        bif (xstOneMore0_0 xs) then
          bif (decide ((D.int (dnth xs 7)) ≤ (D.int (D.f (dnth (D.list (dnth xs 5)) (Int.toNat (D.int (dnth xs 8)))) 1)))) then
            bif (xstOneMore0_0 xs) then
              (go [(dnth hs 0), (dnth hs 1)] [(D.i (D.int (dnth xs 0))), (D.i (D.int (dnth xs 1))), (D.i (D.int (dnth xs 2))), (D.r []), (D.r (D.list (dnth xs 4))), (D.r (D.list (dnth xs 5))), (D.r []), (D.i (IntKind.wrap Go.IntKind.i64 ((D.int (D.f (dnth (D.list (dnth xs 5)) (Int.toNat (D.int (dnth xs 8)))) 1)) + (1 : Int)))), (D.i (IntKind.wrap Go.IntKind.i64 ((D.int (dnth xs 8)) + (1 : Int))))])
            else (Option.none)
          else (xstOneMore0_1 go hs xs)
        else (Option.none)
      else (xstOneMore0_1 go hs xs)
    else (Option.none)
  else (Option.some ((Ex.exit 0), ([(dnth hs 0), (dnth hs 1)], [(D.i (D.int (dnth xs 0))), (D.i (D.int (dnth xs 1))), (D.i (D.int (dnth xs 2))), (D.r []), (D.r (D.list (dnth xs 4))), (D.r (D.list (dnth xs 5))), (D.r []), (D.i (D.int (dnth xs 7)))])))
theorem evstOneMore0 (go : List D → List D → Option (Ex × List D × List D)) (hs xs : List D) : stepOf (EOneMore) (vlen sgOneMore.heap) (loopN (bodyOf Try.f7) 0) liOneMore0 go hs xs = stOneMore0 go hs xs := by kernel_rfl

noncomputable def xstOneMore1_0 (hs : List D) (xs : List D) : Bool :=
  (decide ((D.int (dnth xs 5)) < (Int.ofNat (List.length (D.list (D.f (dnth hs 1) 2))))))
noncomputable def stOneMore1 (go : List D → List D → Option (Ex × List D × List D)) (hs xs : List D) : Option (Ex × List D × List D) :=
  bif (xstOneMore1_0 hs xs) then
    bif ((decide ((0 : Int) ≤ (D.int (dnth xs 5)))) && (xstOneMore1_0 hs xs)) then
      bif (D.beq (dnth (D.list (D.f (dnth hs 1) 2)) (Int.toNat (D.int (dnth xs 5)))) (D.r [(D.b Bool.true), (D.i (D.int (dnth xs 2))), (D.i (D.int (D.f (dnth hs 0) 2))), (D.r (List.replicate 32 (D.i (0 : Int))))])) then
        (Option.some (Ex.ret, ([], [(D.b (wholeB (dnth hs 1) (IntKind.wrap Go.IntKind.i64 ((D.int (dnth xs 0)) + (D.int (dnth xs 1))))))])))
      else (go [(dnth hs 0), (dnth hs 1)] [(D.i (D.int (dnth xs 0))), (D.i (D.int (dnth xs 1))), (D.i (D.int (dnth xs 2))), (D.r []), (D.r []), (D.i (IntKind.wrap Go.IntKind.i64 ((D.int (dnth xs 5)) + (1 : Int))))])
    else (Option.none)
  else (Option.some ((Ex.exit 2), ([], [])))
theorem evstOneMore1 (go : List D → List D → Option (Ex × List D × List D)) (hs xs : List D) : stepOf (EOneMore) (vlen sgOneMore.heap) (loopN (bodyOf Try.f7) 1) liOneMore1 go hs xs = stOneMore1 go hs xs := by kernel_rfl
end Go.Proofs.Ytkepijaabpkdbaa

/- What the evaluator makes of the makers, of a ledger turned and of a whole ledger is what their definitions say. -/
namespace Go.Proofs.Ytkepijaabpkdbaa
open Go Go.Ev

theorem phBases (hs xs : List D) (r : List D × List D) (w : wfAll sgBases.heap sgBases.ins hs xs = true) (h : (phiBases hs xs).val = some r) : mBases hs xs = some r := h

theorem made2 {u : D} (c : iand .i64 (D.int (D.f u 0)) 3 = 2) : dset (dset (D.r [D.i 1, D.i (iand .i64 (D.int (D.f u 1)) 2047), D.i 0, D.r (List.replicate 32 (D.i 0)), D.s []]) [0] (D.i 2)) [3] (D.f u 3) = madeU u := by
  unfold madeU uKind; rw [c]; rfl
theorem made3 {u : D} (c : iand .i64 (D.int (D.f u 0)) 3 = 3) : dset (D.r [D.i 1, D.i (iand .i64 (D.int (D.f u 1)) 2047), D.i 0, D.r (List.replicate 32 (D.i 0)), D.s []]) [0] (D.i 3) = madeU u := by
  unfold madeU uKind; rw [c]; rfl
theorem made1 {u : D} (c : ¬ iand .i64 (D.int (D.f u 0)) 3 = 2) (c' : ¬ iand .i64 (D.int (D.f u 0)) 3 = 3) :
    dset (dset (D.r [D.i 1, D.i (iand .i64 (D.int (D.f u 1)) 2047), D.i 0, D.r (List.replicate 32 (D.i 0)), D.s []]) [2] (D.i (IntKind.wrap .i64 (1 + iand .i64 (D.int (D.f u 2)) 1152921504606846975)))) [3] (D.f u 3) = madeU u := by
  unfold madeU uKind; rw [decide_eq_false c, decide_eq_false c']; rfl
theorem jMade0 : LoopJust EMade (vlen sgMade.heap) (loopN (bodyOf Try.f20) 0) liMade0 := by
  refine loopJust_of (fun hs xs => (rest (dnth xs 0) (dnth xs 2)).length) (by kernel_rfl) (by kernel_rfl) fun go hs xs p w h ih => ?_
  rw [evstMade0]
  simp only [wf_loop, liMade0, slotShapes, wfs_cons, wf_dat, wf_int, wf_bool, wf_str, wf_slice, wf_fn, wf_ref, wf_rall, wf_mref, wf_own, wf_agg, wf_rsub, wf_any, wfs_nil, wfh_cons, wfh_nil, wf_hmap, wf_hrow, wf_hbox, true_and] at w
  obtain ⟨rfl, _, _, rfl, ⟨l, rfl, hl, hw⟩, _, _, rfl, ⟨o, rfl, ho, _⟩, _, _, rfl, ⟨i, rfl, _⟩, rfl⟩ := w
  simp only [liMade0, dnth_zero, dnth_succ, dnth_one, dnth_two, int_i, bool_b, str_s, list_r, f_r, rest, mapOf_ofMap] at h ih
  simp only [stMade0, xstMade0_0, xstMade0_1, xstMade0_2, xstMade0_3, xstMade0_4, xstMade0_5, dnth_zero, dnth_succ, dnth_one, dnth_two, int_i, bool_b, str_s, list_r, f_r, mapOf_ofMap]
  replace h := cond_fail h
  obtain ⟨hp, h⟩ := h
  simp only [Bool.and_eq_true, decide_eq_true_eq] at hp
  obtain ⟨h0, hm⟩ := hp
  by_cases hi : i < (l.length : Int)
  · rw [drop_step h0 hi] at h hm
    simp only [List.length_cons] at hm
    have m1 : ∀ v, (o ++ [v]).length ≤ 4294967296 := by intro v; simp; omega
    have nx : go [] [D.r l, D.r (o ++ [madeU (dnth l i.toNat)]), D.i (i + 1)] = some p := by
      refine ih _ _ ?_ fun _ => cond_ok ?_ ?_
      · simp; omega
      · simp at hm ⊢; omega
      · simp only [dnth_zero, dnth_succ, dnth_one, dnth_two, int_i, bool_b, str_s, list_r, f_r]
        rw [List.map_cons] at h
        simpa using h
    by_cases c2 : iand .i64 (D.int (D.f (dnth l i.toNat) 0)) 3 = 2
    · rw [made2 c2]
      simp only [hi, h0, c2, m1, decide_true, cond_true, Bool.and_self, Int.ofNat_eq_natCast, wrap_next h0 hi hl]
      exact nx
    · by_cases c3 : iand .i64 (D.int (D.f (dnth l i.toNat) 0)) 3 = 3
      · rw [made3 c3]
        simp only [hi, h0, c2, c3, m1, decide_true, decide_false, cond_true, cond_false, Bool.and_self, Int.ofNat_eq_natCast, wrap_next h0 hi hl]
        exact nx
      · rw [made1 c2 c3]
        simp only [hi, h0, c2, c3, m1, decide_true, decide_false, cond_true, cond_false, Bool.and_self, Int.ofNat_eq_natCast, wrap_next h0 hi hl]
        exact nx
  · rw [drop_end h0 hi] at h
    simp only [hi, decide_false, cond_false, Int.ofNat_eq_natCast]
    simp only [List.map_nil, List.append_nil] at h
    exact h
theorem phMade (hs xs : List D) (r : List D × List D) (w : wfAll sgMade.heap sgMade.ins hs xs = true) (h : (phiMade hs xs).val = some r) : mMade hs xs = some r := by
  simp only [phiMade] at h
  replace h := cond_fail h
  obtain ⟨hm, h⟩ := h
  simp only [decide_eq_true_eq] at hm
  have q : 0 + (dnth xs 0).list.length ≤ 4294967296 := by omega
  simp only [mMade, rest, dnth_zero, dnth_succ, dnth_one, dnth_two, int_i, bool_b, str_s, list_r, f_r, Int.toNat_zero, List.drop_zero, List.nil_append, q, decide_true, cond_true]
  exact h

theorem count_eq {a n : Int} (h0 : 0 ≤ n) (h1 : n ≤ 4294967296) : IntKind.wrap .i64 (Int.tmod (IntKind.wrap .u64 a) (IntKind.wrap .u64 (IntKind.wrap .i64 (n + 1)))) = countOf a n := by
  have e1 : IntKind.wrap .i64 (n + 1) = n + 1 := wrap_i64 (by omega) (by omega)
  have e2 : IntKind.wrap .u64 (n + 1) = n + 1 := by rw [IntKind.wrap_u64]; omega
  have e3 : 0 ≤ IntKind.wrap .u64 a := by rw [IntKind.wrap_u64]; omega
  rw [e1, e2, Int.tmod_eq_emod_of_nonneg e3]
  rfl
theorem count_nz {n : Int} (h0 : 0 ≤ n) (h1 : n ≤ 4294967296) : ¬ IntKind.wrap .u64 (IntKind.wrap .i64 (n + 1)) = 0 := by
  have e1 : IntKind.wrap .i64 (n + 1) = n + 1 := wrap_i64 (by omega) (by omega)
  rw [e1, IntKind.wrap_u64]; omega
theorem phCounts (hs xs : List D) (r : List D × List D) (w : wfAll sgCounts.heap sgCounts.ins hs xs = true) (h : (phiCounts hs xs).val = some r) : mCounts hs xs = some r := by
  simp only [phiCounts] at h
  replace h := cond_fail h
  obtain ⟨hm, h⟩ := h
  simp only [Bool.and_eq_true, decide_eq_true_eq] at hm
  obtain ⟨⟨⟨a1, a2⟩, b1⟩, b2⟩ := hm
  simp only [mCounts, count_eq a1 a2, count_eq b1 b2, count_nz a1 a2, count_nz b1 b2, decide_false, cond_false]
  exact h

theorem turn_cons {k : Int} {p : D} {l : List D} : turnF k (p :: l) = (bif pMine p == decide (k = 1) then [flipP p] else []) ++ turnF k l := by
  unfold turnF
  rw [List.filter_cons]
  cases h : pMine p == decide (k = 1) <;> simp
theorem jTurned1 : LoopJust ETurned (vlen sgTurned.heap) (loopN (bodyOf Try.f22) 1) liTurned1 := by
  refine loopJust_of (fun hs xs => (((dnth hs 0).f 2).list.length - (dnth xs 4).int.toNat)) (by kernel_rfl) (by kernel_rfl) fun go hs xs p w h ih => ?_
  rw [evstTurned1]
  simp only [wf_loop, liTurned1, slotShapes, wfs_cons, wf_dat, wf_int, wf_bool, wf_str, wf_slice, wf_fn, wf_ref, wf_rall, wf_mref, wf_own, wf_agg, wf_rsub, wf_any, wfs_nil, wfh_cons, wfh_nil, wf_hmap, wf_hrow, wf_hbox, true_and] at w
  obtain ⟨⟨a, _, rfl, ha, b, _, rfl, hb, _, _, rfl, ⟨_, rfl, _, _, rfl, ⟨t0, rfl, _⟩, _, _, rfl, ⟨t1, rfl, _⟩, _, _, rfl, ⟨tl, rfl, htl, _⟩, rfl⟩, rfl⟩, d0, _, rfl, d1, _, rfl, d2, _, rfl, _, _, rfl, ⟨k, rfl, _⟩, _, _, rfl, ⟨i, rfl, _⟩, rfl⟩ := w
  simp only [liTurned1, dnth_zero, dnth_succ, dnth_one, dnth_two, int_i, bool_b, str_s, list_r, f_r, rest, mapOf_ofMap] at h ih
  simp only [stTurned1, xstTurned1_0, xstTurned1_1, xstTurned1_2, xstTurned1_3, xstTurned1_4, dnth_zero, dnth_succ, dnth_one, dnth_two, int_i, bool_b, str_s, list_r, f_r, mapOf_ofMap]
  replace h := cond_fail h
  obtain ⟨hp, h⟩ := h
  simp only [Bool.and_eq_true, decide_eq_true_eq] at hp
  obtain ⟨h0, hm⟩ := hp
  rw [wf_struct] at ha
  obtain ⟨la, rfl, ha⟩ := ha
  simp only [wfd_cons, wfd_nil, wf_int, wf_slice] at ha
  obtain ⟨_, _, rfl, ⟨a0, rfl, _⟩, _, _, rfl, ⟨a1, rfl, _⟩, _, _, rfl, ⟨l, rfl, hl, _⟩, rfl⟩ := ha
  simp only [dnth_zero, dnth_succ, dnth_one, dnth_two, int_i, bool_b, str_s, list_r, f_r] at h ih hm ⊢
  by_cases hi : i < (l.length : Int)
  · rw [drop_step h0 hi] at h hm
    simp only [List.length_cons] at hm
    rw [turn_cons] at h
    have m1 : ∀ v, (tl ++ [v]).length ≤ 4294967296 := by intro v; simp; omega
    simp only [hi, h0, m1, decide_true, cond_true, Bool.and_self, Int.ofNat_eq_natCast, wrap_next h0 hi hl]
    have hf : dset (dnth l i.toNat) [0] (D.b (!D.bool (D.f (dnth l i.toNat) 0))) = flipP (dnth l i.toNat) := rfl
    rw [hf]
    cases hb : D.bool (D.f (dnth l i.toNat) 0) == decide (k = 1)
    · have hb' : (pMine (dnth l i.toNat) == decide (k = 1)) = false := hb
      rw [hb'] at h
      simp only [cond_false, List.nil_append] at h ⊢
      refine ih _ _ ?_ fun _ => cond_ok ?_ ?_
      · simp; omega
      · simp at hm ⊢; omega
      · simp only [dnth_zero, dnth_succ, dnth_one, dnth_two, int_i, bool_b, str_s, list_r, f_r]; exact h
    · have hb' : (pMine (dnth l i.toNat) == decide (k = 1)) = true := hb
      rw [hb'] at h
      simp only [cond_true] at h ⊢
      refine ih _ _ ?_ fun _ => cond_ok ?_ ?_
      · simp; omega
      · simp at hm ⊢; omega
      · simp only [dnth_zero, dnth_succ, dnth_one, dnth_two, int_i, bool_b, str_s, list_r, f_r, List.append_assoc]; exact h
  · rw [drop_end h0 hi] at h
    simp only [hi, decide_false, cond_false, Int.ofNat_eq_natCast]
    simp only [turnF, List.filter_nil, List.map_nil, List.append_nil] at h
    exact h
theorem jTurned0 : LoopJust ETurned (vlen sgTurned.heap) (loopN (bodyOf Try.f22) 0) liTurned0 := by
  refine loopJust_of (fun hs xs => (2 - (dnth xs 3).int.toNat)) (by kernel_rfl) (by kernel_rfl) fun go hs xs p w h ih => ?_
  rw [evstTurned0]
  simp only [wf_loop, liTurned0, slotShapes, wfs_cons, wf_dat, wf_int, wf_bool, wf_str, wf_slice, wf_fn, wf_ref, wf_rall, wf_mref, wf_own, wf_agg, wf_rsub, wf_any, wfs_nil, wfh_cons, wfh_nil, wf_hmap, wf_hrow, wf_hbox, true_and] at w
  obtain ⟨⟨a, _, rfl, ha, b, _, rfl, hb, _, _, rfl, ⟨_, rfl, _, _, rfl, ⟨t0, rfl, _⟩, _, _, rfl, ⟨t1, rfl, _⟩, _, _, rfl, ⟨tl, rfl, htl, _⟩, rfl⟩, rfl⟩, d0, _, rfl, d1, _, rfl, d2, _, rfl, _, _, rfl, ⟨k, rfl, _⟩, rfl⟩ := w
  simp only [liTurned0, dnth_zero, dnth_succ, dnth_one, dnth_two, int_i, bool_b, str_s, list_r, f_r, rest, mapOf_ofMap] at h ih
  simp only [stTurned0, dnth_zero, dnth_succ, dnth_one, dnth_two, int_i, bool_b, str_s, list_r, f_r, mapOf_ofMap]
  replace h := cond_fail h
  obtain ⟨hp, h⟩ := h
  simp only [Bool.and_eq_true, decide_eq_true_eq] at hp
  obtain ⟨⟨h0, h2⟩, hm⟩ := hp
  have hc : k = 0 ∨ k = 1 ∨ k = 2 := by omega
  have len1 : ∀ (k : Int) (l : List D), (turnF k l).length ≤ l.length := by
    intro k l; unfold turnF; rw [List.length_map]; exact List.length_filter_le _ _
  rcases hc with rfl | rfl | rfl
  · have m1 : tl.length + ((a.f 2).list.drop (Int.toNat 0)).length ≤ 4294967296 := by simp at hm ⊢; omega
    rw [decide_eq_true m1]
    refine ih _ _ (by decide) fun _ => cond_ok ?_ ?_
    · have := len1 0 (a.f 2).list
      have e : IntKind.wrap .i64 (0 + 1) = 1 := by decide
      rw [e]
      simp at hm ⊢; omega
    · have e : IntKind.wrap .i64 (0 + 1) = 1 := by decide
      simp only [e, dnth_zero, dnth_succ, dnth_one, dnth_two, int_i, bool_b, str_s, list_r, f_r, Int.toNat_zero, List.drop_zero, List.append_assoc]
      exact h
  · have m1 : tl.length + ((a.f 2).list.drop (Int.toNat 0)).length ≤ 4294967296 := by simp at hm ⊢; omega
    rw [decide_eq_true m1]
    refine ih _ _ (by decide) fun _ => cond_ok ?_ ?_
    · have := len1 1 (a.f 2).list
      have e : IntKind.wrap .i64 (1 + 1) = 2 := by decide
      rw [e]
      simp at hm ⊢; omega
    · have e : IntKind.wrap .i64 (1 + 1) = 2 := by decide
      have d0 : decide ((1 : Int) = 0) = false := by decide
      have d1 : decide ((1 : Int) = 1) = true := by decide
      have e1 : decide ((2 : Int) = 0) = false := by decide
      have e2 : decide ((2 : Int) = 1) = false := by decide
      rw [d0, d1] at h
      simp only [e, e1, e2, dnth_zero, dnth_succ, dnth_one, dnth_two, int_i, bool_b, str_s, list_r, f_r, Int.toNat_zero, List.drop_zero, List.append_assoc, cond_false, List.append_nil]
      exact h
  · have e1 : decide ((2 : Int) = 0) = false := by decide
    have e2 : decide ((2 : Int) = 1) = false := by decide
    rw [e1, e2] at h
    simp only [cond_false, List.append_nil] at h
    exact h
theorem phTurned (hs xs : List D) (r : List D × List D) (w : wfAll sgTurned.heap sgTurned.ins hs xs = true) (h : (phiTurned hs xs).val = some r) : mTurned hs xs = some r := by
  simp only [phiTurned] at h
  replace h := cond_fail h
  obtain ⟨hm, h⟩ := h
  simp only [decide_eq_true_eq] at hm
  have q : 0 + (2 - Int.toNat 0) * ((dnth xs 0).f 2).list.length ≤ 4294967296 := by simp; omega
  simp only [mTurned, q, decide_true, cond_true]
  exact h

theorem prev_next {l : List D} {i : Int} (h0 : 0 ≤ i) : prevOf l (i + 1) = dnth l i.toNat ∧ decide (0 < i + 1) = true := by
  unfold prevOf
  have e : 0 < i + 1 := by omega
  rw [decide_eq_true e, show i + 1 - 1 = i by omega]; exact ⟨rfl, rfl⟩
theorem jWhole0 : LoopJust EWhole (vlen sgWhole.heap) (loopN (bodyOf Try.f23) 0) liWhole0 := by
  refine loopJust_of (fun hs xs => (((dnth hs 0).f 2).list.length - (dnth xs 2).int.toNat)) (by kernel_rfl) (by kernel_rfl) fun go hs xs p w h ih => ?_
  rw [evstWhole0]
  simp only [wf_loop, liWhole0, slotShapes, wfs_cons, wf_dat, wf_int, wf_bool, wf_str, wf_slice, wf_fn, wf_ref, wf_rall, wf_mref, wf_own, wf_agg, wf_rsub, wf_any, wfs_nil, wfh_cons, wfh_nil, wf_hmap, wf_hrow, wf_hbox, true_and] at w
  obtain ⟨⟨a, _, rfl, ha, rfl⟩, d0, _, rfl, _, _, rfl, ⟨left, rfl, _⟩, _, _, rfl, ⟨i, rfl, _⟩, rfl⟩ := w
  simp only [liWhole0, dnth_zero, dnth_succ, dnth_one, dnth_two, int_i, bool_b, str_s, list_r, f_r, rest, mapOf_ofMap] at h ih
  simp only [stWhole0, xstWhole0_0, xstWhole0_1, xstWhole0_2, xstWhole0_3, xstWhole0_4, xstWhole0_5, xstWhole0_6, xstWhole0_7, dnth_zero, dnth_succ, dnth_one, dnth_two, int_i, bool_b, str_s, list_r, f_r, mapOf_ofMap]
  replace h := cond_fail h
  obtain ⟨h0, h⟩ := h
  simp only [decide_eq_true_eq] at h0
  rw [wf_struct] at ha
  obtain ⟨la, rfl, ha⟩ := ha
  simp only [wfd_cons, wfd_nil, wf_int, wf_slice] at ha
  obtain ⟨_, _, rfl, ⟨a0, rfl, _⟩, _, _, rfl, ⟨a1, rfl, _⟩, _, _, rfl, ⟨l, rfl, hl, _⟩, rfl⟩ := ha
  simp only [dnth_zero, dnth_succ, dnth_one, dnth_two, int_i, bool_b, str_s, list_r, f_r] at h ih ⊢
  by_cases hi : i < (l.length : Int)
  · rw [drop_step h0 hi] at h
    obtain ⟨q1, q2⟩ := prev_next (l := l) h0
    have nx : (T.cond (wholeG (dnth l i.toNat) true (IntKind.wrap .i64 (left - D.int (D.f (dnth l i.toNat) 2))) (l.drop (i + 1).toNat)).2
        (T.ret (Ex.exit 0, [], [D.i (wholeG (dnth l i.toNat) true (IntKind.wrap .i64 (left - D.int (D.f (dnth l i.toNat) 2))) (l.drop (i + 1).toNat)).1])) (T.ret (Ex.ret, [], [D.b false]))).val = some p →
        go [D.r [D.i a0, D.i a1, D.r l]] [D.r [], D.i (IntKind.wrap .i64 (left - D.int (D.f (dnth l i.toNat) 2))), D.i (i + 1)] = some p := by
      intro h
      refine ih _ _ ?_ fun _ => cond_ok ?_ ?_
      · simp; omega
      · simp; omega
      · simp only [dnth_zero, dnth_succ, dnth_one, dnth_two, int_i, bool_b, str_s, list_r, f_r, q1, q2]; exact h
    simp only [wholeG, badP, pAmt, pMine, pId] at h
    by_cases hp : 0 < i
    · have ew : IntKind.wrap .i64 (i - 1) = i - 1 := wrap_i64 (by omega) (by simp [most] at hl; omega)
      have b1 : 0 ≤ i - 1 := by omega
      have b2 : i - 1 < (l.length : Int) := by omega
      have ep : prevOf l i = dnth l (i - 1).toNat := by unfold prevOf; rw [decide_eq_true hp]; rfl
      rw [ep] at h
      simp only [hi, h0, hp, ew, b1, b2, decide_true, cond_true, Bool.and_self, Bool.true_and, Int.ofNat_eq_natCast, wrap_next h0 hi hl] at h ⊢
      cases c1 : decide (D.int (D.f (dnth l i.toNat) 2) < 1) <;> cases c2 : decide (left < D.int (D.f (dnth l i.toNat) 2)) <;> cases c3 : D.bool (D.f (dnth l i.toNat) 0) <;> cases c4 : D.bool (D.f (dnth l (i - 1).toNat) 0) <;>
        cases c5 : decide (D.int (D.f (dnth l i.toNat) 1) < D.int (D.f (dnth l (i - 1).toNat) 1)) <;> simp only [c1, c2, c3, c4, c5] at h ⊢ <;> first | exact h | exact nx h
    · simp only [hi, h0, hp, decide_true, decide_false, cond_true, cond_false, Bool.and_self, Bool.false_and, Int.ofNat_eq_natCast, wrap_next h0 hi hl] at h ⊢
      cases c1 : decide (D.int (D.f (dnth l i.toNat) 2) < 1) <;> cases c2 : decide (left < D.int (D.f (dnth l i.toNat) 2)) <;> simp only [c1, c2] at h ⊢ <;> first | exact h | exact nx h
  · rw [drop_end h0 hi] at h
    simp only [hi, decide_false, cond_false, Int.ofNat_eq_natCast]
    exact h
theorem phWhole (hs xs : List D) (r : List D × List D) (w : wfAll sgWhole.heap sgWhole.ins hs xs = true) (h : (phiWhole hs xs).val = some r) : mWhole hs xs = some r := by
  rw [← h]
  simp only [mWhole, xmWhole_0, phiWhole, T.val, wholeB, Int.toNat_zero, List.drop_zero]
  have e : prevOf (D.list (D.f (dnth xs 0) 2)) 0 = D.i 0 := rfl
  rw [e]
  cases decide (D.int (D.f (dnth xs 0) 0) < 0) <;> cases decide (D.int (D.f (dnth xs 0) 1) < 0) <;> cases decide (D.int (dnth xs 1) < D.int (D.f (dnth xs 0) 0)) <;>
    cases decide (IntKind.wrap .i64 (D.int (dnth xs 1) - D.int (D.f (dnth xs 0) 0)) < D.int (D.f (dnth xs 0) 1)) <;> try rfl
  cases (wholeG (D.i 0) false (IntKind.wrap .i64 (IntKind.wrap .i64 (D.int (dnth xs 1) - D.int (D.f (dnth xs 0) 0)) - D.int (D.f (dnth xs 0) 1))) (D.list (D.f (dnth xs 0) 2))).2 <;> rfl

/-! ### The laws -/

theorem jOneMore0 : LoopJust EOneMore (vlen sgOneMore.heap) (loopN (bodyOf Try.f7) 0) liOneMore0 := by
  refine loopJust_of (fun hs xs => (((dnth hs 0).f 1).int.toNat - (dnth xs 8).int.toNat)) (by kernel_rfl) (by kernel_rfl) fun go hs xs p w h ih => ?_
  rw [evstOneMore0]
  simp only [wf_loop, liOneMore0, slotShapes, wfs_cons, wf_dat, wf_int, wf_bool, wf_str, wf_slice, wf_fn, wf_ref, wf_rall, wf_mref, wf_own, wf_agg, wf_rsub, wf_any, wfs_nil, wfh_cons, wfh_nil, wf_hmap, wf_hrow, wf_hbox, true_and] at w
  obtain ⟨⟨c, _, rfl, hc, lb, _, rfl, hlb, rfl⟩, _, _, rfl, ⟨a, rfl, _⟩, _, _, rfl, ⟨b, rfl, _⟩, _, _, rfl, ⟨am, rfl, _⟩, d3, _, rfl, _, _, rfl, ⟨x, rfl, hx, _⟩, _, _, rfl, ⟨y, rfl, hy, _⟩, d6, _, rfl, _, _, rfl, ⟨id, rfl, _⟩, _, _, rfl, ⟨i, rfl, _⟩, rfl⟩ := w
  simp only [liOneMore0, dnth_zero, dnth_succ, dnth_one, dnth_two, int_i, bool_b, str_s, list_r, f_r, rest, mapOf_ofMap] at h ih
  simp only [stOneMore0, xstOneMore0_0, xstOneMore0_1, dnth_zero, dnth_succ, dnth_one, dnth_two, int_i, bool_b, str_s, list_r, f_r, mapOf_ofMap]
  replace h := cond_fail h
  obtain ⟨hp, h⟩ := h
  simp only [Bool.and_eq_true, decide_eq_true_eq] at hp
  obtain ⟨h0, hm⟩ := hp
  by_cases hi : i < D.int (D.f c 1)
  · have hi2 : i < (y.length : Int) := by omega
    have hi3 : i < ((firstN y (D.int (D.f c 1))).length : Int) := by simp [firstN]; omega
    have eg : dnth (firstN y (D.int (D.f c 1))) i.toNat = dnth y i.toNat := by unfold firstN; rw [dnth_eq, dnth_eq, List.getElem?_take, if_pos (by omega)]
    rw [drop_step h0 hi3, eg] at h
    have nx : ∀ id' : Int, (T.ret (Ex.exit 0, [c, lb], [D.i a, D.i b, D.i am, D.r [], D.r x, D.r y, D.r [], D.i (newId id' ((firstN y (D.int (D.f c 1))).drop (i + 1).toNat))])).val = some p →
        go [c, lb] [D.i a, D.i b, D.i am, D.r [], D.r x, D.r y, D.r [], D.i id', D.i (i + 1)] = some p := by
      intro id' h
      refine ih _ _ ?_ fun _ => cond_ok ?_ ?_
      · simp; omega
      · simp; omega
      · exact h
    simp only [hi, h0, hi2, decide_true, cond_true, Bool.and_self, Int.ofNat_eq_natCast, wrap_next h0 hi2 hy]
    have en : newId id (dnth y i.toNat :: (firstN y (D.int (D.f c 1))).drop (i + 1).toNat) =
        newId (bif !decide (D.int (D.f (dnth y i.toNat) 0) = 1) && decide (id ≤ D.int (D.f (dnth y i.toNat) 1)) then IntKind.wrap .i64 (D.int (D.f (dnth y i.toNat) 1) + 1) else id) ((firstN y (D.int (D.f c 1))).drop (i + 1).toNat) := rfl
    rw [en] at h
    cases c1 : decide (D.int (D.f (dnth y i.toNat) 0) = 1) <;> cases c2 : decide (id ≤ D.int (D.f (dnth y i.toNat) 1)) <;> simp only [c1, c2] at h ⊢ <;> exact nx _ h
  · have e1 : (firstN y (D.int (D.f c 1))).drop i.toNat = [] := List.drop_eq_nil_of_le (by simp [firstN]; omega)
    rw [e1] at h
    simp only [hi, decide_false, cond_false, Int.ofNat_eq_natCast]
    exact h
theorem jOneMore1 : LoopJust EOneMore (vlen sgOneMore.heap) (loopN (bodyOf Try.f7) 1) liOneMore1 := by
  refine loopJust_of (fun hs xs => (((dnth hs 1).f 2).list.length - (dnth xs 5).int.toNat)) (by kernel_rfl) (by kernel_rfl) fun go hs xs p w h ih => ?_
  rw [evstOneMore1]
  simp only [wf_loop, liOneMore1, slotShapes, wfs_cons, wf_dat, wf_int, wf_bool, wf_str, wf_slice, wf_fn, wf_ref, wf_rall, wf_mref, wf_own, wf_agg, wf_rsub, wf_any, wfs_nil, wfh_cons, wfh_nil, wf_hmap, wf_hrow, wf_hbox, true_and] at w
  obtain ⟨⟨u, _, rfl, hu, m, _, rfl, hm, rfl⟩, _, _, rfl, ⟨a, rfl, _⟩, _, _, rfl, ⟨b, rfl, _⟩, _, _, rfl, ⟨id, rfl, _⟩, d3, _, rfl, d4, _, rfl, _, _, rfl, ⟨i, rfl, _⟩, rfl⟩ := w
  simp only [liOneMore1, dnth_zero, dnth_succ, dnth_one, dnth_two, int_i, bool_b, str_s, list_r, f_r, rest, mapOf_ofMap] at h ih
  simp only [stOneMore1, xstOneMore1_0, dnth_zero, dnth_succ, dnth_one, dnth_two, int_i, bool_b, str_s, list_r, f_r, mapOf_ofMap]
  replace h := cond_fail h
  obtain ⟨h0, h⟩ := h
  simp only [decide_eq_true_eq] at h0
  rw [wf_struct] at hm
  obtain ⟨la, rfl, hm⟩ := hm
  simp only [wfd_cons, wfd_nil, wf_int, wf_slice] at hm
  obtain ⟨_, _, rfl, ⟨a0, rfl, _⟩, _, _, rfl, ⟨a1, rfl, _⟩, _, _, rfl, ⟨l, rfl, hl, _⟩, rfl⟩ := hm
  simp only [dnth_zero, dnth_succ, dnth_one, dnth_two, int_i, bool_b, str_s, list_r, f_r] at h ih ⊢
  have ep : D.r [D.b true, D.i id, D.i (D.int (D.f u 2)), D.r (List.replicate 32 (D.i 0))] = newP id u := rfl
  rw [ep]
  by_cases hi : i < (l.length : Int)
  · rw [drop_step h0 hi, List.any_cons] at h
    simp only [hi, h0, decide_true, cond_true, Bool.and_self, Int.ofNat_eq_natCast, wrap_next h0 hi hl]
    cases hb : D.beq (dnth l i.toNat) (newP id u)
    · rw [hb, Bool.false_or] at h
      simp only [cond_false]
      refine ih _ _ ?_ fun _ => cond_ok ?_ ?_
      · simp; omega
      · simp; omega
      · exact h
    · rw [hb, Bool.true_or] at h
      exact h
  · rw [drop_end h0 hi] at h
    simp only [hi, decide_false, cond_false, Int.ofNat_eq_natCast]
    exact h

set_option maxHeartbeats 4000000 in
theorem phViews (hs xs : List D) (r : List D × List D) (w : wfAll sgViews.heap sgViews.ins hs xs = true) (h : (phiViews hs xs).val = some r) : mViews hs xs = some r := by
  simp only [sgViews, wf_all, wfs_cons, wf_dat, wf_int, wf_bool, wf_str, wf_slice, wf_fn, wf_ref, wf_rall, wf_mref, wf_own, wf_agg, wf_rsub, wf_any, wfs_nil, wfh_cons, wfh_nil, wf_hmap, wf_hrow, wf_hbox, true_and] at w
  obtain ⟨rfl, _, _, rfl, ⟨a, rfl, _⟩, _, _, rfl, ⟨b, rfl, _⟩, _, _, rfl, ⟨x, rfl, _⟩, _, _, rfl, ⟨y, rfl, _⟩, c, _, rfl, hc, rfl⟩ := w
  simp only [phiViews, lawPhi] at h
  replace h := cond_fail h
  obtain ⟨hb, h⟩ := h
  simp only [bulkOK, decide_eq_true_eq] at hb
  have l1 : x.length ≤ 1048576 := bulk_list (by simp) hb
  have l2 : y.length ≤ 1048576 := bulk_list (by simp) hb
  obtain ⟨a0, a1⟩ := base_range a
  obtain ⟨b0, b1⟩ := base_range b
  have vx := made_all x
  have vy := made_all y
  have k1 : (x.map madeU).length ≤ 1048576 := by simp; omega
  have k2 : (y.map madeU).length ≤ 1048576 := by simp; omega
  obtain ⟨n0, n1⟩ := count_range (a := D.int (D.f c 0)) (n := (x.map madeU).length) (by omega)
  obtain ⟨m0, m1⟩ := count_range (a := D.int (D.f c 1)) (n := (y.map madeU).length) (by omega)
  simp only [mViews, xmViews_0, xmViews_1, xmViews_2, xmViews_3, xmViews_4, xmViews_5, xmViews_6, xmViews_7, xmViews_8, xmViews_9, xmViews_10, dnth_zero, dnth_succ, dnth_one, dnth_two, int_i, bool_b, str_s, list_r, f_r, Int.ofNat_eq_natCast]
  generalize x.map madeU = X at *
  generalize y.map madeU = Y at *
  generalize countOf (D.int (D.f c 0)) (X.length : Int) = n at *
  generalize countOf (D.int (D.f c 1)) (Y.length : Int) = m at *
  generalize baseOf a = A at *
  generalize baseOf b = B at *
  rw [fold_view a0 a1 b0 b1 vx vy n0 n1 m0 m1 (by omega) (by omega), fold_view b0 b1 a0 a1 vy vx m0 m1 n0 n1 (by omega) (by omega)]
  have fx := all_first n vx
  have fy := all_first m vy
  have g1 : (firstN X n).length ≤ 1048576 := Nat.le_trans (by simp [firstN]; omega) k1
  have g2 : (firstN Y m).length ≤ 1048576 := Nat.le_trans (by simp [firstN]; omega) k2
  generalize firstN X n = x' at *
  generalize firstN Y m = y' at *
  obtain ⟨t1, t2⟩ := foldE_turned A B x' y'
  have q0 : x.length ≤ 4294967296 := by omega
  have q1 : y.length ≤ 4294967296 := by omega
  have q2 : (X.length : Int) ≤ 4294967296 := by omega
  have q3 : (Y.length : Int) ≤ 4294967296 := by omega
  have q4 : X.length + Y.length ≤ 4294967296 := by omega
  have q5 : Y.length + X.length ≤ 4294967296 := by omega
  have ew : IntKind.wrap .i64 (A + B) = A + B := wrap_i64 (by omega) (by omega)
  rw [t1, ← t2, ew]
  rcases foldE_cases A B x' y' with e | ⟨p0, p1, e⟩
  · rw [e]
    simp only [q0, q1, q2, q3, q4, q5, decide_true, Bool.and_self, cond_true, Bool.not_true, Bool.not_false, cond_false]
    exact h
  · have hw := foldE_whole a0 a1 b0 b1 fx fy (by rw [e])
    have ol : (isort (opn y' true x') ++ isort (opn x' false y')).length ≤ 2147483648 := by
      rw [List.length_append, isort_len, isort_len]
      have o1 := opn_length (b := y') (m := true) (l := x')
      have o2 := opn_length (b := x') (m := false) (l := y')
      omega
    rw [e] at hw ⊢
    generalize isort (opn y' true x') ++ isort (opn x' false y') = O at *
    simp only [turnL, dnth_zero, dnth_succ, dnth_one, dnth_two, int_i, bool_b, str_s, list_r, f_r] at hw ⊢
    have d0 : decide ((0 : Int) = 0) = true := by decide
    simp only [q0, q1, q2, q3, q4, q5, ol, hw, D.beq_self, decide_true, Bool.and_self, cond_true, Bool.not_true, Bool.not_false, cond_false]
    exact h

set_option maxHeartbeats 4000000 in
theorem phOneMore (hs xs : List D) (r : List D × List D) (w : wfAll sgOneMore.heap sgOneMore.ins hs xs = true) (h : (phiOneMore hs xs).val = some r) : mOneMore hs xs = some r := by
  simp only [sgOneMore, wf_all, wfs_cons, wf_dat, wf_int, wf_bool, wf_str, wf_slice, wf_fn, wf_ref, wf_rall, wf_mref, wf_own, wf_agg, wf_rsub, wf_any, wfs_nil, wfh_cons, wfh_nil, wf_hmap, wf_hrow, wf_hbox, true_and] at w
  obtain ⟨rfl, _, _, rfl, ⟨a, rfl, _⟩, _, _, rfl, ⟨b, rfl, _⟩, _, _, rfl, ⟨x, rfl, _⟩, _, _, rfl, ⟨y, rfl, _⟩, c, _, rfl, hc, _, _, rfl, ⟨am, rfl, _⟩, rfl⟩ := w
  simp only [phiOneMore, lawPhi] at h
  replace h := cond_fail h
  obtain ⟨hb, h⟩ := h
  simp only [bulkOK, decide_eq_true_eq] at hb
  have l1 : x.length ≤ 1048576 := bulk_list (by simp) hb
  have l2 : y.length ≤ 1048576 := bulk_list (by simp) hb
  obtain ⟨a0, a1⟩ := base_range a
  obtain ⟨b0, b1⟩ := base_range b
  have vx := made_all x
  have vy := made_all y
  have k1 : (x.map madeU).length ≤ 1048576 := by simp; omega
  have k2 : (y.map madeU).length ≤ 1048576 := by simp; omega
  obtain ⟨n0, n1⟩ := count_range (a := D.int (D.f c 0)) (n := (x.map madeU).length) (by omega)
  obtain ⟨m0, m1⟩ := count_range (a := D.int (D.f c 1)) (n := (y.map madeU).length) (by omega)
  simp only [mOneMore, xmOneMore_0, xmOneMore_1, xmOneMore_2, xmOneMore_3, xmOneMore_4, xmOneMore_5, xmOneMore_6, xmOneMore_7, xmOneMore_8, xmOneMore_9, xmOneMore_10, xmOneMore_11, xmOneMore_12, xmOneMore_13, xmOneMore_14, xmOneMore_15, xmOneMore_16, xmOneMore_17, dnth_zero, dnth_succ, dnth_one, dnth_two, int_i, bool_b, str_s, list_r, f_r, Int.ofNat_eq_natCast, Int.toNat_zero, List.drop_zero, List.nil_append]
  generalize x.map madeU = X at *
  generalize y.map madeU = Y at *
  generalize countOf (D.int (D.f c 0)) (X.length : Int) = n at *
  generalize countOf (D.int (D.f c 1)) (Y.length : Int) = m at *
  generalize baseOf a = A at *
  generalize baseOf b = B at *
  rw [fold_view a0 a1 b0 b1 vx vy n0 n1 m0 m1 (by omega) (by omega)]
  have q0 : x.length ≤ 4294967296 := by omega
  have q1 : y.length ≤ 4294967296 := by omega
  have q2 : (X.length : Int) ≤ 4294967296 := by omega
  have q3 : (Y.length : Int) ≤ 4294967296 := by omega
  have q4 : X.length + Y.length ≤ 4294967296 := by omega
  have ew : IntKind.wrap .i64 (A + B) = A + B := wrap_i64 (by omega) (by omega)
  have en : IntKind.wrap .i64 (n + 1) = n + 1 := wrap_i64 (by omega) (by omega)
  have et : X.take n.toNat = firstN X n := rfl
  rw [ew, en, et]
  have fx := all_first n vx
  have fy := all_first m vy
  have g1 : ((firstN X n).length : Int) = n := by simp [firstN]; omega
  have d0 : decide ((0 : Int) = 0) = true := by decide
  have d1 : decide ((130 : Int) = 0) = false := by decide
  have d2 : decide ((130 : Int) = 130) = true := by decide
  obtain ⟨i0, i1, _⟩ := newId_ge (l := firstN Y m) (id := 0) fy (by omega) (by omega)
  have ifree := newId_free fy
  generalize newId 0 (firstN Y m) = id at *
  have am2 := amt_range am
  rcases foldE_cases A B (firstN X n) (firstN Y m) with e | ⟨p0, p1, e⟩
  · rw [e]
    simp only [q0, q1, q2, q3, q4, d1, d2, decide_true, Bool.and_self, cond_true, Bool.not_true, Bool.not_false, cond_false]
    exact h
  · rw [e]
    by_cases hid : 2047 < id
    · simp only [q0, q1, q2, q3, q4, d0, m1, hid, decide_true, Bool.and_self, cond_true, Bool.not_true, Bool.not_false, cond_false]
      exact h
    · have vu := newU_valid (id := id) (am := am) i0 (by omega)
      generalize hU : D.r [D.i 1, D.i id, D.i (IntKind.wrap .i64 (1 + iand .i64 am 1152921504606846975)), D.r (List.replicate 32 (D.i 0)), D.s []] = u at *
      have hk : uKind u = 1 := by rw [← hU]; rfl
      have hi : uId u = id := by rw [← hU]; rfl
      have ha : uAmt u = IntKind.wrap .i64 (1 + iand .i64 am 1152921504606846975) := by rw [← hU]; rfl
      have hP : pend true u = newP id u := by rw [← hU]; rfl
      rw [← ha] at am2
      simp only [← ha]
      obtain ⟨z1, z2, z3, z4⟩ := foldE_more (a := A) (b := B) (x := firstN X n) (y := firstN Y m) (u := u) hk (by rw [hi]; exact ifree)
      have vxu : (firstN X n ++ [u]).all valid = true := by simp only [List.all_append, fx, List.all_cons, vu, List.all_nil, Bool.and_self]
      have lxu : ((firstN X n ++ [u]).length : Int) = n + 1 := by simp; omega
      have fu : firstN (firstN X n ++ [u]) (n + 1) = firstN X n ++ [u] := List.take_of_length_le (by omega)
      rw [fold_view a0 a1 b0 b1 vxu vy (by omega) (by omega) m0 m1 (by omega) (by omega), fu]
      have w0 : (firstN X n).length ≤ 4294967296 := by omega
      have w1 : (firstN X n ++ [u]).length ≤ 4294967296 := by omega
      have w2 : (firstN X n ++ [u]).length + Y.length ≤ 4294967296 := by omega
      have tot := exact_total (a := A) (b := B) (x := firstN X n) (y := firstN Y m)
      have po1 : 0 ≤ openSum (isort (opn (firstN Y m) true (firstN X n))) := by rw [openSum_isort]; exact openSum_pos (opn_pos fx)
      have po2 : 0 ≤ openSum (isort (opn (firstN X n) false (firstN Y m))) := by rw [openSum_isort]; exact openSum_pos (opn_pos fy)
      by_cases hp : exX A (firstN X n) (firstN Y m) < uAmt u
      · have e3 : foldE A B (firstN X n ++ [u]) (firstN Y m) = (130, noLedger) := by
          unfold foldE
          have : exX A (firstN X n ++ [u]) (firstN Y m) < 0 := by rw [z1]; omega
          rw [decide_eq_true this]; rfl
        rw [e3]
        simp only [dnth_zero, dnth_succ, dnth_one, dnth_two, int_i, bool_b, str_s, list_r, f_r, q0, q1, q2, q3, q4, d0, d2, m1, n0, n1, hid, w0, w1, w2, hp, decide_true, decide_false, Bool.and_self, cond_true, Bool.not_true, Bool.not_false, cond_false]
        exact h
      · have s1 : ¬ exX A (firstN X n) (firstN Y m) - uAmt u < 0 := by omega
        have s2 : ¬ exX B (firstN Y m) (firstN X n) < 0 := by omega
        have e3 : foldE A B (firstN X n ++ [u]) (firstN Y m) = (0, .r [.i (exX A (firstN X n) (firstN Y m) - uAmt u), .i (exX B (firstN Y m) (firstN X n)), .r (isort (opn (firstN Y m) true (firstN X n) ++ [pend true u]) ++ isort (opn (firstN X n) false (firstN Y m)))]) := by
          unfold foldE
          rw [z1, z2, z3, z4, decide_eq_false s1, decide_eq_false s2]; rfl
        have hw := foldE_whole a0 a1 b0 b1 vxu fy (by rw [e3])
        rw [e3] at hw ⊢
        have ew2 : IntKind.wrap .i64 (exX A (firstN X n) (firstN Y m) - uAmt u) = exX A (firstN X n) (firstN Y m) - uAmt u := wrap_i64 (by omega) (by omega)
        have o1 := opn_length (b := firstN Y m) (m := true) (l := firstN X n)
        have o2 := opn_length (b := firstN X n) (m := false) (l := firstN Y m)
        have g2 : (firstN Y m).length ≤ 1048576 := Nat.le_trans (by simp [firstN]; omega) k2
        have ol : ((isort (opn (firstN Y m) true (firstN X n) ++ [pend true u]) ++ isort (opn (firstN X n) false (firstN Y m))).length : Int) = IntKind.wrap .i64 (((isort (opn (firstN Y m) true (firstN X n)) ++ isort (opn (firstN X n) false (firstN Y m))).length : Int) + 1) := by
          simp only [List.length_append, isort_len, List.length_cons, List.length_nil]
          rw [wrap_i64 (by omega) (by omega)]
          omega
        have an : ((isort (opn (firstN Y m) true (firstN X n) ++ [pend true u]) ++ isort (opn (firstN X n) false (firstN Y m))).any fun p => D.beq p (newP id u)) = true := by
          rw [List.any_eq_true]
          refine ⟨pend true u, ?_, by rw [hP]; exact D.beq_self _⟩
          exact List.mem_append.2 (.inl (isort_mem.2 (by simp)))
        simp only [dnth_zero, dnth_succ, dnth_one, dnth_two, int_i, bool_b, str_s, list_r, f_r, q0, q1, q2, q3, q4, d0, m1, n0, n1, hid, w0, w1, w2, hp, ew2, an, hw, decide_eq_true ol, decide_true, decide_false, Bool.and_self, cond_true, Bool.not_true, Bool.not_false, cond_false]
        exact h
end Go.Proofs.Ytkepijaabpkdbaa
/- The contracts of these functions; printed by gen.py. -/
namespace Go.Proofs.Ytkepijaabpkdbaa
open Go Go.Ev
theorem okBases : SpecOK Try.prog 19 sgBases phiBases :=
  spec_of (t := []) (loops := []) typesOK noMeth_ok .nil Try.func19 (by kernel_rfl) (by kernel_rfl) (by kernel_rfl) (by kernel_rfl)
    (loopsOK_list (l := []) (by kernel_rfl) trivial) (fun hs xs r w h => (evBases hs xs).trans (phBases hs xs r w h))
theorem lgMade0 : LoopGood EMade (vlen sgMade.heap) (loopN (bodyOf Try.f20) 0) := LoopGood.of (i := 3) (li := liMade0) (by kernel_rfl) (by kernel_rfl) jMade0
theorem okMade : SpecOK Try.prog 20 sgMade phiMade :=
  spec_of (t := []) (loops := [(3, liMade0)]) typesOK noMeth_ok .nil Try.func20 (by kernel_rfl) (by kernel_rfl) (by kernel_rfl) (by kernel_rfl)
    (loopsOK_list (l := [loopN (bodyOf Try.f20) 0]) (by kernel_rfl) ⟨lgMade0, trivial⟩) (fun hs xs r w h => (evMade hs xs).trans (phMade hs xs r w h))
theorem okCounts : SpecOK Try.prog 21 sgCounts phiCounts :=
  spec_of (t := []) (loops := []) typesOK noMeth_ok .nil Try.func21 (by kernel_rfl) (by kernel_rfl) (by kernel_rfl) (by kernel_rfl)
    (loopsOK_list (l := []) (by kernel_rfl) trivial) (fun hs xs r w h => (evCounts hs xs).trans (phCounts hs xs r w h))
theorem lgTurned0 : LoopGood ETurned (vlen sgTurned.heap) (loopN (bodyOf Try.f22) 0) := LoopGood.of (i := 3) (li := liTurned0) (by kernel_rfl) (by kernel_rfl) jTurned0
theorem lgTurned1 : LoopGood ETurned (vlen sgTurned.heap) (loopN (bodyOf Try.f22) 1) := LoopGood.of (i := 6) (li := liTurned1) (by kernel_rfl) (by kernel_rfl) jTurned1
theorem okTurned : SpecOK Try.prog 22 sgTurned phiTurned :=
  spec_of (t := []) (loops := [(3, liTurned0), (6, liTurned1)]) typesOK noMeth_ok .nil Try.func22 (by kernel_rfl) (by kernel_rfl) (by kernel_rfl) (by kernel_rfl)
    (loopsOK_list (l := [loopN (bodyOf Try.f22) 0, loopN (bodyOf Try.f22) 1]) (by kernel_rfl) ⟨lgTurned0, ⟨lgTurned1, trivial⟩⟩) (fun hs xs r w h => (evTurned hs xs).trans (phTurned hs xs r w h))
theorem lgWhole0 : LoopGood EWhole (vlen sgWhole.heap) (loopN (bodyOf Try.f23) 0) := LoopGood.of (i := 5) (li := liWhole0) (by kernel_rfl) (by kernel_rfl) jWhole0
theorem okWhole : SpecOK Try.prog 23 sgWhole phiWhole :=
  spec_of (t := []) (loops := [(5, liWhole0)]) typesOK noMeth_ok .nil Try.func23 (by kernel_rfl) (by kernel_rfl) (by kernel_rfl) (by kernel_rfl)
    (loopsOK_list (l := [loopN (bodyOf Try.f23) 0]) (by kernel_rfl) ⟨lgWhole0, trivial⟩) (fun hs xs r w h => (evWhole hs xs).trans (phWhole hs xs r w h))
theorem okViews : SpecOK Try.prog 5 sgViews phiViews :=
  spec_of (t := [eFirstL, eBases, eMade, eCounts, eFold, eTurned, eSame, eWhole]) (loops := []) typesOK noMeth_ok (.cons okFirstL (by kernel_rfl) (.cons okBases (by kernel_rfl) (.cons okMade (by kernel_rfl) (.cons okCounts (by kernel_rfl) (.cons okFold (by kernel_rfl) (.cons okTurned (by kernel_rfl) (.cons okSame (by kernel_rfl) (.cons okWhole (by kernel_rfl) .nil)))))))) Try.func5 (by kernel_rfl) (by kernel_rfl) (by kernel_rfl) (by kernel_rfl)
    (loopsOK_list (l := []) (by kernel_rfl) trivial) (fun hs xs r w h => (evViews hs xs).trans (phViews hs xs r w h))
theorem lgOneMore0 : LoopGood EOneMore (vlen sgOneMore.heap) (loopN (bodyOf Try.f7) 0) := LoopGood.of (i := 11) (li := liOneMore0) (by kernel_rfl) (by kernel_rfl) jOneMore0
theorem lgOneMore1 : LoopGood EOneMore (vlen sgOneMore.heap) (loopN (bodyOf Try.f7) 1) := LoopGood.of (i := 25) (li := liOneMore1) (by kernel_rfl) (by kernel_rfl) jOneMore1
theorem okOneMore : SpecOK Try.prog 7 sgOneMore phiOneMore :=
  spec_of (t := [eFirstL, eBases, eMade, eCounts, eFold, eSame, eWhole]) (loops := [(11, liOneMore0), (25, liOneMore1)]) typesOK noMeth_ok (.cons okFirstL (by kernel_rfl) (.cons okBases (by kernel_rfl) (.cons okMade (by kernel_rfl) (.cons okCounts (by kernel_rfl) (.cons okFold (by kernel_rfl) (.cons okSame (by kernel_rfl) (.cons okWhole (by kernel_rfl) .nil))))))) Try.func7 (by kernel_rfl) (by kernel_rfl) (by kernel_rfl) (by kernel_rfl)
    (loopsOK_list (l := [loopN (bodyOf Try.f7) 0, loopN (bodyOf Try.f7) 1]) (by kernel_rfl) ⟨lgOneMore0, ⟨lgOneMore1, trivial⟩⟩) (fun hs xs r w h => (evOneMore hs xs).trans (phOneMore hs xs r w h))
end Go.Proofs.Ytkepijaabpkdbaa

/- LedgerViews and LedgerMore hold: for every input of bulk at most 1048576 each answers true and leaves its arguments as they were.
   CONDITION: the second form of the statements ('..UptoSaid'): what the arguments hold is of bulk at most 1048576. -/
namespace Go.Proofs.Ytkepijaabpkdbaa
open Go Go.Ev Go.ChangeShapes Go.WideShapes Go.ChangeAt Go.RowKit
namespace ledgerViews
theorem contract (H : Type) (enc : TypeId × Value → H) (W : World) (base : Nat) (args : Array Value) (ds gs : List (DataW H)) (before : List MemPlace)
    (hval : ∀ (j : Nat) t v, Try.f5.params[j]? = some t → args[j]? = some v → Value.okWide Try.prog W .any base t v)
    (hW : DataW.Whole enc Try.prog Try.f5.params.toList Rows.ledgerViewsSpec.vars false W args.toList ds gs before) (hk : Rows.uptoSmall H (ds ++ gs) = true) :
    Calls Try.prog 5 args W fun e W' => ∃ v, e = .returned v ∧ Rows.ledgerViewsSpec.post enc Try.prog Try.f5 false true false false W args v W' :=
  law_contract (tys := tysViews) (most_ := 1048576) okViews lawPhi_ok
    (by rw [Try.params5]; exact .cons (typesOK.ty _ _ (by kernel_rfl)) (by kernel_rfl) (.cons (typesOK.ty _ _ (by kernel_rfl)) (by kernel_rfl) (.cons (typesOK.ty _ _ (by kernel_rfl)) (by kernel_rfl) (.cons (typesOK.ty _ _ (by kernel_rfl)) (by kernel_rfl) (.cons (typesOK.ty _ _ (by kernel_rfl)) (by kernel_rfl) .nil)))))
    Try.func5 (by kernel_rfl) (by kernel_rfl) kidsOK slicesOK (of_decide_eq_true (by kernel_rfl)) (tb := 4) (by kernel_rfl) Try.underlying4 rfl
    (fun ds hl => by
      rw [Try.params5] at hl
      match ds, hl with
      | [_, _, _, _, _], _ => exact ⟨rfl, rfl, rfl⟩)
    hval hW (Nat.le_trans (bulkWs_eq _) (of_decide_eq_true hk))

set_option maxRecDepth 100000 in
theorem lifted (os : Os) (started : os.Started) (H : Type) (enc : TypeId × Value → H) (F : Stop.Interp) :
    ReturnsInHanded {} Try.checked os 5 .any ((Rows.OpenSpec.upto Rows.ledgerViewsSpec).pre6 enc Try.prog Try.f5 Rows.ledgerViewsUptoRow.domain false) (((Rows.OpenSpec.upto Rows.ledgerViewsSpec).at F).post enc Try.prog Try.f5 false true false false) := by
  refine returnsInHanded_of_cond (C := Try.checked) (s := Rows.OpenSpec.upto Rows.ledgerViewsSpec) (k := Rows.uptoSmall) rfl ownNone started (by kernel_rfl) Try.func5
    (OpenSpec.witness (enc := enc) (C := Try.checked) (s := Rows.OpenSpec.upto Rows.ledgerViewsSpec) (k := Rows.uptoSmall) rfl false ⟨#[], #[.int .i64 0, .int .i64 0, .slice none 0 0, .slice none 0 0, .agg #[.int .i64 0, .int .i64 0]], []⟩ 8 (by kernel_rfl) (by kernel_rfl) (by kernel_rfl)
      (x := ([.lit (.int .i64 0), .lit (.int .i64 0), .nil, .nil, .agg [.lit (.int .i64 0), .lit (.int .i64 0)]], [], [])) (by kernel_rfl) rfl (by kernel_rfl)) ?_
  intro W base args ds gs before hval hW _ hk _
  exact contract H enc W base args ds gs before hval hW hk

theorem proved : Rows.LedgerViewsUptoSaid :=
  OpenClaim.holds_of_cond 5 Try.f5 rfl rfl rfl rfl rfl rfl rfl ⟨rfl, rfl, rfl, rfl, rfl⟩ rfl rfl rfl rfl rfl (by kernel_rfl) Try.func5 (by kernel_rfl)
    (of_decide_eq_true (by kernel_rfl)) (by unfold Func.isWrapper; rw [if_neg (of_decide_eq_false (by kernel_rfl))]; exact ⟨rfl, rfl⟩)
    (fun os started H enc _ F => lifted os started H enc F)
end ledgerViews

namespace ledgerMore
theorem contract (H : Type) (enc : TypeId × Value → H) (W : World) (base : Nat) (args : Array Value) (ds gs : List (DataW H)) (before : List MemPlace)
    (hval : ∀ (j : Nat) t v, Try.f7.params[j]? = some t → args[j]? = some v → Value.okWide Try.prog W .any base t v)
    (hW : DataW.Whole enc Try.prog Try.f7.params.toList Rows.ledgerMoreSpec.vars false W args.toList ds gs before) (hk : Rows.uptoSmall H (ds ++ gs) = true) :
    Calls Try.prog 7 args W fun e W' => ∃ v, e = .returned v ∧ Rows.ledgerMoreSpec.post enc Try.prog Try.f7 false true false false W args v W' :=
  law_contract (tys := tysOneMore) (most_ := 1048576) okOneMore lawPhi_ok
    (by rw [Try.params7]; exact .cons (typesOK.ty _ _ (by kernel_rfl)) (by kernel_rfl) (.cons (typesOK.ty _ _ (by kernel_rfl)) (by kernel_rfl) (.cons (typesOK.ty _ _ (by kernel_rfl)) (by kernel_rfl) (.cons (typesOK.ty _ _ (by kernel_rfl)) (by kernel_rfl) (.cons (typesOK.ty _ _ (by kernel_rfl)) (by kernel_rfl) (.cons (typesOK.ty _ _ (by kernel_rfl)) (by kernel_rfl) .nil))))))
    Try.func7 (by kernel_rfl) (by kernel_rfl) kidsOK slicesOK (of_decide_eq_true (by kernel_rfl)) (tb := 4) (by kernel_rfl) Try.underlying4 rfl
    (fun ds hl => by
      rw [Try.params7] at hl
      match ds, hl with
      | [_, _, _, _, _, _], _ => exact ⟨rfl, rfl, rfl⟩)
    hval hW (Nat.le_trans (bulkWs_eq _) (of_decide_eq_true hk))

set_option maxRecDepth 100000 in
theorem lifted (os : Os) (started : os.Started) (H : Type) (enc : TypeId × Value → H) (F : Stop.Interp) :
    ReturnsInHanded {} Try.checked os 7 .any ((Rows.OpenSpec.upto Rows.ledgerMoreSpec).pre6 enc Try.prog Try.f7 Rows.ledgerMoreUptoRow.domain false) (((Rows.OpenSpec.upto Rows.ledgerMoreSpec).at F).post enc Try.prog Try.f7 false true false false) := by
  refine returnsInHanded_of_cond (C := Try.checked) (s := Rows.OpenSpec.upto Rows.ledgerMoreSpec) (k := Rows.uptoSmall) rfl ownNone started (by kernel_rfl) Try.func7
    (OpenSpec.witness (enc := enc) (C := Try.checked) (s := Rows.OpenSpec.upto Rows.ledgerMoreSpec) (k := Rows.uptoSmall) rfl false ⟨#[], #[.int .i64 0, .int .i64 0, .slice none 0 0, .slice none 0 0, .agg #[.int .i64 0, .int .i64 0], .int .i64 0], []⟩ 8 (by kernel_rfl) (by kernel_rfl) (by kernel_rfl)
      (x := ([.lit (.int .i64 0), .lit (.int .i64 0), .nil, .nil, .agg [.lit (.int .i64 0), .lit (.int .i64 0)], .lit (.int .i64 0)], [], [])) (by kernel_rfl) rfl (by kernel_rfl)) ?_
  intro W base args ds gs before hval hW _ hk _
  exact contract H enc W base args ds gs before hval hW hk

theorem proved : Rows.LedgerMoreUptoSaid :=
  OpenClaim.holds_of_cond 7 Try.f7 rfl rfl rfl rfl rfl rfl rfl ⟨rfl, rfl, rfl, rfl, rfl⟩ rfl rfl rfl rfl rfl (by kernel_rfl) Try.func7 (by kernel_rfl)
    (of_decide_eq_true (by kernel_rfl)) (by unfold Func.isWrapper; rw [if_neg (of_decide_eq_false (by kernel_rfl))]; exact ⟨rfl, rfl⟩)
    (fun os started H enc _ F => lifted os started H enc F)
end ledgerMore
end Go.Proofs.Ytkepijaabpkdbaa
