/- What the functions of the ledger (the program's and the document's answer) make of their data: definitions alone. Sorting, as Go's library does it, over data: definitions alone. What folding makes of its data (the program's and the document's answer): definitions alone. The law's helpers over data: lending, keeping, a little more. Definitions alone. Plain laws of sorting: putting in, merging, parts of lists. The plain law of folding: what the program answers is what the document answers. The law's makers over data (bases, updates, counts), a ledger turned, a whole ledger, and the laws of views and of one more add. Definitions alone. The plain law of views and of one more add: what folding made lists answers, in exact sums. -/
import Derived.Test.YtkepijaabpkdbaaA6
set_option linter.unusedVariables false
set_option linter.unusedSimpArgs false

/- What the functions of the ledger (the program's and the document's answer) make of their data: definitions alone. -/
namespace Go.Proofs.Ytkepijaabpkdbaa
open Go Go.Ev

/-! ### Shapes -/
abbrev sI : Sh := .dat (.int .i64)
abbrev sB : Sh := .dat .bool
abbrev sU : Sh := .dat T_api_Update
abbrev sUs : Sh := .dat (.slice T_api_Update)
abbrev sW : Sh := .dat T_ledger_wide
abbrev sV : Sh := .dat T_escrowref13_Wide
abbrev hM : HSh := .map (.int .i64) (.int .i64)
abbrev rest (l i : D) : List D := l.list.drop i.int.toNat

/-! ### Updates -/
abbrev uKind (u : D) : Int := (u.f 0).int
abbrev uId (u : D) : Int := (u.f 1).int
abbrev uAmt (u : D) : Int := (u.f 2).int
abbrev uNote (u : D) : List UInt8 := (u.f 4).str
def zero32 : D := .r (List.replicate 32 (.i 0))
def valid (u : D) : Bool :=
  !decide (uId u < 0) && !decide (2048 ≤ uId u) && (bif decide (uKind u = 1) then decide (1 ≤ uAmt u) && decide (uAmt u ≤ 1152921504606846976) && decide (uNote u = [])
    else bif decide (uKind u = 2) then decide (uAmt u = 0) && decide (uNote u = [])
    else bif decide (uKind u = 3) then decide (uAmt u = 0) && D.beq (u.f 3) zero32 && decide ((uNote u).length ≤ 64)
    else false)
def sgValid : Sig := ⟨[], [sU], [], [sB]⟩
def phiValid : Phi := fun _ as => .ret ([], [.b (valid (dnth as 0))])
def sgRValid : Sig := ⟨[], [sU], [], [sB]⟩
def phiRValid : Phi := fun _ as => .ret ([], [.b (valid (dnth as 0))])
def sgInvalid : Sig := ⟨[], [sU], [], [sB]⟩
def phiInvalid : Phi := fun _ as => .ret ([], [.b (!valid (dnth as 0))])

/-! ### Amounts -/
def right (a : Int) : Bool := decide (0 ≤ a) && decide (a ≤ 1152921504606846976)
def sgRight : Sig := ⟨[], [sI], [], [sB]⟩
def phiRight : Phi := fun _ as => .ret ([], [.b (right (dnth as 0).int)])
/-- do two amounts have a sum? -/
def sums (a b : Int) : Bool := right a && right b && right (IntKind.wrap .i64 (a + b))
def sgPlus : Sig := ⟨[], [sI, sI], [], [sI, sI]⟩
def phiPlus : Phi := fun _ as => .cond (sums (dnth as 0).int (dnth as 1).int) (.ret ([], [.i (IntKind.wrap .i64 ((dnth as 0).int + (dnth as 1).int)), .i 0])) (.ret ([], [.i 0, .i 80]))
/-- the sum of a list, none where one step fails -/
def sumL : Int → List D → Option Int
  | a, [] => some a
  | a, x :: l => bif sums a x.int then sumL (IntKind.wrap .i64 (a + x.int)) l else none
def sgSum : Sig := ⟨[], [.dat (.slice (.int .i64))], [], [sI, sI]⟩
def phiSum : Phi := fun _ as => .cond (sumL 0 (dnth as 0).list).isSome (.ret ([], [.i ((sumL 0 (dnth as 0).list).getD 0), .i 0])) (.ret ([], [.i 0, .i 80]))
def liSum0 : LoopInfo where
  keep := ⟨[], [(4, sI), (8, .dat (.slice (.int .i64))), (9, sI), (10, sI)]⟩
  ends := [(1, ⟨[], [(4, sI)]⟩), (0, ⟨[], [(2, sI), (3, sI)]⟩)]
  phi := fun _ as => .cond (decide ((dnth as 2).int = ((dnth as 1).list.length : Int)) && decide (0 ≤ (dnth as 3).int))
    (.cond (sumL (dnth as 0).int (rest (dnth as 1) (dnth as 3))).isSome (.ret (.exit 0, [], [.i ((sumL (dnth as 0).int (rest (dnth as 1) (dnth as 3))).getD 0)])) (.ret (.ret, [], [.i 0, .i 80]))) .fail

/-! ### Tests of all -/
def sgIndexI : Sig := ⟨[], [sUs, .fn 29 []], [], [sI]⟩
def indexI : List D → Int → Int
  | [], _ => -1
  | u :: l, i => bif !valid u then i else indexI l (i + 1)
def phiIndexI : Phi := fun _ as => .ret ([], [.i (indexI (dnth as 0).list 0)])
def liIndexI0 : LoopInfo where
  keep := ⟨[], [(0, sUs), (1, .fn 29 []), (7, sI), (8, sI)]⟩
  ends := [(1, ⟨[], []⟩), (0, ⟨[], [(4, sI)]⟩)]
  phi := fun _ as => .cond (decide ((dnth as 2).int = ((dnth as 0).list.length : Int)) && decide (0 ≤ (dnth as 3).int))
    (.cond (decide (indexI (rest (dnth as 0) (dnth as 3)) (dnth as 3).int < 0)) (.ret (.exit 0, [], [])) (.ret (.ret, [], [.i (indexI (rest (dnth as 0) (dnth as 3)) (dnth as 3).int)]))) .fail
def sgContainsI : Sig := ⟨[], [sUs, .fn 29 []], [], [sB]⟩
def phiContainsI : Phi := fun _ as => .ret ([], [.b (!(dnth as 0).list.all valid)])

/-! ### Removals -/
def remStep (es : List (D × D)) (u : D) : List (D × D) :=
  bif !(entry es (.i (uId u))).isSome && !decide (uKind u = 1) && valid u then setEntry es (.i (uId u)) (.i (uKind u)) else es
def sgRemovals : Sig := ⟨[], [sUs], [hM], [.mref 0]⟩
def phiRemovals : Phi := fun _ as => .ret ([ofMap ((dnth as 0).list.foldl remStep [])], [.r []])
def liRemovals0 : LoopInfo where
  keep := ⟨[hM], [(3, .mref 0), (9, sUs), (10, sI), (11, sI)]⟩
  ends := [(1, ⟨[hM], [(3, .mref 0)]⟩)]
  phi := fun hs as => .cond (decide ((dnth as 2).int = ((dnth as 1).list.length : Int)) && decide (0 ≤ (dnth as 3).int))
    (.ret (.exit 0, [ofMap ((rest (dnth as 1) (dnth as 3)).foldl remStep (mapOf (dnth hs 0)))], [.r []])) .fail
/-- what a map of removals says of a number -/
def kindIn (es : List (D × D)) (id : Int) : Int := ((entry es (.i id)).getD (.i 0)).int

/-! ### Wide sums -/
def wPlus (w : D) (a : Int) : D := .r [.i (IntKind.wrap .i64 ((w.f 0).int + ishr .i64 a 30)), .i (IntKind.wrap .i64 ((w.f 1).int + iand .i64 a 1073741823))]
def wMinus (w : D) (a : Int) : D := .r [.i (IntKind.wrap .i64 ((w.f 0).int - ishr .i64 a 30)), .i (IntKind.wrap .i64 ((w.f 1).int - iand .i64 a 1073741823))]
def wUpper (w : D) : Int := IntKind.wrap .i64 ((w.f 0).int + ishr .i64 (w.f 1).int 30)
def wValue (w : D) : Int := bif decide (wUpper w < 0) then -1 else bif decide (1073741824 < wUpper w) then 1152921504606846977 else ior .i64 (ishl .i64 (wUpper w) 30) (iand .i64 (w.f 1).int 1073741823)
def wZero : D := .r [.i 0, .i 0]
def sgWPlus : Sig := ⟨[], [sW, sI], [], [sW]⟩
def phiWPlus : Phi := fun _ as => .ret ([], [wPlus (dnth as 0) (dnth as 1).int])
def sgWMinus : Sig := ⟨[], [sW, sI], [], [sW]⟩
def phiWMinus : Phi := fun _ as => .ret ([], [wMinus (dnth as 0) (dnth as 1).int])
def sgWValue : Sig := ⟨[], [sW], [], [sI]⟩
def phiWValue : Phi := fun _ as => .ret ([], [.i (wValue (dnth as 0))])

/-! ### The other wide sums (the document's answer) -/
def vPlus (w : D) (a : Int) : D := bif decide (a = 1152921504606846976) then .r [.i (IntKind.wrap .i64 ((w.f 0).int + 1)), .i (w.f 1).int]
  else bif decide (1152921504606846976 ≤ IntKind.wrap .i64 ((w.f 1).int + a)) then .r [.i (IntKind.wrap .i64 ((w.f 0).int + 1)), .i (IntKind.wrap .i64 (IntKind.wrap .i64 ((w.f 1).int + a) - 1152921504606846976))]
  else .r [.i (w.f 0).int, .i (IntKind.wrap .i64 ((w.f 1).int + a))]
def vMinus (w : D) (a : Int) : D := bif decide (a = 1152921504606846976) then .r [.i (IntKind.wrap .i64 ((w.f 0).int - 1)), .i (w.f 1).int]
  else bif decide (IntKind.wrap .i64 ((w.f 1).int - a) < 0) then .r [.i (IntKind.wrap .i64 ((w.f 0).int - 1)), .i (IntKind.wrap .i64 (IntKind.wrap .i64 ((w.f 1).int - a) + 1152921504606846976))]
  else .r [.i (w.f 0).int, .i (IntKind.wrap .i64 ((w.f 1).int - a))]
def vCut (w : D) : Int := bif decide ((w.f 0).int < 0) then 0 else bif decide (0 < (w.f 0).int) then 1152921504606846976 else (w.f 1).int
def sgVPlus : Sig := ⟨[], [sV, sI], [], [sV]⟩
def phiVPlus : Phi := fun _ as => .ret ([], [vPlus (dnth as 0) (dnth as 1).int])
def sgVMinus : Sig := ⟨[], [sV, sI], [], [sV]⟩
def phiVMinus : Phi := fun _ as => .ret ([], [vMinus (dnth as 0) (dnth as 1).int])
def sgVCut : Sig := ⟨[], [sV], [], [sI]⟩
def phiVCut : Phi := fun _ as => .ret ([], [.i (vCut (dnth as 0))])
def sgRAmount : Sig := ⟨[], [sI], [], [sB]⟩
def phiRAmount : Phi := fun _ as => .ret ([], [.b (right (dnth as 0).int)])

/-! ### Beginnings of lists -/
def firstN (l : List D) (n : Int) : List D := l.take n.toNat
def sgFirst : Sig := ⟨[], [sUs, sI], [], [sUs]⟩
def phiFirst : Phi := fun _ as => .ret ([], [.r (firstN (dnth as 0).list (dnth as 1).int)])
def sgRFirst : Sig := ⟨[], [sUs, sI], [], [sUs]⟩
def phiRFirst : Phi := fun _ as => .ret ([], [.r (firstN (dnth as 0).list (dnth as 1).int)])

/-! ### Amounts of adds -/
def addsIf (take : Int → Bool) (l : List D) : List D := (l.filter fun u => decide (uKind u = 1) && valid u && take (uId u)).map fun u => .i (uAmt u)
abbrev hCl : List HSh := [.box (.map (.int .i64) (.int .i64)) (.mref 1), hM]
abbrev shCl (g : Nat) : Sh := .fn g [.ref 0 (.map (.int .i64) (.int .i64))]
def sgCl3 : Sig := ⟨hCl, [sI, .ref 0 (.map (.int .i64) (.int .i64))], hCl, [sB]⟩
def phiCl3 : Phi := fun hs as => .ret ([.r [], ofMap (mapOf (dnth hs 1))], [.b (!decide (kindIn (mapOf (dnth hs 1)) (dnth as 0).int = 3))])
def sgCl2 : Sig := sgCl3
def phiCl2 : Phi := fun hs as => .ret ([.r [], ofMap (mapOf (dnth hs 1))], [.b (decide (kindIn (mapOf (dnth hs 1)) (dnth as 0).int = 2))])
def sgCl0 : Sig := sgCl3
def phiCl0 : Phi := fun hs as => .ret ([.r [], ofMap (mapOf (dnth hs 1))], [.b (decide (kindIn (mapOf (dnth hs 1)) (dnth as 0).int = 0))])
def sgAdds3 : Sig := ⟨hCl, [sUs, shCl 41], hCl, [.own (.int .i64)]⟩
def sgAdds2 : Sig := ⟨hCl, [sUs, shCl 43], hCl, [.own (.int .i64)]⟩
def sgAdds0 : Sig := ⟨hCl, [sUs, shCl 44], hCl, [.own (.int .i64)]⟩
def phiAdds (test : List (D × D) → Int → Bool) : Phi := fun hs as => .cond (decide ((dnth as 0).list.length ≤ mostElems)) (.ret ([.r [], ofMap (mapOf (dnth hs 1))], [.r (addsIf (test (mapOf (dnth hs 1))) (dnth as 0).list)])) .fail
def test3 (es : List (D × D)) (id : Int) : Bool := !decide (kindIn es id = 3)
def test2 (es : List (D × D)) (id : Int) : Bool := decide (kindIn es id = 2)
def test0 (es : List (D × D)) (id : Int) : Bool := decide (kindIn es id = 0)
def phiAdds3 : Phi := phiAdds test3
def phiAdds2 : Phi := phiAdds test2
def phiAdds0 : Phi := phiAdds test0
def liAdds (g : Nat) (test : List (D × D) → Int → Bool) : LoopInfo where
  keep := ⟨hCl, [(1, shCl g), (5, .own (.int .i64)), (8, sUs), (9, sI), (10, sI)]⟩
  ends := [(1, ⟨hCl, [(5, .own (.int .i64))]⟩)]
  phi := fun hs as => .cond (decide ((dnth as 3).int = ((dnth as 2).list.length : Int)) && decide (0 ≤ (dnth as 4).int) && decide ((dnth as 1).list.length + (rest (dnth as 2) (dnth as 4)).length ≤ mostElems))
    (.ret (.exit 0, [.r [], ofMap (mapOf (dnth hs 1))], [.r ((dnth as 1).list ++ addsIf (test (mapOf (dnth hs 1))) (rest (dnth as 2) (dnth as 4)))])) .fail
def liAdds30 : LoopInfo := liAdds 41 test3
def liAdds20 : LoopInfo := liAdds 43 test2
def liAdds00 : LoopInfo := liAdds 44 test0

end Go.Proofs.Ytkepijaabpkdbaa

/- Sorting, as Go's library does it, over data: definitions alone. -/
namespace Go.Proofs.Ytkepijaabpkdbaa
open Go Go.Ev

abbrev sP : Sh := .dat T_api_Pending
abbrev hP : HSh := .row T_api_Pending
abbrev sCmp : Sh := .fn 56 []
abbrev pId (p : D) : Int := (p.f 1).int

def cmpI (x y : Int) : Int := bif decide (x < y) then -1 else bif decide (y < x) then 1 else 0
def sgIsNaN : Sig := ⟨[], [sI], [], [sB]⟩
def phiIsNaN : Phi := fun _ _ => .ret ([], [.b false])
def sgCompare : Sig := ⟨[], [sI, sI], [], [sI]⟩
def phiCompare : Phi := fun _ as => .ret ([], [.i (cmpI (dnth as 0).int (dnth as 1).int)])
def sgById : Sig := ⟨[], [sP, sP], [], [sI]⟩
def phiById : Phi := fun _ as => .ret ([], [.i (cmpI (pId (dnth as 0)) (pId (dnth as 1)))])

/-- into its place by number, behind those of the same -/
def insR (x : D) : List D → List D
  | [] => [x]
  | y :: l => bif decide (pId x < pId y) then x :: y :: l else y :: insR x l
/-- a list with another put in, one by one -/
def mergeD (u v : List D) : List D := v.foldl (fun acc x => insR x acc) u
def isort (l : List D) : List D := mergeD [] l
def sortedD : List D → Bool
  | [] => true
  | x :: l => l.all (fun y => decide (pId x ≤ pId y)) && sortedD l
def seg (xs : List D) (a b : Nat) : List D := (xs.drop a).take (b - a)

def swapD (xs : List D) (i j : Nat) : List D := dput (dput xs i (dnth xs j)) j (dnth xs i)
def insBack (a : Nat) : Nat → List D → List D
  | 0, xs => xs
  | j + 1, xs => bif decide (a < j + 1) && decide (pId (dnth xs (j + 1)) < pId (dnth xs j)) then insBack a j (swapD xs (j + 1) j) else xs
def insAll (a : Nat) : Nat → Nat → List D → List D
  | 0, _, xs => xs
  | n + 1, i, xs => insAll a n (i + 1) (insBack a i xs)

def sgInsert : Sig := ⟨[hP], [.rall 0 T_api_Pending, sI, sI, sCmp], [hP], []⟩
def insOK (n : Nat) (a b : Int) : Bool := decide (0 ≤ a) && decide (a ≤ b) && decide (b ≤ (n : Int)) && decide (n ≤ 4294967296)
def phiInsert : Phi := fun hs as => .cond (insOK (dnth hs 0).list.length (dnth as 1).int (dnth as 2).int)
  (.ret ([.r ((dnth hs 0).list.take (dnth as 1).int.toNat ++ isort (seg (dnth hs 0).list (dnth as 1).int.toNat (dnth as 2).int.toNat) ++ (dnth hs 0).list.drop (dnth as 2).int.toNat)], [])) .fail
def liInsert0 : LoopInfo where
  keep := ⟨[hP], [(0, .rall 0 T_api_Pending), (1, sI), (2, sI), (3, sCmp), (8, sI)]⟩
  ends := [(1, ⟨[hP], []⟩)]
  phi := fun hs as => .cond (insOK (dnth hs 0).list.length (dnth as 1).int (dnth as 2).int && decide ((dnth as 1).int < (dnth as 4).int))
    (.ret (.exit 0, [.r (insAll (dnth as 1).int.toNat ((dnth as 2).int - (dnth as 4).int).toNat (dnth as 4).int.toNat (dnth hs 0).list)], [])) .fail
def liInsert1 : LoopInfo where
  keep := ⟨[hP], [(0, .rall 0 T_api_Pending), (1, sI), (2, sI), (3, sCmp), (8, sI), (9, sI)]⟩
  ends := [(3, ⟨[hP], [(0, .rall 0 T_api_Pending), (1, sI), (2, sI), (3, sCmp), (8, sI)]⟩)]
  phi := fun hs as => .cond (insOK (dnth hs 0).list.length (dnth as 1).int (dnth as 5).int && decide ((dnth as 5).int < ((dnth hs 0).list.length : Int)))
    (.ret (.exit 2, [.r (insBack (dnth as 1).int.toNat (dnth as 5).int.toNat (dnth hs 0).list)], [.r [], .i (dnth as 1).int, .i (dnth as 2).int, .r [], .i (dnth as 4).int])) .fail

/-- two parts of one length exchanged -/
def swapR (xs : List D) (a b n : Nat) : List D := xs.take a ++ seg xs b (b + n) ++ seg xs (a + n) b ++ seg xs a (a + n) ++ xs.drop (b + n)
def swapGo (a b : Nat) : Nat → Nat → List D → List D
  | 0, _, xs => xs
  | n + 1, i, xs => swapGo a b n (i + 1) (swapD xs (a + i) (b + i))
def sgSwapR : Sig := ⟨[hP], [.rall 0 T_api_Pending, sI, sI, sI, sCmp], [hP], []⟩
def swapOK (len : Nat) (a b n : Int) : Bool := decide (0 ≤ a) && decide (0 ≤ n) && decide (a + n ≤ b) && decide (b + n ≤ (len : Int))
def phiSwapR : Phi := fun hs as => .cond (swapOK (dnth hs 0).list.length (dnth as 1).int (dnth as 2).int (dnth as 3).int)
  (.ret ([.r (swapR (dnth hs 0).list (dnth as 1).int.toNat (dnth as 2).int.toNat (dnth as 3).int.toNat)], [])) .fail
def liSwapR0 : LoopInfo where
  keep := ⟨[hP], [(0, .rall 0 T_api_Pending), (1, sI), (2, sI), (3, sI), (10, sI)]⟩
  ends := [(1, ⟨[hP], []⟩)]
  phi := fun hs as => .cond (swapOK (dnth hs 0).list.length (dnth as 1).int (dnth as 2).int (dnth as 3).int && decide (0 ≤ (dnth as 4).int))
    (.ret (.exit 0, [.r (swapGo (dnth as 1).int.toNat (dnth as 2).int.toNat ((dnth as 3).int - (dnth as 4).int).toNat (dnth as 4).int.toNat (dnth hs 0).list)], [])) .fail

/-- two neighbours exchanged -/
def sgRotate : Sig := ⟨[hP], [.rall 0 T_api_Pending, sI, sI, sI, sCmp], [hP], []⟩
def rotR (xs : List D) (a m b : Nat) : List D := xs.take a ++ seg xs m b ++ seg xs a m ++ xs.drop b
def rotOK (len : Nat) (a m b : Int) : Bool := decide (0 ≤ a) && decide (a < m) && decide (m < b) && decide (b ≤ (len : Int))
def phiRotate : Phi := fun hs as => .cond (rotOK (dnth hs 0).list.length (dnth as 1).int (dnth as 2).int (dnth as 3).int)
  (.ret ([.r (rotR (dnth hs 0).list (dnth as 1).int.toNat (dnth as 2).int.toNat (dnth as 3).int.toNat)], [])) .fail
def rotGo (m : Nat) : Nat → Nat → Nat → List D → List D × Nat
  | 0, i, _, xs => (xs, i)
  | n + 1, i, j, xs => bif decide (i = j) then (xs, i) else bif decide (j < i) then rotGo m n (i - j) j (swapR xs (m - i) m j) else rotGo m n i (j - i) (swapR xs (m - i) (m + j - i) i)
def rotAt (len : Nat) (m i j : Int) : Bool := decide (0 < i) && decide (0 < j) && decide (i ≤ m) && decide (m + j ≤ (len : Int))
def liRotate0 : LoopInfo where
  keep := ⟨[hP], [(0, .rall 0 T_api_Pending), (2, sI), (4, sCmp), (10, sI), (11, sI)]⟩
  ends := [(1, ⟨[hP], [(0, .rall 0 T_api_Pending), (2, sI), (4, sCmp), (10, sI)]⟩)]
  phi := fun hs as => .cond (rotAt (dnth hs 0).list.length (dnth as 1).int (dnth as 3).int (dnth as 4).int)
    (.ret (.exit 0, [.r (rotGo (dnth as 1).int.toNat ((dnth as 3).int.toNat + (dnth as 4).int.toNat) (dnth as 3).int.toNat (dnth as 4).int.toNat (dnth hs 0).list).1],
      [.r [], .i (dnth as 1).int, .r [], .i ((rotGo (dnth as 1).int.toNat ((dnth as 3).int.toNat + (dnth as 4).int.toNat) (dnth as 3).int.toNat (dnth as 4).int.toNat (dnth hs 0).list).2 : Int)])) .fail

/-- the first place where a test falls, halving -/
def halve (p : Nat → Bool) : Nat → Nat → Nat → Nat
  | 0, i, _ => i
  | n + 1, i, j => bif decide (i < j) then (bif p ((i + j) / 2) then halve p n ((i + j) / 2 + 1) j else halve p n i ((i + j) / 2)) else i

/-- a walk of one element forward, and back -/
def walkUp : Nat → Nat → List D → List D
  | 0, _, xs => xs
  | n + 1, k, xs => walkUp n (k + 1) (swapD xs k (k + 1))
def walkDown : Nat → Nat → List D → List D
  | 0, _, xs => xs
  | n + 1, k, xs => walkDown n (k - 1) (swapD xs k (k - 1))

def sgSym : Sig := ⟨[hP], [.rall 0 T_api_Pending, sI, sI, sI, sCmp], [hP], []⟩
def symOK (xs : List D) (a m b : Int) : Bool := rotOK xs.length a m b && decide (xs.length ≤ 4294967296) && sortedD (seg xs a.toNat m.toNat) && sortedD (seg xs m.toNat b.toNat)
def symR (xs : List D) (a m b : Nat) : List D := xs.take a ++ mergeD (seg xs a m) (seg xs m b) ++ xs.drop b
/-- the contract for lengths below a bound: a call of itself is of a shorter one -/
def phiSymN (bd : Nat) : Phi := fun hs as => .cond (symOK (dnth hs 0).list (dnth as 1).int (dnth as 2).int (dnth as 3).int && decide (((dnth as 3).int - (dnth as 1).int).toNat < bd))
  (.ret ([.r (symR (dnth hs 0).list (dnth as 1).int.toNat (dnth as 2).int.toNat (dnth as 3).int.toNat)], [])) .fail
def phiSym : Phi := fun hs as => .cond (symOK (dnth hs 0).list (dnth as 1).int (dnth as 2).int (dnth as 3).int)
  (.ret ([.r (symR (dnth hs 0).list (dnth as 1).int.toNat (dnth as 2).int.toNat (dnth as 3).int.toNat)], [])) .fail

def inRow (len : Nat) (i j : Int) : Bool := decide (0 ≤ i) && decide (i ≤ j) && decide (j ≤ (len : Int))
def liSym0 : LoopInfo where     -- region 3
  keep := ⟨[hP], [(0, .rall 0 T_api_Pending), (1, sI), (4, sCmp), (10, sI), (11, sI)]⟩
  ends := [(1, ⟨[hP], [(0, .rall 0 T_api_Pending), (1, sI), (10, sI)]⟩)]
  phi := fun hs as => .cond (inRow (dnth hs 0).list.length (dnth as 3).int (dnth as 4).int && decide (0 ≤ (dnth as 1).int) && decide ((dnth as 1).int < ((dnth hs 0).list.length : Int)))
    (.ret (.exit 0, [.r (dnth hs 0).list], [.r [], .i (dnth as 1).int, .i (halve (fun h => decide (pId (dnth (dnth hs 0).list h) < pId (dnth (dnth hs 0).list (dnth as 1).int.toNat))) ((dnth as 4).int - (dnth as 3).int).toNat (dnth as 3).int.toNat (dnth as 4).int.toNat : Int)])) .fail
def liSym1 : LoopInfo where     -- region 9
  keep := ⟨[hP], [(0, .rall 0 T_api_Pending), (10, sI), (13, sI)]⟩
  ends := [(3, ⟨[hP], []⟩)]
  phi := fun hs as => .cond (decide (0 ≤ (dnth as 2).int) && decide (0 ≤ (dnth as 1).int) && decide ((dnth as 1).int ≤ ((dnth hs 0).list.length : Int)))
    (.ret (.exit 2, [.r (walkUp ((dnth as 1).int - 1 - (dnth as 2).int).toNat (dnth as 2).int.toNat (dnth hs 0).list)], [])) .fail
def liSym2 : LoopInfo where     -- region 15
  keep := ⟨[hP], [(0, .rall 0 T_api_Pending), (2, sI), (4, sCmp), (14, sI), (15, sI)]⟩
  ends := [(5, ⟨[hP], [(0, .rall 0 T_api_Pending), (2, sI), (14, sI)]⟩)]
  phi := fun hs as => .cond (inRow (dnth hs 0).list.length (dnth as 3).int (dnth as 4).int && decide (0 ≤ (dnth as 1).int) && decide ((dnth as 1).int < ((dnth hs 0).list.length : Int)))
    (.ret (.exit 4, [.r (dnth hs 0).list], [.r [], .i (dnth as 1).int, .i (halve (fun h => !decide (pId (dnth (dnth hs 0).list (dnth as 1).int.toNat) < pId (dnth (dnth hs 0).list h))) ((dnth as 4).int - (dnth as 3).int).toNat (dnth as 3).int.toNat (dnth as 4).int.toNat : Int)])) .fail
def liSym3 : LoopInfo where     -- region 21
  keep := ⟨[hP], [(0, .rall 0 T_api_Pending), (14, sI), (17, sI)]⟩
  ends := [(7, ⟨[hP], []⟩)]
  phi := fun hs as => .cond (decide (0 ≤ (dnth as 1).int) && decide ((dnth as 2).int < ((dnth hs 0).list.length : Int)))
    (.ret (.exit 6, [.r (walkDown ((dnth as 2).int - (dnth as 1).int).toNat (dnth as 2).int.toNat (dnth hs 0).list)], [])) .fail
def liSym4 : LoopInfo where     -- region 33
  keep := ⟨[hP], [(0, .rall 0 T_api_Pending), (1, sI), (2, sI), (3, sI), (4, sCmp), (18, sI), (19, sI), (20, sI), (21, sI), (22, sI)]⟩
  ends := [(9, ⟨[hP], [(0, .rall 0 T_api_Pending), (1, sI), (2, sI), (3, sI), (4, sCmp), (18, sI), (19, sI), (20, sI)]⟩)]
  phi := fun hs as => .cond (inRow (dnth hs 0).list.length (dnth as 7).int (dnth as 8).int && decide ((dnth as 8).int ≤ (dnth as 9).int + 1) && decide ((dnth as 9).int - (dnth as 7).int < ((dnth hs 0).list.length : Int)))
    (.ret (.exit 8, [.r (dnth hs 0).list], [.r [], .i (dnth as 1).int, .i (dnth as 2).int, .i (dnth as 3).int, .r [], .i (dnth as 5).int, .i (dnth as 6).int,
      .i (halve (fun c => !decide (pId (dnth (dnth hs 0).list ((dnth as 9).int - (c : Int)).toNat) < pId (dnth (dnth hs 0).list c))) ((dnth as 8).int - (dnth as 7).int).toNat (dnth as 7).int.toNat (dnth as 8).int.toNat : Int)])) .fail

/-- blocks of twenty, then of twice as many -/
def sgStable : Sig := ⟨[hP], [.rall 0 T_api_Pending, sI, sCmp], [hP], []⟩
def phiStable : Phi := fun hs as => .cond (decide ((dnth as 1).int = ((dnth hs 0).list.length : Int)) && decide ((dnth hs 0).list.length ≤ mostElems))
  (.ret ([.r (isort (dnth hs 0).list)], [])) .fail
def sgSort : Sig := ⟨[hP], [.rall 0 T_api_Pending, sCmp], [hP], []⟩
def phiSort : Phi := fun hs _ => .cond (decide ((dnth hs 0).list.length ≤ mostElems)) (.ret ([.r (isort (dnth hs 0).list)], [])) .fail

/-- blocks of twenty sorted, what is left at the end not -/
def passA (R : List D) : List D := if h : 20 ≤ R.length then isort (R.take 20) ++ passA (R.drop 20) else R
termination_by R.length
decreasing_by simp; omega
/-- two blocks merged each, what is left at the end not -/
def passC (s : Nat) (R : List D) : List D := if h : 0 < s ∧ 2 * s ≤ R.length then mergeD (R.take s) ((R.drop s).take s) ++ passC s (R.drop (2 * s)) else R
termination_by R.length
decreasing_by simp; omega
/-- each block of so many is sorted -/
def blkSorted (s : Nat) (R : List D) : Bool := if h : 0 < s ∧ s < R.length then sortedD (R.take s) && blkSorted s (R.drop s) else sortedD R
termination_by R.length
decreasing_by simp; omega
def okNM (xs : List D) (n : Int) : Bool := decide (n = (xs.length : Int)) && decide (xs.length ≤ 4294967296)
def liStable0 : LoopInfo where    -- region 2: a, b = a + 20
  keep := ⟨[hP], [(0, .rall 0 T_api_Pending), (1, sI), (2, sCmp), (6, sI), (7, sI), (8, sI)]⟩
  ends := [(1, ⟨[hP], [(0, .rall 0 T_api_Pending), (1, sI), (2, sCmp), (6, sI), (7, sI)]⟩)]
  phi := fun hs as => .cond (okNM (dnth hs 0).list (dnth as 1).int && decide ((dnth as 3).int = 20) && decide (0 ≤ (dnth as 4).int) && decide ((dnth as 4).int ≤ (dnth as 1).int) && decide ((dnth as 5).int = (dnth as 4).int + 20))
    (.ret (.exit 0, [.r ((dnth hs 0).list.take (dnth as 4).int.toNat ++ passA ((dnth hs 0).list.drop (dnth as 4).int.toNat))],
      [.r [], .i (dnth as 1).int, .r [], .i 20, .i ((dnth as 4).int + 20 * (((dnth as 1).int - (dnth as 4).int) / 20))])) .fail
def liStable1 : LoopInfo where    -- region 7
  keep := ⟨[hP], [(0, .rall 0 T_api_Pending), (1, sI), (2, sCmp), (6, sI)]⟩
  ends := [(3, ⟨[hP], []⟩)]
  phi := fun hs as => .cond (okNM (dnth hs 0).list (dnth as 1).int && decide (0 < (dnth as 3).int) && blkSorted (dnth as 3).int.toNat (dnth hs 0).list)
    (.ret (.exit 2, [.r (isort (dnth hs 0).list)], [])) .fail
def liStable2 : LoopInfo where    -- region 9
  keep := ⟨[hP], [(0, .rall 0 T_api_Pending), (1, sI), (2, sCmp), (6, sI), (7, sI), (8, sI)]⟩
  ends := [(5, ⟨[hP], [(0, .rall 0 T_api_Pending), (1, sI), (2, sCmp), (6, sI), (7, sI)]⟩)]
  phi := fun hs as => .cond (okNM (dnth hs 0).list (dnth as 1).int && decide (0 < (dnth as 3).int) && decide (0 ≤ (dnth as 4).int) && decide ((dnth as 4).int ≤ (dnth as 1).int) && decide ((dnth as 5).int = (dnth as 4).int + 2 * (dnth as 3).int)
      && decide ((dnth as 3).int < (dnth as 1).int) && blkSorted (dnth as 3).int.toNat ((dnth hs 0).list.drop (dnth as 4).int.toNat))
    (.ret (.exit 4, [.r ((dnth hs 0).list.take (dnth as 4).int.toNat ++ passC (dnth as 3).int.toNat ((dnth hs 0).list.drop (dnth as 4).int.toNat))],
      [.r [], .i (dnth as 1).int, .r [], .i (dnth as 3).int, .i ((dnth as 4).int + 2 * (dnth as 3).int * (((dnth as 1).int - (dnth as 4).int) / (2 * (dnth as 3).int)))])) .fail

end Go.Proofs.Ytkepijaabpkdbaa

/- What folding makes of its data (the program's and the document's answer): definitions alone. -/
namespace Go.Proofs.Ytkepijaabpkdbaa
open Go Go.Ev

/-- an add that is open -/
def pend (mine : Bool) (u : D) : D := .r [.b mine, .i (uId u), .i (uAmt u), u.f 3]
abbrev St3 := D × D × List D

/-! ### The program's side -/
def partF (es : List (D × D)) (mine : Bool) (s : St3) (u : D) : St3 :=
  bif !decide (uKind u = 1) || decide (kindIn es (uId u) = 3) then s
  else bif decide (kindIn es (uId u) = 2) then (wMinus s.1 (uAmt u), wPlus s.2.1 (uAmt u), s.2.2)
  else (wMinus s.1 (uAmt u), s.2.1, s.2.2 ++ [pend mine u])
def partG (es : List (D × D)) (mine : Bool) (own other : D) (open_ : List D) (l : List D) : St3 := l.foldl (partF es mine) (own, other, open_)
def sgPart : Sig := ⟨[hM], [sUs, .mref 0, sB, sW, sW], [hM], [sW, sW, .own T_api_Pending]⟩
def partL (es : List (D × D)) (mine : Bool) (own other : D) (l : List D) : St3 := partG es mine own other [] l
def phiPart : Phi := fun hs as => .cond (decide ((dnth as 0).list.length ≤ 4294967296))
  (.ret ([ofMap (mapOf (dnth hs 0))], [(partL (mapOf (dnth hs 0)) (dnth as 2).bool (dnth as 3) (dnth as 4) (dnth as 0).list).1, (partL (mapOf (dnth hs 0)) (dnth as 2).bool (dnth as 3) (dnth as 4) (dnth as 0).list).2.1,
    .r (isort (partL (mapOf (dnth hs 0)) (dnth as 2).bool (dnth as 3) (dnth as 4) (dnth as 0).list).2.2)])) .fail
abbrev hW : HSh := .box T_ledger_wide sW
abbrev hPart : List HSh := [hM, hW, hW, hW, hW]
def liPart0 : LoopInfo where
  keep := ⟨hPart, [(1, .mref 0), (2, sB), (8, .ref 1 T_ledger_wide), (9, .ref 2 T_ledger_wide), (10, .ref 3 T_ledger_wide), (11, .ref 4 T_ledger_wide), (13, .own T_api_Pending), (16, sUs), (17, sI), (18, sI)]⟩
  ends := [(1, ⟨hPart, [(8, .ref 1 T_ledger_wide), (9, .ref 2 T_ledger_wide), (10, .ref 3 T_ledger_wide), (11, .ref 4 T_ledger_wide), (13, .own T_api_Pending)]⟩)]
  phi := fun hs as => .cond (decide ((dnth as 8).int = ((dnth as 7).list.length : Int)) && decide (0 ≤ (dnth as 9).int) && decide ((dnth as 6).list.length + (rest (dnth as 7) (dnth as 9)).length ≤ 4294967296))
    (.ret (.exit 0, [ofMap (mapOf (dnth hs 0)), (partG (mapOf (dnth hs 0)) (dnth as 1).bool (dnth hs 1) (dnth hs 2) (dnth as 6).list (rest (dnth as 7) (dnth as 9))).1,
        (partG (mapOf (dnth hs 0)) (dnth as 1).bool (dnth hs 1) (dnth hs 2) (dnth as 6).list (rest (dnth as 7) (dnth as 9))).2.1, dnth hs 3, dnth hs 4],
      [.r [], .r [], .r [], .r [], .r (partG (mapOf (dnth hs 0)) (dnth as 1).bool (dnth hs 1) (dnth hs 2) (dnth as 6).list (rest (dnth as 7) (dnth as 9))).2.2])) .fail

/-! ### The document's side -/
def isRem (id : Int) (u : D) : Bool := !decide (uKind u = 1) && decide (uId u = id) && valid u
def firstRem (id : Int) (l : List D) : Int := ((l.find? (isRem id)).map uKind).getD 0
def sgRemoved : Sig := ⟨[], [sUs, sI], [], [sI]⟩
def phiRemoved : Phi := fun _ as => .ret ([], [.i (firstRem (dnth as 1).int (dnth as 0).list)])
def liRemoved0 : LoopInfo where
  keep := ⟨[], [(0, sUs), (1, sI), (5, sI)]⟩
  ends := [(1, ⟨[], []⟩), (0, ⟨[], [(4, sI)]⟩)]
  phi := fun _ as => .cond (decide (0 ≤ (dnth as 2).int))
    (.cond ((rest (dnth as 0) (dnth as 2)).any (isRem (dnth as 1).int)) (.ret (.ret, [], [.i (firstRem (dnth as 1).int (rest (dnth as 0) (dnth as 2)))])) (.ret (.exit 0, [], []))) .fail
def sgAllValid : Sig := ⟨[], [sUs], [], [sB]⟩
def phiAllValid : Phi := fun _ as => .ret ([], [.b ((dnth as 0).list.all valid)])
def liAllValid0 : LoopInfo where
  keep := ⟨[], [(0, sUs), (3, sI)]⟩
  ends := [(1, ⟨[], []⟩), (0, ⟨[], [(2, sB)]⟩)]
  phi := fun _ as => .cond (decide (0 ≤ (dnth as 1).int))
    (.cond ((rest (dnth as 0) (dnth as 1)).all valid) (.ret (.exit 0, [], [])) (.ret (.ret, [], [.b false]))) .fail

def placeL (p : D) : Bool → List D → List D × Bool
  | d, [] => ([], d)
  | d, y :: l => bif !d && decide (pId p < pId y) then (p :: y :: (placeL p true l).1, (placeL p true l).2) else (y :: (placeL p d l).1, (placeL p d l).2)
def sgPlaced : Sig := ⟨[], [.dat (.slice T_api_Pending), sP], [], [.own T_api_Pending]⟩
def phiPlaced : Phi := fun _ as => .cond (decide ((dnth as 0).list.length + 1 ≤ 4294967296)) (.ret ([], [.r (insR (dnth as 1) (dnth as 0).list)])) .fail
def liPlaced0 : LoopInfo where
  keep := ⟨[.box T_api_Pending sP], [(0, .dat (.slice T_api_Pending)), (3, .ref 0 T_api_Pending), (5, .own T_api_Pending), (6, sB), (7, sI)]⟩
  ends := [(1, ⟨[.box T_api_Pending sP], [(3, .ref 0 T_api_Pending), (5, .own T_api_Pending), (6, sB)]⟩)]
  phi := fun hs as => .cond (decide (0 ≤ (dnth as 4).int) && decide ((dnth as 2).list.length + (rest (dnth as 0) (dnth as 4)).length + (bif (dnth as 3).bool then 0 else 1) ≤ 4294967296))
    (.ret (.exit 0, [dnth hs 0], [.r [], .r ((dnth as 2).list ++ (placeL (dnth hs 0) (dnth as 3).bool (rest (dnth as 0) (dnth as 4))).1), .b (placeL (dnth hs 0) (dnth as 3).bool (rest (dnth as 0) (dnth as 4))).2])) .fail

def sideF (b : List D) (ours : Bool) (s : St3) (u : D) : St3 :=
  bif !decide (uKind u = 1) then s
  else bif decide (firstRem (uId u) b = 2) then (vMinus s.1 (uAmt u), vPlus s.2.1 (uAmt u), s.2.2)
  else bif decide (firstRem (uId u) b = 0) then (vMinus s.1 (uAmt u), s.2.1, insR (pend ours u) s.2.2)
  else s
def sideG (b : List D) (ours : Bool) (mine other : D) (open_ : List D) (l : List D) : St3 := l.foldl (sideF b ours) (mine, other, open_)
def sideL (b : List D) (ours : Bool) (mine other : D) (l : List D) : St3 := sideG b ours mine other [] l
def sgSide : Sig := ⟨[], [sV, sV, sUs, sUs, sB], [], [sV, sV, .own T_api_Pending]⟩
def phiSide : Phi := fun _ as => .cond (decide ((dnth as 2).list.length ≤ 4294967296))
  (.ret ([], [(sideL (dnth as 3).list (dnth as 4).bool (dnth as 0) (dnth as 1) (dnth as 2).list).1, (sideL (dnth as 3).list (dnth as 4).bool (dnth as 0) (dnth as 1) (dnth as 2).list).2.1,
    .r (sideL (dnth as 3).list (dnth as 4).bool (dnth as 0) (dnth as 1) (dnth as 2).list).2.2])) .fail
abbrev hV : HSh := .box T_escrowref13_Wide sV
def liSide0 : LoopInfo where
  keep := ⟨[hV, hV, hV, hV], [(2, sUs), (3, sUs), (4, sB), (5, .ref 0 T_escrowref13_Wide), (6, .ref 1 T_escrowref13_Wide), (10, .ref 2 T_escrowref13_Wide), (11, .ref 3 T_escrowref13_Wide), (13, .own T_api_Pending), (14, sI)]⟩
  ends := [(1, ⟨[hV, hV, hV, hV], [(5, .ref 0 T_escrowref13_Wide), (6, .ref 1 T_escrowref13_Wide), (10, .ref 2 T_escrowref13_Wide), (11, .ref 3 T_escrowref13_Wide), (13, .own T_api_Pending)]⟩)]
  phi := fun hs as => .cond (decide (0 ≤ (dnth as 8).int) && decide ((dnth as 7).list.length + (rest (dnth as 0) (dnth as 8)).length ≤ 4294967296))
    (.ret (.exit 0, [(sideG (dnth as 1).list (dnth as 2).bool (dnth hs 0) (dnth hs 1) (dnth as 7).list (rest (dnth as 0) (dnth as 8))).1,
        (sideG (dnth as 1).list (dnth as 2).bool (dnth hs 0) (dnth hs 1) (dnth as 7).list (rest (dnth as 0) (dnth as 8))).2.1, dnth hs 2, dnth hs 3],
      [.r [], .r [], .r [], .r [], .r (sideG (dnth as 1).list (dnth as 2).bool (dnth hs 0) (dnth hs 1) (dnth as 7).list (rest (dnth as 0) (dnth as 8))).2.2])) .fail

/-! ### Folding -/
abbrev sL : Sh := .agg [.int .i64, .int .i64, .slice T_api_Pending] [sI, sI, .own T_api_Pending]
def noLedger : D := .r [.i 0, .i 0, .r []]
def cntBad (ours peers : List D) (c : D) : Bool := decide ((c.f 0).int < 0) || decide ((ours.length : Int) < (c.f 0).int) || decide ((c.f 1).int < 0) || decide ((peers.length : Int) < (c.f 1).int)
/-- have the two bases a sum? -/
def sumOK (bo bp : Int) : Bool := (sumL 0 [.i bo, .i bp]).isSome
/-- the program's answer: a number and a ledger -/
def fold1 (bo bp : Int) (ours peers : List D) (c : D) : St3 := partL ((firstN peers (c.f 1).int).foldl remStep []) true (wPlus wZero bo) (wPlus wZero bp) (firstN ours (c.f 0).int)
def fold2 (bo bp : Int) (ours peers : List D) (c : D) : St3 := partL ((firstN ours (c.f 0).int).foldl remStep []) false (fold1 bo bp ours peers c).2.1 (fold1 bo bp ours peers c).1 (firstN peers (c.f 1).int)
def foldX (bo bp : Int) (ours peers : List D) (c : D) : Int × D :=
  bif cntBad ours peers c || !sumOK bo bp then (1, noLedger)
  else bif !(firstN ours (c.f 0).int).all valid || !(firstN peers (c.f 1).int).all valid then (120, noLedger)
  else bif decide (wValue (fold2 bo bp ours peers c).2.1 < 0) || decide (wValue (fold2 bo bp ours peers c).1 < 0) then (130, noLedger)
  else (0, .r [.i (wValue (fold2 bo bp ours peers c).2.1), .i (wValue (fold2 bo bp ours peers c).1), .r (isort (fold1 bo bp ours peers c).2.2 ++ isort (fold2 bo bp ours peers c).2.2)])
def sgFold : Sig := ⟨[], [sI, sI, sUs, sUs, .dat T_api_Counts], [], [sL, sI]⟩
def phiFold : Phi := fun _ as => .cond (decide ((dnth as 2).list.length + (dnth as 3).list.length ≤ 4294967296))
  (.ret ([], [(foldX (dnth as 0).int (dnth as 1).int (dnth as 2).list (dnth as 3).list (dnth as 4)).2, .i (foldX (dnth as 0).int (dnth as 1).int (dnth as 2).list (dnth as 3).list (dnth as 4)).1])) .fail

/-- the document's answer -/
def rfold1 (bo bp : Int) (ours peers : List D) (c : D) : St3 := sideL (firstN peers (c.f 1).int) true (vPlus wZero bo) (vPlus wZero bp) (firstN ours (c.f 0).int)
def rfold2 (bo bp : Int) (ours peers : List D) (c : D) : St3 := sideL (firstN ours (c.f 0).int) false (rfold1 bo bp ours peers c).2.1 (rfold1 bo bp ours peers c).1 (firstN peers (c.f 1).int)
def foldR (bo bp : Int) (ours peers : List D) (c : D) : Int × D :=
  bif cntBad ours peers c || !right bo || !right bp || !right (IntKind.wrap .i64 (bo + bp)) then (1, noLedger)
  else bif !(firstN ours (c.f 0).int).all valid || !(firstN peers (c.f 1).int).all valid then (120, noLedger)
  else bif decide (((rfold2 bo bp ours peers c).2.1.f 0).int < 0) || decide (((rfold2 bo bp ours peers c).1.f 0).int < 0) then (130, noLedger)
  else (0, .r [.i (vCut (rfold2 bo bp ours peers c).2.1), .i (vCut (rfold2 bo bp ours peers c).1), .r ((rfold1 bo bp ours peers c).2.2 ++ (rfold2 bo bp ours peers c).2.2)])
def sgRFold : Sig := sgFold
def phiRFold : Phi := fun _ as => .cond (decide ((dnth as 2).list.length + (dnth as 3).list.length ≤ 4294967296))
  (.ret ([], [(foldR (dnth as 0).int (dnth as 1).int (dnth as 2).list (dnth as 3).list (dnth as 4)).2, .i (foldR (dnth as 0).int (dnth as 1).int (dnth as 2).list (dnth as 3).list (dnth as 4)).1])) .fail

/-! ### What may be spent, what is open -/
def capped (n : Int) : Int := if 1152921504606846976 < n then 1152921504606846976 else n
def takeAll (w : D) (l : List D) : D := l.foldl (fun w a => wMinus w a.int) w
def giveAll (w : D) (l : List D) : D := l.foldl (fun w a => wPlus w a.int) w
def spendX (base : Int) (mine others : List D) (c : D) : Int :=
  bif decide (base < 0) then 0 else
    let w1 := takeAll (wPlus wZero (capped base)) (addsIf (test3 ((firstN others (c.f 1).int).foldl remStep [])) mine)
    let w2 := giveAll w1 (addsIf (test2 ((firstN mine (c.f 0).int).foldl remStep [])) others)
    capped (if wValue w2 < 0 then 0 else wValue w2)
def sgSpend : Sig := ⟨[], [sI, sUs, sUs, .dat T_api_Counts], [], [sI]⟩
def phiSpend : Phi := fun _ as => .cond (decide ((dnth as 1).list.length + (dnth as 2).list.length ≤ 4294967296)) (.ret ([], [.i (spendX (dnth as 0).int (dnth as 1).list (dnth as 2).list (dnth as 3))])) .fail
abbrev hBM : HSh := .box (.map (.int .i64) (.int .i64)) (.mref 1)
def liSpend0 : LoopInfo where
  keep := ⟨[hBM, hM, hW], [(2, sUs), (10, .ref 0 (.map (.int .i64) (.int .i64))), (11, .ref 2 T_ledger_wide), (34, .own (.int .i64)), (35, sI), (36, sI)]⟩
  ends := [(1, ⟨[hBM, hM, hW], [(2, sUs), (10, .ref 0 (.map (.int .i64) (.int .i64))), (11, .ref 2 T_ledger_wide)]⟩)]
  phi := fun hs as => .cond (decide ((dnth as 4).int = ((dnth as 3).list.length : Int)) && decide (0 ≤ (dnth as 5).int))
    (.ret (.exit 0, [.r [], ofMap (mapOf (dnth hs 1)), takeAll (dnth hs 2) (rest (dnth as 3) (dnth as 5))], [.r (dnth as 0).list, .r [], .r []])) .fail
def liSpend1 : LoopInfo where
  keep := ⟨[hW], [(11, .ref 0 T_ledger_wide), (46, .own (.int .i64)), (47, sI), (48, sI)]⟩
  ends := [(3, ⟨[hW], [(11, .ref 0 T_ledger_wide)]⟩)]
  phi := fun hs as => .cond (decide ((dnth as 2).int = ((dnth as 1).list.length : Int)) && decide (0 ≤ (dnth as 3).int))
    (.ret (.exit 2, [giveAll (dnth hs 0) (rest (dnth as 1) (dnth as 3))], [.r []])) .fail
def openX (mine others : List D) (n : Int) : Int := ((addsIf (test0 ((firstN others n).foldl remStep [])) mine).length : Int)
def sgOpen : Sig := ⟨[], [sUs, sUs, sI], [], [sI]⟩
def phiOpen : Phi := fun _ as => .cond (decide ((dnth as 0).list.length ≤ 4294967296)) (.ret ([], [.i (openX (dnth as 0).list (dnth as 1).list (dnth as 2).int)])) .fail

/-- the document's -/
def rAdd (b : List D) (k : Int) (u : D) : Bool := decide (uKind u = 1) && valid u && decide (firstRem (uId u) b = k)
def rAddNot (b : List D) (k : Int) (u : D) : Bool := decide (uKind u = 1) && valid u && !decide (firstRem (uId u) b = k)
def rTake (b : List D) (w : D) (l : List D) : D := l.foldl (fun w u => bif rAddNot b 3 u then vMinus w (uAmt u) else w) w
def rGive (b : List D) (w : D) (l : List D) : D := l.foldl (fun w u => bif rAdd b 2 u then vPlus w (uAmt u) else w) w
def spendR (base : Int) (mine others : List D) (c : D) : Int :=
  bif decide (base < 0) then 0 else
    let w1 := rTake (firstN others (c.f 1).int) (vPlus wZero (capped base)) mine
    let w2 := rGive (firstN mine (c.f 0).int) w1 others
    vCut w2
def sgRSpend : Sig := sgSpend
def phiRSpend : Phi := fun _ as => .ret ([], [.i (spendR (dnth as 0).int (dnth as 1).list (dnth as 2).list (dnth as 3))])
def liRSpend0 : LoopInfo where
  keep := ⟨[hV], [(1, sUs), (2, sUs), (9, sUs), (10, sUs), (11, .ref 0 T_escrowref13_Wide), (12, sI)]⟩
  ends := [(1, ⟨[hV], [(2, sUs), (9, sUs), (11, .ref 0 T_escrowref13_Wide)]⟩)]
  phi := fun hs as => .cond (decide (0 ≤ (dnth as 5).int))
    (.ret (.exit 0, [rTake (dnth as 3).list (dnth hs 0) (rest (dnth as 0) (dnth as 5))], [.r (dnth as 1).list, .r (dnth as 2).list, .r []])) .fail
def liRSpend1 : LoopInfo where
  keep := ⟨[hV], [(2, sUs), (9, sUs), (11, .ref 0 T_escrowref13_Wide), (14, sI)]⟩
  ends := [(3, ⟨[hV], [(11, .ref 0 T_escrowref13_Wide)]⟩)]
  phi := fun hs as => .cond (decide (0 ≤ (dnth as 3).int))
    (.ret (.exit 2, [rGive (dnth as 1).list (dnth hs 0) (rest (dnth as 0) (dnth as 3))], [.r []])) .fail
def openR (mine others : List D) (n : Int) : Int := (mine.countP (rAdd (firstN others n) 0) : Int)
def sgROpen : Sig := sgOpen
def phiROpen : Phi := fun _ as => .ret ([], [.i (openR (dnth as 0).list (dnth as 1).list (dnth as 2).int)])
def liROpen0 : LoopInfo where
  keep := ⟨[], [(0, sUs), (7, sUs), (8, sI), (9, sI)]⟩
  ends := [(1, ⟨[], [(8, sI)]⟩)]
  phi := fun _ as => .cond (decide (0 ≤ (dnth as 3).int) && decide (0 ≤ (dnth as 2).int) && decide ((dnth as 2).int ≤ (dnth as 3).int))
    (.ret (.exit 0, [], [.i ((dnth as 2).int + ((rest (dnth as 0) (dnth as 3)).countP (rAdd (dnth as 1).list 0) : Int))])) .fail
end Go.Proofs.Ytkepijaabpkdbaa

/- The law's helpers over data: lending, keeping, a little more. Definitions alone. -/
namespace Go.Proofs.Ytkepijaabpkdbaa
open Go Go.Ev

abbrev hUs : HSh := .row T_api_Update
abbrev sX (k : Nat) : Sh := .rsub k T_api_Update
abbrev sLd : Sh := .dat T_api_Ledger
/-- the mark behind what is lent -/
def markU : D := .r [.i (-7), .i 0, .i 0, zero32, .s []]
def small (l : List D) : Bool := decide (l.length ≤ 4194304)
def sgLend : Sig := ⟨[], [sUs], [hUs], [sX 0]⟩
def phiLend : Phi := fun _ as => .cond (small (dnth as 0).list) (.ret ([.r ((dnth as 0).list ++ [markU])], [.r [.i 0, .i ((dnth as 0).list.length : Int)]])) .fail
def sgSame : Sig := ⟨[], [sLd, sLd], [], [sB]⟩
def phiSame : Phi := fun _ as => .ret ([], [.b (D.beq (dnth as 0) (dnth as 1))])
def liSame0 : LoopInfo where
  keep := ⟨[.box T_api_Ledger sLd, .box T_api_Ledger sLd], [(2, .ref 0 T_api_Ledger), (3, .ref 1 T_api_Ledger), (5, sI)]⟩
  ends := [(1, ⟨[], []⟩), (0, ⟨[], [(4, sB)]⟩)]
  phi := fun hs as => .cond (decide (0 ≤ (dnth as 2).int) && decide (((dnth hs 0).f 2).list.length = ((dnth hs 1).f 2).list.length))
    (.cond (D.beqs (((dnth hs 0).f 2).list.drop (dnth as 2).int.toNat) (((dnth hs 1).f 2).list.drop (dnth as 2).int.toNat)) (.ret (.exit 0, [], [])) (.ret (.ret, [], [.b false]))) .fail
/-- is what was lent as it was, with its mark? -/
def keptB (xs l : List D) : Bool := D.beqs (xs.take l.length) l && D.beq (dnth xs l.length) markU
def lentOK (xs : List D) (d : D) (n : Nat) : Bool := decide ((d.f 0).int = 0) && decide ((d.f 1).int = (n : Int)) && decide (xs.length = n + 1) && decide (n ≤ 4194304)
def sgKept : Sig := ⟨[hUs], [sX 0, sUs], [hUs], [sB]⟩
def phiKept : Phi := fun hs as => .cond (lentOK (dnth hs 0).list (dnth as 0) (dnth as 1).list.length) (.ret ([.r (dnth hs 0).list], [.b (keptB (dnth hs 0).list (dnth as 1).list)])) .fail
def liKept0 : LoopInfo where
  keep := ⟨[hUs], [(0, sX 0), (1, sUs), (5, sI)]⟩
  ends := [(1, ⟨[hUs], [(0, sX 0), (1, sUs)]⟩), (0, ⟨[hUs], [(4, sB)]⟩)]
  phi := fun hs as => .cond (lentOK (dnth hs 0).list (dnth as 0) (dnth as 1).list.length && decide (0 ≤ (dnth as 2).int))
    (.cond (D.beqs (((dnth hs 0).list.take (dnth as 1).list.length).drop (dnth as 2).int.toNat) ((dnth as 1).list.drop (dnth as 2).int.toNat))
      (.ret (.exit 0, [.r (dnth hs 0).list], [.r [.i 0, .i ((dnth as 1).list.length : Int)], .r (dnth as 1).list])) (.ret (.ret, [.r (dnth hs 0).list], [.b false]))) .fail
def moreU (u : D) : D := .r [.i (uKind u), .i (uId u), .i (ixor .i64 (uAmt u) 1), u.f 3, .s (uNote u)]
def sgMore : Sig := ⟨[], [sUs], [], [.own T_api_Update]⟩
def phiMore : Phi := fun _ as => .cond (small (dnth as 0).list) (.ret ([], [.r ((dnth as 0).list.map moreU)])) .fail
def liMore0 : LoopInfo where
  keep := ⟨[], [(0, sUs), (3, .own T_api_Update), (4, sI)]⟩
  ends := [(1, ⟨[], [(3, .own T_api_Update)]⟩)]
  phi := fun _ as => .cond (decide (0 ≤ (dnth as 2).int) && decide ((dnth as 1).list.length + (rest (dnth as 0) (dnth as 2)).length ≤ 4294967296))
    (.ret (.exit 0, [], [.r ((dnth as 1).list ++ (rest (dnth as 0) (dnth as 2)).map moreU)])) .fail
def sgFirstL : Sig := ⟨[], [], [], [sB]⟩
def phiFirstL : Phi := fun _ _ => .ret ([], [.b true])

/-! ### The laws -/
def bulkOK (as : List D) : Bool := decide (bulkDs as ≤ 1048576)
def lawPhi : Phi := fun _ as => .cond (bulkOK as) (.ret ([], [.b true])) .fail
def tysFolds : List Ty := [.int .i64, .int .i64, .slice T_api_Update, .slice T_api_Update, T_api_Counts]
def sgFolds : Sig := ⟨[], [sI, sI, sUs, sUs, .dat T_api_Counts], [], [sB]⟩
def phiFolds : Phi := lawPhi
def markP : D := .r [.b false, .i (-1), .i 0, zero32]
def wipe (i : Nat) (l : List D) : List D := l.take i ++ List.replicate (l.length - i) markP
abbrev hLg : HSh := .box T_api_Ledger sL
abbrev hFolds : List HSh := [hUs, hUs, .box T_api_Counts (.dat T_api_Counts), hLg, hLg, hLg]
abbrev rL (k : Nat) : Sh := .ref k T_api_Ledger
def liFolds0 : LoopInfo where
  keep := ⟨hFolds, [(0, sI), (1, sI), (2, sUs), (3, sUs), (9, .ref 2 T_api_Counts), (11, sX 0), (12, sX 1), (13, rL 3), (15, rL 4), (17, rL 5), (19, sI)]⟩
  ends := [(1, ⟨hFolds, [(0, sI), (1, sI), (2, sUs), (3, sUs), (9, .ref 2 T_api_Counts), (11, sX 0), (12, sX 1), (13, rL 3), (15, rL 4), (17, rL 5)]⟩)]
  phi := fun hs as => .cond (decide (0 ≤ (dnth as 10).int))
    (.ret (.exit 0, [dnth hs 0, dnth hs 1, dnth hs 2, .r [.i ((dnth hs 3).f 0).int, .i ((dnth hs 3).f 1).int, .r (wipe (dnth as 10).int.toNat ((dnth hs 3).f 2).list)], dnth hs 4, dnth hs 5],
      [dnth as 0, dnth as 1, dnth as 2, dnth as 3, .r [], dnth as 5, dnth as 6, .r [], .r [], .r []])) .fail
def tysSpends : List Ty := [.int .i64, .slice T_api_Update, .slice T_api_Update, T_api_Counts]
def sgSpends : Sig := ⟨[], [sI, sUs, sUs, .dat T_api_Counts], [], [sB]⟩
def phiSpends : Phi := lawPhi
end Go.Proofs.Ytkepijaabpkdbaa

/- Plain laws of sorting: putting in, merging, parts of lists. -/
namespace Go.Proofs.Ytkepijaabpkdbaa
open Go Go.Ev

/-! ### Sorted lists -/

theorem sorted_cons {x : D} {l : List D} : sortedD (x :: l) = true ↔ (∀ y ∈ l, pId x ≤ pId y) ∧ sortedD l = true := by
  simp [sortedD, List.all_eq_true]
theorem sorted_append {u v : List D} : sortedD (u ++ v) = true ↔ sortedD u = true ∧ sortedD v = true ∧ ∀ x ∈ u, ∀ y ∈ v, pId x ≤ pId y := by
  induction u with
  | nil => simp [sortedD]
  | cons a u ih =>
    rw [List.cons_append, sorted_cons, sorted_cons, ih]
    simp only [List.mem_append, List.mem_cons]
    constructor
    · rintro ⟨h1, h2, h3, h4⟩
      refine ⟨⟨fun y hy => h1 y (.inl hy), h2⟩, h3, ?_⟩
      rintro x (rfl | hx) y hy
      · exact h1 y (.inr hy)
      · exact h4 x hx y hy
    · rintro ⟨⟨h1, h2⟩, h3, h4⟩
      refine ⟨?_, h2, h3, fun x hx => h4 x (.inr hx)⟩
      rintro y (hy | hy)
      · exact h1 y hy
      · exact h4 a (.inl rfl) y hy

theorem insR_mem {x y : D} {l : List D} : y ∈ insR x l ↔ y = x ∨ y ∈ l := by
  induction l with
  | nil => simp [insR]
  | cons z l ih =>
    simp only [insR]
    by_cases h : pId x < pId z
    · simp [h]
    · simp only [h, decide_false, cond_false, List.mem_cons, ih]
      constructor <;> rintro (h | h | h) <;> simp [h]
@[simp] theorem insR_length (x : D) (l : List D) : (insR x l).length = l.length + 1 := by
  induction l with
  | nil => rfl
  | cons z l ih =>
    simp only [insR]
    by_cases h : pId x < pId z
    · simp [h]
    · simp [h, ih]
theorem insR_sorted {x : D} {l : List D} (h : sortedD l = true) : sortedD (insR x l) = true := by
  induction l with
  | nil => rfl
  | cons z l ih =>
    rw [sorted_cons] at h
    simp only [insR]
    by_cases hx : pId x < pId z
    · simp only [hx, decide_true, cond_true, sorted_cons]
      refine ⟨fun y hy => ?_, h⟩
      rcases List.mem_cons.1 hy with rfl | hy
      · omega
      · have := h.1 y hy; omega
    · simp only [hx, decide_false, cond_false, sorted_cons]
      refine ⟨fun y hy => ?_, ih h.2⟩
      rcases insR_mem.1 hy with rfl | hy
      · omega
      · exact h.1 y hy
/-- behind all that are not greater -/
theorem insR_behind {x : D} {u v : List D} (h : ∀ y ∈ u, pId y ≤ pId x) : insR x (u ++ v) = u ++ insR x v := by
  induction u with
  | nil => rfl
  | cons z u ih =>
    have h1 : ¬ pId x < pId z := by have := h z List.mem_cons_self; omega
    simp only [List.cons_append, insR, h1, decide_false, cond_false]
    rw [ih fun y hy => h y (List.mem_cons_of_mem _ hy)]
/-- before all that are greater -/
theorem insR_before {x : D} {u v : List D} (h : ∀ y ∈ v, pId x < pId y) : insR x (u ++ v) = insR x u ++ v := by
  induction u with
  | nil =>
    cases v with
    | nil => rfl
    | cons z v => simp [insR, h z List.mem_cons_self]
  | cons z u ih =>
    simp only [List.cons_append, insR]
    by_cases hx : pId x < pId z
    · simp [hx]
    · simp [hx, ih]
theorem insR_end {x : D} {u : List D} (h : ∀ y ∈ u, pId y ≤ pId x) : insR x u = u ++ [x] := by
  have := insR_behind (v := []) h
  rwa [List.append_nil] at this
theorem insR_comm {x y : D} (h : pId x ≠ pId y) (l : List D) : insR y (insR x l) = insR x (insR y l) := by
  induction l with
  | nil =>
    simp only [insR]
    by_cases h1 : pId x < pId y
    · have : ¬ pId y < pId x := by omega
      simp [h1, this, insR]
    · have : pId y < pId x := by omega
      simp [h1, this, insR]
  | cons z l ih =>
    simp only [insR]
    by_cases h1 : pId x < pId z <;> by_cases h2 : pId y < pId z <;> simp only [h1, h2, decide_true, decide_false, cond_true, cond_false, insR]
    · by_cases h3 : pId y < pId x
      · have : ¬ pId x < pId y := by omega
        simp [h3, this, h1]
      · have : pId x < pId y := by omega
        simp [h3, this, h2]
    · have : ¬ pId y < pId x := by omega
      simp [this]
    · have : ¬ pId x < pId y := by omega
      simp [this]
    · rw [ih]

@[simp] theorem mergeD_nil (u : List D) : mergeD u [] = u := rfl
theorem mergeD_cons (u : List D) (x : D) (v : List D) : mergeD u (x :: v) = mergeD (insR x u) v := rfl
theorem mergeD_append (u v w : List D) : mergeD u (v ++ w) = mergeD (mergeD u v) w := by simp [mergeD]
theorem mergeD_mem {y : D} {v : List D} : ∀ {u : List D}, y ∈ mergeD u v ↔ y ∈ u ∨ y ∈ v := by
  induction v with
  | nil => simp
  | cons x v ih =>
    intro u
    rw [mergeD_cons, ih, insR_mem, List.mem_cons]
    constructor
    · rintro ((h | h) | h)
      · exact .inr (.inl h)
      · exact .inl h
      · exact .inr (.inr h)
    · rintro (h | h | h)
      · exact .inl (.inr h)
      · exact .inl (.inl h)
      · exact .inr h
@[simp] theorem mergeD_length (u v : List D) : (mergeD u v).length = u.length + v.length := by
  induction v generalizing u with
  | nil => simp
  | cons x v ih => rw [mergeD_cons, ih]; simp; omega
theorem mergeD_sorted {v : List D} : ∀ {u : List D}, sortedD u = true → sortedD (mergeD u v) = true := by
  induction v with
  | nil => exact fun h => h
  | cons x v ih => exact fun h => ih (insR_sorted h)
/-- what is in order already stays so -/
theorem mergeD_id {v : List D} : ∀ {u : List D}, sortedD (u ++ v) = true → mergeD u v = u ++ v := by
  induction v with
  | nil => simp
  | cons x v ih =>
    intro u h
    have h2 := (sorted_append.1 h).2.2
    rw [mergeD_cons, insR_end fun y hy => h2 y hy x List.mem_cons_self, ih (by simpa using h)]
    simp
/-- merging falls into two parts -/
theorem mergeD_split {a1 a2 b1 b2 : List D} (h1 : ∀ x ∈ b1, ∀ y ∈ a2, pId x < pId y) (h2 : ∀ x ∈ a1, ∀ y ∈ b2, pId x ≤ pId y) (h3 : ∀ x ∈ b1, ∀ y ∈ b2, pId x ≤ pId y) :
    mergeD (a1 ++ a2) (b1 ++ b2) = mergeD a1 b1 ++ mergeD a2 b2 := by
  rw [mergeD_append]
  have e1 : ∀ (b a : List D), (∀ x ∈ b, ∀ y ∈ a2, pId x < pId y) → mergeD (a ++ a2) b = mergeD a b ++ a2 := by
    intro b
    induction b with
    | nil => intros; rfl
    | cons x b ih =>
      intro a h
      rw [mergeD_cons, insR_before (h x List.mem_cons_self), ih _ fun z hz => h z (List.mem_cons_of_mem _ hz)]
      rfl
  rw [e1 b1 a1 h1]
  have e2 : ∀ (b c : List D) (s : List D), (∀ x ∈ s, ∀ y ∈ b, pId x ≤ pId y) → mergeD (s ++ c) b = s ++ mergeD c b := by
    intro b
    induction b with
    | nil => intros; rfl
    | cons x b ih =>
      intro c s h
      rw [mergeD_cons, insR_behind fun y hy => h y hy x List.mem_cons_self, ih _ _ fun z hz y hy => h z hz y (List.mem_cons_of_mem _ hy)]
      rfl
  refine e2 b2 a2 (mergeD a1 b1) fun x hx y hy => ?_
  rcases mergeD_mem.1 hx with h | h
  · exact h2 x h y hy
  · exact h3 x h y hy
theorem mergeD_insR {v : List D} (hv : sortedD v = true) (x : D) (u : List D) : mergeD u (insR x v) = insR x (mergeD u v) := by
  induction v generalizing u with
  | nil => rfl
  | cons z v ih =>
    rw [sorted_cons] at hv
    simp only [insR]
    by_cases h : pId x < pId z
    · simp only [h, decide_true, cond_true]
      -- x comes ahead of all of them; the order of putting in does not matter
      have : ∀ (w u : List D), (∀ y ∈ w, pId x < pId y) → mergeD (insR x u) w = insR x (mergeD u w) := by
        intro w
        induction w with
        | nil => intros; rfl
        | cons y w ih =>
          intro u h
          have hy := h y List.mem_cons_self
          rw [mergeD_cons, mergeD_cons, insR_comm (by omega), ih _ fun z hz => h z (List.mem_cons_of_mem _ hz)]
      rw [mergeD_cons]
      refine this (z :: v) u fun y hy => ?_
      rcases List.mem_cons.1 hy with rfl | hy
      · exact h
      · have := hv.1 y hy; omega
    · simp only [h, decide_false, cond_false]
      rw [mergeD_cons, mergeD_cons, ih hv.2]
theorem isort_append (u v : List D) : isort (u ++ v) = mergeD (isort u) v := mergeD_append _ _ _
theorem isort_sorted (u : List D) : sortedD (isort u) = true := mergeD_sorted rfl
@[simp] theorem isort_length (u : List D) : (isort u).length = u.length := by simp [isort]
@[simp] theorem isort_nil : isort [] = [] := rfl
theorem isort_id {u : List D} (h : sortedD u = true) : isort u = u := by
  have := mergeD_id (u := []) (v := u) h
  simpa [isort] using this
/-- merging what is sorted in the place of what is not -/
theorem mergeD_isort (u v : List D) : mergeD u (isort v) = mergeD u v := by
  have : ∀ (v w : List D), sortedD w = true → mergeD u (mergeD w v) = mergeD (mergeD u w) v := by
    intro v
    induction v with
    | nil => intros; rfl
    | cons x v ih =>
      intro w hw
      rw [mergeD_cons, mergeD_cons, ih _ (insR_sorted hw), mergeD_insR hw]
  exact this v [] rfl
theorem isort_merge (u v : List D) : isort (u ++ v) = mergeD (isort u) (isort v) := by
  rw [isort_append, mergeD_isort]
theorem isort_isort (u v w : List D) : isort (u ++ isort v ++ w) = isort (u ++ v ++ w) := by
  rw [isort_append, isort_append, isort_append, isort_append, mergeD_isort]
theorem isort_merge_in (u v w : List D) (hv : sortedD v = true) (x : List D) : isort (u ++ mergeD v w ++ x) = isort (u ++ v ++ w ++ x) := by
  have : mergeD v w = isort (v ++ w) := by rw [isort_append, isort_id hv]
  rw [this, isort_isort]
  simp

/-! ### Parts of lists -/

theorem seg_length {xs : List D} {a b : Nat} (h1 : a ≤ b) (h2 : b ≤ xs.length) : (seg xs a b).length = b - a := by
  simp [seg]; omega
/-- a list in three parts -/
theorem three {xs : List D} {a b : Nat} (h1 : a ≤ b) (h2 : b ≤ xs.length) : xs = xs.take a ++ seg xs a b ++ xs.drop b := by
  unfold seg
  rw [List.append_assoc]
  have : (xs.drop a).take (b - a) ++ xs.drop b = xs.drop a := by
    have := List.take_append_drop (b - a) (xs.drop a)
    rw [List.drop_drop] at this
    rwa [show a + (b - a) = b by omega] at this
  rw [this, List.take_append_drop]
theorem seg_of {p s q : List D} : seg (p ++ s ++ q) p.length (p.length + s.length) = s := by
  unfold seg
  rw [List.append_assoc, List.drop_left, Nat.add_sub_cancel_left, List.take_left]
theorem take_of {p s : List D} : (p ++ s).take p.length = p := List.take_left
theorem seg_append (xs : List D) {a m b : Nat} (h1 : a ≤ m) (h2 : m ≤ b) : seg xs a b = seg xs a m ++ seg xs m b := by
  unfold seg
  have : (xs.drop a).take (b - a) = ((xs.drop a).take (m - a)) ++ ((xs.drop a).drop (m - a)).take (b - m) := by
    rw [show b - a = (m - a) + (b - m) by omega, List.take_add]
  rw [this, List.drop_drop, show a + (m - a) = m by omega]

theorem dnth_mid {p s : List D} {x : D} {k : Nat} (h : k = p.length) : dnth (p ++ x :: s) k = x := by
  subst h
  rw [dnth_eq, List.getElem?_append_right (Nat.le_refl _)]
  simp
theorem dput_mid {p s : List D} {x y : D} {k : Nat} (h : k = p.length) : dput (p ++ x :: s) k y = p ++ y :: s := by
  subst h
  rw [dput_eq]
  simp
theorem dnth_seg {xs : List D} {a b k : Nat} (h1 : a ≤ k) (h2 : k < b) (h3 : b ≤ xs.length) : dnth xs k ∈ seg xs a b := by
  unfold seg
  rw [dnth_eq, List.getElem?_eq_getElem (by omega)]
  refine List.mem_of_getElem? (i := k - a) ?_
  rw [List.getElem?_take, if_pos (by omega), List.getElem?_drop, show a + (k - a) = k by omega, List.getElem?_eq_getElem (by omega)]
  rfl
theorem mem_seg {xs : List D} {a b : Nat} {y : D} (h : y ∈ seg xs a b) : ∃ k, a ≤ k ∧ k < b ∧ k < xs.length ∧ dnth xs k = y := by
  obtain ⟨i, hi⟩ := List.getElem?_of_mem h
  unfold seg at hi
  rw [List.getElem?_take] at hi
  split at hi
  · rename_i hlt
    rw [List.getElem?_drop] at hi
    obtain ⟨h1, h2⟩ := List.getElem?_eq_some_iff.1 hi
    refine ⟨a + i, by omega, by omega, h1, ?_⟩
    rw [dnth_eq, hi]; rfl
  · simp at hi
theorem seg_sorted_le {xs : List D} {a b : Nat} (h : sortedD (seg xs a b) = true) {i j : Nat} (h1 : a ≤ i) (h2 : i ≤ j) (h3 : j < b) (h4 : b ≤ xs.length) : pId (dnth xs i) ≤ pId (dnth xs j) := by
  by_cases e : i = j
  · subst e; omega
  · rw [seg_append xs (m := j) (by omega) (by omega)] at h
    have := (sorted_append.1 h).2.2
    exact this _ (dnth_seg h1 (by omega) (by omega)) _ (dnth_seg (Nat.le_refl _) h3 h4)

/-! ### Swaps -/

theorem swapD_mid {p s q : List D} {x y : D} {i j : Nat} (hi : i = p.length) (hj : j = p.length + 1 + s.length) : swapD (p ++ x :: (s ++ y :: q)) i j = p ++ y :: (s ++ x :: q) := by
  unfold swapD
  have e1 : p ++ x :: (s ++ y :: q) = (p ++ x :: s) ++ y :: q := by simp
  have e2 : p ++ y :: (s ++ y :: q) = (p ++ y :: s) ++ y :: q := by simp
  have hj' : ∀ z : D, j = (p ++ z :: s).length := fun z => by simp; omega
  rw [dnth_mid hi, dput_mid hi, e1, dnth_mid (hj' x), e2, dput_mid (hj' y)]
  simp
/-- two neighbours, the later one first named -/
theorem swapD_next {p q : List D} {x y : D} {j : Nat} (hj : j = p.length) : swapD (p ++ x :: y :: q) (j + 1) j = p ++ y :: x :: q := by
  unfold swapD
  have e1 : p ++ x :: y :: q = (p ++ [x]) ++ y :: q := by simp
  have e2 : ∀ z, (p ++ [x]) ++ z :: q = p ++ x :: (z :: q) := fun z => by simp
  have h1 : j + 1 = (p ++ [x]).length := by simp; omega
  rw [show dnth (p ++ x :: y :: q) j = x from dnth_mid hj, e1, dnth_mid h1, dput_mid h1, e2, dput_mid hj]

end Go.Proofs.Ytkepijaabpkdbaa

/- The plain law of folding: what the program answers is what the document answers. -/
namespace Go.Proofs.Ytkepijaabpkdbaa
open Go Go.Ev

/-! ### Bits -/

theorem ofInt_toNat (x : Int) : (BitVec.ofInt 64 x).toNat = (x % 18446744073709551616).toNat := by
  rw [BitVec.toNat_ofInt]; rfl
theorem iand_mask (x : Int) : iand .i64 x 1073741823 = x % 1073741824 := by
  unfold iand
  have e : (BitVec.ofInt 64 x &&& BitVec.ofInt 64 1073741823).toNat = (x % 1073741824).toNat := by
    rw [BitVec.toNat_and, ofInt_toNat, ofInt_toNat]
    have h2 : ((1073741823 : Int) % 18446744073709551616).toNat = 2 ^ 30 - 1 := by decide
    rw [h2, Nat.and_two_pow_sub_one_eq_mod]
    omega
  show IntKind.wrap .i64 ((BitVec.ofInt 64 x &&& BitVec.ofInt 64 1073741823).toNat : Int) = _
  rw [e, wrap_i64 (by omega) (by omega)]
  omega
theorem ishr30 (x : Int) : ishr .i64 x 30 = x / 1073741824 := by
  simp only [ishr, IntKind.bits]
  rw [show min (30 : Int).toNat 64 = 30 by decide, show (2 : Int) ^ 30 = 1073741824 by decide, Int.fdiv_eq_ediv_of_nonneg _ (by omega)]
theorem ishl30 {u : Int} (h0 : 0 ≤ u) (h : u ≤ 1073741824) : ishl .i64 u 30 = u * 1073741824 := by
  simp only [ishl, IntKind.bits]
  rw [show min (30 : Int).toNat 64 = 30 by decide, show (2 : Int) ^ 30 = 1073741824 by decide]
  exact wrap_i64 (by omega) (by omega)
theorem ior_parts {u r : Int} (h0 : 0 ≤ u) (h : u ≤ 1073741824) (h1 : 0 ≤ r) (h2 : r < 1073741824) : ior .i64 (u * 1073741824) r = u * 1073741824 + r := by
  unfold ior
  obtain ⟨u, rfl⟩ := Int.eq_ofNat_of_zero_le h0
  obtain ⟨r, rfl⟩ := Int.eq_ofNat_of_zero_le h1
  have e : (BitVec.ofInt 64 ((u : Int) * 1073741824) ||| BitVec.ofInt 64 (r : Int)).toNat = u * 2 ^ 30 + r := by
    rw [BitVec.toNat_or, ofInt_toNat, ofInt_toNat]
    have e1 : ((u : Int) * 1073741824 % 18446744073709551616).toNat = u <<< 30 := by rw [Nat.shiftLeft_eq]; omega
    have e2 : ((r : Int) % 18446744073709551616).toNat = r := by omega
    rw [e1, e2, ← Nat.shiftLeft_add_eq_or_of_lt (by omega), Nat.shiftLeft_eq]
  show IntKind.wrap .i64 ((BitVec.ofInt 64 ((u : Int) * 1073741824) ||| BitVec.ofInt 64 (r : Int)).toNat : Int) = _
  rw [e, wrap_i64 (by omega) (by omega)]
  omega

/-! ### Two kinds of wide sums -/

/-- both are the sum S, after so many steps -/
def WV (n S : Int) (w v : D) : Prop := ∃ u l U R, w = .r [.i u, .i l] ∧ v = .r [.i U, .i R] ∧ u * 1073741824 + l = S ∧ -(n * 1073741824) ≤ u ∧ u ≤ n * 1073741824 ∧ -(n * 1073741824) ≤ l ∧ l ≤ n * 1073741824 ∧
  U * 1152921504606846976 + R = S ∧ 0 ≤ R ∧ R < 1152921504606846976 ∧ -(n * 2) ≤ U ∧ U ≤ n * 2

theorem WV.zero : WV 0 0 wZero wZero := ⟨0, 0, 0, 0, rfl, rfl, by omega, by omega, by omega, by omega, by omega, by omega, by omega, by omega, by omega, by omega⟩
theorem WV.mono {n m S : Int} {w v : D} (h : WV n S w v) (hm : n ≤ m) : WV m S w v := by
  obtain ⟨u, l, U, R, rfl, rfl, h1, h2, h3, h4, h5, h6, h7, h8, h9, h10⟩ := h
  exact ⟨u, l, U, R, rfl, rfl, h1, by omega, by omega, by omega, by omega, h6, h7, h8, by omega, by omega⟩
theorem WV.plus {n S a : Int} {w v : D} (h : WV n S w v) (hn : n ≤ 16777216) (h0 : 0 ≤ n) (ha : 0 ≤ a) (ha2 : a ≤ 1152921504606846976) : WV (n + 1) (S + a) (wPlus w a) (vPlus v a) := by
  obtain ⟨u, l, U, R, rfl, rfl, h1, h2, h3, h4, h5, h6, h7, h8, h9, h10⟩ := h
  simp only [wPlus, vPlus, f_r, dnth_zero, dnth_one, int_i, ishr30, iand_mask]
  rw [wrap_i64 (n := u + a / 1073741824) (by omega) (by omega), wrap_i64 (n := l + a % 1073741824) (by omega) (by omega), wrap_i64 (n := U + 1) (by omega) (by omega), wrap_i64 (n := R + a) (by omega) (by omega)]
  by_cases c1 : a = 1152921504606846976
  · subst c1
    simp only [decide_true, cond_true]
    exact ⟨_, _, _, _, rfl, rfl, by omega, by omega, by omega, by omega, by omega, by omega, by omega, by omega, by omega, by omega⟩
  · simp only [c1, decide_false, cond_false]
    by_cases c2 : 1152921504606846976 ≤ R + a
    · simp only [c2, decide_true, cond_true]
      rw [wrap_i64 (n := R + a - 1152921504606846976) (by omega) (by omega)]
      exact ⟨_, _, _, _, rfl, rfl, by omega, by omega, by omega, by omega, by omega, by omega, by omega, by omega, by omega, by omega⟩
    · simp only [c2, decide_false, cond_false]
      exact ⟨_, _, _, _, rfl, rfl, by omega, by omega, by omega, by omega, by omega, by omega, by omega, by omega, by omega, by omega⟩
theorem WV.minus {n S a : Int} {w v : D} (h : WV n S w v) (hn : n ≤ 16777216) (h0 : 0 ≤ n) (ha : 0 ≤ a) (ha2 : a ≤ 1152921504606846976) : WV (n + 1) (S - a) (wMinus w a) (vMinus v a) := by
  obtain ⟨u, l, U, R, rfl, rfl, h1, h2, h3, h4, h5, h6, h7, h8, h9, h10⟩ := h
  simp only [wMinus, vMinus, f_r, dnth_zero, dnth_one, int_i, ishr30, iand_mask]
  rw [wrap_i64 (n := u - a / 1073741824) (by omega) (by omega), wrap_i64 (n := l - a % 1073741824) (by omega) (by omega), wrap_i64 (n := U - 1) (by omega) (by omega), wrap_i64 (n := R - a) (by omega) (by omega)]
  by_cases c1 : a = 1152921504606846976
  · subst c1
    simp only [decide_true, cond_true]
    exact ⟨_, _, _, _, rfl, rfl, by omega, by omega, by omega, by omega, by omega, by omega, by omega, by omega, by omega, by omega⟩
  · simp only [c1, decide_false, cond_false]
    by_cases c2 : R - a < 0
    · simp only [c2, decide_true, cond_true]
      rw [wrap_i64 (n := R - a + 1152921504606846976) (by omega) (by omega)]
      exact ⟨_, _, _, _, rfl, rfl, by omega, by omega, by omega, by omega, by omega, by omega, by omega, by omega, by omega, by omega⟩
    · simp only [c2, decide_false, cond_false]
      exact ⟨_, _, _, _, rfl, rfl, by omega, by omega, by omega, by omega, by omega, by omega, by omega, by omega, by omega, by omega⟩
/-- what both say of the sum -/
theorem WV.value {n S : Int} {w v : D} (h : WV n S w v) (hn : n ≤ 16777216) (h0 : 0 ≤ n) :
    wValue w = (if S < 0 then -1 else if 1152921505680588800 ≤ S then 1152921504606846977 else S) ∧ vCut v = (if S < 0 then 0 else if 1152921504606846976 ≤ S then 1152921504606846976 else S) ∧ ((v.f 0).int < 0 ↔ S < 0) := by
  obtain ⟨u, l, U, R, rfl, rfl, h1, h2, h3, h4, h5, h6, h7, h8, h9, h10⟩ := h
  simp only [wValue, wUpper, vCut, f_r, dnth_zero, dnth_one, int_i, ishr30, iand_mask]
  rw [wrap_i64 (n := u + l / 1073741824) (by omega) (by omega)]
  refine ⟨?_, ?_, by omega⟩
  · by_cases c1 : u + l / 1073741824 < 0
    · have : S < 0 := by omega
      simp [c1, this]
    · have s1 : ¬ S < 0 := by omega
      by_cases c2 : 1073741824 < u + l / 1073741824
      · have s2 : 1152921505680588800 ≤ S := by omega
        simp [c1, c2, s1, s2]
      · have s2 : ¬ 1152921505680588800 ≤ S := by omega
        rw [ishl30 (by omega) (by omega), ior_parts (by omega) (by omega) (by omega) (by omega)]
        simp only [c1, c2, s1, s2, decide_false, cond_false, if_false]
        omega
  · by_cases c1 : U < 0
    · have : S < 0 := by omega
      simp [c1, this]
    · have s1 : ¬ S < 0 := by omega
      by_cases c2 : 0 < U
      · have s2 : 1152921504606846976 ≤ S := by omega
        simp [c1, c2, s1, s2]
      · have s2 : ¬ 1152921504606846976 ≤ S := by omega
        simp only [c1, c2, s1, s2, decide_false, cond_false, if_false]
        omega

/-! ### Removals -/

theorem rem_entry : ∀ (l : List D) (es : List (D × D)) (id : Int), entry (l.foldl remStep es) (.i id) = match entry es (.i id) with
    | some x => some x
    | none => (l.find? (isRem id)).map fun u => .i (uKind u)
  | [], es, id => by cases h : entry es (.i id) <;> simp [h]
  | u :: l, es, id => by
    rw [List.foldl_cons, rem_entry l]
    unfold remStep
    by_cases hb : (!(entry es (.i (uId u))).isSome && !decide (uKind u = 1) && valid u) = true
    · rw [hb, cond_true, entry_set]
      simp only [Bool.and_eq_true, Bool.not_eq_true', Option.isSome_eq_false_iff, Option.isNone_iff_eq_none] at hb
      by_cases he : uId u = id
      · subst he
        have hr : isRem (uId u) u = true := by simp only [isRem, hb.1.2, hb.2, decide_true, Bool.not_false, Bool.and_self]
        simp only [if_true, hb.1.1, List.find?_cons, hr, Option.map_some]
      · have hr : isRem id u = false := by simp [isRem, he]
        have hne : ¬ (D.i (uId u) = D.i id) := by simpa using he
        simp only [hne, if_false, List.find?_cons, hr]
    · have hb' : (!(entry es (.i (uId u))).isSome && !decide (uKind u = 1) && valid u) = false := by simpa using hb
      rw [hb', cond_false]
      cases he : entry es (.i id) with
      | some x => rfl
      | none =>
        have hr : isRem id u = false := by
          by_cases e : uId u = id
          · subst e
            rw [he] at hb'
            simp only [Option.isSome_none, Bool.not_false, Bool.true_and] at hb'
            simp only [isRem, decide_true, Bool.and_true]
            exact hb'
          · simp [isRem, e]
        simp only [List.find?_cons, hr]
theorem kindIn_rem (l : List D) (id : Int) : kindIn (l.foldl remStep []) id = firstRem id l := by
  unfold kindIn firstRem
  rw [rem_entry]
  simp only [entry]
  cases l.find? (isRem id) <;> rfl
theorem valid_kind {u : D} (h : valid u = true) : uKind u = 1 ∨ uKind u = 2 ∨ uKind u = 3 := by
  unfold valid at h
  by_cases c1 : uKind u = 1
  · exact .inl c1
  · by_cases c2 : uKind u = 2
    · exact .inr (.inl c2)
    · by_cases c3 : uKind u = 3
      · exact .inr (.inr c3)
      · simp [c1, c2, c3] at h
theorem firstRem_kind (id : Int) (l : List D) : firstRem id l = 0 ∨ firstRem id l = 2 ∨ firstRem id l = 3 := by
  unfold firstRem
  cases h : l.find? (isRem id) with
  | none => exact .inl rfl
  | some u =>
    have := List.find?_some h
    simp only [isRem, Bool.and_eq_true, Bool.not_eq_true', decide_eq_false_iff_not] at this
    right
    rcases valid_kind this.2 with k | k | k
    · exact (this.1.1 k).elim
    · exact .inl k
    · exact .inr k
theorem valid_add {u : D} (h : valid u = true) (hk : uKind u = 1) : 1 ≤ uAmt u ∧ uAmt u ≤ 1152921504606846976 := by
  unfold valid at h
  simp [hk] at h
  omega

/-! ### One side -/

/-- the amounts that are open -/
def openSum (l : List D) : Int := (l.map fun p => (p.f 2).int).sum
theorem openSum_append (a b : List D) : openSum (a ++ b) = openSum a + openSum b := by simp [openSum]
theorem openSum_insR (x : D) : ∀ l : List D, openSum (insR x l) = (x.f 2).int + openSum l
  | [] => by simp [insR, openSum]
  | y :: l => by
    simp only [insR]
    by_cases h : pId x < pId y
    · simp [h, openSum]
    · have := openSum_insR x l
      simp only [h, decide_false, cond_false]
      simp only [openSum, List.map_cons, List.sum_cons] at this ⊢
      omega
def allPos (l : List D) : Prop := ∀ p ∈ l, 1 ≤ (p.f 2).int
theorem openSum_pos {l : List D} (h : allPos l) : 0 ≤ openSum l := by
  induction l with
  | nil => simp [openSum]
  | cons p l ih =>
    have h1 := h p List.mem_cons_self
    have h2 := ih fun q hq => h q (List.mem_cons_of_mem _ hq)
    simp only [openSum, List.map_cons, List.sum_cons] at h2 ⊢
    omega

structure Both (n X Y : Int) (p q : St3) : Prop where
  own : WV n X p.1 q.1
  other : WV n Y p.2.1 q.2.1
  op : q.2.2 = isort p.2.2
  pos : allPos q.2.2

theorem both_step {n X Y : Int} {p q : St3} {b : List D} {m : Bool} {u : D} (h : Both n X Y p q) (h0 : 0 ≤ n) (hn : n ≤ 16777216) (hv : valid u = true) :
    ∃ X' Y', Both (n + 1) X' Y' (partF (b.foldl remStep []) m p u) (sideF b m q u) ∧ X' + Y' + openSum (sideF b m q u).2.2 = X + Y + openSum q.2.2 := by
  unfold partF sideF
  rw [kindIn_rem]
  by_cases hk : uKind u = 1
  · have ha := valid_add hv hk
    simp only [hk, decide_true, Bool.not_true, Bool.false_or, cond_false]
    rcases firstRem_kind (uId u) b with e | e | e
    · simp only [e]
      refine ⟨X - uAmt u, Y, ⟨h.own.minus hn h0 (by omega) ha.2, h.other.mono (by omega), ?_, ?_⟩, ?_⟩
      · show insR (pend m u) q.2.2 = isort (p.2.2 ++ [pend m u])
        rw [isort_append, h.op]; rfl
      · intro z hz
        rcases insR_mem.1 hz with rfl | hz
        · exact ha.1
        · exact h.pos z hz
      · show X - uAmt u + Y + openSum (insR (pend m u) q.2.2) = _
        rw [openSum_insR]
        have : ((pend m u).f 2).int = uAmt u := rfl
        omega
    · simp only [e]
      exact ⟨X - uAmt u, Y + uAmt u, ⟨h.own.minus hn h0 (by omega) ha.2, h.other.plus hn h0 (by omega) ha.2, h.op, h.pos⟩, by show X - uAmt u + (Y + uAmt u) + openSum q.2.2 = _; omega⟩
    · simp only [e]
      exact ⟨X, Y, ⟨h.own.mono (by omega), h.other.mono (by omega), h.op, h.pos⟩, rfl⟩
  · simp only [hk, decide_false, Bool.not_false, Bool.true_or, cond_true]
    exact ⟨X, Y, ⟨h.own.mono (by omega), h.other.mono (by omega), h.op, h.pos⟩, rfl⟩

theorem both_all {b : List D} {m : Bool} : ∀ (l : List D) {n X Y : Int} {p q : St3}, Both n X Y p q → 0 ≤ n → n + l.length ≤ 16777216 → l.all valid = true →
    ∃ X' Y', Both (n + l.length) X' Y' (l.foldl (partF (b.foldl remStep []) m) p) (l.foldl (sideF b m) q) ∧ X' + Y' + openSum (l.foldl (sideF b m) q).2.2 = X + Y + openSum q.2.2
  | [], n, X, Y, p, q, h, h0, hn, _ => ⟨X, Y, by simpa using h, rfl⟩
  | u :: l, n, X, Y, p, q, h, h0, hn, hv => by
    simp only [List.all_cons, Bool.and_eq_true] at hv
    simp only [List.length_cons] at hn
    obtain ⟨X1, Y1, h1, e1⟩ := both_step (b := b) (m := m) h h0 (by omega) hv.1
    obtain ⟨X2, Y2, h2, e2⟩ := both_all l h1 (by omega) (by omega) hv.2
    refine ⟨X2, Y2, ?_, e2.trans e1⟩
    have : n + 1 + (l.length : Int) = n + ((l.length + 1 : Nat) : Int) := by omega
    rw [this] at h2
    exact h2

/-! ### The whole -/

theorem right_iff (a : Int) : right a = true ↔ 0 ≤ a ∧ a ≤ 1152921504606846976 := by simp [right]
theorem sumOK_eq {bo bp : Int} (h1 : -9223372036854775808 ≤ bo) (h2 : bo ≤ 9223372036854775807) : sumOK bo bp = (right bo && right bp && right (IntKind.wrap .i64 (bo + bp))) := by
  have e : IntKind.wrap .i64 (0 + bo) = bo := by rw [Int.zero_add]; exact wrap_i64 h1 h2
  have r0 : right 0 = true := by decide
  simp only [sumOK, sumL, int_i, e]
  have s0 : sums 0 bo = right bo := by simp only [sums, r0, e, Bool.true_and, Bool.and_self]
  rw [s0]
  simp only [sums]
  cases right bo <;> cases right bp <;> cases right (IntKind.wrap .i64 (bo + bp)) <;> rfl

theorem fold_eq {bo bp : Int} {ours peers : List D} {c : D} (h1 : -9223372036854775808 ≤ bo) (h2 : bo ≤ 9223372036854775807) (hl1 : ours.length ≤ 4194304) (hl2 : peers.length ≤ 4194304) : foldX bo bp ours peers c = foldR bo bp ours peers c := by
  unfold foldX foldR
  rw [sumOK_eq h1 h2]
  have e1 : (cntBad ours peers c || !(right bo && right bp && right (IntKind.wrap .i64 (bo + bp)))) = (cntBad ours peers c || !right bo || !right bp || !right (IntKind.wrap .i64 (bo + bp))) := by
    cases cntBad ours peers c <;> cases right bo <;> cases right bp <;> cases right (IntKind.wrap .i64 (bo + bp)) <;> rfl
  rw [e1]
  cases hA : (cntBad ours peers c || !right bo || !right bp || !right (IntKind.wrap .i64 (bo + bp)))
  · simp only [cond_false]
    cases hB : (!(firstN ours (c.f 0).int).all valid || !(firstN peers (c.f 1).int).all valid)
    · simp only [cond_false]
      simp only [Bool.or_eq_false_iff, Bool.not_eq_false'] at hA hB
      obtain ⟨⟨⟨_, r1⟩, r2⟩, r3⟩ := hA
      have r1' := (right_iff _).1 r1
      have r2' := (right_iff _).1 r2
      have ew : IntKind.wrap .i64 (bo + bp) = bo + bp := wrap_i64 (by omega) (by omega)
      rw [ew] at r3
      have r3' := (right_iff _).1 r3
      have n1 : (firstN ours (c.f 0).int).length ≤ 4194304 := Nat.le_trans (by simp [firstN]; omega) hl1
      have n2 : (firstN peers (c.f 1).int).length ≤ 4194304 := Nat.le_trans (by simp [firstN]; omega) hl2
      have w1 : WV 1 bo (wPlus wZero bo) (vPlus wZero bo) := by
        have := WV.zero.plus (a := bo) (by omega) (by omega) r1'.1 r1'.2
        simpa using this
      have w2 : WV 1 bp (wPlus wZero bp) (vPlus wZero bp) := by
        have := WV.zero.plus (a := bp) (by omega) (by omega) r2'.1 r2'.2
        simpa using this
      have st : Both 1 bo bp (wPlus wZero bo, wPlus wZero bp, []) (vPlus wZero bo, vPlus wZero bp, []) := ⟨w1, w2, rfl, fun p hp => by simp at hp⟩
      obtain ⟨X1, Y1, b1, c1⟩ := both_all (b := firstN peers (c.f 1).int) (m := true) (firstN ours (c.f 0).int) st (by omega) (by omega) hB.1
      have f1 : fold1 bo bp ours peers c = (firstN ours (c.f 0).int).foldl (partF ((firstN peers (c.f 1).int).foldl remStep []) true) (wPlus wZero bo, wPlus wZero bp, []) := rfl
      have g1 : rfold1 bo bp ours peers c = (firstN ours (c.f 0).int).foldl (sideF (firstN peers (c.f 1).int) true) (vPlus wZero bo, vPlus wZero bp, []) := rfl
      rw [← f1, ← g1] at b1
      rw [← g1] at c1
      have st2 : Both (1 + ((firstN ours (c.f 0).int).length : Int)) Y1 X1 ((fold1 bo bp ours peers c).2.1, (fold1 bo bp ours peers c).1, []) ((rfold1 bo bp ours peers c).2.1, (rfold1 bo bp ours peers c).1, []) := ⟨b1.other, b1.own, rfl, fun p hp => by simp at hp⟩
      obtain ⟨Y2, X2, b2, c2⟩ := both_all (b := firstN ours (c.f 0).int) (m := false) (firstN peers (c.f 1).int) st2 (by omega) (by omega) hB.2
      have f2 : fold2 bo bp ours peers c = (firstN peers (c.f 1).int).foldl (partF ((firstN ours (c.f 0).int).foldl remStep []) false) ((fold1 bo bp ours peers c).2.1, (fold1 bo bp ours peers c).1, []) := rfl
      have g2 : rfold2 bo bp ours peers c = (firstN peers (c.f 1).int).foldl (sideF (firstN ours (c.f 0).int) false) ((rfold1 bo bp ours peers c).2.1, (rfold1 bo bp ours peers c).1, []) := rfl
      rw [← f2, ← g2] at b2
      rw [← g2] at c2
      obtain ⟨vx1, vx2, vx3⟩ := b2.other.value (by omega) (by omega)
      obtain ⟨vy1, vy2, vy3⟩ := b2.own.value (by omega) (by omega)
      have po1 := openSum_pos b1.pos
      have po2 := openSum_pos b2.pos
      have tot : X2 + Y2 + openSum (rfold1 bo bp ours peers c).2.2 + openSum (rfold2 bo bp ours peers c).2.2 = bo + bp := by
        have z : openSum ([] : List D) = 0 := rfl
        rw [z] at c1 c2; omega
      have d1 : decide (wValue (fold2 bo bp ours peers c).2.1 < 0) = decide (D.int (D.f (rfold2 bo bp ours peers c).2.1 0) < 0) := by
        rw [vx1]
        by_cases s : X2 < 0
        · have : D.int (D.f (rfold2 bo bp ours peers c).2.1 0) < 0 := vx3.2 s
          simp [s, this]
        · have t : ¬ D.int (D.f (rfold2 bo bp ours peers c).2.1 0) < 0 := fun hh => s (vx3.1 hh)
          rw [decide_eq_false t, decide_eq_false]
          rw [if_neg s]; split <;> omega
      have d2 : decide (wValue (fold2 bo bp ours peers c).1 < 0) = decide (D.int (D.f (rfold2 bo bp ours peers c).1 0) < 0) := by
        rw [vy1]
        by_cases s : Y2 < 0
        · have : D.int (D.f (rfold2 bo bp ours peers c).1 0) < 0 := vy3.2 s
          simp [s, this]
        · have t : ¬ D.int (D.f (rfold2 bo bp ours peers c).1 0) < 0 := fun hh => s (vy3.1 hh)
          rw [decide_eq_false t, decide_eq_false]
          rw [if_neg s]; split <;> omega
      rw [d1, d2, ← b1.op, ← b2.op]
      cases hC : (decide (D.int (D.f (rfold2 bo bp ours peers c).2.1 0) < 0) || decide (D.int (D.f (rfold2 bo bp ours peers c).1 0) < 0))
      · simp only [cond_false]
        simp only [Bool.or_eq_false_iff, decide_eq_false_iff_not] at hC
        have sx : ¬ X2 < 0 := fun hh => hC.1 (vx3.2 hh)
        have sy : ¬ Y2 < 0 := fun hh => hC.2 (vy3.2 hh)
        have ex : wValue (fold2 bo bp ours peers c).2.1 = vCut (rfold2 bo bp ours peers c).2.1 := by
          rw [vx1, vx2, if_neg sx, if_neg sx, if_neg (by omega)]
          split <;> omega
        have ey : wValue (fold2 bo bp ours peers c).1 = vCut (rfold2 bo bp ours peers c).1 := by
          rw [vy1, vy2, if_neg sy, if_neg sy, if_neg (by omega)]
          split <;> omega
        rw [ex, ey]
      · rfl
    · rfl
  · rfl

/-! ### What may be spent, what is open -/

theorem take_rel {b : List D} : ∀ (l : List D) {n S : Int} {w v : D}, WV n S w v → 0 ≤ n → n + l.length ≤ 16777216 →
    ∃ S', WV (n + l.length) S' (takeAll w (addsIf (test3 (b.foldl remStep [])) l)) (rTake b v l)
  | [], n, S, w, v, h, _, _ => ⟨S, by simpa [takeAll, addsIf, rTake] using h⟩
  | u :: l, n, S, w, v, h, h0, hn => by
    simp only [List.length_cons] at hn
    have ht : (decide (uKind u = 1) && valid u && test3 (b.foldl remStep []) (uId u)) = rAddNot b 3 u := by
      simp only [test3, rAddNot, kindIn_rem]
    have el : n + 1 + (l.length : Int) = n + ((l.length + 1 : Nat) : Int) := by omega
    have ea : addsIf (test3 (b.foldl remStep [])) (u :: l) = (bif rAddNot b 3 u then [.i (uAmt u)] else []) ++ addsIf (test3 (b.foldl remStep [])) l := by
      rw [← ht]
      unfold addsIf
      cases hb : (decide (uKind u = 1) && valid u && test3 (b.foldl remStep []) (uId u)) <;> simp [List.filter_cons, hb]
    cases hc : rAddNot b 3 u
    · obtain ⟨S', h'⟩ := take_rel (b := b) l (h.mono (m := n + 1) (by omega)) (by omega) (by omega)
      refine ⟨S', ?_⟩
      rw [ea, hc]
      have er : rTake b v (u :: l) = rTake b v l := by simp [rTake, hc]
      rw [er]
      simp only [cond_false, List.nil_append]
      rw [el] at h'
      exact h'
    · simp only [rAddNot, Bool.and_eq_true, decide_eq_true_eq] at hc
      have ha := valid_add hc.1.2 hc.1.1
      obtain ⟨S', h'⟩ := take_rel (b := b) l (h.minus (a := uAmt u) (by omega) h0 (by omega) ha.2) (by omega) (by omega)
      have hc' : rAddNot b 3 u = true := by simp only [rAddNot, hc.1.1, hc.1.2, hc.2, decide_true, Bool.and_self]
      refine ⟨S', ?_⟩
      rw [ea, hc']
      have er : rTake b v (u :: l) = rTake b (vMinus v (uAmt u)) l := by simp [rTake, hc']
      rw [er]
      rw [el] at h'
      exact h'
theorem give_rel {b : List D} : ∀ (l : List D) {n S : Int} {w v : D}, WV n S w v → 0 ≤ n → n + l.length ≤ 16777216 →
    ∃ S', WV (n + l.length) S' (giveAll w (addsIf (test2 (b.foldl remStep [])) l)) (rGive b v l)
  | [], n, S, w, v, h, _, _ => ⟨S, by simpa [giveAll, addsIf, rGive] using h⟩
  | u :: l, n, S, w, v, h, h0, hn => by
    simp only [List.length_cons] at hn
    have ht : (decide (uKind u = 1) && valid u && test2 (b.foldl remStep []) (uId u)) = rAdd b 2 u := by
      simp only [test2, rAdd, kindIn_rem]
    have el : n + 1 + (l.length : Int) = n + ((l.length + 1 : Nat) : Int) := by omega
    have ea : addsIf (test2 (b.foldl remStep [])) (u :: l) = (bif rAdd b 2 u then [.i (uAmt u)] else []) ++ addsIf (test2 (b.foldl remStep [])) l := by
      rw [← ht]
      unfold addsIf
      cases hb : (decide (uKind u = 1) && valid u && test2 (b.foldl remStep []) (uId u)) <;> simp [List.filter_cons, hb]
    cases hc : rAdd b 2 u
    · obtain ⟨S', h'⟩ := give_rel (b := b) l (h.mono (m := n + 1) (by omega)) (by omega) (by omega)
      refine ⟨S', ?_⟩
      rw [ea, hc]
      have er : rGive b v (u :: l) = rGive b v l := by simp [rGive, hc]
      rw [er]
      simp only [cond_false, List.nil_append]
      rw [el] at h'
      exact h'
    · simp only [rAdd, Bool.and_eq_true, decide_eq_true_eq] at hc
      have ha := valid_add hc.1.2 hc.1.1
      obtain ⟨S', h'⟩ := give_rel (b := b) l (h.plus (a := uAmt u) (by omega) h0 (by omega) ha.2) (by omega) (by omega)
      have hc' : rAdd b 2 u = true := by simp only [rAdd, hc.1.1, hc.1.2, hc.2, decide_true, Bool.and_self]
      refine ⟨S', ?_⟩
      rw [ea, hc']
      have er : rGive b v (u :: l) = rGive b (vPlus v (uAmt u)) l := by simp [rGive, hc']
      rw [er]
      rw [el] at h'
      exact h'
theorem spend_eq {base : Int} {mine others : List D} {c : D} (hl1 : mine.length ≤ 4194304) (hl2 : others.length ≤ 4194304) : spendX base mine others c = spendR base mine others c := by
  unfold spendX spendR
  by_cases hb : base < 0
  · simp [hb]
  · simp only [hb, decide_false, cond_false]
    have hc : 0 ≤ capped base ∧ capped base ≤ 1152921504606846976 := by unfold capped; split <;> omega
    have w0 := WV.zero.plus (a := capped base) (by omega) (by omega) hc.1 hc.2
    obtain ⟨S1, w1⟩ := take_rel (b := firstN others (c.f 1).int) mine w0 (by omega) (by omega)
    obtain ⟨S2, w2⟩ := give_rel (b := firstN mine (c.f 0).int) others w1 (by omega) (by omega)
    obtain ⟨v1, v2, _⟩ := w2.value (by omega) (by omega)
    rw [v1, v2]
    unfold capped
    by_cases s1 : S2 < 0
    · simp [s1]
    · by_cases s2 : 1152921505680588800 ≤ S2
      · have s3 : 1152921504606846976 ≤ S2 := by omega
        simp [s1, s2, s3]
      · simp only [s1, s2, if_false]
        split <;> split <;> omega
theorem open_eq (mine others : List D) (n : Int) : openX mine others n = openR mine others n := by
  unfold openX openR addsIf
  rw [List.length_map, List.countP_eq_length_filter]
  congr 3
  funext u
  simp only [test0, rAdd, kindIn_rem]

end Go.Proofs.Ytkepijaabpkdbaa

/- The law's makers over data (bases, updates, counts), a ledger turned, a whole ledger, and the laws of views and of one more add. Definitions alone. -/
namespace Go.Proofs.Ytkepijaabpkdbaa
open Go Go.Ev

def baseOf (a : Int) : Int := iand .i64 a 576460752303423487
def sgBases : Sig := ⟨[], [sI, sI], [], [sI, sI]⟩
def phiBases : Phi := fun _ as => .ret ([], [.i (baseOf (dnth as 0).int), .i (baseOf (dnth as 1).int)])
def madeU (u : D) : D :=
  bif decide (iand .i64 (uKind u) 3 = 2) then .r [.i 2, .i (iand .i64 (uId u) 2047), .i 0, u.f 3, .s []]
  else bif decide (iand .i64 (uKind u) 3 = 3) then .r [.i 3, .i (iand .i64 (uId u) 2047), .i 0, zero32, .s []]
  else .r [.i 1, .i (iand .i64 (uId u) 2047), .i (IntKind.wrap .i64 (1 + iand .i64 (uAmt u) 1152921504606846975)), u.f 3, .s []]
def sgMade : Sig := ⟨[], [sUs], [], [.own T_api_Update]⟩
def phiMade : Phi := fun _ as => .cond (decide ((dnth as 0).list.length ≤ 4294967296)) (.ret ([], [.r ((dnth as 0).list.map madeU)])) .fail
def liMade0 : LoopInfo where
  keep := ⟨[], [(0, sUs), (3, .own T_api_Update), (4, sI)]⟩
  ends := [(1, ⟨[], [(3, .own T_api_Update)]⟩)]
  phi := fun _ as => .cond (decide (0 ≤ (dnth as 2).int) && decide ((dnth as 1).list.length + (rest (dnth as 0) (dnth as 2)).length ≤ 4294967296))
    (.ret (.exit 0, [], [.r ((dnth as 1).list ++ (rest (dnth as 0) (dnth as 2)).map madeU)])) .fail
def countOf (a n : Int) : Int := IntKind.wrap .i64 (IntKind.wrap .u64 a % (n + 1))
def sgCounts : Sig := ⟨[], [.dat T_api_Counts, sI, sI], [], [.dat T_api_Counts]⟩
def phiCounts : Phi := fun _ as => .cond (decide (0 ≤ (dnth as 1).int) && decide ((dnth as 1).int ≤ 4294967296) && decide (0 ≤ (dnth as 2).int) && decide ((dnth as 2).int ≤ 4294967296))
  (.ret ([], [.r [.i (countOf ((dnth as 0).f 0).int (dnth as 1).int), .i (countOf ((dnth as 0).f 1).int (dnth as 2).int)]])) .fail

abbrev pMine (p : D) : Bool := (p.f 0).bool
abbrev pAmt (p : D) : Int := (p.f 2).int
def flipP (p : D) : D := dset p [0] (.b (!pMine p))
/-- those of a side, turned -/
def turnF (k : Int) (l : List D) : List D := (l.filter fun p => pMine p == decide (k = 1)).map flipP
def sgTurned : Sig := ⟨[], [sLd], [], [sL]⟩
def turnL (l : D) : D := .r [.i (l.f 1).int, .i (l.f 0).int, .r (turnF 0 (l.f 2).list ++ turnF 1 (l.f 2).list)]
def phiTurned : Phi := fun _ as => .cond (decide (((dnth as 0).f 2).list.length ≤ 2147483648)) (.ret ([], [turnL (dnth as 0)])) .fail
abbrev hLd : HSh := .box T_api_Ledger sLd
def liTurned0 : LoopInfo where
  keep := ⟨[hLd, hLd, hLg], [(1, .ref 0 T_api_Ledger), (2, .ref 1 T_api_Ledger), (3, .ref 2 T_api_Ledger), (4, sI)]⟩
  ends := [(1, ⟨[hLd, hLg], [(2, .ref 0 T_api_Ledger), (3, .ref 1 T_api_Ledger)]⟩)]
  phi := fun hs as => .cond (decide (0 ≤ (dnth as 3).int) && decide ((dnth as 3).int ≤ 2) && decide (((dnth hs 2).f 2).list.length + (2 - (dnth as 3).int.toNat) * ((dnth hs 0).f 2).list.length ≤ 4294967296))
    (.ret (.exit 0, [dnth hs 1, .r [.i ((dnth hs 2).f 0).int, .i ((dnth hs 2).f 1).int, .r (((dnth hs 2).f 2).list ++ (bif decide ((dnth as 3).int = 0) then turnF 0 ((dnth hs 0).f 2).list ++ turnF 1 ((dnth hs 0).f 2).list else bif decide ((dnth as 3).int = 1) then turnF 1 ((dnth hs 0).f 2).list else []))]], [.r [], .r []])) .fail
def liTurned1 : LoopInfo where
  keep := ⟨[hLd, hLd, hLg], [(1, .ref 0 T_api_Ledger), (2, .ref 1 T_api_Ledger), (3, .ref 2 T_api_Ledger), (4, sI), (5, sI)]⟩
  ends := [(3, ⟨[hLd, hLd, hLg], [(1, .ref 0 T_api_Ledger), (2, .ref 1 T_api_Ledger), (3, .ref 2 T_api_Ledger), (4, sI)]⟩)]
  phi := fun hs as => .cond (decide (0 ≤ (dnth as 4).int) && decide (((dnth hs 2).f 2).list.length + ((((dnth hs 0).f 2).list).drop (dnth as 4).int.toNat).length ≤ 4294967296))
    (.ret (.exit 2, [dnth hs 0, dnth hs 1, .r [.i ((dnth hs 2).f 0).int, .i ((dnth hs 2).f 1).int, .r (((dnth hs 2).f 2).list ++ turnF (dnth as 3).int (((dnth hs 0).f 2).list.drop (dnth as 4).int.toNat))]], [.r [], .r [], .r [], .i (dnth as 3).int])) .fail

/-- is a pending add out of its place, or too large? -/
def badP (prev : D) (has : Bool) (left : Int) (v : D) : Bool :=
  decide (pAmt v < 1) || decide (left < pAmt v) || (has && ((pMine v && !pMine prev) || ((pMine v == pMine prev) && decide (pId v < pId prev))))
def wholeG (prev : D) (has : Bool) (left : Int) : List D → Int × Bool
  | [] => (left, true)
  | v :: l => bif badP prev has left v then (0, false) else wholeG v true (IntKind.wrap .i64 (left - pAmt v)) l
def wholeB (l : D) (sum : Int) : Bool :=
  !(decide ((l.f 0).int < 0) || decide ((l.f 1).int < 0) || decide (sum < (l.f 0).int) || decide (IntKind.wrap .i64 (sum - (l.f 0).int) < (l.f 1).int)) &&
    (wholeG (.i 0) false (IntKind.wrap .i64 (IntKind.wrap .i64 (sum - (l.f 0).int) - (l.f 1).int)) (l.f 2).list).2 &&
    decide ((wholeG (.i 0) false (IntKind.wrap .i64 (IntKind.wrap .i64 (sum - (l.f 0).int) - (l.f 1).int)) (l.f 2).list).1 = 0)
def sgWhole : Sig := ⟨[], [sLd, sI], [], [sB]⟩
def phiWhole : Phi := fun _ as => .ret ([], [.b (wholeB (dnth as 0) (dnth as 1).int)])
def prevOf (l : List D) (i : Int) : D := bif decide (0 < i) then dnth l (i - 1).toNat else .i 0
def liWhole0 : LoopInfo where
  keep := ⟨[hLd], [(2, .ref 0 T_api_Ledger), (5, sI), (6, sI)]⟩
  ends := [(1, ⟨[], [(5, sI)]⟩), (0, ⟨[], [(4, sB)]⟩)]
  phi := fun hs as => .cond (decide (0 ≤ (dnth as 2).int))
    (.cond (wholeG (prevOf ((dnth hs 0).f 2).list (dnth as 2).int) (decide (0 < (dnth as 2).int)) (dnth as 1).int (((dnth hs 0).f 2).list.drop (dnth as 2).int.toNat)).2
      (.ret (.exit 0, [], [.i (wholeG (prevOf ((dnth hs 0).f 2).list (dnth as 2).int) (decide (0 < (dnth as 2).int)) (dnth as 1).int (((dnth hs 0).f 2).list.drop (dnth as 2).int.toNat)).1])) (.ret (.ret, [], [.b false]))) .fail

/-! ### The laws -/
def sgViews : Sig := ⟨[], [sI, sI, sUs, sUs, .dat T_api_Counts], [], [sB]⟩
def tysViews : List Ty := [.int .i64, .int .i64, .slice T_api_Update, .slice T_api_Update, T_api_Counts]
def phiViews : Phi := lawPhi
/-- a number above those of all removals -/
def newId (id : Int) (l : List D) : Int := l.foldl (fun id u => bif !decide (uKind u = 1) && decide (id ≤ uId u) then IntKind.wrap .i64 (uId u + 1) else id) id
abbrev hCt : HSh := .box T_api_Counts (.dat T_api_Counts)
def sgOneMore : Sig := ⟨[], [sI, sI, sUs, sUs, .dat T_api_Counts, sI], [], [sB]⟩
def tysOneMore : List Ty := [.int .i64, .int .i64, .slice T_api_Update, .slice T_api_Update, T_api_Counts, .int .i64]
def phiOneMore : Phi := lawPhi
def liOneMore0 : LoopInfo where
  keep := ⟨[hCt, hLd], [(0, sI), (1, sI), (5, sI), (10, .ref 0 T_api_Counts), (13, sUs), (14, sUs), (15, .ref 1 T_api_Ledger), (17, sI), (18, sI)]⟩
  ends := [(1, ⟨[hCt, hLd], [(0, sI), (1, sI), (5, sI), (10, .ref 0 T_api_Counts), (13, sUs), (14, sUs), (15, .ref 1 T_api_Ledger), (17, sI)]⟩)]
  phi := fun hs as => .cond (decide (0 ≤ (dnth as 8).int) && decide (((dnth hs 0).f 1).int ≤ ((dnth as 5).list.length : Int)))
    (.ret (.exit 0, [dnth hs 0, dnth hs 1], [dnth as 0, dnth as 1, dnth as 2, .r [], dnth as 4, dnth as 5, .r [], .i (newId (dnth as 7).int ((firstN (dnth as 5).list ((dnth hs 0).f 1).int).drop (dnth as 8).int.toNat))])) .fail
def newP (id : Int) (u : D) : D := .r [.b true, .i id, .i (uAmt u), zero32]
def liOneMore1 : LoopInfo where
  keep := ⟨[.box T_api_Update sU, hLd], [(0, sI), (1, sI), (17, sI), (19, .ref 0 T_api_Update), (21, .ref 1 T_api_Ledger), (23, sI)]⟩
  ends := [(3, ⟨[], []⟩), (0, ⟨[], [(12, sB)]⟩)]
  phi := fun hs as => .cond (decide (0 ≤ (dnth as 5).int))
    (.cond ((((dnth hs 1).f 2).list.drop (dnth as 5).int.toNat).any fun p => D.beq p (newP (dnth as 2).int (dnth hs 0)))
      (.ret (.ret, [], [.b (wholeB (dnth hs 1) (IntKind.wrap .i64 ((dnth as 0).int + (dnth as 1).int)))])) (.ret (.exit 2, [], []))) .fail
end Go.Proofs.Ytkepijaabpkdbaa

/- The plain law of views and of one more add: what folding made lists answers, in exact sums. -/
namespace Go.Proofs.Ytkepijaabpkdbaa
open Go Go.Ev

/-! ### Bits -/

theorem iand_pow {x m : Int} {k : Nat} (hk : k ≤ 62) (hm : (m % 18446744073709551616).toNat = 2 ^ k - 1) : iand .i64 x m = ((x % 18446744073709551616).toNat % 2 ^ k : Nat) := by
  unfold iand
  have e : (BitVec.ofInt 64 x &&& BitVec.ofInt 64 m).toNat = (x % 18446744073709551616).toNat % 2 ^ k := by
    rw [BitVec.toNat_and, ofInt_toNat, ofInt_toNat, hm, Nat.and_two_pow_sub_one_eq_mod]
  show IntKind.wrap .i64 ((BitVec.ofInt 64 x &&& BitVec.ofInt 64 m).toNat : Int) = _
  have hp : (2 : Nat) ^ k ≤ 2 ^ 62 := Nat.pow_le_pow_right (by omega) hk
  have hlt : (x % 18446744073709551616).toNat % 2 ^ k < 2 ^ k := Nat.mod_lt _ (Nat.pow_pos (by omega))
  rw [e, wrap_i64 (by omega) (by omega)]
theorem iand_range {x m : Int} {k : Nat} (hk : k ≤ 62) (hm : (m % 18446744073709551616).toNat = 2 ^ k - 1) : 0 ≤ iand .i64 x m ∧ iand .i64 x m < (2 ^ k : Nat) := by
  rw [iand_pow hk hm]
  have hlt : (x % 18446744073709551616).toNat % 2 ^ k < 2 ^ k := Nat.mod_lt _ (Nat.pow_pos (by omega))
  omega
theorem base_range (x : Int) : 0 ≤ baseOf x ∧ baseOf x ≤ 576460752303423487 := by
  have := iand_range (x := x) (m := 576460752303423487) (k := 59) (by omega) (by decide)
  unfold baseOf; omega
theorem id_range (x : Int) : 0 ≤ iand .i64 x 2047 ∧ iand .i64 x 2047 ≤ 2047 := by
  have := iand_range (x := x) (m := 2047) (k := 11) (by omega) (by decide)
  omega
theorem amt_range (x : Int) : 1 ≤ IntKind.wrap .i64 (1 + iand .i64 x 1152921504606846975) ∧ IntKind.wrap .i64 (1 + iand .i64 x 1152921504606846975) ≤ 1152921504606846976 := by
  have := iand_range (x := x) (m := 1152921504606846975) (k := 60) (by omega) (by decide)
  rw [wrap_i64 (by omega) (by omega)]; omega
theorem made_valid (u : D) : valid (madeU u) = true := by
  have h1 := id_range (uId u)
  have h2 := amt_range (uAmt u)
  have n1 : ¬ iand .i64 (uId u) 2047 < 0 := by omega
  have n2 : ¬ 2048 ≤ iand .i64 (uId u) 2047 := by omega
  have z : D.beq zero32 zero32 = true := D.beq_self _
  unfold madeU
  cases c2 : decide (iand .i64 (uKind u) 3 = 2)
  · cases c3 : decide (iand .i64 (uKind u) 3 = 3)
    · simp only [cond_false, valid, uKind, uId, uAmt, uNote, f_r, dnth_zero, dnth_succ, dnth_one, dnth_two, int_i, str_s, decide_eq_false n1, decide_eq_false n2, decide_eq_true h2.1, decide_eq_true h2.2]; rfl
    · simp only [cond_false, cond_true, valid, uKind, uId, uAmt, uNote, f_r, dnth_zero, dnth_succ, dnth_one, dnth_two, int_i, str_s, decide_eq_false n1, decide_eq_false n2, z]; rfl
  · simp only [cond_true, valid, uKind, uId, uAmt, uNote, f_r, dnth_zero, dnth_succ, dnth_one, dnth_two, int_i, str_s, decide_eq_false n1, decide_eq_false n2]; rfl
theorem made_all (l : List D) : (l.map madeU).all valid = true := by
  rw [List.all_map]; exact List.all_eq_true.2 fun u _ => made_valid u
theorem valid_id {u : D} (h : valid u = true) : 0 ≤ uId u ∧ uId u ≤ 2047 := by
  unfold valid at h
  simp at h
  omega
theorem count_range {a : Int} {n : Nat} (h : n ≤ 4294967296) : 0 ≤ countOf a n ∧ countOf a n ≤ n := by
  have e3 : 0 ≤ IntKind.wrap .u64 a := by rw [IntKind.wrap_u64]; omega
  have h1 : 0 ≤ IntKind.wrap .u64 a % ((n : Int) + 1) := Int.emod_nonneg _ (by omega)
  have h2 : IntKind.wrap .u64 a % ((n : Int) + 1) < (n : Int) + 1 := Int.emod_lt_of_pos _ (by omega)
  unfold countOf
  rw [wrap_i64 (by omega) (by omega)]; omega

/-! ### Exact sums -/

/-- what a side's adds take from it -/
def sA (b : List D) (l : List D) : Int := (l.map fun u => bif decide (uKind u = 1) && !decide (firstRem (uId u) b = 3) then uAmt u else 0).sum
/-- what they give to the other -/
def sF (b : List D) (l : List D) : Int := (l.map fun u => bif decide (uKind u = 1) && decide (firstRem (uId u) b = 2) then uAmt u else 0).sum
/-- those that are open -/
def opn (b : List D) (m : Bool) (l : List D) : List D := (l.filter fun u => decide (uKind u = 1) && decide (firstRem (uId u) b = 0)).map (pend m)

theorem part_exact {b : List D} {m : Bool} : ∀ (l : List D) {n X Y : Int} {p : St3}, (∃ v, WV n X p.1 v) → (∃ v, WV n Y p.2.1 v) → 0 ≤ n → n + l.length ≤ 16777216 → l.all valid = true →
    (∃ v, WV (n + l.length) (X - sA b l) (l.foldl (partF (b.foldl remStep []) m) p).1 v) ∧ (∃ v, WV (n + l.length) (Y + sF b l) (l.foldl (partF (b.foldl remStep []) m) p).2.1 v) ∧
      (l.foldl (partF (b.foldl remStep []) m) p).2.2 = p.2.2 ++ opn b m l
  | [], n, X, Y, p, h1, h2, _, _, _ => by simpa [sA, sF, opn] using ⟨h1, h2⟩
  | u :: l, n, X, Y, p, ⟨v1, h1⟩, ⟨v2, h2⟩, h0, hn, hv => by
    simp only [List.all_cons, Bool.and_eq_true] at hv
    simp only [List.length_cons] at hn
    have el : n + 1 + (l.length : Int) = n + ((l.length + 1 : Nat) : Int) := by omega
    have goal : ∀ {X1 Y1 : Int} {p1 : St3} {dA dF : Int} {dO : List D}, partF (b.foldl remStep []) m p u = p1 → (∃ v, WV (n + 1) X1 p1.1 v) → (∃ v, WV (n + 1) Y1 p1.2.1 v) → X1 = X - dA → Y1 = Y + dF → p1.2.2 = p.2.2 ++ dO →
        sA b (u :: l) = dA + sA b l → sF b (u :: l) = dF + sF b l → opn b m (u :: l) = dO ++ opn b m l →
        (∃ v, WV (n + (u :: l).length) (X - sA b (u :: l)) ((u :: l).foldl (partF (b.foldl remStep []) m) p).1 v) ∧ (∃ v, WV (n + (u :: l).length) (Y + sF b (u :: l)) ((u :: l).foldl (partF (b.foldl remStep []) m) p).2.1 v) ∧
          ((u :: l).foldl (partF (b.foldl remStep []) m) p).2.2 = p.2.2 ++ opn b m (u :: l) := by
      intro X1 Y1 p1 dA dF dO ep hX hY eX eY eO sa sf so
      obtain ⟨r1, r2, r3⟩ := part_exact (b := b) (m := m) l hX hY (by omega) (by omega) hv.2
      rw [el] at r1 r2
      have x1 : X - sA b (u :: l) = X1 - sA b l := by omega
      have x2 : Y + sF b (u :: l) = Y1 + sF b l := by omega
      rw [List.foldl_cons, ep, x1, x2, r3, eO, so, List.append_assoc]
      exact ⟨r1, r2, rfl⟩
    by_cases hk : uKind u = 1
    · have ha := valid_add hv.1 hk
      rcases firstRem_kind (uId u) b with e | e | e
      · refine goal (p1 := (wMinus p.1 (uAmt u), p.2.1, p.2.2 ++ [pend m u])) (X1 := X - uAmt u) (Y1 := Y) (dA := uAmt u) (dF := 0) (dO := [pend m u]) ?_ ⟨_, h1.minus (by omega) h0 (by omega) ha.2⟩ ⟨_, h2.mono (by omega)⟩ rfl (by omega) rfl ?_ ?_ ?_
        · unfold partF; rw [kindIn_rem, hk, e]; rfl
        · simp [sA, hk, e]
        · simp [sF, hk, e]
        · simp [opn, hk, e]
      · refine goal (p1 := (wMinus p.1 (uAmt u), wPlus p.2.1 (uAmt u), p.2.2)) (X1 := X - uAmt u) (Y1 := Y + uAmt u) (dA := uAmt u) (dF := uAmt u) (dO := []) ?_ ⟨_, h1.minus (by omega) h0 (by omega) ha.2⟩ ⟨_, h2.plus (by omega) h0 (by omega) ha.2⟩ rfl rfl (by simp) ?_ ?_ ?_
        · unfold partF; rw [kindIn_rem, hk, e]; rfl
        · simp [sA, hk, e]
        · simp [sF, hk, e]
        · simp [opn, hk, e]
      · refine goal (p1 := p) (X1 := X) (Y1 := Y) (dA := 0) (dF := 0) (dO := []) ?_ ⟨_, h1.mono (by omega)⟩ ⟨_, h2.mono (by omega)⟩ (by omega) (by omega) (by simp) ?_ ?_ ?_
        · unfold partF; rw [kindIn_rem, hk, e]; rfl
        · simp [sA, hk, e]
        · simp [sF, hk, e]
        · simp [opn, hk, e]
    · refine goal (p1 := p) (X1 := X) (Y1 := Y) (dA := 0) (dF := 0) (dO := []) ?_ ⟨_, h1.mono (by omega)⟩ ⟨_, h2.mono (by omega)⟩ (by omega) (by omega) (by simp) ?_ ?_ ?_
      · unfold partF; rw [decide_eq_false hk]; rfl
      · simp [sA, hk]
      · simp [sF, hk]
      · simp [opn, hk]

theorem openSum_isort (l : List D) : openSum (isort l) = openSum l := by
  have : ∀ (l u : List D), openSum (mergeD u l) = openSum u + openSum l := by
    intro l
    induction l with
    | nil => intro u; simp [mergeD, openSum]
    | cons x l ih =>
      intro u
      rw [mergeD_cons, ih, openSum_insR]
      simp only [openSum, List.map_cons, List.sum_cons]; omega
  have h := this l []
  have z : openSum ([] : List D) = 0 := rfl
  unfold isort; omega
theorem isort_mem {y : D} {l : List D} : y ∈ isort l ↔ y ∈ l := by
  unfold isort; rw [mergeD_mem]; simp
theorem opn_sum {b : List D} {m : Bool} : ∀ l : List D, sA b l = sF b l + openSum (opn b m l)
  | [] => by simp [sA, sF, opn, openSum]
  | u :: l => by
    have ih := opn_sum (b := b) (m := m) l
    by_cases hk : uKind u = 1
    · rcases firstRem_kind (uId u) b with e | e | e
      · simp [sA, sF, opn, openSum, hk, e] at ih ⊢
        have : ((pend m u).f 2).int = uAmt u := rfl
        omega
      · simp [sA, sF, opn, openSum, hk, e] at ih ⊢; omega
      · simp [sA, sF, opn, openSum, hk, e] at ih ⊢; omega
    · simp [sA, sF, opn, openSum, hk] at ih ⊢; omega
theorem opn_pos {b : List D} {m : Bool} {l : List D} (hv : l.all valid = true) : allPos (opn b m l) := by
  intro p hp
  unfold opn at hp
  rw [List.mem_map] at hp
  obtain ⟨u, hu, rfl⟩ := hp
  rw [List.mem_filter, Bool.and_eq_true, decide_eq_true_eq] at hu
  exact (valid_add (List.all_eq_true.1 hv _ hu.1) hu.2.1).1

/-- what is left to a side -/
def exX (a : Int) (x y : List D) : Int := a - sA y x + sF x y
/-- what folding answers, in exact sums -/
def foldE (a b : Int) (x y : List D) : Int × D :=
  bif decide (exX a x y < 0) || decide (exX b y x < 0) then (130, noLedger) else (0, .r [.i (exX a x y), .i (exX b y x), .r (isort (opn y true x) ++ isort (opn x false y))])

theorem exact_total {a b : Int} {x y : List D} : exX a x y + exX b y x + openSum (isort (opn y true x)) + openSum (isort (opn x false y)) = a + b := by
  have h1 := opn_sum (b := y) (m := true) x
  have h2 := opn_sum (b := x) (m := false) y
  rw [openSum_isort, openSum_isort]
  unfold exX; omega

theorem fold_exact {a b : Int} {x y : List D} {c : D} (ha : 0 ≤ a) (ha' : a ≤ 576460752303423487) (hb : 0 ≤ b) (hb' : b ≤ 576460752303423487) (hc : cntBad x y c = false) (hx : (firstN x (c.f 0).int).all valid = true) (hy : (firstN y (c.f 1).int).all valid = true)
    (lx : (firstN x (c.f 0).int).length ≤ 4194304) (ly : (firstN y (c.f 1).int).length ≤ 4194304) : foldX a b x y c = foldE a b (firstN x (c.f 0).int) (firstN y (c.f 1).int) := by
  have ew : IntKind.wrap .i64 (a + b) = a + b := wrap_i64 (by omega) (by omega)
  have hs : sumOK a b = true := by
    rw [sumOK_eq (by omega) (by omega), (right_iff a).2 (by omega), (right_iff b).2 (by omega), ew, (right_iff (a + b)).2 (by omega)]; rfl
  have w1 : ∃ v, WV 1 a (wPlus wZero a) v := ⟨_, by simpa using WV.zero.plus (a := a) (by omega) (by omega) ha (by omega)⟩
  have w2 : ∃ v, WV 1 b (wPlus wZero b) v := ⟨_, by simpa using WV.zero.plus (a := b) (by omega) (by omega) hb (by omega)⟩
  obtain ⟨p1, p2, p3⟩ := part_exact (b := firstN y (c.f 1).int) (m := true) (p := (wPlus wZero a, wPlus wZero b, [])) (firstN x (c.f 0).int) w1 w2 (by omega) (by omega) hx
  have f1 : fold1 a b x y c = (firstN x (c.f 0).int).foldl (partF ((firstN y (c.f 1).int).foldl remStep []) true) (wPlus wZero a, wPlus wZero b, []) := rfl
  rw [← f1] at p1 p2 p3
  obtain ⟨q1, q2, q3⟩ := part_exact (b := firstN x (c.f 0).int) (m := false) (p := ((fold1 a b x y c).2.1, (fold1 a b x y c).1, [])) (firstN y (c.f 1).int) p2 p1 (by omega) (by omega) hy
  have f2 : fold2 a b x y c = (firstN y (c.f 1).int).foldl (partF ((firstN x (c.f 0).int).foldl remStep []) false) ((fold1 a b x y c).2.1, (fold1 a b x y c).1, []) := rfl
  rw [← f2] at q1 q2 q3
  obtain ⟨v1, q1⟩ := q1
  obtain ⟨v2, q2⟩ := q2
  obtain ⟨vy, _, _⟩ := q1.value (by omega) (by omega)
  obtain ⟨vx, _, _⟩ := q2.value (by omega) (by omega)
  have tot := exact_total (a := a) (b := b) (x := firstN x (c.f 0).int) (y := firstN y (c.f 1).int)
  have po1 : 0 ≤ openSum (isort (opn (firstN y (c.f 1).int) true (firstN x (c.f 0).int))) := by rw [openSum_isort]; exact openSum_pos (opn_pos hx)
  have po2 : 0 ≤ openSum (isort (opn (firstN x (c.f 0).int) false (firstN y (c.f 1).int))) := by rw [openSum_isort]; exact openSum_pos (opn_pos hy)
  have eX : a - sA (firstN y (c.f 1).int) (firstN x (c.f 0).int) + sF (firstN x (c.f 0).int) (firstN y (c.f 1).int) = exX a (firstN x (c.f 0).int) (firstN y (c.f 1).int) := rfl
  have eY : b + sF (firstN y (c.f 1).int) (firstN x (c.f 0).int) - sA (firstN x (c.f 0).int) (firstN y (c.f 1).int) = exX b (firstN y (c.f 1).int) (firstN x (c.f 0).int) := by unfold exX; omega
  rw [eX] at vx
  rw [eY] at vy
  unfold foldX foldE
  rw [hc, hs, hx, hy, vx, vy, p3, q3]
  simp only [List.nil_append]
  generalize isort (opn (firstN y (c.f 1).int) true (firstN x (c.f 0).int)) = O1 at *
  generalize isort (opn (firstN x (c.f 0).int) false (firstN y (c.f 1).int)) = O2 at *
  generalize exX a (firstN x (c.f 0).int) (firstN y (c.f 1).int) = X at *
  generalize exX b (firstN y (c.f 1).int) (firstN x (c.f 0).int) = Y at *
  simp only [Bool.not_true, Bool.or_self, cond_false]
  by_cases sx : X < 0
  · simp [sx]
  · by_cases sy : Y < 0
    · simp [sy]
    · have k1 : ¬ 1152921505680588800 ≤ X := by omega
      have k2 : ¬ 1152921505680588800 ≤ Y := by omega
      simp [sx, sy, k1, k2]

/-! ### Turned -/

theorem flip_pend (m : Bool) (u : D) : flipP (pend m u) = pend (!m) u := rfl
theorem flip_opn (b : List D) (m : Bool) (l : List D) : (opn b m l).map flipP = opn b (!m) l := by
  unfold opn
  rw [List.map_map]
  exact List.map_congr_left fun u _ => flip_pend m u
def isP (m : Bool) (p : D) : Prop := ∃ u, p = pend m u
theorem opn_isP {b : List D} {m : Bool} {l : List D} {p : D} (h : p ∈ opn b m l) : isP m p := by
  unfold opn at h
  rw [List.mem_map] at h
  obtain ⟨u, _, rfl⟩ := h
  exact ⟨u, rfl⟩
theorem isP_id {m : Bool} {p : D} (h : isP m p) : pId (flipP p) = pId p := by
  obtain ⟨u, rfl⟩ := h; rfl
theorem map_insR {m : Bool} {x : D} (hx : isP m x) : ∀ {l : List D}, (∀ y ∈ l, isP m y) → (insR x l).map flipP = insR (flipP x) (l.map flipP)
  | [], _ => rfl
  | y :: l, h => by
    have ih := map_insR hx (l := l) fun z hz => h z (List.mem_cons_of_mem _ hz)
    have e : decide (pId (flipP x) < pId (flipP y)) = decide (pId x < pId y) := by rw [isP_id hx, isP_id (h y List.mem_cons_self)]
    simp only [insR, List.map_cons]
    rw [e]
    cases decide (pId x < pId y)
    · simp only [cond_false, List.map_cons]; rw [ih]
    · rfl
theorem map_mergeD {m : Bool} : ∀ {l u : List D}, (∀ y ∈ l, isP m y) → (∀ y ∈ u, isP m y) → (mergeD u l).map flipP = mergeD (u.map flipP) (l.map flipP)
  | [], u, _, _ => rfl
  | x :: l, u, h, hu => by
    rw [mergeD_cons, List.map_cons, mergeD_cons, map_mergeD (fun y hy => h y (List.mem_cons_of_mem _ hy)) (fun y hy => ?_), map_insR (h x List.mem_cons_self) hu]
    rcases insR_mem.1 hy with rfl | hy
    · exact h _ List.mem_cons_self
    · exact hu y hy
theorem map_isort {m : Bool} {l : List D} (h : ∀ y ∈ l, isP m y) : (isort l).map flipP = isort (l.map flipP) :=
  map_mergeD h fun _ hy => by simp at hy
theorem turn_two {b c : List D} {x y : List D} : turnF 0 (isort (opn b true x) ++ isort (opn c false y)) ++ turnF 1 (isort (opn b true x) ++ isort (opn c false y)) = isort (opn c true y) ++ isort (opn b false x) := by
  have f1 : ∀ p ∈ isort (opn b true x), pMine p = true := fun p hp => by
    obtain ⟨u, rfl⟩ := opn_isP (isort_mem.1 hp); rfl
  have f2 : ∀ p ∈ isort (opn c false y), pMine p = false := fun p hp => by
    obtain ⟨u, rfl⟩ := opn_isP (isort_mem.1 hp); rfl
  have d0 : decide ((0 : Int) = 1) = false := by decide
  have d1 : decide ((1 : Int) = 1) = true := by decide
  have a1 : (isort (opn b true x)).filter (fun p => pMine p == decide ((0 : Int) = 1)) = [] := List.filter_eq_nil_iff.2 fun p hp => by rw [f1 p hp, d0]; decide
  have a2 : (isort (opn c false y)).filter (fun p => pMine p == decide ((0 : Int) = 1)) = isort (opn c false y) := List.filter_eq_self.2 fun p hp => by rw [f2 p hp, d0]; rfl
  have a3 : (isort (opn b true x)).filter (fun p => pMine p == decide ((1 : Int) = 1)) = isort (opn b true x) := List.filter_eq_self.2 fun p hp => by rw [f1 p hp, d1]; rfl
  have a4 : (isort (opn c false y)).filter (fun p => pMine p == decide ((1 : Int) = 1)) = [] := List.filter_eq_nil_iff.2 fun p hp => by rw [f2 p hp, d1]; decide
  unfold turnF
  rw [List.filter_append, List.filter_append, a1, a2, a3, a4]
  simp only [List.nil_append, List.append_nil]
  rw [map_isort (m := false) fun p hp => opn_isP hp, map_isort (m := true) fun p hp => opn_isP hp, flip_opn, flip_opn]
  rfl
theorem foldE_turned (a b : Int) (x y : List D) : (foldE b a y x).1 = (foldE a b x y).1 ∧ turnL (foldE a b x y).2 = (foldE b a y x).2 := by
  unfold foldE
  by_cases h1 : exX a x y < 0
  · by_cases h2 : exX b y x < 0
    · simp only [h1, h2, decide_true, Bool.or_self, cond_true]; exact ⟨trivial, rfl⟩
    · simp only [h1, h2, decide_true, decide_false, Bool.or_false, Bool.false_or, cond_true]; exact ⟨trivial, rfl⟩
  · by_cases h2 : exX b y x < 0
    · simp only [h1, h2, decide_true, decide_false, Bool.or_false, Bool.false_or, cond_true]; exact ⟨trivial, rfl⟩
    · simp only [h1, h2, decide_false, Bool.or_self, cond_false]
      refine ⟨trivial, ?_⟩
      simp only [turnL, f_r, dnth_zero, dnth_succ, dnth_one, dnth_two, int_i, list_r]
      rw [turn_two]

/-! ### Whole -/

/-- one may stand before the other -/
def ordR (p q : D) : Prop := (pMine q = true → pMine p = true) ∧ (pMine p = pMine q → pId p ≤ pId q)
theorem sorted_pair {m : Bool} : ∀ {l : List D}, sortedD l = true → (∀ p ∈ l, pMine p = m) → l.Pairwise ordR
  | [], _, _ => .nil
  | x :: l, h, hm => by
    rw [sorted_cons] at h
    refine .cons (fun y hy => ⟨fun _ => ?_, fun _ => h.1 y hy⟩) (sorted_pair h.2 fun p hp => hm p (List.mem_cons_of_mem _ hp))
    have e1 := hm x List.mem_cons_self
    have e2 := hm y (List.mem_cons_of_mem _ hy)
    rw [e1, ← e2]; assumption
theorem whole_all : ∀ {l : List D} {prev : D} {has : Bool} {left : Int}, l.Pairwise ordR → (has = true → ∀ q ∈ l, ordR prev q) → allPos l → openSum l ≤ left → left ≤ 1152921504606846976 → wholeG prev has left l = (left - openSum l, true)
  | [], _, _, left, _, _, _, _, _ => by simp [wholeG, openSum]
  | v :: l, prev, has, left, hp, hh, hpos, hl, hle => by
    rw [List.pairwise_cons] at hp
    have p1 : 1 ≤ pAmt v := hpos v List.mem_cons_self
    have hpos' : allPos l := fun q hq => hpos q (List.mem_cons_of_mem _ hq)
    have p2 := openSum_pos hpos'
    have es : openSum (v :: l) = pAmt v + openSum l := rfl
    have hb : badP prev has left v = false := by
      unfold badP
      have b1 : ¬ pAmt v < 1 := by omega
      have b2 : ¬ left < pAmt v := by omega
      rw [decide_eq_false b1, decide_eq_false b2]
      cases has
      · rfl
      · obtain ⟨o1, o2⟩ := hh rfl v List.mem_cons_self
        cases m1 : pMine v <;> cases m2 : pMine prev
        · have : ¬ pId v < pId prev := by have := o2 (by rw [m1, m2]); omega
          simp [this]
        · simp
        · have := o1 m1; rw [m2] at this; simp at this
        · have : ¬ pId v < pId prev := by have := o2 (by rw [m1, m2]); omega
          simp [this]
    have ew : IntKind.wrap .i64 (left - pAmt v) = left - pAmt v := wrap_i64 (by omega) (by omega)
    simp only [wholeG, hb, cond_false, ew]
    rw [whole_all hp.2 (fun _ q hq => hp.1 q hq) hpos' (by omega) (by omega), es]
    congr 1; omega
theorem foldE_whole {a b : Int} {x y : List D} (ha : 0 ≤ a) (ha' : a ≤ 576460752303423487) (hb : 0 ≤ b) (hb' : b ≤ 576460752303423487) (hx : x.all valid = true) (hy : y.all valid = true) (h : (foldE a b x y).1 = 0) : wholeB (foldE a b x y).2 (a + b) = true := by
  unfold foldE at h ⊢
  by_cases h1 : exX a x y < 0
  · simp [h1] at h
  · by_cases h2 : exX b y x < 0
    · simp [h2] at h
    · simp only [h1, h2, decide_false, Bool.or_self, cond_false]
      have tot := exact_total (a := a) (b := b) (x := x) (y := y)
      have s1 : allPos (isort (opn y true x)) := fun p hp => opn_pos hx p (isort_mem.1 hp)
      have s2 : allPos (isort (opn x false y)) := fun p hp => opn_pos hy p (isort_mem.1 hp)
      have po1 := openSum_pos s1
      have po2 := openSum_pos s2
      have f1 : ∀ p ∈ isort (opn y true x), pMine p = true := fun p hp => by obtain ⟨u, rfl⟩ := opn_isP (isort_mem.1 hp); rfl
      have f2 : ∀ p ∈ isort (opn x false y), pMine p = false := fun p hp => by obtain ⟨u, rfl⟩ := opn_isP (isort_mem.1 hp); rfl
      have pw : (isort (opn y true x) ++ isort (opn x false y)).Pairwise ordR := by
        rw [List.pairwise_append]
        refine ⟨sorted_pair (isort_sorted _) f1, sorted_pair (isort_sorted _) f2, fun p hp q hq => ⟨fun hq' => ?_, fun e => ?_⟩⟩
        · exact f1 p hp
        · rw [f1 p hp, f2 q hq] at e; simp at e
      have pos : allPos (isort (opn y true x) ++ isort (opn x false y)) := fun p hp => by
        rcases List.mem_append.1 hp with hp | hp
        · exact s1 p hp
        · exact s2 p hp
      have es := openSum_append (isort (opn y true x)) (isort (opn x false y))
      have w1 : IntKind.wrap .i64 (a + b - exX a x y) = a + b - exX a x y := wrap_i64 (by omega) (by omega)
      have w2 : IntKind.wrap .i64 (a + b - exX a x y - exX b y x) = a + b - exX a x y - exX b y x := wrap_i64 (by omega) (by omega)
      have g := whole_all (prev := .i 0) (has := false) (left := a + b - exX a x y - exX b y x) pw (fun h => by simp at h) pos (by omega) (by omega)
      have d3 : ¬ a + b < exX a x y := by omega
      have d4 : ¬ a + b - exX a x y < exX b y x := by omega
      have d5 : a + b - exX a x y - exX b y x - openSum (isort (opn y true x) ++ isort (opn x false y)) = 0 := by omega
      simp only [wholeB, f_r, dnth_zero, dnth_succ, dnth_one, dnth_two, int_i, list_r, w1, w2, g, h1, h2, d3, d4, d5, decide_false, decide_true]
      rfl

/-! ### One more add -/

theorem newId_ge : ∀ {l : List D} {id : Int}, l.all valid = true → 0 ≤ id → id ≤ 2048 → id ≤ newId id l ∧ newId id l ≤ 2048 ∧ ∀ u ∈ l, ¬ uKind u = 1 → uId u < newId id l
  | [], id, _, _, h => ⟨Int.le_refl _, h, fun u hu => by simp at hu⟩
  | u :: l, id, hv, h0, h => by
    simp only [List.all_cons, Bool.and_eq_true] at hv
    have hi := valid_id hv.1
    have ew : IntKind.wrap .i64 (uId u + 1) = uId u + 1 := wrap_i64 (by omega) (by omega)
    have e : newId id (u :: l) = newId (bif !decide (uKind u = 1) && decide (id ≤ uId u) then IntKind.wrap .i64 (uId u + 1) else id) l := rfl
    rw [e, ew]
    by_cases hk : uKind u = 1
    · simp only [hk, decide_true, Bool.not_true, Bool.false_and, cond_false]
      obtain ⟨g1, g2, g3⟩ := newId_ge (l := l) hv.2 h0 h
      refine ⟨g1, g2, fun z hz hz' => ?_⟩
      rcases List.mem_cons.1 hz with rfl | hz
      · exact (hz' hk).elim
      · exact g3 z hz hz'
    · by_cases hle : id ≤ uId u
      · simp only [hk, hle, decide_true, decide_false, Bool.not_false, Bool.and_self, cond_true]
        obtain ⟨g1, g2, g3⟩ := newId_ge (l := l) (id := uId u + 1) hv.2 (by omega) (by omega)
        refine ⟨by omega, g2, fun z hz hz' => ?_⟩
        rcases List.mem_cons.1 hz with rfl | hz
        · omega
        · exact g3 z hz hz'
      · simp only [hk, hle, decide_false, Bool.not_false, Bool.and_false, cond_false]
        obtain ⟨g1, g2, g3⟩ := newId_ge (l := l) hv.2 h0 h
        refine ⟨g1, g2, fun z hz hz' => ?_⟩
        rcases List.mem_cons.1 hz with rfl | hz
        · omega
        · exact g3 z hz hz'
theorem newId_free {l : List D} (hv : l.all valid = true) : firstRem (newId 0 l) l = 0 := by
  obtain ⟨_, _, g⟩ := newId_ge (l := l) (id := 0) hv (by omega) (by omega)
  unfold firstRem
  have : l.find? (isRem (newId 0 l)) = none := by
    rw [List.find?_eq_none]
    intro u hu hr
    simp only [isRem, Bool.and_eq_true, Bool.not_eq_true', decide_eq_false_iff_not, decide_eq_true_eq] at hr
    have := g u hu hr.1.1
    omega
  rw [this]; rfl
theorem firstRem_add {x : List D} {u : D} (hk : uKind u = 1) (id : Int) : firstRem id (x ++ [u]) = firstRem id x := by
  unfold firstRem
  have : isRem id u = false := by simp [isRem, hk]
  rw [List.find?_append]
  cases x.find? (isRem id) with
  | none => simp [List.find?_cons, this]
  | some z => rfl
theorem sA_add {x y : List D} {u : D} (hk : uKind u = 1) : sA (x ++ [u]) y = sA x y := by
  unfold sA; simp only [firstRem_add hk]
theorem sF_add {x y : List D} {u : D} (hk : uKind u = 1) : sF (x ++ [u]) y = sF x y := by
  unfold sF; simp only [firstRem_add hk]
theorem opn_add {x y : List D} {u : D} {m : Bool} (hk : uKind u = 1) : opn (x ++ [u]) m y = opn x m y := by
  unfold opn; simp only [firstRem_add hk]
/-- folding with one more open add -/
theorem foldE_more {a b : Int} {x y : List D} {u : D} (hk : uKind u = 1) (hr : firstRem (uId u) y = 0) :
    exX a (x ++ [u]) y = exX a x y - uAmt u ∧ exX b y (x ++ [u]) = exX b y x ∧ opn y true (x ++ [u]) = opn y true x ++ [pend true u] ∧ opn (x ++ [u]) false y = opn x false y := by
  have e1 : sA y (x ++ [u]) = sA y x + uAmt u := by simp [sA, hk, hr]
  have e2 : sF y (x ++ [u]) = sF y x := by simp [sF, hk, hr]
  refine ⟨?_, ?_, ?_, opn_add hk⟩
  · unfold exX; rw [e1, sF_add hk]; omega
  · unfold exX; rw [e2, sA_add hk]
  · simp [opn, hk, hr]

/-! ### What the laws ask -/

theorem opn_length {b : List D} {m : Bool} {l : List D} : (opn b m l).length ≤ l.length := by
  unfold opn; rw [List.length_map]; exact List.length_filter_le _ _
theorem insR_len (x : D) : ∀ l : List D, (insR x l).length = l.length + 1
  | [] => rfl
  | y :: l => by
    have ih := insR_len x l
    simp only [insR]
    cases decide (pId x < pId y)
    · simp only [cond_false, List.length_cons]; omega
    · rfl
theorem mergeD_len : ∀ (l u : List D), (mergeD u l).length = u.length + l.length
  | [], u => rfl
  | x :: l, u => by rw [mergeD_cons, mergeD_len l, insR_len]; simp; omega
theorem isort_len (l : List D) : (isort l).length = l.length := by unfold isort; rw [mergeD_len]; simp
theorem foldE_cases (a b : Int) (x y : List D) : foldE a b x y = (130, noLedger) ∨
    (0 ≤ exX a x y ∧ 0 ≤ exX b y x ∧ foldE a b x y = (0, .r [.i (exX a x y), .i (exX b y x), .r (isort (opn y true x) ++ isort (opn x false y))])) := by
  unfold foldE
  by_cases h1 : exX a x y < 0
  · simp [h1]
  · by_cases h2 : exX b y x < 0
    · simp [h2]
    · right; refine ⟨by omega, by omega, ?_⟩; simp [h1, h2]
theorem fold_view {a b : Int} {x y : List D} {n m : Int} (ha : 0 ≤ a) (ha' : a ≤ 576460752303423487) (hb : 0 ≤ b) (hb' : b ≤ 576460752303423487) (hx : x.all valid = true) (hy : y.all valid = true) (n0 : 0 ≤ n) (n1 : n ≤ (x.length : Int)) (m0 : 0 ≤ m) (m1 : m ≤ (y.length : Int))
    (lx : x.length ≤ 4194304) (ly : y.length ≤ 4194304) : foldX a b x y (.r [.i n, .i m]) = foldE a b (firstN x n) (firstN y m) := by
  have al : ∀ (l : List D) (k : Int), l.all valid = true → (firstN l k).all valid = true := fun l k h =>
    List.all_eq_true.2 fun u hu => List.all_eq_true.1 h u (List.mem_of_mem_take hu)
  refine fold_exact (c := .r [.i n, .i m]) ha ha' hb hb' ?_ (al _ _ hx) (al _ _ hy) ?_ ?_
  · have k1 : ¬ n < 0 := by omega
    have k2 : ¬ (x.length : Int) < n := by omega
    have k3 : ¬ m < 0 := by omega
    have k4 : ¬ (y.length : Int) < m := by omega
    simp only [cntBad, f_r, dnth_zero, dnth_one, int_i, k1, k2, k3, k4, decide_false]; rfl
  · exact Nat.le_trans (by simp [firstN]; omega) lx
  · exact Nat.le_trans (by simp [firstN]; omega) ly
theorem all_first {l : List D} (k : Int) (h : l.all valid = true) : (firstN l k).all valid = true :=
  List.all_eq_true.2 fun u hu => List.all_eq_true.1 h u (List.mem_of_mem_take hu)
theorem newU_valid {id am : Int} (h0 : 0 ≤ id) (h : id ≤ 2047) : valid (.r [.i 1, .i id, .i (IntKind.wrap .i64 (1 + iand .i64 am 1152921504606846975)), .r (List.replicate 32 (.i 0)), .s []]) = true := by
  have h2 := amt_range am
  have n1 : ¬ id < 0 := by omega
  have n2 : ¬ 2048 ≤ id := by omega
  simp only [valid, uKind, uId, uAmt, uNote, f_r, dnth_zero, dnth_succ, dnth_one, dnth_two, int_i, str_s, decide_eq_false n1, decide_eq_false n2, decide_eq_true h2.1, decide_eq_true h2.2]; rfl
end Go.Proofs.Ytkepijaabpkdbaa
