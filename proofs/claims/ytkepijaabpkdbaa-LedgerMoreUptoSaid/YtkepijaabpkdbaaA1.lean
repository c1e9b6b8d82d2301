/- The evaluator: pure data, types, abstract values, blocks, shapes, and an executable reading of the model's code over them. Definitions alone; what they are worth is proved in the texts behind this one. The evaluator's operations, regions, code and functions. How data lie in memory. Abstract values and the model's: handles, places, and what loads and stores make of them. Abstract values against the model's. The program's types against the evaluator's, and the model's loads and stores of whole variables. -/
import Derived.Orders
import Derived.CheckFast
import Derived.Laws.CopyRow
import Derived.Laws.AppendOwn
import Derived.Laws.StructEq
import Derived.Laws.Closers25b
set_option linter.unusedVariables false
set_option linter.unusedSimpArgs false

/- The evaluator: pure data, types, abstract values, blocks, shapes, and an executable reading of the model's code over them. Definitions alone; what they are worth is proved in the texts behind this one. -/
namespace Go.Ev

/-! ### Pure data -/

inductive D where
  | b (x : Bool)
  | i (n : Int)
  | s (l : List UInt8)
  | r (l : List D)
  deriving Inhabited

def D.bool : D → Bool
  | .b x => x
  | _ => false
def D.int : D → Int
  | .i n => n
  | _ => 0
def D.str : D → List UInt8
  | .s l => l
  | _ => []
def D.list : D → List D
  | .r l => l
  | _ => []
/-- the element at a place -/
def dnth : List D → Nat → D
  | [], _ => .i 0
  | x :: _, 0 => x
  | _ :: l, k + 1 => dnth l k
/-- a list with one element written over -/
def dput : List D → Nat → D → List D
  | [], _, _ => []
  | _ :: l, 0, y => y :: l
  | x :: l, k + 1, y => x :: dput l k y
def D.f : D → Nat → D
  | .r l, k => dnth l k
  | _, _ => .i 0
def D.set1 : D → Nat → D → D
  | .r l, k, x => .r (dput l k x)
  | _, _, _ => .r []

mutual
def D.beq : D → D → Bool
  | .b x, .b y => x == y
  | .i x, .i y => decide (x = y)
  | .s x, .s y => decide (x = y)
  | .r x, .r y => D.beqs x y
  | _, _ => false
def D.beqs : List D → List D → Bool
  | [], [] => true
  | x :: xs, y :: ys => D.beq x y && D.beqs xs ys
  | _, _ => false
end

/-- a byte out of a datum -/
def byteOf (d : D) : UInt8 := UInt8.ofNat d.int.toNat
/-- a datum out of a byte -/
def ofByte (c : UInt8) : D := .i (c.toNat : Int)
/-- some places of a list written over from a place on -/
def splice {α : Type} (xs : List α) (off : Nat) (ys : List α) : List α := xs.take off ++ ys ++ xs.drop (off + ys.length)

/-! ### Types -/

inductive Ty where
  | int (k : IntKind)
  | bool
  | str
  | struct (ts : List Ty)
  | arr (n : Nat) (t : Ty)
  | slice (t : Ty)
  | ptr
  | map (k v : Ty)
  | fn
  | ifc
  deriving Inhabited

mutual
def Ty.beq : Ty → Ty → Bool
  | .int j, .int k => decide (j = k)
  | .bool, .bool => true
  | .str, .str => true
  | .struct xs, .struct ys => Ty.beqs xs ys
  | .arr n x, .arr m y => Nat.beq n m && Ty.beq x y
  | .slice x, .slice y => Ty.beq x y
  | .ptr, .ptr => true
  | .map k v, .map k' v' => Ty.beq k k' && Ty.beq v v'
  | .fn, .fn => true
  | .ifc, .ifc => true
  | _, _ => false
def Ty.beqs : List Ty → List Ty → Bool
  | [], [] => true
  | x :: xs, y :: ys => Ty.beq x y && Ty.beqs xs ys
  | _, _ => false
end

mutual
/-- how many cells -/
def Ty.size : Ty → Nat
  | .struct ts => Ty.sizes ts
  | .arr n t => n * t.size
  | _ => 1
def Ty.sizes : List Ty → Nat
  | [] => 0
  | t :: ts => t.size + Ty.sizes ts
end

/-- where a field begins -/
def Ty.offs : List Ty → Nat → Nat
  | [], _ => 0
  | _ :: _, 0 => 0
  | t :: ts, k + 1 => t.size + Ty.offs ts k

def Ty.isAgg : Ty → Bool
  | .struct _ => true
  | .arr _ _ => true
  | _ => false

mutual
/-- data alone: no pointer, map, function, interface -/
def Ty.isPure : Ty → Bool
  | .struct ts => Ty.arePure ts
  | .arr _ t => t.isPure
  | .slice t => t.isPure
  | .int _ => true
  | .bool => true
  | .str => true
  | _ => false
def Ty.arePure : List Ty → Bool
  | [] => true
  | t :: ts => t.isPure && Ty.arePure ts
end

mutual
/-- compared by '==' as data -/
def Ty.cmp : Ty → Bool
  | .struct ts => Ty.cmps ts
  | .arr _ t => t.cmp
  | .int _ => true
  | .bool => true
  | .str => true
  | _ => false
def Ty.cmps : List Ty → Bool
  | [] => true
  | t :: ts => t.cmp && Ty.cmps ts
end

mutual
def Ty.height : Ty → Nat
  | .struct ts => Ty.heights ts + 1
  | .arr _ t => t.height + 1
  | _ => 1
def Ty.heights : List Ty → Nat
  | [] => 0
  | t :: ts => max t.height (Ty.heights ts)
end

mutual
/-- does it hold a slice? -/
def Ty.refs : Ty → Bool
  | .struct ts => Ty.anyRefs ts
  | .arr _ t => t.refs
  | .int _ => false
  | .bool => false
  | .str => false
  | _ => true
def Ty.anyRefs : List Ty → Bool
  | [] => false
  | t :: ts => t.refs || Ty.anyRefs ts
end

mutual
/-- zero, of a type that is data -/
def Ty.zeroD : Ty → D
  | .int _ => .i 0
  | .bool => .b false
  | .str => .s []
  | .struct ts => .r (Ty.zeroDs ts)
  | .arr n t => .r (List.replicate n t.zeroD)
  | _ => .r []
def Ty.zeroDs : List Ty → List D
  | [] => []
  | t :: ts => t.zeroD :: Ty.zeroDs ts
end

/-- a map's entries out of its datum, and back -/
def mapOf (d : D) : List (D × D) := d.list.map fun e => (e.f 0, e.f 1)
def ofMap (es : List (D × D)) : D := .r (es.map fun e => .r [e.1, e.2])

/-- a datum in the form that its type gives it -/
def Ty.nf (t : Ty) (d : D) : D :=
  match t with
  | .int _ => .i d.int
  | .bool => .b d.bool
  | .str => .s d.str
  | .slice _ => .r d.list
  | _ => d

/-! ### Values -/

inductive V where
  | any
  | dat (t : Ty) (d : D)
  | agg (ts : List Ty) (vs : List V)
  | nil
  | emp (t : Ty)
  | all (t : Ty) (i len : Nat)
  | sub (t : Ty) (i off len : Nat)
  | asl (t : Ty) (i : Nat) (p : List Nat) (n off len : Nat)
  | ptr (t : Ty) (i : Nat) (p : List Nat)
  | rop (t : Ty) (d : D)
  | map (i : Nat)
  | fn (f : Nat) (caps : List V)
  | ifc (t : Nat) (v : V)
  | nilp | nilm | nilf | nili
  | tup (vs : List V)
  deriving Inhabited

def V.int (k : IntKind) (n : Int) : V := .dat (.int k) (.i n)
def V.bool (b : Bool) : V := .dat .bool (.b b)
def V.ofD (t : Ty) (d : D) : V := .dat t (t.nf d)

def V.fields : List Ty → D → Nat → List V
  | [], _, _ => []
  | t :: ts, d, k => V.ofD t (d.f k) :: V.fields ts d (k + 1)

def V.fits (t : Ty) : V → Bool
  | .dat t' _ => t.beq t'
  | .agg ts _ => t.beq (.struct ts)
  | .nil | .emp _ => match t with | .slice _ => true | _ => false
  | .all t' _ _ => t.beq (.slice t')
  | .sub t' _ _ _ => t.beq (.slice t')
  | .asl t' _ _ _ _ _ => t.beq (.slice t')
  | .ptr .. | .rop .. | .nilp => match t with | .ptr => true | _ => false
  | .map _ | .nilm => match t with | .map _ _ => true | _ => false
  | .fn .. | .nilf => match t with | .fn => true | _ => false
  | .ifc .. | .nili => match t with | .ifc => true | _ => false
  | .any | .tup _ => false

def allFit : List Ty → List V → Bool
  | [], [] => true
  | t :: ts, v :: vs => v.fits t && allFit ts vs
  | _, _ => false

mutual
def Ty.zeroV : Ty → V
  | .int k => .dat (.int k) (.i 0)
  | .bool => .dat .bool (.b false)
  | .str => .dat .str (.s [])
  | .struct ts => match Ty.arePure ts && !Ty.anyRefs ts with
    | true => .dat (.struct ts) (.r (Ty.zeroDs ts))
    | false => match allFit ts (Ty.zeroVs ts) with
      | true => .agg ts (Ty.zeroVs ts)
      | false => .any
  | .arr n t => match t.isPure with
    | true => .dat (.arr n t) (.r (List.replicate n t.zeroD))
    | false => .any
  | .slice _ => .nil
  | .ptr => .nilp
  | .map _ _ => .nilm
  | .fn => .nilf
  | .ifc => .nili
def Ty.zeroVs : List Ty → List V
  | [] => []
  | t :: ts => t.zeroV :: Ty.zeroVs ts
end

inductive Blk where
  | box (t : Ty) (v : V)
  | row (t : Ty) (xs : List D)
  | rrow (t : Ty) (xs : List D)
  | map (k v : Ty) (es : List (D × D))
  | gone
  deriving Inhabited

def look {α : Type} : List (Nat × α) → Nat → Option α
  | [], _ => none
  | (k, v) :: r, n => match Nat.beq k n with
    | true => some v
    | false => look r n

structure H where
  next : Nat
  bs : List (Nat × Blk)

/-! ### Small programs over the heap -/

inductive Prog (α : Type) : Type where
  | ret (a : α)
  | fail
  | cond (b : Bool) (x y : Prog α)
  | get (i : Nat) (k : Blk → Prog α)
  | set (i : Nat) (b : Blk) (k : Prog α)
  | new (b : Blk) (k : Nat → Prog α)

namespace Prog
variable {α β R : Type}
def bind : Prog α → (α → Prog β) → Prog β
  | .ret a, f => f a
  | .fail, _ => .fail
  | .cond b x y, f => .cond b (x.bind f) (y.bind f)
  | .get i k, f => .get i fun b => (k b).bind f
  | .set i b k, f => .set i b (k.bind f)
  | .new b k, f => .new b fun i => (k i).bind f
instance : Monad Prog where
  pure := Prog.ret
  bind := Prog.bind
/-- go on if it holds; the test is a closed one -/
def chk (b : Bool) (k : Prog α) : Prog α := match b with
  | true => k
  | false => .fail
/-- go on if it holds; the test may hang on the input -/
def need (b : Bool) (k : Prog α) : Prog α := .cond b k .fail
end Prog

abbrev Log := List (Nat × Bool)

def Prog.run {α R : Type} : Prog α → H → Log → (α → H → Log → Option R) → Option R
  | .ret a, h, l, K => K a h l
  | .fail, _, _, _ => none
  | .cond b x y, h, l, K => _root_.cond b (x.run h l K) (y.run h l K)
  | .get i k, h, l, K => match look h.bs i with
    | some b => (k b).run h ((i, false) :: l) K
    | none => none
  | .set i b k, h, l, K => k.run ⟨h.next, (i, b) :: h.bs⟩ ((i, true) :: l) K
  | .new b k, h, l, K => (k h.next).run ⟨h.next + 1, (h.next, b) :: h.bs⟩ ((h.next, true) :: l) K

/-- a decision -/
inductive T (α : Type) : Type where
  | ret (a : α)
  | fail
  | cond (b : Bool) (x y : T α)
def T.prog {α β : Type} : T α → (α → Prog β) → Prog β
  | .ret a, f => f a
  | .fail, _ => .fail
  | .cond b x y, f => .cond b (x.prog f) (y.prog f)
def T.run {α R : Type} : T α → (α → Option R) → Option R
  | .ret a, K => K a
  | .fail, _ => none
  | .cond b x y, K => _root_.cond b (x.run K) (y.run K)
def T.val {α : Type} : T α → Option α
  | .ret a => some a
  | .fail => none
  | .cond b x y => _root_.cond b x.val y.val

open Prog

/-! ### Shapes: what stands where calls, returns and loops begin and end -/

inductive Sh where
  | any
  | dat (t : Ty)
  | own (t : Ty)
  | agg (ts : List Ty) (l : List Sh)
  | ref (k : Nat) (t : Ty)
  | rall (k : Nat) (t : Ty)
  | rsub (k : Nat) (t : Ty)
  | mref (k : Nat)
  | fn (f : Nat) (l : List Sh)
  | ifc (t : Nat) (s : Sh)
  | nilp | nilm | nilf | nili
  deriving Inhabited

inductive HSh where
  | box (t : Ty) (s : Sh)
  | row (t : Ty)
  | map (k v : Ty)
  deriving Inhabited

mutual
def Sh.refs : Sh → Bool
  | .dat t => t.refs
  | .own t => t.refs
  | .agg _ l => Sh.anyRefs l
  | .fn _ l => Sh.anyRefs l
  | .ifc _ s => s.refs
  | _ => false
def Sh.anyRefs : List Sh → Bool
  | [] => false
  | s :: l => s.refs || Sh.anyRefs l
end
def HSh.refs : HSh → Bool
  | .box _ s => s.refs
  | .row t => t.refs
  | .map k v => k.refs || v.refs
def HSh.anyRefs : List HSh → Bool
  | [] => false
  | s :: l => s.refs || HSh.anyRefs l

structure AS where
  refs : List (Nat × Nat)
  used : List Nat
  frz : List Nat

def memN : Nat → List Nat → Bool
  | _, [] => false
  | n, k :: l => match Nat.beq n k with
    | true => true
    | false => memN n l
def memR : Nat → List (Nat × Nat) → Bool
  | _, [] => false
  | n, (_, k) :: l => match Nat.beq n k with
    | true => true
    | false => memR n l
def disj : List Nat → List Nat → Bool
  | [], _ => true
  | x :: xs, ys => match memN x ys with
    | true => false
    | false => disj xs ys

def disjR : List (Nat × Nat) → List Nat → Bool
  | [], _ => true
  | (_, x) :: xs, ys => match memN x ys with
    | true => false
    | false => disjR xs ys

/-- the reference number k is to the block i -/
def AS.bindRef {β : Type} (s : AS) (k i : Nat) (f : AS → Prog β) : Prog β :=
  match look s.refs k with
  | some j => chk (Nat.beq j i) (f s)
  | none => chk (!memR i s.refs) (f { s with refs := (k, i) :: s.refs })

mutual
/-- as data; the rows that it lies in are noted -/
def abD {β : Type} : V → Ty → AS → (D → AS → Prog β) → Prog β
  | .dat t' d, t, s, f => chk (t.beq t') (f d s)
  | .nil, .slice _, s, f => f (.r []) s
  | .emp _, .slice _, s, f => f (.r []) s
  | .all t' i _, t, s, f => chk (t.beq (.slice t')) (.get i fun
    | .row t'' xs => chk (t'.beq t'') (f (.r xs) { s with frz := i :: s.frz })
    | .rrow t'' xs => chk (t'.beq t'') (f (.r xs) s)
    | _ => .fail)
  | .sub t' i off len, t, s, f => chk (t.beq (.slice t')) (.get i fun
    | .row t'' xs => chk (t'.beq t'') (f (.r ((xs.drop off).take len)) { s with frz := i :: s.frz })
    | .rrow t'' xs => chk (t'.beq t'') (f (.r ((xs.drop off).take len)) s)
    | _ => .fail)
  | .agg ts vs, t, s, f => chk (t.beq (.struct ts)) (abDs vs ts s fun ds s => f (.r ds) s)
  | _, _, _, _ => .fail
def abDs {β : Type} : List V → List Ty → AS → (List D → AS → Prog β) → Prog β
  | [], [], s, f => f [] s
  | v :: vs, t :: ts, s, f => abD v t s fun d s => abDs vs ts s fun ds s => f (d :: ds) s
  | _, _, _, _ => .fail
end

/-- as data, where no row is asked for -/
def V.plain : V → Option D
  | .dat _ d => some d
  | .nil => some (.r [])
  | .emp _ => some (.r [])
  | _ => none

mutual
/-- a value, by its shape -/
def ab {β : Type} : Sh → V → AS → (D → AS → Prog β) → Prog β
  | .any, _, s, f => f (.r []) s
  | .dat t, v, s, f => abD v t s f
  | .own t, v, s, f => match v with
    | .nil => f (.r []) s
    | .emp t' => chk (t.beq t') (f (.r []) s)
    | .all t' i _ => chk (t.beq t' && !memN i s.used) (.get i fun
      | .row t'' xs => chk (t.beq t'') (f (.r xs) { s with used := i :: s.used })
      | _ => .fail)
    | .sub t' i off len => chk (t.beq t' && !memN i s.used) (.get i fun
      | .row t'' xs => chk (t.beq t'') (f (.r ((xs.drop off).take len)) { s with used := i :: s.used })
      | _ => .fail)
    | _ => .fail
  | .agg ts l, v, s, f => match v with
    | .agg ts' vs => chk (Ty.beqs ts ts') (abs l vs s fun ds s => f (.r ds) s)
    | .dat (.struct ts') d => chk (Ty.beqs ts ts') (abs l (V.fields ts' d 0) s fun ds s => f (.r ds) s)
    | _ => .fail
  | .ref k t, v, s, f => match v with
    | .ptr t' i [] => chk (t.beq t') (s.bindRef k i (f (.r [])))
    | _ => .fail
  | .rall k t, v, s, f => match v with
    | .all t' i _ => chk (t.beq t') (s.bindRef k i (f (.r [])))
    | _ => .fail
  | .rsub k t, v, s, f => match v with
    | .all t' i len => chk (t.beq t') (s.bindRef k i (f (.r [.i 0, .i (len : Int)])))
    | .sub t' i off len => chk (t.beq t') (s.bindRef k i (f (.r [.i (off : Int), .i (len : Int)])))
    | _ => .fail
  | .mref k, v, s, f => match v with
    | .map i => s.bindRef k i (f (.r []))
    | _ => .fail
  | .fn g l, v, s, f => match v with
    | .fn g' vs => chk (Nat.beq g g') (abs l vs s fun ds s => f (.r ds) s)
    | _ => .fail
  | .ifc t sh, v, s, f => match v with
    | .ifc t' v' => chk (Nat.beq t t') (ab sh v' s f)
    | _ => .fail
  | .nilp, v, s, f => match v with
    | .nilp => f (.r []) s
    | _ => .fail
  | .nilm, v, s, f => match v with
    | .nilm => f (.r []) s
    | _ => .fail
  | .nilf, v, s, f => match v with
    | .nilf => f (.r []) s
    | _ => .fail
  | .nili, v, s, f => match v with
    | .nili => f (.r []) s
    | _ => .fail
def abs {β : Type} : List Sh → List V → AS → (List D → AS → Prog β) → Prog β
  | [], [], s, f => f [] s
  | sh :: l, v :: vs, s, f => ab sh v s fun d s => abs l vs s fun ds s => f (d :: ds) s
  | _, _, _, _ => .fail
end

/-- the blocks, by their shapes -/
def abH {β : Type} : List HSh → Nat → AS → (List D → AS → Prog β) → Prog β
  | [], _, s, f => f [] s
  | hs :: l, k, s, f => match look s.refs k with
    | some i => .get i fun b => match hs, b with
      | .box t sh, .box t' v => chk (t.beq t') (ab sh v s fun d s => abH l (k + 1) s fun ds s => f (d :: ds) s)
      | .row t, .row t' xs => chk (t.beq t') (abH l (k + 1) s fun ds s => f (.r xs :: ds) s)
      | .map kt vt, .map kt' vt' es => chk (kt.beq kt' && vt.beq vt') (abH l (k + 1) s fun ds s => f (ofMap es :: ds) s)
      | _, _ => .fail
    | none => .fail

/-- the pinned blocks are the first references -/
def pinned : List Nat → Nat → List (Nat × Nat)
  | [], _ => []
  | i :: l, k => (k, i) :: pinned l (k + 1)

/-- all of it: the data of the blocks and of the values -/
def absorb {β : Type} (pins : List Nat) (hsh : List HSh) (sh : List Sh) (vs : List V) (f : List D → List D → AS → Prog β) : Prog β :=
  abs sh vs ⟨pinned pins 0, [], []⟩ fun as s => abH hsh 0 s fun hs s => chk (disj s.frz s.used && disjR s.refs s.used && disjR s.refs s.frz) (f hs as s)

/-! ### The way back: values and blocks out of data -/

def nth : List Nat → Nat → Nat
  | [], _ => 0
  | x :: _, 0 => x
  | _ :: l, k + 1 => nth l k
def vnth {α : Type} : List α → Nat → Option α
  | [], _ => none
  | x :: _, 0 => some x
  | _ :: l, k + 1 => vnth l k
def vlen {α : Type} : List α → Nat
  | [] => 0
  | _ :: l => vlen l + 1
def vset1 {α : Type} : List α → Nat → α → List α
  | [], _, _ => []
  | _ :: l, 0, y => y :: l
  | x :: l, k + 1, y => x :: vset1 l k y
def vapp {α : Type} : List α → List α → List α
  | [], m => m
  | x :: l, m => x :: vapp l m
def vmap {α β : Type} (f : α → β) : List α → List β
  | [] => []
  | x :: l => f x :: vmap f l
def vrep {α : Type} : Nat → α → List α
  | 0, _ => []
  | n + 1, x => x :: vrep n x
def vtake {α : Type} : Nat → List α → List α
  | 0, _ => []
  | _ + 1, [] => []
  | n + 1, x :: l => x :: vtake n l
/-- of a row the length, by the data of the blocks -/
def lenOf (hs : List D) (k : Nat) : Nat := (dnth hs k).list.length

mutual
def mk {β : Type} (refs : List Nat) (hs : List D) : Sh → D → (V → Prog β) → Prog β
  | .any, _, f => f .any
  | .dat t, d, f => f (V.ofD t d)
  | .own t, d, f => .new (.row t d.list) fun i => f (.all t i d.list.length)
  | .agg ts l, d, f => mks refs hs l d 0 fun vs => f (.agg ts vs)
  | .ref k t, _, f => f (.ptr t (nth refs k) [])
  | .rall k t, _, f => f (.all t (nth refs k) (lenOf hs k))
  | .rsub k t, d, f => f (.sub t (nth refs k) (d.f 0).int.toNat (d.f 1).int.toNat)
  | .mref k, _, f => f (.map (nth refs k))
  | .fn g l, d, f => mks refs hs l d 0 fun vs => f (.fn g vs)
  | .ifc t sh, d, f => mk refs hs sh d fun v => f (.ifc t v)
  | .nilp, _, f => f .nilp
  | .nilm, _, f => f .nilm
  | .nilf, _, f => f .nilf
  | .nili, _, f => f .nili
def mks {β : Type} (refs : List Nat) (hs : List D) : List Sh → D → Nat → (List V → Prog β) → Prog β
  | [], _, _, f => f []
  | sh :: l, d, k, f => mk refs hs sh (d.f k) fun v => mks refs hs l d (k + 1) fun vs => f (v :: vs)
end

/-- so many new places -/
def news {β : Type} : Nat → (List Nat → Prog β) → Prog β
  | 0, f => f []
  | n + 1, f => .new .gone fun i => news n fun l => f (i :: l)

def mkH {β : Type} (refs : List Nat) (hs : List D) : List HSh → Nat → Prog β → Prog β
  | [], _, f => f
  | .box t sh :: l, k, f => mk refs hs sh (dnth hs k) fun v => .set (nth refs k) (.box t v) (mkH refs hs l (k + 1) f)
  | .row t :: l, k, f => .set (nth refs k) (.row t (dnth hs k).list) (mkH refs hs l (k + 1) f)
  | .map kt vt :: l, k, f => .set (nth refs k) (.map kt vt (mapOf (dnth hs k))) (mkH refs hs l (k + 1) f)

def setAll {β : Type} (b : Blk) : List Nat → Prog β → Prog β
  | [], f => f
  | i :: l, f => .set i b (setAll b l f)
def freezeAll {β : Type} : List Nat → Prog β → Prog β
  | [], f => f
  | i :: l, f => .get i fun
    | .row t xs => .set i (.rrow t xs) (freezeAll l f)
    | _ => freezeAll l f

/-! ### Calls -/

structure Sig where
  heap : List HSh
  ins : List Sh
  heap' : List HSh
  outs : List Sh

structure Keep where
  heap : List HSh
  slots : List (Nat × Sh)

inductive Ex where
  | normal
  | exit (id : Nat)
  | ret

/-- a loop: what is kept at its head, what at each of its ends (0: a return; id + 1: the exit of that number), and what it makes of the data -/
structure LoopInfo where
  keep : Keep
  ends : List (Nat × Keep)
  phi : List D → List D → T (Ex × List D × List D)

structure Env where
  ty : TypeId → Option Ty
  sig : FuncId → List V → Option Sig
  phi : FuncId → List V → List D → List D → T (List D × List D)
  meth : TypeId → String → Option FuncId
  ntmps : Nat
  npins : Nat
  loops : Nat → Option LoopInfo

/-- the references, from 0 on, as a list -/
def refList : Nat → Nat → List (Nat × Nat) → List Nat
  | 0, _, _ => []
  | n + 1, k, s => (look s k).getD 0 :: refList n (k + 1) s

def one : List V → V
  | [v] => v
  | vs => .tup vs

def evCall (E : Env) (f : FuncId) (args : List V) : Prog V :=
  match E.sig f args with
  | none => .fail
  | some sg =>
    absorb [] sg.heap sg.ins args fun hs as s =>
    (E.phi f args hs as).prog fun (hs', outs) =>
    chk (Nat.beq (vlen hs') (vlen sg.heap') && Nat.beq (vlen outs) (vlen sg.outs))
    (setAll .gone s.used (setAll .gone (refList (vlen sg.heap) 0 s.refs)
    (let tail := fun (go : Prog V) => match Sh.anyRefs sg.outs || HSh.anyRefs sg.heap' with
      | true => freezeAll s.frz go
      | false => go
    tail (news (vlen sg.heap' - vlen sg.heap) fun more =>
    let refs := vapp (refList (vlen sg.heap) 0 s.refs) more
    mkH refs hs' sg.heap' 0
    (mks refs hs' sg.outs (.r outs) 0 fun vs => .ret (one vs))))))

end Go.Ev

/- The evaluator's operations, regions, code and functions. -/
namespace Go.Ev
open Go Prog

/-! ### Operands -/

def ofConst : Value → V
  | .bool b => .dat .bool (.b b)
  | .int k n => match decide (k.min ≤ n) && decide (n ≤ k.max) with
    | true => .dat (.int k) (.i n)
    | false => .any
  | .string s => match Nat.ble (vlen s.data.toList) 4611686018427387904 with
    | true => .dat .str (.s s.data.toList)
    | false => .any
  | .slice none 0 0 => .nil
  | .pointer none => .nilp
  | .map none => .nilm
  | .nilFunc => .nilf
  | .nilIface => .nili
  | _ => .any

def opval (fr : List (Nat × V)) : Operand → V
  | .tmp t => (look fr t).getD .any
  | .const v => ofConst v
  | .global _ => .any
  | .func f => .fn f []

/-! ### Arithmetic -/

def iand (k : IntKind) (x y : Int) : Int := k.wrap (BitVec.ofInt k.bits x &&& BitVec.ofInt k.bits y).toNat
def ior (k : IntKind) (x y : Int) : Int := k.wrap (BitVec.ofInt k.bits x ||| BitVec.ofInt k.bits y).toNat
def ixor (k : IntKind) (x y : Int) : Int := k.wrap (BitVec.ofInt k.bits x ^^^ BitVec.ofInt k.bits y).toNat
def iandNot (k : IntKind) (x y : Int) : Int := k.wrap (BitVec.ofInt k.bits x &&& ~~~BitVec.ofInt k.bits y).toNat
def ishl (k : IntKind) (x y : Int) : Int := k.wrap (x * 2 ^ min y.toNat k.bits)
def ishr (k : IntKind) (x y : Int) : Int := x.fdiv (2 ^ min y.toNat k.bits)

def binInt (op : BinOp) (k : IntKind) (a b : Int) : Prog V :=
  match op with
  | .add => .ret (.int k (k.wrap (a + b)))
  | .sub => .ret (.int k (k.wrap (a - b)))
  | .mul => .ret (.int k (k.wrap (a * b)))
  | .quo => .cond (decide (b = 0)) .fail (.ret (.int k (k.wrap (a.tdiv b))))
  | .rem => .cond (decide (b = 0)) .fail (.ret (.int k (a.tmod b)))
  | .and => .ret (.int k (iand k a b))
  | .or => .ret (.int k (ior k a b))
  | .xor => .ret (.int k (ixor k a b))
  | .andNot => .ret (.int k (iandNot k a b))
  | .eql => .ret (.bool (decide (a = b)))
  | .neq => .ret (.bool (!decide (a = b)))
  | .lss => .ret (.bool (decide (a < b)))
  | .leq => .ret (.bool (decide (a ≤ b)))
  | .gtr => .ret (.bool (decide (b < a)))
  | .geq => .ret (.bool (decide (b ≤ a)))
  | .shl => .cond (decide (b < 0)) .fail (.ret (.int k (ishl k a b)))
  | .shr => .cond (decide (b < 0)) .fail (.ret (.int k (ishr k a b)))

/-- as many bytes as one text may have -/
def mostBytes : Nat := 4611686018427387904

def binStr (op : BinOp) (a b : List UInt8) : Prog V :=
  match op with
  | .add => need (decide (a.length + b.length ≤ mostBytes)) (.ret (.dat .str (.s (a ++ b))))
  | .eql => .ret (.bool (decide (a = b)))
  | .neq => .ret (.bool (!decide (a = b)))
  | _ => .fail

def isShift : BinOp → Bool
  | .shl | .shr => true
  | _ => false

def evBin (op : BinOp) (xt : Ty) (cst : Bool) (x y : V) : Prog V :=
  match x, y with
  | .dat (.int k) (.i a), .dat (.int k') (.i b) =>
    match isShift op || decide (k = k') with
    | true => binInt op k a b
    | false => .fail
  | .dat .str (.s a), .dat .str (.s b) => binStr op a b
  | .dat .bool (.b a), .dat .bool (.b b) =>
    chk (xt.beq .bool) (match op with
    | .eql => .ret (.bool (a == b))
    | .neq => .ret (.bool (!(a == b)))
    | _ => .fail)
  | .dat t a, .dat t' b =>
    chk (xt.beq t && t.cmp && t.isAgg && t.beq t' && Nat.ble t.height 64) (match op with
    | .eql => .ret (.bool (D.beq a b))
    | .neq => .ret (.bool (!D.beq a b))
    | _ => .fail)
  | .ifc _ _, .nili => chk (xt.beq .ifc) (match op with
    | .eql => .ret (.bool false)
    | .neq => .ret (.bool true)
    | _ => .fail)
  | .nili, .nili => chk (xt.beq .ifc && cst) (match op with
    | .eql => .ret (.bool true)
    | .neq => .ret (.bool false)
    | _ => .fail)
  | _, _ => .fail

def IntKind.most : IntKind → Int
  | k => if k.signed then -1 else k.max

def evUn (op : UnOp) (x : V) : Prog V :=
  match op, x with
  | .not, .dat .bool (.b a) => .ret (.bool (!a))
  | .neg, .dat (.int k) (.i n) => .ret (.int k (k.wrap (0 - n)))
  | .xor, .dat (.int k) (.i n) => .ret (.int k (ixor k (IntKind.most k) n))
  | _, _ => .fail

/-! ### Places -/

/-- a part of a datum -/
def dget : Ty → D → List Nat → Option (Ty × D)
  | t, d, [] => some (t, d)
  | .struct ts, d, k :: p => match vnth ts k with
    | some t => dget t (d.f k) p
    | none => none
  | .arr _ t, d, k :: p => dget t (d.f k) p
  | _, _, _ :: _ => none
termination_by structural _ _ p => p

def dset : D → List Nat → D → D
  | _, [], x => x
  | d, k :: p, x => d.set1 k (dset (d.f k) p x)

/-- a part of a value -/
def vget : V → List Nat → Option V
  | v, [] => some v
  | .agg _ vs, k :: p => match vnth vs k with
    | some v => vget v p
    | none => none
  | .dat t d, k :: p => match dget t d (k :: p) with
    | some (t, d) => some (V.ofD t d)
    | none => none
  | _, _ :: _ => none
termination_by structural _ p => p

/-- a part of a value written over; what is no plain datum turns the data on the way into parts -/
def vset : V → List Nat → V → Option V
  | _, [], x => some x
  | .agg ts vs, k :: p, x => match vnth vs k with
    | some v => match vset v p x with
      | some v' => some (.agg ts (vset1 vs k v'))
      | none => none
    | none => none
  | .dat t d, k :: p, x => match x.plain with
    | some dx => some (.dat t (dset d (k :: p) dx))
    | none => match t with
      | .struct ts => match vnth (V.fields ts d 0) k with
        | some v => match vset v p x with
          | some v' => some (.agg ts (vset1 (V.fields ts d 0) k v'))
          | none => none
        | none => none
      | _ => none
  | _, _ :: _, _ => none
termination_by structural _ p => p

/-- the bytes, or other elements, of a slice; nothing is noted: they are read at once -/
def elems (v : V) (f : List D → Prog V) : Prog V :=
  match v with
  | .nil => f []
  | .emp _ => f []
  | .dat (.slice _) d => f d.list
  | .all _ i _ => .get i fun
    | .row _ xs => f xs
    | .rrow _ xs => f xs
    | _ => .fail
  | .sub _ i off len => .get i fun
    | .row _ xs => f ((xs.drop off).take len)
    | .rrow _ xs => f ((xs.drop off).take len)
    | _ => .fail
  | .asl _ i p _ off len => .get i fun
    | .box _ v => match vget v p with
      | some (.dat _ d) => f ((d.list.drop off).take len)
      | _ => .fail
    | _ => .fail
  | _ => .fail

/-- of what type the elements of a slice are -/
def V.elemTy : V → Option Ty
  | .dat (.slice t) _ => some t
  | .all t _ _ => some t
  | .sub t _ _ _ => some t
  | .asl t _ _ _ _ _ => some t
  | .emp t => some t
  | _ => none

def V.len : V → Option Int
  | .nil => some 0
  | .emp _ => some 0
  | .dat (.slice _) d => some (d.list.length : Int)
  | .all _ _ len => some (len : Int)
  | .sub _ _ _ len => some (len : Int)
  | .asl _ _ _ _ _ len => some (len : Int)
  | _ => none

/-- a whole number's value -/
def V.num : V → Option Int
  | .dat (.int _) (.i n) => some n
  | _ => none

def evLoad (t : Ty) (a : V) : Prog V :=
  match a with
  | .ptr t' i p => chk (t.beq t') (.get i fun
    | .box _ v => match vget v p with
      | some x => chk (x.fits t) (.ret x)
      | none => .fail
    | .row te xs => match p with
      | k :: p => match dget te (dnth xs k) p with
        | some (t'', d) => chk (t.beq t'') (.ret (V.ofD t'' d))
        | none => .fail
      | [] => .fail
    | .rrow te xs => match p with
      | k :: p => match dget te (dnth xs k) p with
        | some (t'', d) => chk (t.beq t'') (.ret (V.ofD t'' d))
        | none => .fail
      | [] => .fail
    | _ => .fail)
  | .rop t' d => chk (t.beq t') (.ret (V.ofD t d))
  | _ => .fail

def evStore (t : Ty) (a x : V) : Prog V :=
  match a with
  | .ptr t' i p => chk (t.beq t' && x.fits t) (.get i fun
    | .box tb v => match vset v p x with
      | some v' => .set i (.box tb v') (.ret .any)
      | none => abD x t ⟨[], [], []⟩ fun d s => freezeAll s.frz (match vset v p (.dat t d) with
        | some v' => .set i (.box tb v') (.ret .any)
        | none => .fail)
    | .row te xs => match p with
      | k :: p => abD x t ⟨[], [], []⟩ fun d s => chk (!memN i s.frz) (freezeAll s.frz
          (.set i (.row te (dput xs k (dset (dnth xs k) p d))) (.ret .any)))
      | [] => .fail
    | _ => .fail)
  | _ => .fail

def evFieldAddr (s : Ty) (a : V) (k : Nat) : Prog V :=
  match s, a with
  | .struct ts, .ptr t i p => chk (t.beq (.struct ts)) (match vnth ts k with
    | some t => .ret (.ptr t i (vapp p [k]))
    | none => .fail)
  | .struct ts, .rop t d => chk (t.beq (.struct ts)) (match vnth ts k with
    | some t => .ret (.rop t (d.f k))
    | none => .fail)
  | _, _ => .fail

def evField (s : Ty) (x : V) (k : Nat) : Prog V :=
  match s, x with
  | .struct ts, .dat t d => chk (t.beq (.struct ts)) (match vnth ts k with
    | some t => .ret (V.ofD t (d.f k))
    | none => .fail)
  | .struct ts, .agg ts' vs => chk (Ty.beqs ts ts') (match vnth vs k with
    | some v => .ret v
    | none => .fail)
  | _, _ => .fail

/-- an index in its bounds -/
def inb (k : Int) (n : Nat) : Bool := decide (0 ≤ k) && decide (k < (n : Int))

def evIndexAddr (t : Ty) (x ix : V) : Prog V :=
  match ix.num with
  | none => .fail
  | some k => match t, x with
    | .arr n te, .ptr t' i p => chk (t'.beq (.arr n te)) (need (inb k n) (.ret (.ptr te i (vapp p [k.toNat]))))
    | .arr n te, .rop t' d => chk (t'.beq (.arr n te)) (need (inb k n) (.ret (.rop te (d.f k.toNat))))
    | .slice te, .dat t' d => chk (t'.beq (.slice te)) (need (inb k d.list.length) (.ret (.rop te (d.f k.toNat))))
    | .slice te, .all t' i len => chk (t'.beq te) (need (inb k len) (.ret (.ptr te i [k.toNat])))
    | .slice te, .sub t' i off len => chk (t'.beq te) (need (inb k len) (.ret (.ptr te i [off + k.toNat])))
    | .slice te, .asl t' i p _ off len => chk (t'.beq te) (need (inb k len) (.ret (.ptr te i (vapp p [off + k.toNat]))))
    | _, _ => .fail

def evIndex (t : Ty) (x ix : V) : Prog V :=
  match ix.num with
  | none => .fail
  | some k => match t, x with
    | .arr n te, .dat t' d => chk (t'.beq (.arr n te)) (need (inb k n) (.ret (V.ofD te (d.f k.toNat))))
    | .str, .dat .str (.s l) => need (inb k l.length) (.ret (.int .u8 ((l.getD k.toNat 0).toNat : Int)))
    | _, _ => .fail

/-- the bounds of a cut: lo, hi of at most so many -/
def cutIn (lo hi : Option V) (len most : Int) (f : Nat → Nat → Prog V) : Prog V :=
  match lo, hi with
  | none, none => f 0 len.toNat
  | some l, none => match l.num with
    | some l => need (decide (0 ≤ l) && decide (l ≤ len)) (f l.toNat len.toNat)
    | none => .fail
  | none, some h => match h.num with
    | some h => need (decide (0 ≤ h) && decide (h ≤ most)) (f 0 h.toNat)
    | none => .fail
  | some l, some h => match l.num, h.num with
    | some l, some h => need (decide (0 ≤ h) && decide (h ≤ most) && decide (0 ≤ l) && decide (l ≤ h)) (f l.toNat h.toNat)
    | _, _ => .fail

def evSlice (t : Ty) (x : V) (lo hi mx : Option V) : Prog V :=
  match mx with
  | some m => match t, lo, hi, m.num with      -- x[:0:0]
    | .slice te, none, some h, some m => match h.num with
      | some h => chk (decide (h = 0) && decide (m = 0) && x.fits (.slice te)) (.ret (.emp te))
      | none => .fail
    | _, _, _, _ => .fail
  | none => match t, x with
    | .str, .dat .str (.s l) => match lo, hi with
      | none, none => .ret (.dat .str (.s l))
      | _, _ => cutIn lo hi l.length l.length fun a b => .ret (.dat .str (.s ((l.take b).drop a)))
    | .slice te, .dat t' d => chk (t'.beq (.slice te)) (cutIn lo hi d.list.length d.list.length fun a b => .ret (.dat (.slice te) (.r ((d.list.take b).drop a))))
    | .slice te, .all t' i len => chk (t'.beq te) (cutIn lo hi len len fun a b => .ret (.sub te i a (b - a)))
    | .slice te, .sub t' i off len => chk (t'.beq te) (.get i fun
      | .row _ xs => cutIn lo hi len (xs.length - off : Nat) fun a b => .ret (.sub te i (off + a) (b - a))
      | .rrow _ xs => cutIn lo hi len (xs.length - off : Nat) fun a b => .ret (.sub te i (off + a) (b - a))
      | _ => .fail)
    | .slice te, .nil => cutIn lo hi 0 0 fun _ _ => .ret (.emp te)
    | .slice te, .emp _ => cutIn lo hi 0 0 fun _ _ => .ret (.emp te)
    | .slice te, .asl t' i p n off len => chk (t'.beq te) (cutIn lo hi len (n - off : Nat) fun a b => .ret (.asl te i p n (off + a) (b - a)))
    | .arr n te, .ptr t' i p => chk (t'.beq (.arr n te)) (.get i fun
      | .box _ _ => cutIn lo hi n n fun a b => .ret (.asl te i p n a (b - a))
      | _ => .fail)
    | _, _ => .fail

/-- parts that are set in a list -/
def putParts : List Ty → List V → List (Nat × V) → Option (List V)
  | _, vs, [] => some vs
  | ts, vs, (k, v) :: r => match vnth ts k with
    | some t => match v.fits t with
      | true => putParts ts (vset1 vs k v) r
      | false => none
    | none => none

def allPlain : List V → Option (List D)
  | [] => some []
  | v :: vs => match v.plain, allPlain vs with
    | some d, some ds => some (d :: ds)
    | _, _ => none

def evBuild (t : Ty) (parts : List (Nat × V)) : Prog V :=
  match t with
  | .struct ts => chk (allFit ts (Ty.zeroVs ts)) (match putParts ts (Ty.zeroVs ts) parts with
    | some vs => match Ty.anyRefs ts with
      | true => .ret (.agg ts vs)
      | false => match allPlain vs with
        | some ds => .ret (.dat t (.r ds))
        | none => .ret (.agg ts vs)
    | none => .fail)
  | .arr n te => chk (te.zeroV.fits te) (match putParts (vrep n te) (vrep n te.zeroV) parts with
    | some vs => match allPlain vs with
      | some ds => .ret (.dat t (.r ds))
      | none => .fail
    | none => .fail)
  | _ => .fail

/-- data, with what they lie in frozen -/
def pureAll : List Ty → List V → List D → (List D → Prog V) → Prog V
  | [], [], acc, f => f acc
  | t :: ts, v :: vs, acc, f => abD v t ⟨[], [], []⟩ fun d s => freezeAll s.frz (pureAll ts vs (vapp acc [d]) f)
  | _, _, _, _ => .fail

def evBuildSlice (t : Ty) (n : Nat) (parts : List (Nat × V)) : Prog V :=
  match t with
  | .slice te => chk (te.zeroV.fits te && Nat.ble (n * te.size) 65536) (match putParts (vrep n te) (vrep n te.zeroV) parts with
    | some vs => pureAll (vrep n te) vs [] fun ds => .new (.row te ds) fun i => .ret (.all te i n)
    | none => .fail)
  | _ => .fail

def evPick (c a b : V) : Prog V :=
  match c with
  | .dat .bool (.b x) => match a, b with
    | .dat .bool (.b y), .dat .bool (.b z) => .ret (.bool (cond x y z))
    | _, _ => .cond x (.ret a) (.ret b)
  | _ => .fail

/-- an entry of a map -/
def entry : List (D × D) → D → Option D
  | [], _ => none
  | (k, v) :: r, d => if D.beq k d then some v else entry r d
def setEntry : List (D × D) → D → D → List (D × D)
  | [], k, v => [(k, v)]
  | (k', v') :: r, k, v => if D.beq k' k then (k, v) :: r else (k', v') :: setEntry r k v

/-- key types: whole numbers, texts, bools -/
def Ty.key : Ty → Bool
  | .int _ => true
  | .str => true
  | .bool => true
  | _ => false

def evLookup (t : Ty) (m k : V) (ok : Bool) : Prog V :=
  match t, k with
  | .map kt vt, .dat kt' d => chk (kt.key && vt.isPure && kt.beq kt') (match m with
    | .map i => .get i fun
      | .map kt'' vt' es => chk (kt.beq kt'' && vt.beq vt') (match ok with
        | true => .ret (.tup [V.ofD vt ((entry es d).getD vt.zeroD), .bool (entry es d).isSome])
        | false => .ret (V.ofD vt ((entry es d).getD vt.zeroD)))
      | _ => .fail
    | .nilm => match ok with
      | true => .ret (.tup [V.ofD vt vt.zeroD, .bool false])
      | false => .ret (V.ofD vt vt.zeroD)
    | _ => .fail)
  | _, _ => .fail

def evMapUpdate (t : Ty) (m k x : V) : Prog V :=
  match t, m, k, x.plain with
  | .map kt vt, .map i, .dat kt' d, some dx => chk (kt.key && vt.isPure && kt.beq kt' && x.fits vt) (.get i fun
      | .map kt'' vt' es => chk (kt.beq kt'' && vt.beq vt') (.set i (.map kt vt (setEntry es d dx)) (.ret .any))
      | _ => .fail)
  | _, _, _, _ => .fail

def evMakeMap (t : Ty) : Prog V :=
  match t with
  | .map kt vt => chk (kt.key && vt.isPure) (.new (.map kt vt []) fun i => .ret (.map i))
  | _ => .fail

/-- as many elements as one list may have -/
def mostElems : Nat := 4294967296

def evMakeSlice (t : Ty) (len cap : V) : Prog V :=
  match t, len.num, cap.num with
  | .slice te, some n, some c => chk (te.isPure && Nat.ble te.size 512) (need (decide (0 ≤ n) && decide (n ≤ c) && decide (c ≤ (mostElems : Int)))
      (.new (.row te (List.replicate n.toNat te.zeroD)) fun i => .ret (.all te i n.toNat)))
  | _, _, _ => .fail

def evConvert (src dst : Ty) (x : V) : Prog V :=
  match src, dst, x with
  | .int _, .int k, .dat (.int _) (.i n) => .ret (.int k (k.wrap n))
  | .str, .str, .dat .str d => .ret (.dat .str d)
  | .slice (.int .u8), .str, x => chk ((match x.elemTy with | some t => t.beq (.int .u8) | none => true) && (match x with | .asl _ _ _ k _ _ => Nat.ble k 65536 | _ => true)) (elems x fun l => .ret (.dat .str (.s (l.map byteOf))))
  | .str, .slice (.int .u8), .dat .str (.s l) => need (decide (l.length ≤ mostElems)) (.new (.row (.int .u8) (l.map ofByte)) fun i => .ret (.all (.int .u8) i l.length))
  | _, _, _ => .fail

/-! ### Builtins -/

/-- the elements of what is appended or copied: a slice's, or a text's bytes -/
def srcElems (te t2 : Ty) (x : V) (f : List D → Prog V) : Prog V :=
  match t2, x with
  | .str, .dat .str (.s l) => chk (te.beq (.int .u8)) (f (l.map ofByte))
  | .slice te', x => chk (te'.beq te && (match x.elemTy with | some t => t.beq te | none => true)) (elems x f)
  | _, _ => .fail

def appendTo (te : Ty) (s : V) (ys : List D) : Prog V :=
  match s with
  | .nil => need (decide (ys.length ≤ mostElems)) (.new (.row te ys) fun j => .ret (.all te j ys.length))
  | .emp _ => need (decide (ys.length ≤ mostElems)) (.new (.row te ys) fun j => .ret (.all te j ys.length))
  | .all t' i _ => chk (t'.beq te) (.get i fun
    | .row _ xs => need (decide ((xs ++ ys).length ≤ mostElems)) (.set i .gone (.new (.row te (xs ++ ys)) fun j => .ret (.all te j (xs ++ ys).length)))
    | _ => .fail)
  | .sub t' i off len => chk (t'.beq te) (.get i fun
    | .row _ xs => need (decide (((xs.drop off).take len ++ ys).length ≤ mostElems)) (.set i .gone (.new (.row te ((xs.drop off).take len ++ ys)) fun j => .ret (.all te j ((xs.drop off).take len ++ ys).length)))
    | _ => .fail)
  | _ => .fail

def evAppend (t t2 : Ty) (s x : V) : Prog V :=
  match t with
  | .slice te => chk (Nat.ble te.size 512) (srcElems te t2 x fun ys => appendTo te s ys)
  | _ => .fail

def copyTo (te : Ty) (dst : V) (ys : List D) : Prog V :=
  match dst with
  | .all t' i len => chk (t'.beq te) (.get i fun
    | .row _ xs => .set i (.row te (splice xs 0 (ys.take len))) (.ret (.int .i64 ((ys.take len).length : Int)))
    | _ => .fail)
  | .sub t' i off len => chk (t'.beq te) (.get i fun
    | .row _ xs => .set i (.row te (splice xs off (ys.take len))) (.ret (.int .i64 ((ys.take len).length : Int)))
    | _ => .fail)
  | .asl t' i p n off len => chk (t'.beq te && Nat.ble n 65536) (.get i fun
    | .box tb v => match vget v p with
      | some (.dat (.arr _ _) d) => match vset v p (.dat (.arr n te) (.r (splice d.list off (ys.take len)))) with
        | some v' => .set i (.box tb v') (.ret (.int .i64 ((ys.take len).length : Int)))
        | none => .fail
      | _ => .fail
    | _ => .fail)
  | .nil => .ret (.int .i64 0)
  | .emp _ => .ret (.int .i64 0)
  | _ => .fail

def evCopy (t t2 : Ty) (dst src : V) : Prog V :=
  match t with
  | .slice te => srcElems te t2 src fun ys => copyTo te dst ys
  | _ => .fail

def evMin (mx : Bool) : V → List V → Prog V
  | v, [] => .ret v
  | .dat (.int k) (.i a), .dat (.int k') (.i b) :: r => chk (decide (k = k')) (match mx with
    | true => evMin mx (.int k (if a < b then b else a)) r
    | false => evMin mx (.int k (if b < a then b else a)) r)
  | _, _ :: _ => .fail
termination_by structural _ l => l

def evBuiltin (E : Env) (b : Builtin) (ts : List TypeId) (args : List V) : Prog V :=
  match b, args with
  | .len, [x] => match ts with
    | [t] => match E.ty t, x with
      | some (.map _ _), .map i => .get i fun
        | .map _ _ es => need (decide (es.length ≤ mostElems)) (.ret (.int .i64 (es.length : Int)))
        | _ => .fail
      | some (.map _ _), .nilm => .ret (.int .i64 0)
      | some (.arr n _), _ => chk (Nat.ble n 65536) (.ret (.int .i64 (n : Int)))
      | some (.slice _), x => match x.len with
        | some n => chk (match x with | .asl _ _ _ k _ _ => Nat.ble k 65536 | _ => true) (.ret (.int .i64 n))
        | none => .fail
      | some .str, .dat .str (.s l) => .ret (.int .i64 (l.length : Int))
      | _, _ => .fail
    | _ => .fail
  | .append, [s, x] => match ts with
    | [t, t2] => match E.ty t, E.ty t2 with
      | some t, some t2 => evAppend t t2 s x
      | _, _ => .fail
    | _ => .fail
  | .copy, [s, x] => match ts with
    | [t, t2] => match E.ty t, E.ty t2 with
      | some t, some t2 => evCopy t t2 s x
      | _, _ => .fail
    | _ => .fail
  | .min, x :: r => evMin false x r
  | .max, x :: r => evMin true x r
  | _, _ => .fail

def isConst : Operand → Bool
  | .const _ => true
  | _ => false

/-! ### One operation -/

def evOp (E : Env) (ρ : Operand → V) (o : Oper) : Prog V :=
  match o.op with
  | .move x => .ret (ρ x)
  | .assign x => .ret (ρ x)
  | .pick c a b => evPick (ρ c) (ρ a) (ρ b)
  | .alloc t => match E.ty t with
    | some t => chk (t.zeroV.fits t) (.new (.box t t.zeroV) fun i => .ret (.ptr t i []))
    | none => .fail
  | .box t x => match E.ty t with
    | some t => chk ((ρ x).fits t) (.new (.box t (ρ x)) fun i => .ret (.ptr t i []))
    | none => .fail
  | .build t parts => match E.ty t with
    | some t => evBuild t (vmap (fun p => (p.1, ρ p.2)) parts.toList)
    | none => .fail
  | .buildSlice t n parts => match E.ty t with
    | some t => evBuildSlice t n (vmap (fun p => (p.1, ρ p.2)) parts.toList)
    | none => .fail
  | .load t a => match E.ty t with
    | some t => evLoad t (ρ a)
    | none => .fail
  | .store t a x => match E.ty t with
    | some t => evStore t (ρ a) (ρ x)
    | none => .fail
  | .nilCheck x => match ρ x with
    | .ptr t i p => .ret (.ptr t i p)
    | .rop t d => .ret (.rop t d)
    | .fn f l => .ret (.fn f l)
    | .ifc t v => .ret (.ifc t v)
    | _ => .fail
  | .binOp op xt x y _ => match E.ty xt with
    | some t => evBin op t (isConst x || isConst y) (ρ x) (ρ y)
    | none => .fail
  | .unOp op _ x => evUn op (ρ x)
  | .convert src dst x => match E.ty src, E.ty dst with
    | some s, some d => evConvert s d (ρ x)
    | _, _ => .fail
  | .makeInterface t x => match E.ty t with
    | some .ifc => .fail
    | some ty => chk ((ρ x).fits ty) (.ret (.ifc t (ρ x)))
    | none => .fail
  | .makeFunc fn first caps => match fn with
    | .func f => chk (Nat.beq first.size 0) (.ret (.fn f (vmap ρ caps.toList)))
    | _ => .fail
  | .makeMap t r => match E.ty t, r with
    | some t, none => evMakeMap t
    | some t, some x => match (ρ x).num with
      | some _ => evMakeMap t
      | none => .fail
    | _, _ => .fail
  | .makeSlice t l c => match E.ty t with
    | some t => evMakeSlice t (ρ l) (ρ c)
    | none => .fail
  | .slice t x lo hi mx => match E.ty t with
    | some t => evSlice t (ρ x) (lo.map ρ) (hi.map ρ) (mx.map ρ)
    | none => .fail
  | .fieldAddr s x k => match E.ty s with
    | some s => evFieldAddr s (ρ x) k
    | none => .fail
  | .field s x k => match E.ty s with
    | some s => evField s (ρ x) k
    | none => .fail
  | .indexAddr t x i => match E.ty t with
    | some t => evIndexAddr t (ρ x) (ρ i)
    | none => .fail
  | .index t x i => match E.ty t with
    | some t => evIndex t (ρ x) (ρ i)
    | none => .fail
  | .lookup t x k ok => match E.ty t with
    | some t => evLookup t (ρ x) (ρ k) ok
    | none => .fail
  | .mapUpdate t m k x => match E.ty t with
    | some t => evMapUpdate t (ρ m) (ρ k) (ρ x)
    | none => .fail
  | .insert t m k x => match E.ty t with
    | some t => evMapUpdate t (ρ m) (ρ k) (ρ x)
    | none => .fail
  | .extract x k => match ρ x with
    | .tup vs => match vnth vs k with
      | some v => .ret v
      | none => .fail
    | _ => .fail
  | .call c => match c.callee with
    | .builtin b => evBuiltin E b c.argTypes.toList (vmap ρ c.args.toList)
    | .value f => match ρ f with
      | .fn g caps => evCall E g (vapp (vmap ρ c.args.toList) caps)
      | _ => .fail
    | .invoke r name => match ρ r with
      | .ifc t v => match E.meth t name with
        | some g => evCall E g (v :: vmap ρ c.args.toList)
        | none => .fail
      | _ => .fail
  | _ => .fail

/-! ### Regions -/

structure St where
  fr : List (Nat × V)
  h : H
  pins : List Nat

/-- an operation by its number -/
def opAt (ops : Array Oper) (j : Nat) : Option Oper := vnth ops.toList j

/-- a slot's truth -/
def slotBool (fr : List (Nat × V)) (ops : Array Oper) (j : Nat) : Option (Nat × Bool) :=
  match opAt ops j with
  | some o => match o.dst with
    | some d => match look fr d with
      | some (.dat .bool (.b x)) => some (d, x)
      | _ => none
    | none => none
  | none => none

/-- does a slot hold nothing (its operation was passed over)? -/
def slotUndef (fr : List (Nat × V)) (ops : Array Oper) (j : Nat) : Bool :=
  match opAt ops j with
  | some o => match o.dst with
    | some d => match look fr d with
      | some (.tup []) => true
      | _ => false
    | none => false
  | none => false

def putSlot (n : Nat) (fr : List (Nat × V)) (dst : Option Nat) (v : V) : Option (List (Nat × V)) :=
  match dst with
  | some d => match Nat.blt d n with
    | true => some ((d, v) :: fr)
    | false => none
  | none => some fr

/-- the operations in the text's order; what each touched is noted -/
def evOps {R : Type} (E : Env) (ops : Array Oper) (pins : List Nat) : List Oper → Nat → List (Nat × V) → H → List (Nat × Log) → (List (Nat × V) → H → List (Nat × Log) → Option R) → Option R
  | [], _, fr, h, ls, K => K fr h ls
  | o :: os, k, fr, h, ls, K =>
    match o.guard with
    | none => (evOp E (opval fr) o).run h [] fun v h l => match putSlot E.ntmps fr o.dst v with
      | some fr => evOps E ops pins os (k + 1) fr h ((k, l) :: ls) K
      | none => none
    | some (j, want) => match slotBool fr ops j with
      | some (d, x) => cond (cond want x (!x))
          ((evOp E (opval ((d, V.bool want) :: fr)) o).run h [] fun v h l => match putSlot E.ntmps ((d, V.bool want) :: fr) o.dst v with
            | some fr => evOps E ops pins os (k + 1) fr h ((k, l) :: ls) K
            | none => none)
          (match putSlot E.ntmps ((d, V.bool (!want)) :: fr) o.dst (.tup []) with
            | some fr => evOps E ops pins os (k + 1) fr h ls K
            | none => none)
      | none => match slotUndef fr ops j with
        | true => match putSlot E.ntmps fr o.dst (.tup []) with
          | some fr => evOps E ops pins os (k + 1) fr h ls K
          | none => none
        | false => none

def touches (i : Nat) (w : Bool) : Log → Bool
  | [] => false
  | (j, v) :: l => match Nat.beq i j && (w || v) with
    | true => true
    | false => touches i w l
/-- do two touch one block, one of them writing? -/
def clash : Log → Log → Bool
  | [], _ => false
  | (i, w) :: l, m => match touches i w m with
    | true => true
    | false => clash l m

def memO (d : Nat) : List Operand → Bool
  | [] => false
  | .tmp t :: r => match Nat.beq d t with
    | true => true
    | false => memO d r
  | _ :: r => memO d r

/-- what an operation looks at: its operands, and the slot of its guard -/
def looksIn (ops : Array Oper) (o : Oper) (d : Nat) : Bool :=
  memO d o.op.operands.toList || match o.guard with
    | some (j, _) => match opAt ops j with
      | some g => match g.dst with
        | some e => Nat.beq d e
        | none => false
      | none => false
    | none => false

/-- do two meet in a slot? -/
def slotClash (ops : Array Oper) (a b : Oper) : Bool :=
  (match a.dst with
  | some d => looksIn ops b d || (match b.dst with | some e => Nat.beq d e | none => false)
  | none => false) ||
  (match b.dst with
  | some d => looksIn ops a d
  | none => false)

def logOf (ls : List (Nat × Log)) (k : Nat) : Log := (look ls k).getD []

def okPair (ops : Array Oper) (b : Array Nat) (ls : List (Nat × Log)) (i j : Nat) : Bool :=
  match ((vnth b.toList j).getD 0).testBit i with
  | true => true
  | false => match slotClash ops ((opAt ops i).getD default) ((opAt ops j).getD default) with
    | true => false
    | false => !clash (logOf ls i) (logOf ls j)

def okBelow (ops : Array Oper) (b : Array Nat) (ls : List (Nat × Log)) (j : Nat) : Nat → Bool
  | 0 => true
  | i + 1 => match okPair ops b ls i j with
    | true => okBelow ops b ls j i
    | false => false
def okAll (ops : Array Oper) (b : Array Nat) (ls : List (Nat × Log)) : Nat → Bool
  | 0 => true
  | j + 1 => match okBelow ops b ls j j with
    | true => okAll ops b ls j
    | false => false

/-- edges go back -/
def edgesOK : List Oper → Nat → Bool
  | [], _ => true
  | o :: os, k => o.after.toList.all (fun e => !Region.binds .any e || Nat.blt e.on k) && edgesOK os (k + 1)

def evRegion {R : Type} (E : Env) (ops : Array Oper) (draw : Bool) (st : St) (K : St → Option R) : Option R :=
  evOps E ops st.pins ops.toList 0 st.fr st.h [] fun fr h ls =>
    match !draw || (edgesOK ops.toList 0 && okAll ops (CheckFast.beforeF ops) ls ops.size) with
    | true => K ⟨fr, h, st.pins⟩
    | false => none

/-! ### Code -/

/-- the number of the first region in it -/
def firstReg : Code → Option Nat
  | .region id _ _ => some id
  | .seq a b => match firstReg a with
    | some i => some i
    | none => firstReg b
  | .cond _ a b => match firstReg a with
    | some i => some i
    | none => firstReg b
  | .block _ a => firstReg a
  | .loop a => firstReg a
  | .scope a => firstReg a
  | _ => none

def slotVals (fr : List (Nat × V)) : List (Nat × Sh) → List V
  | [] => []
  | (d, _) :: l => (look fr d).getD .any :: slotVals fr l
def slotShapes : List (Nat × Sh) → List Sh
  | [] => []
  | (_, s) :: l => s :: slotShapes l

def zipSlots : List (Nat × Sh) → List V → List (Nat × V)
  | (d, _) :: l, v :: vs => (d, v) :: zipSlots l vs
  | _, _ => []

/-- the data of a state, by what is kept of it -/
def takeSt {R : Type} (kp : Keep) (st : St) (K : List D → List D → Option R) : Option R :=
  (absorb st.pins kp.heap (slotShapes kp.slots) (slotVals st.fr kp.slots) fun hs as _ => .ret (hs, as)).run st.h [] fun p _ _ => K p.1 p.2

/-- a state out of data -/
def makeSt {R : Type} (npins : Nat) (kp : Keep) (hs as : List D) (K : St → Option R) : Option R :=
  (news (vlen kp.heap) fun refs => mkH refs hs kp.heap 0 (mks refs hs (slotShapes kp.slots) (.r as) 0 fun vs => .ret (refs, vs))).run ⟨0, []⟩ [] fun p h _ =>
    K ⟨zipSlots kp.slots p.2, h, vtake npins p.1⟩

def Ex.code : Ex → Nat
  | .normal => 0
  | .ret => 0
  | .exit i => i + 1

def evC {R : Type} (E : Env) : Code → St → (Ex → St → Option R) → Option R
  | .skip, st, K => K .normal st
  | .region _ ops draw, st, K => evRegion E ops draw st (K .normal)
  | .seq a b, st, K => evC E a st fun ex st => match ex with
    | .normal => evC E b st K
    | ex => K ex st
  | .cond c a b, st, K => match opval st.fr c with
    | .dat .bool (.b x) => cond x (evC E a st K) (evC E b st K)
    | _ => none
  | .block id a, st, K => evC E a st fun ex st => match ex with
    | .exit i => match Nat.beq i id with
      | true => K .normal st
      | false => K (.exit i) st
    | ex => K ex st
  | .loop a, st, K => match firstReg a with
    | some i => match E.loops i with
      | some li => takeSt li.keep st fun hs as => (li.phi hs as).run fun p => match p.1, look li.ends p.1.code with
        | .normal, _ => none
        | ex, some kp => makeSt E.npins kp p.2.1 p.2.2 (K ex)
        | _, none => none
      | none => none
    | none => none
  | .exit id, st, K => K (.exit id) st
  | .ret, st, K => K .ret st
  | .scope a, st, K => evC E a st K
  | _, _, _ => none

/-! ### Loops -/

def findLoop : Code → Nat → Option Code
  | .seq a b, n => match findLoop a n with
    | some c => some c
    | none => findLoop b n
  | .cond _ a b, n => match findLoop a n with
    | some c => some c
    | none => findLoop b n
  | .block _ a, n => findLoop a n
  | .scope a, n => findLoop a n
  | .loop a, n => match firstReg a with
    | some i => match Nat.beq i n with
      | true => some a
      | false => findLoop a n
    | none => none
  | _, _ => none

/-- one round: go on with 'go', or tell how it ends -/
def loopStep (E : Env) (fn : Func) (key : Nat) (go : List D → List D → Option (Ex × List D × List D)) (hs as : List D) : Option (Ex × List D × List D) :=
  match fn.body with
  | some c => match findLoop c key, E.loops key with
    | some a, some li => makeSt E.npins li.keep hs as fun st => evC E a st fun ex st => match ex with
      | .normal => takeSt li.keep st go
      | ex => match look li.ends ex.code with
        | some kp => takeSt kp st fun hs as => some (ex, hs, as)
        | none => none
    | _, _ => none
  | none => none

def rounds {X : Type} (step : (List D → List D → Option X) → List D → List D → Option X) : Nat → List D → List D → Option X
  | 0, _, _ => none
  | n + 1, hs, as => step (rounds step n) hs as

/-! ### Functions -/

def slotsFrom : Nat → List Sh → List (Nat × Sh)
  | _, [] => []
  | k, s :: l => (k, s) :: slotsFrom (k + 1) l

def resultVals (E : Env) (fr : List (Nat × V)) : List ResultVar → (List V → Prog (List D × List D)) → Prog (List D × List D)
  | [], f => f []
  | .tmp t :: l, f => resultVals E fr l fun vs => f ((look fr t).getD .any :: vs)
  | .cell a t :: l, f => match E.ty t with
    | some t => (evLoad t ((look fr a).getD .any)).bind fun v => resultVals E fr l fun vs => f (v :: vs)
    | none => .fail

/-- what is told at the end -/
def finish (E : Env) (rv : List ResultVar) (sg : Sig) (st : St) : Option (List D × List D) :=
  (resultVals E st.fr rv fun vs => absorb st.pins sg.heap' sg.outs vs fun hs as _ => .ret (hs, as)).run st.h [] fun p _ _ => some p

def evF (E : Env) (fn : Func) (sg : Sig) (hs as : List D) : Option (List D × List D) :=
  match fn.body with
  | some c => makeSt E.npins ⟨sg.heap, slotsFrom 0 sg.ins⟩ hs as fun st => evC E c st fun ex st => match ex with
    | .normal => finish E fn.results.toList sg st
    | .ret => finish E fn.results.toList sg st
    | .exit _ => none
  | none => none

end Go.Ev

/- How data lie in memory. -/
namespace Go.Ev
open Go

/-! ### Equality of data and of types -/

mutual
theorem D.beq_iff : ∀ p q : D, D.beq p q = true ↔ p = q
  | .b x, y => by cases y <;> simp [D.beq]
  | .i x, y => by cases y <;> simp [D.beq]
  | .s x, y => by cases y <;> simp [D.beq]
  | .r x, y => by
    cases y <;> simp only [D.beq, reduceCtorEq, Bool.false_eq_true]
    rw [D.beqs_iff x]
    simp
theorem D.beqs_iff : ∀ p q : List D, D.beqs p q = true ↔ p = q
  | [], q => by cases q <;> simp [D.beqs]
  | x :: xs, q => by
    cases q with
    | nil => simp [D.beqs]
    | cons y ys => simp only [D.beqs, Bool.and_eq_true, D.beq_iff x, D.beqs_iff xs, List.cons.injEq]
end
instance : DecidableEq D := fun p q => decidable_of_iff _ (D.beq_iff p q)
theorem D.beq_eq (p q : D) : D.beq p q = decide (p = q) := by
  rw [Bool.eq_iff_iff, D.beq_iff, decide_eq_true_iff]

mutual
theorem Ty.beq_iff : ∀ a b : Ty, Ty.beq a b = true ↔ a = b
  | .int j, y => by cases y <;> simp [Ty.beq]
  | .bool, y => by cases y <;> simp [Ty.beq]
  | .str, y => by cases y <;> simp [Ty.beq]
  | .struct x, y => by
    cases y <;> simp only [Ty.beq, reduceCtorEq, Bool.false_eq_true]
    rw [Ty.beqs_iff x]
    simp
  | .arr n x, y => by
    cases y <;> simp only [Ty.beq, reduceCtorEq, Bool.false_eq_true, Bool.and_eq_true, Ty.beq_iff x, Ty.arr.injEq]
    rw [show (n.beq _ = true) = (n = _) from Nat.beq_eq]
  | .slice x, y => by
    cases y <;> simp only [Ty.beq, reduceCtorEq, Bool.false_eq_true, Ty.beq_iff x, Ty.slice.injEq]
  | .ptr, y => by cases y <;> simp [Ty.beq]
  | .map k v, y => by
    cases y <;> simp only [Ty.beq, reduceCtorEq, Bool.false_eq_true, Bool.and_eq_true, Ty.beq_iff k, Ty.beq_iff v, Ty.map.injEq]
  | .fn, y => by cases y <;> simp [Ty.beq]
  | .ifc, y => by cases y <;> simp [Ty.beq]
theorem Ty.beqs_iff : ∀ a b : List Ty, Ty.beqs a b = true ↔ a = b
  | [], b => by cases b <;> simp [Ty.beqs]
  | x :: xs, b => by
    cases b with
    | nil => simp [Ty.beqs]
    | cons y ys => simp only [Ty.beqs, Bool.and_eq_true, Ty.beq_iff x, Ty.beqs_iff xs, List.cons.injEq]
end

/-! ### Small lists -/

theorem vnth_eq {α : Type} : ∀ (l : List α) (k : Nat), vnth l k = l[k]?
  | [], _ => rfl
  | _ :: _, 0 => rfl
  | _ :: l, k + 1 => by simp [vnth, vnth_eq l k]
theorem dnth_eq : ∀ (l : List D) (k : Nat), dnth l k = (l[k]?).getD (.i 0)
  | [], _ => rfl
  | _ :: _, 0 => rfl
  | _ :: l, k + 1 => by simp [dnth, dnth_eq l k]
theorem dnth_get {l : List D} {k : Nat} (h : k < l.length) : dnth l k = l[k] := by simp [dnth_eq, h]
theorem dput_eq : ∀ (l : List D) (k : Nat) (x : D), dput l k x = l.set k x
  | [], _, _ => rfl
  | _ :: _, 0, _ => rfl
  | _ :: l, k + 1, x => by simp [dput, dput_eq l k]
theorem vlen_eq {α : Type} : ∀ l : List α, vlen l = l.length
  | [] => rfl
  | _ :: l => by simp [vlen, vlen_eq l]
theorem vset1_eq {α : Type} : ∀ (l : List α) (k : Nat) (x : α), vset1 l k x = l.set k x
  | [], _, _ => rfl
  | _ :: _, 0, _ => rfl
  | _ :: l, k + 1, x => by simp [vset1, vset1_eq l k]
theorem vapp_eq {α : Type} : ∀ l m : List α, vapp l m = l ++ m
  | [], _ => rfl
  | _ :: l, m => by simp [vapp, vapp_eq l]
theorem vmap_eq {α β : Type} (f : α → β) : ∀ l : List α, vmap f l = l.map f
  | [] => rfl
  | _ :: l => by simp [vmap, vmap_eq f l]
theorem vrep_eq {α : Type} (x : α) : ∀ n, vrep n x = List.replicate n x
  | 0 => rfl
  | n + 1 => by simp [vrep, vrep_eq x n, List.replicate_succ]
theorem vtake_eq {α : Type} : ∀ (n : Nat) (l : List α), vtake n l = l.take n
  | 0, _ => by simp [vtake]
  | _ + 1, [] => by simp [vtake]
  | n + 1, _ :: l => by simp [vtake, vtake_eq n l]
theorem nth_eq : ∀ (l : List Nat) (k : Nat), nth l k = (l[k]?).getD 0
  | [], _ => rfl
  | _ :: _, 0 => rfl
  | _ :: l, k + 1 => by simp [nth, nth_eq l k]
theorem memN_iff : ∀ (n : Nat) (l : List Nat), memN n l = true ↔ n ∈ l
  | _, [] => by simp [memN]
  | n, k :: l => by
    unfold memN
    cases h : Nat.beq n k
    · simp [memN_iff n l, Nat.ne_of_beq_eq_false h]
    · simp [Nat.eq_of_beq_eq_true h]
theorem look_cons {α : Type} (k : Nat) (v : α) (r : List (Nat × α)) (n : Nat) : look ((k, v) :: r) n = if k = n then some v else look r n := by
  rw [show look ((k, v) :: r) n = (match Nat.beq k n with | true => some v | false => look r n) from rfl]
  cases h : Nat.beq k n
  · simp [Nat.ne_of_beq_eq_false h]
  · simp [Nat.eq_of_beq_eq_true h]

/-! ### Rows of data in cells -/

/-- a row of elements, each so many cells -/
def RepN (R : List Value → D → Prop) (sz : Nat) : List Value → List D → Prop
  | cs, [] => cs = []
  | cs, d :: ds => sz ≤ cs.length ∧ R (cs.take sz) d ∧ RepN R sz (cs.drop sz) ds

theorem RepN.len {R : List Value → D → Prop} {sz : Nat} : ∀ {ds : List D} {cs : List Value}, RepN R sz cs ds → cs.length = ds.length * sz
  | [], cs, h => by simp only [RepN] at h; simp [h]
  | d :: ds, cs, ⟨h, _, hr⟩ => by
    have := RepN.len hr
    simp only [List.length_drop] at this
    simp only [List.length_cons, Nat.succ_mul]
    omega

theorem RepN.mono {R S : List Value → D → Prop} {sz : Nat} (hrs : ∀ cs d, R cs d → S cs d) : ∀ {ds : List D} {cs : List Value}, RepN R sz cs ds → RepN S sz cs ds
  | [], _, h => h
  | _ :: _, _, ⟨h, hd, hr⟩ => ⟨h, hrs _ _ hd, RepN.mono hrs hr⟩

theorem RepN.append {R : List Value → D → Prop} {sz : Nat} {es : List D} {bs : List Value} (hb : RepN R sz bs es) : ∀ {ds : List D} {cs : List Value}, RepN R sz cs ds → RepN R sz (cs ++ bs) (ds ++ es)
  | [], cs, h => by simp only [RepN] at h; simpa [h] using hb
  | d :: ds, cs, ⟨h, hd, hr⟩ => by
    refine ⟨by simp; omega, ?_, ?_⟩
    · rwa [List.take_append_of_le_length h]
    · rw [List.drop_append_of_le_length h]; exact RepN.append hb hr

theorem RepN.get {R : List Value → D → Prop} {sz : Nat} : ∀ {ds : List D} {cs : List Value}, RepN R sz cs ds → ∀ {k : Nat}, k < ds.length → R ((cs.drop (k * sz)).take sz) (dnth ds k)
  | [], _, _, k, hk => by simp at hk
  | d :: ds, cs, ⟨h, hd, hr⟩, 0, _ => by simpa [dnth] using hd
  | d :: ds, cs, ⟨h, hd, hr⟩, k + 1, hk => by
    have := RepN.get hr (k := k) (by simpa using hk)
    rw [List.drop_drop] at this
    simpa [dnth, Nat.succ_mul, Nat.add_comm] using this

theorem RepN.take {R : List Value → D → Prop} {sz : Nat} : ∀ {ds : List D} {cs : List Value}, RepN R sz cs ds → ∀ n : Nat, RepN R sz (cs.take (n * sz)) (ds.take n)
  | [], cs, h, n => by simp only [RepN] at h; simp [h, RepN]
  | d :: ds, cs, ⟨h, hd, hr⟩, 0 => by simp [RepN]
  | d :: ds, cs, ⟨h, hd, hr⟩, n + 1 => by
    have hle : sz ≤ (n + 1) * sz := by rw [Nat.succ_mul]; omega
    refine ⟨by simp; omega, ?_, ?_⟩
    · rw [List.take_take, Nat.min_eq_left hle]; exact hd
    · rw [List.drop_take, show (n + 1) * sz - sz = n * sz by rw [Nat.succ_mul]; omega]; exact RepN.take hr n

theorem RepN.drop {R : List Value → D → Prop} {sz : Nat} : ∀ {ds : List D} {cs : List Value}, RepN R sz cs ds → ∀ n : Nat, RepN R sz (cs.drop (n * sz)) (ds.drop n)
  | [], cs, h, n => by simp only [RepN] at h; simp [h, RepN]
  | d :: ds, cs, h, 0 => by simpa using h
  | d :: ds, cs, ⟨h, hd, hr⟩, n + 1 => by
    have := RepN.drop hr n
    rw [List.drop_drop] at this
    simpa [Nat.succ_mul, Nat.add_comm] using this

theorem RepN.splice {R : List Value → D → Prop} {sz : Nat} {ds es : List D} {cs bs : List Value} (h : RepN R sz cs ds) (hb : RepN R sz bs es) (k : Nat) (hk : k + es.length ≤ ds.length) :
    RepN R sz (splice cs (k * sz) bs) (splice ds k es) := by
  unfold Ev.splice
  have hl := hb.len
  have := h.drop (k + es.length)
  rw [Nat.add_mul, ← hl] at this
  exact RepN.append this (RepN.append hb (h.take k))

theorem RepN.set {R : List Value → D → Prop} {sz : Nat} {ds : List D} {cs bs : List Value} {e : D} (h : RepN R sz cs ds) (hb : R bs e) (hbl : bs.length = sz) (k : Nat) (hk : k < ds.length) :
    RepN R sz (Ev.splice cs (k * sz) bs) (ds.set k e) := by
  have := h.splice (bs := bs) (es := [e]) ⟨by omega, by rwa [List.take_of_length_le (by omega)], by rw [List.drop_of_length_le (by omega)]; rfl⟩ k (by simp; omega)
  have e1 : Ev.splice ds k [e] = ds.set k e := by
    unfold Ev.splice
    rw [List.set_eq_take_append_cons_drop, if_pos hk]
    simp
  rwa [e1] at this

theorem RepN.replicate {R : List Value → D → Prop} {sz : Nat} {z : List Value} {d : D} (hz : R z d) (hl : z.length = sz) : ∀ n : Nat, RepN R sz (List.replicate n z).flatten (List.replicate n d)
  | 0 => by simp [RepN]
  | n + 1 => by
    have := RepN.replicate hz hl n
    simp only [List.replicate_succ, List.flatten_cons]
    refine ⟨by simp; omega, ?_, ?_⟩
    · rw [List.take_append_of_le_length (by omega), List.take_of_length_le (by omega)]; exact hz
    · rw [List.drop_append_of_le_length (by omega), List.drop_of_length_le (by omega)]; simpa using this

/-! ### Data in memory -/

def most : Nat := 9223372036854775807

mutual
/-- the cells are those of a value of this type that reads as this datum; what it points to lies in blocks of Im -/
def Rep (w : World) (Im : Nat → Prop) : Ty → List Value → D → Prop
  | .int k, cs, d => ∃ n, cs = [.int k n] ∧ d = .i n ∧ k.min ≤ n ∧ n ≤ k.max
  | .bool, cs, d => ∃ b, cs = [.bool b] ∧ d = .b b
  | .str, cs, d => ∃ s : ByteArray, cs = [.string s] ∧ d = .s s.data.toList ∧ s.size ≤ most
  | .struct ts, cs, d => ∃ ds, d = .r ds ∧ Reps w Im ts cs ds
  | .arr n t, cs, d => ∃ ds, d = .r ds ∧ ds.length = n ∧ RepN (Rep w Im t) t.size cs ds
  | .slice t, cs, d => ∃ a len cap ds, cs = [.slice a len cap] ∧ d = .r ds ∧ ds.length = len ∧ len ≤ cap ∧ cap ≤ most ∧
      (len = 0 ∨ ∃ ad c e f, a = some ad ∧ ad.spot = none ∧ Im ad.block ∧ w.heap[ad.block]? = some (.cells c e f) ∧ ad.off + len * t.size ≤ c.size ∧
        RepN (Rep w Im t) t.size ((c.toList.drop ad.off).take (len * t.size)) ds)
  | _, _, _ => False
def Reps (w : World) (Im : Nat → Prop) : List Ty → List Value → List D → Prop
  | [], cs, ds => cs = [] ∧ ds = []
  | t :: ts, cs, ds => ∃ d ds', ds = d :: ds' ∧ t.size ≤ cs.length ∧ Rep w Im t (cs.take t.size) d ∧ Reps w Im ts (cs.drop t.size) ds'
end

mutual
theorem Rep.len {w : World} {Im : Nat → Prop} : ∀ {t : Ty} {cs : List Value} {d : D}, Rep w Im t cs d → cs.length = t.size
  | .int _, _, _, ⟨_, h, _⟩ => by simp [h, Ty.size]
  | .bool, _, _, ⟨_, h, _⟩ => by simp [h, Ty.size]
  | .str, _, _, ⟨_, h, _⟩ => by simp [h, Ty.size]
  | .struct ts, _, _, ⟨_, _, h⟩ => by simpa [Ty.size] using Reps.len h
  | .arr n t, _, _, ⟨_, _, hn, h⟩ => by rw [h.len, hn]; simp [Ty.size]
  | .slice _, _, _, ⟨_, _, _, _, h, _⟩ => by simp [h, Ty.size]
  | .ptr, _, _, h => by simp [Rep] at h
  | .map _ _, _, _, h => by simp [Rep] at h
  | .fn, _, _, h => by simp [Rep] at h
  | .ifc, _, _, h => by simp [Rep] at h
theorem Reps.len {w : World} {Im : Nat → Prop} : ∀ {ts : List Ty} {cs : List Value} {ds : List D}, Reps w Im ts cs ds → cs.length = Ty.sizes ts
  | [], _, _, ⟨h, _⟩ => by simp [h, Ty.sizes]
  | t :: ts, cs, _, ⟨_, _, _, hl, _, h⟩ => by
    have := Reps.len h
    simp only [List.length_drop] at this
    simp only [Ty.sizes]
    omega
end

mutual
theorem Rep.mono {w w' : World} {Im Im' : Nat → Prop} (hi : ∀ b, Im b → Im' b) (hw : ∀ b, Im b → w'.heap[b]? = w.heap[b]?) :
    ∀ {t : Ty} {cs : List Value} {d : D}, Rep w Im t cs d → Rep w' Im' t cs d
  | .int _, _, _, h => h
  | .bool, _, _, h => h
  | .str, _, _, h => h
  | .struct ts, _, _, ⟨ds, hd, h⟩ => ⟨ds, hd, Reps.mono hi hw h⟩
  | .arr n t, _, _, ⟨ds, hd, hn, h⟩ => ⟨ds, hd, hn, h.mono fun _ _ => Rep.mono hi hw⟩
  | .slice t, _, _, ⟨a, len, cap, ds, hcs, hd, hl, hc, hm, h⟩ => by
    refine ⟨a, len, cap, ds, hcs, hd, hl, hc, hm, ?_⟩
    rcases h with h | ⟨ad, c, e, f, ha, hs, him, hb, ho, hr⟩
    · exact .inl h
    · exact .inr ⟨ad, c, e, f, ha, hs, hi _ him, (hw _ him).trans hb, ho, hr.mono fun _ _ => Rep.mono hi hw⟩
  | .ptr, _, _, h => h
  | .map _ _, _, _, h => h
  | .fn, _, _, h => h
  | .ifc, _, _, h => h
theorem Reps.mono {w w' : World} {Im Im' : Nat → Prop} (hi : ∀ b, Im b → Im' b) (hw : ∀ b, Im b → w'.heap[b]? = w.heap[b]?) :
    ∀ {ts : List Ty} {cs : List Value} {ds : List D}, Reps w Im ts cs ds → Reps w' Im' ts cs ds
  | [], _, _, h => h
  | _ :: _, _, _, ⟨d, ds', hd, hl, h, hr⟩ => ⟨d, ds', hd, hl, Rep.mono hi hw h, Reps.mono hi hw hr⟩
end

theorem Reps.dlen {w : World} {Im : Nat → Prop} : ∀ {ts : List Ty} {cs : List Value} {ds : List D}, Reps w Im ts cs ds → ds.length = ts.length
  | [], _, _, ⟨_, h⟩ => by simp [h]
  | _ :: _, _, _, ⟨_, _, h, _, _, hr⟩ => by simp [h, Reps.dlen hr]

theorem Reps.get {w : World} {Im : Nat → Prop} : ∀ {ts : List Ty} {cs : List Value} {ds : List D}, Reps w Im ts cs ds → ∀ {k : Nat} {t : Ty}, vnth ts k = some t →
    Rep w Im t ((cs.drop (Ty.offs ts k)).take t.size) (dnth ds k)
  | [], _, _, _, k, t, ht => by simp [vnth] at ht
  | t' :: ts, cs, _, ⟨d, ds', hd, hl, h, hr⟩, 0, t, ht => by
    simp only [vnth, Option.some.injEq] at ht
    subst ht; subst hd
    simpa [Ty.offs, dnth] using h
  | t' :: ts, cs, _, ⟨d, ds', hd, hl, h, hr⟩, k + 1, t, ht => by
    subst hd
    have := Reps.get hr (k := k) ht
    rw [List.drop_drop] at this
    simpa [Ty.offs, dnth] using this

theorem offs_le : ∀ {ts : List Ty} {k : Nat} {t : Ty}, vnth ts k = some t → Ty.offs ts k + t.size ≤ Ty.sizes ts
  | [], k, t, h => by simp [vnth] at h
  | t' :: ts, 0, t, h => by simp only [vnth, Option.some.injEq] at h; subst h; simp [Ty.offs, Ty.sizes]
  | t' :: ts, k + 1, t, h => by
    have := offs_le (ts := ts) (k := k) h
    simp only [Ty.offs, Ty.sizes]
    omega

theorem splice_length {α : Type} (xs : List α) (o : Nat) (ys : List α) (h : o + ys.length ≤ xs.length) : (splice xs o ys).length = xs.length := by
  unfold splice
  simp only [List.length_append, List.length_take, List.length_drop]
  omega
theorem splice_get {α : Type} (xs : List α) (o : Nat) (ys : List α) (h : o + ys.length ≤ xs.length) (i : Nat) :
    (splice xs o ys)[i]? = if i < o then xs[i]? else if i < o + ys.length then ys[i - o]? else xs[i]? := by
  unfold splice
  rw [List.append_assoc, List.getElem?_append]
  have ho : (xs.take o).length = o := by simp; omega
  rw [ho]
  by_cases h1 : i < o
  · rw [if_pos h1, if_pos h1, List.getElem?_take, if_pos h1]
  · rw [if_neg h1, if_neg h1, List.getElem?_append]
    by_cases h2 : i < o + ys.length
    · rw [if_pos (by omega), if_pos h2]
    · rw [if_neg (by omega), if_neg h2, List.getElem?_drop]
      congr 1
      omega
theorem splice_take {α : Type} (xs : List α) (o n : Nat) (ys : List α) (h : o + ys.length ≤ n) (hn : n ≤ xs.length) : (splice xs o ys).take n = splice (xs.take n) o ys := by
  apply List.ext_getElem?
  intro i
  rw [List.getElem?_take, splice_get _ _ _ (by omega), splice_get _ _ _ (by simp; omega), List.getElem?_take]
  by_cases h1 : i < n <;> simp [h1]
  omega
theorem splice_drop {α : Type} (xs : List α) (o n : Nat) (ys : List α) (h : o + ys.length ≤ n) (hn : o + ys.length ≤ xs.length) : (splice xs o ys).drop n = xs.drop n := by
  apply List.ext_getElem?
  intro i
  rw [List.getElem?_drop, splice_get _ _ _ hn, List.getElem?_drop]
  rw [if_neg (by omega), if_neg (by omega)]
theorem splice_before {α : Type} (xs : List α) (o n : Nat) (ys : List α) (h : n ≤ o) (hn : o + ys.length ≤ xs.length) : (splice xs o ys).take n = xs.take n := by
  apply List.ext_getElem?
  intro i
  rw [List.getElem?_take, splice_get _ _ _ hn, List.getElem?_take]
  by_cases h1 : i < n
  · rw [if_pos h1, if_pos h1, if_pos (by omega)]
  · rw [if_neg h1, if_neg h1]
/-- a part of a list, with a part of it written over -/
theorem splice_mid {α : Type} (xs : List α) (a n o : Nat) (ys : List α) (h : o + ys.length ≤ n) (hn : a + n ≤ xs.length) :
    ((splice xs (a + o) ys).drop a).take n = splice ((xs.drop a).take n) o ys := by
  apply List.ext_getElem?
  intro i
  rw [List.getElem?_take, List.getElem?_drop, splice_get _ _ _ (by omega), splice_get _ _ _ (by simp; omega), List.getElem?_take, List.getElem?_drop]
  by_cases h1 : i < n
  · simp only [h1, if_true]
    by_cases h2 : i < o
    · rw [if_pos (by omega), if_pos h2]
    · rw [if_neg (by omega), if_neg h2]
      by_cases h3 : i < o + ys.length
      · rw [if_pos (by omega), if_pos h3]; congr 1; omega
      · rw [if_neg (by omega), if_neg h3]
  · simp only [h1, if_false]
    rw [if_neg (by omega), if_neg (by omega)]
/-- a part beside what is written over -/
theorem splice_apart {α : Type} (xs : List α) (a n o : Nat) (ys : List α) (h : a + n ≤ o ∨ o + ys.length ≤ a) (hn : o + ys.length ≤ xs.length) :
    ((splice xs o ys).drop a).take n = (xs.drop a).take n := by
  apply List.ext_getElem?
  intro i
  rw [List.getElem?_take, List.getElem?_drop, splice_get _ _ _ hn, List.getElem?_take, List.getElem?_drop]
  by_cases h1 : i < n
  · simp only [h1, if_true]
    rcases h with h | h
    · rw [if_pos (by omega)]
    · rw [if_neg (by omega), if_neg (by omega)]
  · simp only [h1, if_false]

theorem Reps.set {w : World} {Im : Nat → Prop} : ∀ {ts : List Ty} {cs : List Value} {ds : List D}, Reps w Im ts cs ds → ∀ {k : Nat} {t : Ty}, vnth ts k = some t → ∀ {bs : List Value} {e : D}, Rep w Im t bs e →
    Reps w Im ts (splice cs (Ty.offs ts k) bs) (dput ds k e)
  | [], _, _, _, k, t, ht, _, _, _ => by simp [vnth] at ht
  | t' :: ts, cs, _, ⟨d, ds', hd, hl, h, hr⟩, 0, t, ht, bs, e, he => by
    simp only [vnth, Option.some.injEq] at ht
    subst ht; subst hd
    have hb := he.len
    refine ⟨e, ds', rfl, by rw [splice_length _ _ _ (by simp [Ty.offs]; omega)]; exact hl, ?_, ?_⟩
    · simp only [Ty.offs, splice, List.take_zero, List.nil_append, Nat.zero_add]
      rw [List.take_append_of_le_length (by omega), List.take_of_length_le (by omega)]
      exact he
    · simp only [Ty.offs]
      rw [splice_drop _ _ _ _ (by omega) (by omega)]
      exact hr
  | t' :: ts, cs, _, ⟨d, ds', hd, hl, h, hr⟩, k + 1, t, ht, bs, e, he => by
    subst hd
    have hb := he.len
    have hk : Ty.offs ts k + t.size ≤ Ty.sizes ts := offs_le ht
    have hrl := hr.len
    simp only [List.length_drop] at hrl
    refine ⟨d, dput ds' k e, rfl, ?_, ?_, ?_⟩
    · rw [splice_length _ _ _ (by simp only [Ty.offs]; omega)]; exact hl
    · rw [splice_before _ _ _ _ (by simp only [Ty.offs]; omega) (by simp only [Ty.offs]; omega)]; exact h
    · have := Reps.set hr (k := k) ht he
      have e2 : (splice cs (Ty.offs (t' :: ts) (k + 1)) bs).drop t'.size = splice (cs.drop t'.size) (Ty.offs ts k) bs := by
        have := splice_mid cs t'.size (cs.length - t'.size) (Ty.offs ts k) bs (by omega) (by omega)
        rw [List.take_of_length_le (by rw [List.length_drop, splice_length _ _ _ (by omega)]; omega), List.take_of_length_le (by simp)] at this
        simpa [Ty.offs] using this
      rw [e2]; exact this
end Go.Ev

/- Abstract values and the model's: handles, places, and what loads and stores make of them. -/
namespace Go.Ev
open Go

/-- a value out of its cells -/
def mkVal (t : Ty) (cs : List Value) : Value := if t.isAgg then .agg cs.toArray else cs.headD undef

/-- where a place of a variable lies, and its type -/
def place : Ty → List Nat → Option (Nat × Ty)
  | t, [] => some (0, t)
  | .struct ts, k :: p => match vnth ts k with
    | some t => match place t p with
      | some (o, u) => some (Ty.offs ts k + o, u)
      | none => none
    | none => none
  | .arr n t, k :: p => if k < n then match place t p with
      | some (o, u) => some (k * t.size + o, u)
      | none => none
    else none
  | _, _ :: _ => none
termination_by structural _ p => p

theorem place_le : ∀ {p : List Nat} {t u : Ty} {o : Nat}, place t p = some (o, u) → o + u.size ≤ t.size
  | [], t, u, o, h => by
    simp only [place, Option.some.injEq, Prod.mk.injEq] at h
    obtain ⟨rfl, rfl⟩ := h
    omega
  | k :: p, t, u, o, h => by
    cases t with
    | struct ts =>
      simp only [place] at h
      cases ht : vnth ts k with
      | none => simp [ht] at h
      | some t' =>
        simp only [ht] at h
        cases hp : place t' p with
        | none => simp [hp] at h
        | some q =>
          obtain ⟨o', u'⟩ := q
          simp only [hp, Option.some.injEq, Prod.mk.injEq] at h
          obtain ⟨rfl, rfl⟩ := h
          have := place_le hp
          have := offs_le ht
          simp only [Ty.size]
          omega
    | arr n t' =>
      simp only [place] at h
      split at h
      · rename_i hk
        cases hp : place t' p with
        | none => simp [hp] at h
        | some q =>
          obtain ⟨o', u'⟩ := q
          simp only [hp, Option.some.injEq, Prod.mk.injEq] at h
          obtain ⟨rfl, rfl⟩ := h
          have := place_le hp
          have h2 : (k + 1) * t'.size ≤ n * t'.size := Nat.mul_le_mul_right _ hk
          rw [Nat.succ_mul] at h2
          simp only [Ty.size]
          omega
      · simp at h
    | _ => simp [place] at h

theorem place_append : ∀ {p : List Nat} {t u v : Ty} {o o' : Nat} {q : List Nat}, place t p = some (o, u) → place u q = some (o', v) → place t (p ++ q) = some (o + o', v)
  | [], t, u, v, o, o', q, h, h' => by
    simp only [place, Option.some.injEq, Prod.mk.injEq] at h
    obtain ⟨rfl, rfl⟩ := h
    simpa using h'
  | k :: p, t, u, v, o, o', q, h, h' => by
    cases t with
    | struct ts =>
      simp only [place, List.cons_append] at h ⊢
      cases ht : vnth ts k with
      | none => simp [ht] at h
      | some t' =>
        simp only [ht] at h ⊢
        cases hp : place t' p with
        | none => simp [hp] at h
        | some r =>
          obtain ⟨o1, u1⟩ := r
          simp only [hp, Option.some.injEq, Prod.mk.injEq] at h
          obtain ⟨rfl, rfl⟩ := h
          rw [place_append hp h']
          simp [Nat.add_assoc]
    | arr n t' =>
      simp only [place, List.cons_append] at h ⊢
      split at h
      · rename_i hk
        rw [if_pos hk]
        cases hp : place t' p with
        | none => simp [hp] at h
        | some r =>
          obtain ⟨o1, u1⟩ := r
          simp only [hp, Option.some.injEq, Prod.mk.injEq] at h
          obtain ⟨rfl, rfl⟩ := h
          rw [place_append hp h']
          simp [Nat.add_assoc]
      · simp at h
    | _ => simp [place] at h

/-! ### Parts of data -/

theorem nf_of_rep {w : World} {Im : Nat → Prop} {t : Ty} {cs : List Value} {d : D} (h : Rep w Im t cs d) : t.nf d = d := by
  cases t <;> simp only [Rep] at h <;> try contradiction
  · obtain ⟨n, _, rfl, _⟩ := h; rfl
  · obtain ⟨n, _, rfl⟩ := h; rfl
  · obtain ⟨n, _, rfl, _⟩ := h; rfl
  · rfl
  · rfl
  · obtain ⟨_, _, _, ds, _, rfl, _⟩ := h; rfl

theorem D.f_r (l : List D) (k : Nat) : (D.r l).f k = dnth l k := rfl

/-- a place in data: it reads as the part of the datum, in the part of the cells -/
theorem dget_rep {w : World} {Im : Nat → Prop} : ∀ {p : List Nat} {t : Ty} {cs : List Value} {d : D}, Rep w Im t cs d → ∀ {o : Nat} {u : Ty}, place t p = some (o, u) →
    ∃ e, dget t d p = some (u, e) ∧ Rep w Im u ((cs.drop o).take u.size) e
  | [], t, cs, d, h, o, u, hp => by
    simp only [place, Option.some.injEq, Prod.mk.injEq] at hp
    obtain ⟨rfl, rfl⟩ := hp
    refine ⟨d, rfl, ?_⟩
    rw [List.drop_zero, List.take_of_length_le (by rw [h.len]; omega)]
    exact h
  | k :: p, t, cs, d, h, o, u, hp => by
    cases t with
    | struct ts =>
      simp only [place] at hp
      cases ht : vnth ts k with
      | none => simp [ht] at hp
      | some t' =>
        simp only [ht] at hp
        cases hp' : place t' p with
        | none => simp [hp'] at hp
        | some r =>
          obtain ⟨o1, u1⟩ := r
          simp only [hp', Option.some.injEq, Prod.mk.injEq] at hp
          obtain ⟨rfl, rfl⟩ := hp
          obtain ⟨ds, rfl, hr⟩ := h
          obtain ⟨e, he, hre⟩ := dget_rep (hr.get ht) hp'
          refine ⟨e, ?_, ?_⟩
          · simp only [dget, ht, D.f_r]; exact he
          · have hle := place_le hp'
            rw [List.drop_take, List.drop_drop, List.take_take, Nat.min_eq_left (by omega)] at hre
            exact hre
    | arr n t' =>
      simp only [place] at hp
      split at hp
      · rename_i hk
        cases hp' : place t' p with
        | none => simp [hp'] at hp
        | some r =>
          obtain ⟨o1, u1⟩ := r
          simp only [hp', Option.some.injEq, Prod.mk.injEq] at hp
          obtain ⟨rfl, rfl⟩ := hp
          obtain ⟨ds, rfl, hn, hr⟩ := h
          obtain ⟨e, he, hre⟩ := dget_rep (hr.get (k := k) (by omega)) hp'
          refine ⟨e, ?_, ?_⟩
          · simp only [dget, D.f_r]; exact he
          · have hle := place_le hp'
            rw [List.drop_take, List.drop_drop, List.take_take, Nat.min_eq_left (by omega)] at hre
            exact hre
      · simp at hp
    | _ => simp [place] at hp

theorem splice_splice {α : Type} (cs : List α) (a n o : Nat) (bs : List α) (h : o + bs.length ≤ n) (hn : a + n ≤ cs.length) :
    splice cs (a + o) bs = splice cs a (splice ((cs.drop a).take n) o bs) := by
  have hm : (splice ((cs.drop a).take n) o bs).length = n := by rw [splice_length _ _ _ (by simp; omega)]; simp; omega
  apply List.ext_getElem?
  intro i
  rw [splice_get _ _ _ (by omega), splice_get _ _ _ (by omega), hm, splice_get _ _ _ (by simp; omega), List.getElem?_take, List.getElem?_drop]
  by_cases h1 : i < a
  · rw [if_pos (by omega), if_pos h1]
  · by_cases h2 : i < a + o
    · rw [if_pos h2, if_neg h1, if_pos (by omega), if_pos (by omega), if_pos (by omega)]; congr 1; omega
    · by_cases h3 : i < a + o + bs.length
      · rw [if_neg h2, if_pos h3, if_neg h1, if_pos (by omega), if_neg (by omega), if_pos (by omega)]; congr 1; omega
      · rw [if_neg h2, if_neg h3, if_neg h1]
        by_cases h4 : i < a + n
        · rw [if_pos h4, if_neg (by omega), if_neg (by omega), if_pos (by omega)]; congr 1; omega
        · rw [if_neg h4]

/-- a place in data written over -/
theorem dset_rep {w : World} {Im : Nat → Prop} : ∀ {p : List Nat} {t : Ty} {cs : List Value} {d : D}, Rep w Im t cs d → ∀ {o : Nat} {u : Ty}, place t p = some (o, u) →
    ∀ {bs : List Value} {e : D}, Rep w Im u bs e → Rep w Im t (splice cs o bs) (dset d p e)
  | [], t, cs, d, h, o, u, hp, bs, e, he => by
    simp only [place, Option.some.injEq, Prod.mk.injEq] at hp
    obtain ⟨rfl, rfl⟩ := hp
    have e1 : splice cs 0 bs = bs := by
      unfold splice
      have := h.len; have := he.len
      rw [List.drop_of_length_le (by omega)]; simp
    rw [e1]; simpa [dset] using he
  | k :: p, t, cs, d, h, o, u, hp, bs, e, he => by
    have hbl := he.len
    cases t with
    | struct ts =>
      simp only [place] at hp
      cases ht : vnth ts k with
      | none => simp [ht] at hp
      | some t' =>
        simp only [ht] at hp
        cases hp' : place t' p with
        | none => simp [hp'] at hp
        | some r =>
          obtain ⟨o1, u1⟩ := r
          simp only [hp', Option.some.injEq, Prod.mk.injEq] at hp
          obtain ⟨rfl, rfl⟩ := hp
          obtain ⟨ds, rfl, hr⟩ := h
          have hle := place_le hp'
          have ho := offs_le ht
          have hl := hr.len
          have hs := dset_rep (hr.get ht) hp' he
          refine ⟨dput ds k (dset (dnth ds k) p e), rfl, ?_⟩
          have := hr.set ht hs
          rw [splice_splice cs _ t'.size _ _ (by omega) (by omega)]
          exact this
    | arr n t' =>
      simp only [place] at hp
      split at hp
      · rename_i hk
        cases hp' : place t' p with
        | none => simp [hp'] at hp
        | some r =>
          obtain ⟨o1, u1⟩ := r
          simp only [hp', Option.some.injEq, Prod.mk.injEq] at hp
          obtain ⟨rfl, rfl⟩ := hp
          obtain ⟨ds, rfl, hn, hr⟩ := h
          have hle := place_le hp'
          have hl := hr.len
          have h2 : (k + 1) * t'.size ≤ ds.length * t'.size := Nat.mul_le_mul_right _ (by omega)
          rw [Nat.succ_mul] at h2
          have hs := dset_rep (hr.get (k := k) (by omega)) hp' he
          refine ⟨dput ds k (dset (dnth ds k) p e), rfl, by rw [dput_eq]; simpa using hn, ?_⟩
          have hm : (splice ((cs.drop (k * t'.size)).take t'.size) o1 bs).length = t'.size := by rw [splice_length _ _ _ (by simp; omega)]; simp; omega
          have := hr.set hs hm k (by omega)
          rw [dput_eq]
          rw [splice_splice cs _ t'.size _ _ (by omega) (by omega)]
          exact this
      · simp at hp
    | _ => simp [place] at hp
end Go.Ev

/- Abstract values against the model's. -/
namespace Go.Ev
open Go

inductive Hdl where
  | box (b : Nat) (t : Ty)
  | row (a : Option Addr) (len cap : Nat) (t : Ty)
  | map (r : Nat)

abbrev Mu := Nat → Option Hdl

def cellsOf (x : Value) : List Value := x.cells.toList
def flat (xs : List Value) : List Value := xs.flatMap cellsOf

mutual
def vrel (w : World) (μ : Mu) (Im : Nat → Prop) : V → Value → Prop
  | .any, _ => True
  | .dat t d, v => ∃ cs, v = mkVal t cs ∧ Rep w Im t cs d
  | .agg ts vs, v => ∃ xs : List Value, v = .agg (flat xs).toArray ∧ allFit ts vs = true ∧ vrels w μ Im vs xs
  | .nil, v => v = .slice none 0 0
  | .emp _, v => ∃ a, v = .slice a 0 0
  | .all t i len, v => ∃ a cap, μ i = some (.row a len cap t) ∧ v = .slice a len cap
  | .sub t i off len, v => ∃ a L cap a', μ i = some (.row a L cap t) ∧ off + len ≤ L ∧ L ≤ cap ∧ v = .slice a' len (cap - off) ∧ (off < cap → a' = a.map (·.add (off * t.size)))
  | .asl t i p n off len, v => ∃ b tb o a, μ i = some (.box b tb) ∧ place tb p = some (o, .arr n t) ∧ off + len ≤ n ∧ v = .slice (some a) len (n - off) ∧ (off < n → a = ⟨b, o + off * t.size, none⟩)
  | .ptr t i p, v => ∃ a, v = .pointer (some a) ∧ a.spot = none ∧
      ((∃ b tb, μ i = some (.box b tb) ∧ a.block = b ∧ place tb p = some (a.off, t)) ∨
       (∃ ad L cap te k p' o, μ i = some (.row (some ad) L cap te) ∧ p = k :: p' ∧ k < L ∧ place te p' = some (o, t) ∧ a.block = ad.block ∧ a.off = ad.off + (k * te.size + o)))
  | .rop t d, v => ∃ ad c e f, v = .pointer (some ad) ∧ ad.spot = none ∧ Im ad.block ∧ w.heap[ad.block]? = some (.cells c e f) ∧ ad.off + t.size ≤ c.size ∧ Rep w Im t ((c.toList.drop ad.off).take t.size) d
  | .map i, v => ∃ r, μ i = some (.map r) ∧ v = .map (some r)
  | .fn f caps, v => ∃ xs : List Value, v = .func (.func f) #[] xs.toArray ∧ vrels w μ Im caps xs
  | .ifc t x, v => ∃ y, v = .iface t y ∧ vrel w μ Im x y
  | .nilp, v => v = .pointer none
  | .nilm, v => v = .map none
  | .nilf, v => v = .nilFunc
  | .nili, v => v = .nilIface
  | .tup vs, v => ∃ xs : List Value, v = .tuple xs.toArray ∧ vrels w μ Im vs xs
def vrels (w : World) (μ : Mu) (Im : Nat → Prop) : List V → List Value → Prop
  | [], xs => xs = []
  | v :: vs, xs => ∃ x xs', xs = x :: xs' ∧ vrel w μ Im v x ∧ vrels w μ Im vs xs'
end

/-- one world is later than another: handles stay, what nobody may write stays -/
structure Later (w : World) (μ : Mu) (Im : Nat → Prop) (w' : World) (μ' : Mu) (Im' : Nat → Prop) : Prop where
  mu : ∀ i h, μ i = some h → μ' i = some h
  im : ∀ b, Im b → Im' b
  heap : ∀ b, Im b → w'.heap[b]? = w.heap[b]?

theorem Later.refl (w : World) (μ : Mu) (Im : Nat → Prop) : Later w μ Im w μ Im := ⟨fun _ _ h => h, fun _ h => h, fun _ _ => rfl⟩
theorem Later.trans {w w' w'' : World} {μ μ' μ'' : Mu} {Im Im' Im'' : Nat → Prop} (h : Later w μ Im w' μ' Im') (k : Later w' μ' Im' w'' μ'' Im'') : Later w μ Im w'' μ'' Im'' :=
  ⟨fun i x hx => k.mu i x (h.mu i x hx), fun b hb => k.im b (h.im b hb), fun b hb => (k.heap b (h.im b hb)).trans (h.heap b hb)⟩

mutual
theorem vrel.later {w w' : World} {μ μ' : Mu} {Im Im' : Nat → Prop} (hl : Later w μ Im w' μ' Im') : ∀ {v : V} {x : Value}, vrel w μ Im v x → vrel w' μ' Im' v x
  | .any, _, _ => by simp [vrel]
  | .dat t d, _, ⟨cs, h, hr⟩ => ⟨cs, h, hr.mono hl.im hl.heap⟩
  | .agg ts vs, _, ⟨xs, h, hf, hr⟩ => ⟨xs, h, hf, vrels.later hl hr⟩
  | .nil, _, h => h
  | .emp _, _, h => h
  | .all t i len, _, ⟨a, cap, h, hv⟩ => ⟨a, cap, hl.mu _ _ h, hv⟩
  | .sub t i off len, _, ⟨a, L, cap, a', h, hv⟩ => ⟨a, L, cap, a', hl.mu _ _ h, hv⟩
  | .asl t i p n off len, _, ⟨b, tb, o, a, h, hv⟩ => ⟨b, tb, o, a, hl.mu _ _ h, hv⟩
  | .ptr t i p, _, ⟨a, hv, hs, h⟩ => ⟨a, hv, hs, h.imp (fun ⟨b, tb, h, r⟩ => ⟨b, tb, hl.mu _ _ h, r⟩) (fun ⟨ad, L, cap, te, k, p', o, h, r⟩ => ⟨ad, L, cap, te, k, p', o, hl.mu _ _ h, r⟩)⟩
  | .rop t d, _, ⟨ad, c, e, f, hv, hs, hi, hh, ho, hr⟩ => ⟨ad, c, e, f, hv, hs, hl.im _ hi, (hl.heap _ hi).trans hh, ho, hr.mono hl.im hl.heap⟩
  | .map i, _, ⟨r, h, hv⟩ => ⟨r, hl.mu _ _ h, hv⟩
  | .fn f caps, _, ⟨xs, hv, h⟩ => ⟨xs, hv, vrels.later hl h⟩
  | .ifc t v, _, ⟨y, hv, h⟩ => ⟨y, hv, vrel.later hl h⟩
  | .nilp, _, h => h
  | .nilm, _, h => h
  | .nilf, _, h => h
  | .nili, _, h => h
  | .tup vs, _, ⟨xs, hv, h⟩ => ⟨xs, hv, vrels.later hl h⟩
theorem vrels.later {w w' : World} {μ μ' : Mu} {Im Im' : Nat → Prop} (hl : Later w μ Im w' μ' Im') : ∀ {vs : List V} {xs : List Value}, vrels w μ Im vs xs → vrels w' μ' Im' vs xs
  | [], _, h => h
  | _ :: _, _, ⟨x, xs', h, hv, hr⟩ => ⟨x, xs', h, vrel.later hl hv, vrels.later hl hr⟩
end

section
variable {w : World} {μ : Mu} {Im : Nat → Prop}

theorem vrels.len : ∀ {vs : List V} {xs : List Value}, vrels w μ Im vs xs → xs.length = vs.length
  | [], _, h => by simp only [vrels] at h; simp [h]
  | _ :: _, _, ⟨_, _, h, _, hr⟩ => by simp [h, hr.len]
theorem vrels.get : ∀ {vs : List V} {xs : List Value}, vrels w μ Im vs xs → ∀ {k : Nat} {v : V}, vnth vs k = some v → ∃ x, xs[k]? = some x ∧ vrel w μ Im v x
  | [], _, _, k, v, h => by simp [vnth] at h
  | v' :: vs, _, ⟨x, xs', rfl, hv, hr⟩, 0, v, h => by
    simp only [vnth, Option.some.injEq] at h; subst h
    exact ⟨x, by simp, hv⟩
  | v' :: vs, _, ⟨x, xs', rfl, hv, hr⟩, k + 1, v, h => by
    obtain ⟨y, hy, hr'⟩ := hr.get (k := k) h
    exact ⟨y, by simpa using hy, hr'⟩
theorem vrels.set : ∀ {vs : List V} {xs : List Value}, vrels w μ Im vs xs → ∀ {v : V} {x : Value}, vrel w μ Im v x → ∀ k : Nat, vrels w μ Im (vset1 vs k v) (xs.set k x)
  | [], _, h, _, _, _, k => by simp only [vrels] at h; subst h; simp [vset1, vrels]
  | v' :: vs, _, ⟨x', xs', rfl, hv', hr⟩, v, x, hv, 0 => ⟨x, xs', rfl, hv, hr⟩
  | v' :: vs, _, ⟨x', xs', rfl, hv', hr⟩, v, x, hv, k + 1 => ⟨x', xs'.set k x, rfl, hv', hr.set hv k⟩
theorem vrels.append : ∀ {vs : List V} {xs : List Value}, vrels w μ Im vs xs → ∀ {us : List V} {ys : List Value}, vrels w μ Im us ys → vrels w μ Im (vapp vs us) (xs ++ ys)
  | [], _, h, us, ys, h' => by simp only [vrels] at h; subst h; simpa [vapp] using h'
  | v :: vs, _, ⟨x, xs', rfl, hv, hr⟩, us, ys, h' => ⟨x, xs' ++ ys, rfl, hv, hr.append h'⟩

/-! ### Cells and values -/

theorem cells_mkVal {t : Ty} {cs : List Value} {d : D} (h : Rep w Im t cs d) : cellsOf (mkVal t cs) = cs := by
  cases t <;> simp only [Rep] at h <;> try contradiction
  · obtain ⟨n, rfl, _⟩ := h; rfl
  · obtain ⟨n, rfl, _⟩ := h; rfl
  · obtain ⟨n, rfl, _⟩ := h; rfl
  · rfl
  · rfl
  · obtain ⟨_, _, _, _, rfl, _⟩ := h; rfl

theorem fits_size : ∀ {v : V} {t : Ty} {x : Value}, vrel w μ Im v x → v.fits t = true → (cellsOf x).length = t.size ∧ x = mkVal t (cellsOf x)
  | .any, t, x, _, hf => by simp [V.fits] at hf
  | .dat t' d, t, x, ⟨cs, hv, hr⟩, hf => by
    simp only [V.fits, Ty.beq_iff] at hf
    subst hf; subst hv
    rw [cells_mkVal hr]
    exact ⟨hr.len, rfl⟩
  | .agg ts vs, t, x, ⟨xs, hv, ha, hr⟩, hf => by
    simp only [V.fits, Ty.beq_iff] at hf
    subst hf; subst hv
    refine ⟨?_, by simp [mkVal, Ty.isAgg, cellsOf, Value.cells]⟩
    simp only [cellsOf, Value.cells, Ty.size]
    exact go ts vs xs ha hr
  | .nil, t, x, h, hf => by
    simp only [vrel] at h; subst h
    cases t <;> simp [V.fits] at hf
    exact ⟨rfl, rfl⟩
  | .emp _, t, x, ⟨a, h⟩, hf => by
    subst h
    cases t <;> simp [V.fits] at hf
    exact ⟨rfl, rfl⟩
  | .all t' i len, t, x, ⟨a, cap, h, hv⟩, hf => by
    simp only [V.fits, Ty.beq_iff] at hf
    subst hf; subst hv; exact ⟨rfl, rfl⟩
  | .sub t' i off len, t, x, ⟨a, L, cap, a', h, _, _, hv, _⟩, hf => by
    simp only [V.fits, Ty.beq_iff] at hf
    subst hf; subst hv; exact ⟨rfl, rfl⟩
  | .asl t' i p n off len, t, x, ⟨b, tb, o, a, h, _, _, hv, _⟩, hf => by
    simp only [V.fits, Ty.beq_iff] at hf
    subst hf; subst hv; exact ⟨rfl, rfl⟩
  | .ptr t' i p, t, x, ⟨a, hv, _⟩, hf => by
    subst hv; cases t <;> simp [V.fits] at hf; exact ⟨rfl, rfl⟩
  | .rop t' d, t, x, ⟨ad, c, e, f, hv, _⟩, hf => by
    subst hv; cases t <;> simp [V.fits] at hf; exact ⟨rfl, rfl⟩
  | .map i, t, x, ⟨r, _, hv⟩, hf => by
    subst hv; cases t <;> simp [V.fits] at hf; exact ⟨rfl, rfl⟩
  | .fn f caps, t, x, ⟨xs, hv, _⟩, hf => by
    subst hv; cases t <;> simp [V.fits] at hf; exact ⟨rfl, rfl⟩
  | .ifc t' v, t, x, ⟨y, hv, _⟩, hf => by
    subst hv; cases t <;> simp [V.fits] at hf; exact ⟨rfl, rfl⟩
  | .nilp, t, x, h, hf => by
    simp only [vrel] at h; subst h; cases t <;> simp [V.fits] at hf; exact ⟨rfl, rfl⟩
  | .nilm, t, x, h, hf => by
    simp only [vrel] at h; subst h; cases t <;> simp [V.fits] at hf; exact ⟨rfl, rfl⟩
  | .nilf, t, x, h, hf => by
    simp only [vrel] at h; subst h; cases t <;> simp [V.fits] at hf; exact ⟨rfl, rfl⟩
  | .nili, t, x, h, hf => by
    simp only [vrel] at h; subst h; cases t <;> simp [V.fits] at hf; exact ⟨rfl, rfl⟩
  | .tup vs, t, x, _, hf => by simp [V.fits] at hf
where
  go : ∀ (ts : List Ty) (vs : List V) (xs : List Value), allFit ts vs = true → vrels w μ Im vs xs → (flat xs).length = Ty.sizes ts
  | [], [], xs, _, h => by simp only [vrels] at h; subst h; rfl
  | t :: ts, v :: vs, xs, ha, h => by
    obtain ⟨x, xs', rfl, hv, hr⟩ := h
    simp only [allFit, Bool.and_eq_true] at ha
    have h1 := (fits_size hv ha.1).1
    have h2 := go ts vs xs' ha.2 hr
    simp only [flat, List.flatMap_cons, List.length_append, Ty.sizes] at h2 ⊢
    omega
  | [], _ :: _, _, ha, _ => by simp [allFit] at ha
  | _ :: _, [], _, ha, _ => by simp [allFit] at ha


/-! ### Parts of values -/

theorem flat_part : ∀ {ts : List Ty} {vs : List V} {xs : List Value}, allFit ts vs = true → vrels w μ Im vs xs → ∀ {k : Nat} {t : Ty} {x : Value}, vnth ts k = some t → xs[k]? = some x →
    ((flat xs).drop (Ty.offs ts k)).take t.size = cellsOf x
  | [], vs, xs, _, _, k, t, x, ht, _ => by simp [vnth] at ht
  | _ :: _, [], _, ha, _, _, _, _, _, _ => by simp [allFit] at ha
  | t' :: ts, v :: vs, _, ha, ⟨x', xs', rfl, hv, hr⟩, k, t, x, ht, hx => by
    simp only [allFit, Bool.and_eq_true] at ha
    have h1 := (fits_size hv ha.1).1
    cases k with
    | zero =>
      simp only [vnth, Option.some.injEq] at ht
      simp only [List.getElem?_cons_zero, Option.some.injEq] at hx
      subst ht; subst hx
      simp only [flat, List.flatMap_cons, Ty.offs, List.drop_zero]
      rw [List.take_append_of_le_length (by omega), List.take_of_length_le (by omega)]
    | succ k =>
      simp only [vnth] at ht
      simp only [List.getElem?_cons_succ] at hx
      have := flat_part ha.2 hr ht hx
      simp only [flat, List.flatMap_cons, Ty.offs] at this ⊢
      rw [List.drop_append, List.drop_of_length_le (by omega), List.nil_append, show t'.size + Ty.offs ts k - (cellsOf x').length = Ty.offs ts k by omega]
      exact this

theorem splice_right {α : Type} (l m : List α) (o : Nat) (ys : List α) : splice (l ++ m) (l.length + o) ys = l ++ splice m o ys := by
  unfold splice
  rw [List.take_append, List.take_of_length_le (by omega), List.drop_append, List.drop_of_length_le (by omega), List.nil_append]
  rw [show l.length + o - l.length = o by omega, show l.length + o + ys.length - l.length = o + ys.length by omega]
  simp [List.append_assoc]
theorem flat_set : ∀ {ts : List Ty} {vs : List V} {xs : List Value}, allFit ts vs = true → vrels w μ Im vs xs → ∀ {k : Nat} {t : Ty} {y : Value}, vnth ts k = some t → (cellsOf y).length = t.size →
    flat (xs.set k y) = splice (flat xs) (Ty.offs ts k) (cellsOf y)
  | [], vs, xs, _, _, k, t, x, ht, _ => by simp [vnth] at ht
  | _ :: _, [], _, ha, _, _, _, _, _, _ => by simp [allFit] at ha
  | t' :: ts, v :: vs, _, ha, ⟨x', xs', rfl, hv, hr⟩, k, t, y, ht, hy => by
    simp only [allFit, Bool.and_eq_true] at ha
    have h1 := (fits_size hv ha.1).1
    cases k with
    | zero =>
      simp only [vnth, Option.some.injEq] at ht
      subst ht
      simp only [List.set_cons_zero, flat, List.flatMap_cons, Ty.offs, splice, List.take_zero, List.nil_append, Nat.zero_add]
      rw [List.drop_append, List.drop_of_length_le (by omega), List.nil_append, show (cellsOf y).length - (cellsOf x').length = 0 by omega, List.drop_zero]
    | succ k =>
      simp only [vnth] at ht
      have := flat_set ha.2 hr ht hy
      simp only [List.set_cons_succ, flat, List.flatMap_cons, Ty.offs] at this ⊢
      rw [this, ← h1, splice_right]

theorem allFit_get : ∀ {ts : List Ty} {vs : List V}, allFit ts vs = true → ∀ {k : Nat} {t : Ty} {v : V}, vnth ts k = some t → vnth vs k = some v → v.fits t = true
  | [], [], _, k, t, v, ht, _ => by simp [vnth] at ht
  | t' :: ts, v' :: vs, h, 0, t, v, ht, hv => by
    simp only [vnth, Option.some.injEq] at ht hv; subst ht; subst hv
    simp only [allFit, Bool.and_eq_true] at h; exact h.1
  | t' :: ts, v' :: vs, h, k + 1, t, v, ht, hv => by
    simp only [allFit, Bool.and_eq_true] at h
    exact allFit_get h.2 (k := k) ht hv
  | [], _ :: _, h, _, _, _, _, _ => by simp [allFit] at h
  | _ :: _, [], h, _, _, _, _, _ => by simp [allFit] at h
theorem allFit_set : ∀ {ts : List Ty} {vs : List V}, allFit ts vs = true → ∀ {k : Nat} {t : Ty} {v : V}, vnth ts k = some t → v.fits t = true → allFit ts (vset1 vs k v) = true
  | [], [], _, k, t, v, ht, _ => by simp [vnth] at ht
  | t' :: ts, v' :: vs, h, 0, t, v, ht, hv => by
    simp only [vnth, Option.some.injEq] at ht; subst ht
    simp only [allFit, Bool.and_eq_true, vset1] at h ⊢; exact ⟨hv, h.2⟩
  | t' :: ts, v' :: vs, h, k + 1, t, v, ht, hv => by
    simp only [allFit, Bool.and_eq_true, vset1] at h ⊢
    exact ⟨h.1, allFit_set h.2 (k := k) ht hv⟩
  | [], _ :: _, h, _, _, _, _, _ => by simp [allFit] at h
  | _ :: _, [], h, _, _, _, _, _ => by simp [allFit] at h

/-- data as a value -/
theorem ofD_rel {t : Ty} {cs : List Value} {d : D} (h : Rep w Im t cs d) : vrel w μ Im (V.ofD t d) (mkVal t cs) := by
  unfold V.ofD
  rw [nf_of_rep h]
  exact ⟨cs, rfl, h⟩
theorem ofD_fits (t : Ty) (d : D) : (V.ofD t d).fits t = true := by
  unfold V.ofD
  simp only [V.fits]
  exact (Ty.beq_iff t t).2 rfl

def pieces : List Ty → List Value → List Value
  | [], _ => []
  | t :: ts, cs => mkVal t (cs.take t.size) :: pieces ts (cs.drop t.size)

theorem fields_rel : ∀ {ts : List Ty} {cs : List Value} {ds : List D}, Reps w Im ts cs ds → ∀ (d : D) (k : Nat), (∀ j, j < ds.length → d.f (k + j) = dnth ds j) →
    vrels w μ Im (V.fields ts d k) (pieces ts cs) ∧ allFit ts (V.fields ts d k) = true ∧ flat (pieces ts cs) = cs
  | [], cs, ds, ⟨h, _⟩, d, k, _ => by subst h; exact ⟨rfl, rfl, rfl⟩
  | t :: ts, cs, _, ⟨d', ds', rfl, hl, h, hr⟩, d, k, hd => by
    have h0 := hd 0 (by simp)
    simp only [Nat.add_zero, dnth] at h0
    obtain ⟨h1, h2, h3⟩ := fields_rel hr d (k + 1) (fun j hj => by
      have := hd (j + 1) (by simpa using hj)
      simpa [dnth, Nat.add_assoc, Nat.add_comm 1 j] using this)
    refine ⟨⟨_, _, rfl, ?_, h1⟩, ?_, ?_⟩
    · rw [h0]; exact ofD_rel h
    · simp only [V.fields, allFit, Bool.and_eq_true]; exact ⟨ofD_fits _ _, h2⟩
    · simp only [pieces, flat, List.flatMap_cons] at h3 ⊢
      rw [h3, cells_mkVal h, List.take_append_drop]

theorem plain_rep {v : V} {t : Ty} {x : Value} {d : D} (hp : v.plain = some d) (hf : v.fits t = true) (hr : vrel w μ Im v x) : Rep w Im t (cellsOf x) d := by
  cases v <;> simp only [V.plain, reduceCtorEq, Option.some.injEq] at hp
  · obtain ⟨cs, rfl, h⟩ := hr
    simp only [V.fits, Ty.beq_iff] at hf
    subst hf; subst hp
    rw [cells_mkVal h]; exact h
  · subst hp; simp only [vrel] at hr; subst hr
    cases t <;> simp [V.fits] at hf
    exact ⟨none, 0, 0, [], rfl, rfl, rfl, Nat.le_refl _, by decide, .inl rfl⟩
  · subst hp; obtain ⟨a, rfl⟩ := hr
    cases t <;> simp [V.fits] at hf
    exact ⟨a, 0, 0, [], rfl, rfl, rfl, Nat.le_refl _, by decide, .inl rfl⟩

theorem drop_take_drop {α : Type} (l : List α) (a n o m : Nat) (h : o + m ≤ n) : (((l.drop a).take n).drop o).take m = (l.drop (a + o)).take m := by
  rw [List.drop_take, List.drop_drop, List.take_take, Nat.min_eq_left (by omega)]

theorem vget_rel : ∀ {p : List Nat} {v : V} {t : Ty} {x : Value}, vrel w μ Im v x → v.fits t = true → ∀ {o : Nat} {u : Ty}, place t p = some (o, u) → ∀ {v' : V}, vget v p = some v' →
    ∃ y, vrel w μ Im v' y ∧ v'.fits u = true ∧ cellsOf y = ((cellsOf x).drop o).take u.size
  | [], v, t, x, hv, hf, o, u, hp, v', hg => by
    simp only [place, Option.some.injEq, Prod.mk.injEq] at hp
    obtain ⟨rfl, rfl⟩ := hp
    simp only [vget, Option.some.injEq] at hg
    subst hg
    exact ⟨x, hv, hf, by rw [List.drop_zero, List.take_of_length_le (by rw [(fits_size hv hf).1]; omega)]⟩
  | k :: p, v, t, x, hv, hf, o, u, hp, v', hg => by
    cases v with
    | agg ts vs =>
      obtain ⟨xs, rfl, ha, hr⟩ := hv
      simp only [V.fits, Ty.beq_iff] at hf
      subst hf
      simp only [place] at hp
      simp only [vget] at hg
      cases ht : vnth ts k with
      | none => simp [ht] at hp
      | some t' =>
        cases hvk : vnth vs k with
        | none => simp [hvk] at hg
        | some vk =>
          simp only [ht] at hp
          simp only [hvk] at hg
          cases hp' : place t' p with
          | none => simp [hp'] at hp
          | some r =>
            obtain ⟨o1, u1⟩ := r
            simp only [hp', Option.some.injEq, Prod.mk.injEq] at hp
            obtain ⟨rfl, rfl⟩ := hp
            obtain ⟨xk, hxk, hrk⟩ := hr.get hvk
            have hfk := allFit_get ha ht hvk
            obtain ⟨y, hy, hfy, hc⟩ := vget_rel hrk hfk hp' hg
            refine ⟨y, hy, hfy, ?_⟩
            rw [hc, ← flat_part ha hr ht hxk, drop_take_drop _ _ _ _ _ (place_le hp')]
            simp [cellsOf, Value.cells]
    | dat t' d =>
      obtain ⟨cs, rfl, hr⟩ := hv
      simp only [V.fits, Ty.beq_iff] at hf
      subst hf
      obtain ⟨e, he, hre⟩ := dget_rep hr hp
      have : vget (.dat t d) (k :: p) = (match dget t d (k :: p) with | some (t, d) => some (V.ofD t d) | none => none) := rfl
      rw [this, he] at hg
      simp only [Option.some.injEq] at hg
      subst hg
      refine ⟨_, ofD_rel hre, ofD_fits _ _, ?_⟩
      rw [cells_mkVal hre, cells_mkVal hr]
    | _ => simp [vget] at hg

theorem vset_rel : ∀ {p : List Nat} {v : V} {t : Ty} {x : Value}, vrel w μ Im v x → v.fits t = true → ∀ {o : Nat} {u : Ty}, place t p = some (o, u) →
    ∀ {q : V} {y : Value}, vrel w μ Im q y → q.fits u = true → ∀ {v' : V}, vset v p q = some v' →
    v'.fits t = true ∧ ∃ z, vrel w μ Im v' z ∧ cellsOf z = splice (cellsOf x) o (cellsOf y)
  | [], v, t, x, hv, hf, o, u, hp, q, y, hq, hfq, v', hs => by
    simp only [place, Option.some.injEq, Prod.mk.injEq] at hp
    obtain ⟨rfl, rfl⟩ := hp
    simp only [vset, Option.some.injEq] at hs
    subst hs
    refine ⟨hfq, y, hq, ?_⟩
    have h1 := (fits_size hv hf).1
    have h2 := (fits_size hq hfq).1
    simp only [splice, List.take_zero, List.nil_append, Nat.zero_add]
    rw [List.drop_of_length_le (by omega), List.append_nil]
  | k :: p, v, t, x, hv, hf, o, u, hp, q, y, hq, hfq, v', hs => by
    have hyl := (fits_size hq hfq).1
    have key : ∀ (ts : List Ty) (vs : List V) (xs : List Value), t = .struct ts → allFit ts vs = true → vrels w μ Im vs xs → cellsOf x = flat xs →
        (match vnth vs k with | some v => (match vset v p q with | some v' => some (V.agg ts (vset1 vs k v')) | none => none) | none => none) = some v' →
        v'.fits t = true ∧ ∃ z, vrel w μ Im v' z ∧ cellsOf z = splice (cellsOf x) o (cellsOf y) := by
      intro ts vs xs ht' ha hr hx hs
      subst ht'
      simp only [place] at hp
      cases ht : vnth ts k with
      | none => simp [ht] at hp
      | some t' =>
        cases hvk : vnth vs k with
        | none => simp [hvk] at hs
        | some vk =>
          simp only [ht] at hp
          simp only [hvk] at hs
          cases hp' : place t' p with
          | none => simp [hp'] at hp
          | some r =>
            obtain ⟨o1, u1⟩ := r
            simp only [hp', Option.some.injEq, Prod.mk.injEq] at hp
            obtain ⟨rfl, rfl⟩ := hp
            obtain ⟨xk, hxk, hrk⟩ := hr.get hvk
            have hfk := allFit_get ha ht hvk
            cases hs' : vset vk p q with
            | none => simp [hs'] at hs
            | some vk' =>
              simp only [hs', Option.some.injEq] at hs
              subst hs
              obtain ⟨hf', z, hz, hc⟩ := vset_rel hrk hfk hp' hq hfq hs'
              have hzl := (fits_size hz hf').1
              refine ⟨by simp only [V.fits]; exact (Ty.beq_iff _ _).2 rfl, _, ⟨xs.set k z, rfl, allFit_set ha ht hf', hr.set hz k⟩, ?_⟩
              have e1 : cellsOf (.agg (flat (xs.set k z)).toArray) = flat (xs.set k z) := by simp [cellsOf, Value.cells]
              have hsz := fits_size.go ts vs xs ha hr
              have ho := offs_le ht
              have hle := place_le hp'
              rw [e1, flat_set ha hr ht hzl, hc, hx, ← flat_part ha hr ht hxk]
              exact (splice_splice _ _ _ _ _ (by omega) (by omega)).symm
    cases v with
    | agg ts vs =>
      obtain ⟨xs, rfl, ha, hr⟩ := hv
      simp only [V.fits, Ty.beq_iff] at hf
      exact key ts vs xs hf ha hr (by simp [cellsOf, Value.cells]) hs
    | dat t' d =>
      obtain ⟨cs, rfl, hr⟩ := hv
      simp only [V.fits, Ty.beq_iff] at hf
      subst hf
      cases hpl : q.plain with
      | some dx =>
        simp only [vset, hpl, Option.some.injEq] at hs
        subst hs
        have := dset_rep hr hp (plain_rep hpl hfq hq)
        refine ⟨by simp only [V.fits]; exact (Ty.beq_iff _ _).2 rfl, _, ⟨_, rfl, this⟩, ?_⟩
        rw [cells_mkVal this, cells_mkVal hr]
      | none =>
        cases t with
        | struct ts =>
          obtain ⟨ds, rfl, hr'⟩ := hr
          obtain ⟨h1, h2, h3⟩ := fields_rel (μ := μ) hr' (.r ds) 0 (fun j _ => by simp [D.f_r])
          exact key ts _ _ rfl h2 h1 (by rw [h3]; simp [cellsOf, mkVal, Ty.isAgg, Value.cells]) (by have hs2 := hs; simp only [vset, hpl] at hs2; cases h9 : vnth (V.fields ts (D.r ds) 0) k with | none => simp [h9] at hs2 | some v9 => (cases h8 : vset v9 p q with | none => simp [h9, h8] at hs2 | some v8 => simpa [h9, h8] using hs2))
        | _ => simp [vset, hpl] at hs
    | _ => simp [vset] at hs

end
end Go.Ev

/- The program's types against the evaluator's, and the model's loads and stores of whole variables. -/
namespace Go.Ev
open Go

mutual
/-- the cells of a zero value -/
def zcells : Ty → List Value
  | .int k => [.int k 0]
  | .bool => [.bool false]
  | .str => [.string ByteArray.empty]
  | .struct ts => zcellss ts
  | .arr n t => (List.replicate n (zcells t)).flatten
  | .slice _ => [.slice none 0 0]
  | .ptr => [.pointer none]
  | .map _ _ => [.map none]
  | .fn => [.nilFunc]
  | .ifc => [.nilIface]
def zcellss : List Ty → List Value
  | [] => []
  | t :: ts => zcells t ++ zcellss ts
end

structure Base (P : Program) (ty : Ty) (t : TypeId) : Prop where
  ex : ∃ i : TypeInfo, P.info? t = some i ∧ i.size = ty.size ∧ i.zero = some (mkVal ty (zcells ty)) ∧ i.bytes ≤ 24 * ty.size ∧ ty.size ≠ 0

mutual
def TyOK (P : Program) : Ty → TypeId → Prop
  | .int k, t => Base P (.int k) t ∧ P.underlying t = some (.int k)
  | .bool, t => Base P .bool t ∧ P.underlying t = some .bool
  | .str, t => Base P .str t ∧ P.underlying t = some .string
  | .struct ts, t => Base P (.struct ts) t ∧ P.stoodInHeld t = false ∧ ∃ fs, P.underlying t = some (.struct fs) ∧ FieldsOK P ts fs.toList 0
  | .arr n e, t => Base P (.arr n e) t ∧ ∃ te, P.underlying t = some (.array n te) ∧ TyOK P e te
  | .slice e, t => Base P (.slice e) t ∧ ∃ te, P.underlying t = some (.slice te) ∧ TyOK P e te
  | .ptr, t => Base P .ptr t ∧ ∃ te, P.underlying t = some (.pointer te)
  | .map k v, t => Base P (.map k v) t ∧ ∃ tk tv, P.underlying t = some (.map tk tv) ∧ TyOK P k tk ∧ TyOK P v tv
  | .fn, t => Base P .fn t ∧ ∃ a b c, P.underlying t = some (.func a b c)
  | .ifc, t => Base P .ifc t ∧ ∃ ms, P.underlying t = some (.interface ms)
def FieldsOK (P : Program) : List Ty → List Field → Nat → Prop
  | [], fs, _ => fs = []
  | t :: ts, fs, o => ∃ f fs', fs = f :: fs' ∧ TyOK P t f.type ∧ f.offset = o ∧ f.name ≠ "_" ∧ FieldsOK P ts fs' (o + t.size)
end

theorem TyOK.base {P : Program} : ∀ {ty : Ty} {t : TypeId}, TyOK P ty t → Base P ty t
  | .int _, _, h => h.1
  | .bool, _, h => h.1
  | .str, _, h => h.1
  | .struct _, _, h => h.1
  | .arr _ _, _, h => h.1
  | .slice _, _, h => h.1
  | .ptr, _, h => h.1
  | .map _ _, _, h => h.1
  | .fn, _, h => h.1
  | .ifc, _, h => h.1

/-! ### Its check -/

/-- the zero values that types have -/
def zeq : Value → Value → Bool
  | .int j m, .int k n => decide (j = k) && decide (m = n)
  | .bool a, .bool b => a == b
  | .string a, .string b => decide (a.data.toList = b.data.toList)
  | .slice none 0 0, .slice none 0 0 => true
  | .pointer none, .pointer none => true
  | .map none, .map none => true
  | .nilFunc, .nilFunc => true
  | .nilIface, .nilIface => true
  | _, _ => false
def zeqs : List Value → List Value → Bool
  | [], [] => true
  | x :: xs, y :: ys => zeq x y && zeqs xs ys
  | _, _ => false
def zeqVal : Value → Value → Bool
  | .agg xs, .agg ys => zeqs xs.toList ys.toList
  | x, y => zeq x y

theorem zeq_eq : ∀ {x y : Value}, zeq x y = true → x = y := by
  intro x y h
  unfold zeq at h
  split at h <;> simp only [Bool.and_eq_true, decide_eq_true_eq, beq_iff_eq, Bool.false_eq_true] at h
  · obtain ⟨rfl, rfl⟩ := h; rfl
  · subst h; rfl
  · rename_i a b
    have : a = b := by
      cases a; cases b
      simp only at h
      congr
      exact Array.toList_inj.1 h
    rw [this]
  all_goals rfl
theorem zeqs_eq : ∀ {xs ys : List Value}, zeqs xs ys = true → xs = ys
  | [], [], _ => rfl
  | x :: xs, y :: ys, h => by
    simp only [zeqs, Bool.and_eq_true] at h
    rw [zeq_eq h.1, zeqs_eq h.2]
  | [], _ :: _, h => by simp [zeqs] at h
  | _ :: _, [], h => by simp [zeqs] at h
theorem zeqVal_eq {x y : Value} (h : zeqVal x y = true) : x = y := by
  unfold zeqVal at h
  split at h
  · rw [Array.toList_inj.1 (zeqs_eq h)]
  · exact zeq_eq h

def baseChk (P : Program) (ty : Ty) (t : TypeId) : Bool :=
  match P.info? t with
  | some i => decide (i.size = ty.size) && (match i.zero with | some z => zeqVal z (mkVal ty (zcells ty)) | none => false) && decide (i.bytes ≤ 24 * ty.size) && decide (ty.size ≠ 0)
  | none => false
theorem baseChk_ok {P : Program} {ty : Ty} {t : TypeId} (h : baseChk P ty t = true) : Base P ty t := by
  unfold baseChk at h
  split at h
  · rename_i i hi
    simp only [Bool.and_eq_true, decide_eq_true_eq] at h
    obtain ⟨⟨⟨h1, h2⟩, h3⟩, h4⟩ := h
    split at h2
    · rename_i z hz
      exact ⟨i, hi, h1, by rw [hz, zeqVal_eq h2], h3, h4⟩
    · simp at h2
  · simp at h

mutual
def tyChk (P : Program) : Ty → TypeId → Bool
  | .int k, t => baseChk P (.int k) t && (match P.underlying t with | some (.int k') => decide (k = k') | _ => false)
  | .bool, t => baseChk P .bool t && (match P.underlying t with | some .bool => true | _ => false)
  | .str, t => baseChk P .str t && (match P.underlying t with | some .string => true | _ => false)
  | .struct ts, t => baseChk P (.struct ts) t && !P.stoodInHeld t && (match P.underlying t with | some (.struct fs) => fieldsChk P ts fs.toList 0 | _ => false)
  | .arr n e, t => baseChk P (.arr n e) t && (match P.underlying t with | some (.array m te) => decide (n = m) && tyChk P e te | _ => false)
  | .slice e, t => baseChk P (.slice e) t && (match P.underlying t with | some (.slice te) => tyChk P e te | _ => false)
  | .ptr, t => baseChk P .ptr t && (match P.underlying t with | some (.pointer _) => true | _ => false)
  | .map k v, t => baseChk P (.map k v) t && (match P.underlying t with | some (.map tk tv) => tyChk P k tk && tyChk P v tv | _ => false)
  | .fn, t => baseChk P .fn t && (match P.underlying t with | some (.func _ _ _) => true | _ => false)
  | .ifc, t => baseChk P .ifc t && (match P.underlying t with | some (.interface _) => true | _ => false)
def fieldsChk (P : Program) : List Ty → List Field → Nat → Bool
  | [], fs, _ => match fs with | [] => true | _ => false
  | t :: ts, fs, o => match fs with
    | f :: fs' => tyChk P t f.type && decide (f.offset = o) && decide (f.name ≠ "_") && fieldsChk P ts fs' (o + t.size)
    | [] => false
end

mutual
theorem tyChk_ok {P : Program} : ∀ {ty : Ty} {t : TypeId}, tyChk P ty t = true → TyOK P ty t
  | .int k, t, h => by
    simp only [tyChk, Bool.and_eq_true] at h
    refine ⟨baseChk_ok h.1, ?_⟩
    have h2 := h.2
    split at h2
    · rename_i k' hk; rw [hk, of_decide_eq_true h2]
    · simp at h2
  | .bool, t, h => by
    simp only [tyChk, Bool.and_eq_true] at h
    refine ⟨baseChk_ok h.1, ?_⟩
    have h2 := h.2
    split at h2
    · assumption
    · simp at h2
  | .str, t, h => by
    simp only [tyChk, Bool.and_eq_true] at h
    refine ⟨baseChk_ok h.1, ?_⟩
    have h2 := h.2
    split at h2
    · assumption
    · simp at h2
  | .struct ts, t, h => by
    simp only [tyChk, Bool.and_eq_true, Bool.not_eq_true'] at h
    refine ⟨baseChk_ok h.1.1, h.1.2, ?_⟩
    have h2 := h.2
    split at h2
    · rename_i fs hfs; exact ⟨fs, hfs, fieldsChk_ok h2⟩
    · simp at h2
  | .arr n e, t, h => by
    simp only [tyChk, Bool.and_eq_true] at h
    refine ⟨baseChk_ok h.1, ?_⟩
    have h2 := h.2
    split at h2
    · rename_i m te hm
      simp only [Bool.and_eq_true, decide_eq_true_eq] at h2
      obtain ⟨rfl, h2⟩ := h2
      exact ⟨te, hm, tyChk_ok h2⟩
    · simp at h2
  | .slice e, t, h => by
    simp only [tyChk, Bool.and_eq_true] at h
    refine ⟨baseChk_ok h.1, ?_⟩
    have h2 := h.2
    split at h2
    · rename_i te hm; exact ⟨te, hm, tyChk_ok h2⟩
    · simp at h2
  | .ptr, t, h => by
    simp only [tyChk, Bool.and_eq_true] at h
    refine ⟨baseChk_ok h.1, ?_⟩
    have h2 := h.2
    split at h2
    · rename_i te hm; exact ⟨te, hm⟩
    · simp at h2
  | .map k v, t, h => by
    simp only [tyChk, Bool.and_eq_true] at h
    refine ⟨baseChk_ok h.1, ?_⟩
    have h2 := h.2
    split at h2
    · rename_i tk tv hm
      simp only [Bool.and_eq_true] at h2
      exact ⟨tk, tv, hm, tyChk_ok h2.1, tyChk_ok h2.2⟩
    · simp at h2
  | .fn, t, h => by
    simp only [tyChk, Bool.and_eq_true] at h
    refine ⟨baseChk_ok h.1, ?_⟩
    have h2 := h.2
    split at h2
    · rename_i a b c hm; exact ⟨a, b, c, hm⟩
    · simp at h2
  | .ifc, t, h => by
    simp only [tyChk, Bool.and_eq_true] at h
    refine ⟨baseChk_ok h.1, ?_⟩
    have h2 := h.2
    split at h2
    · rename_i ms hm; exact ⟨ms, hm⟩
    · simp at h2
theorem fieldsChk_ok {P : Program} : ∀ {ts : List Ty} {fs : List Field} {o : Nat}, fieldsChk P ts fs o = true → FieldsOK P ts fs o
  | [], fs, o, h => by
    cases fs with
    | nil => rfl
    | cons _ _ => simp [fieldsChk] at h
  | t :: ts, fs, o, h => by
    cases fs with
    | nil => simp [fieldsChk] at h
    | cons f fs' =>
      simp only [fieldsChk, Bool.and_eq_true, decide_eq_true_eq] at h
      exact ⟨f, fs', rfl, tyChk_ok h.1.1.1, h.1.1.2, h.1.2, fieldsChk_ok h.2⟩
end

theorem FieldsOK.get {P : Program} : ∀ {ts : List Ty} {fs : List Field} {o : Nat}, FieldsOK P ts fs o → ∀ {k : Nat} {t : Ty}, vnth ts k = some t →
    ∃ f, fs[k]? = some f ∧ TyOK P t f.type ∧ f.offset = o + Ty.offs ts k
  | [], _, _, _, k, t, h => by simp [vnth] at h
  | t' :: ts, _, o, ⟨f, fs', rfl, h1, h2, _, h3⟩, 0, t, ht => by
    simp only [vnth, Option.some.injEq] at ht; subst ht
    exact ⟨f, by simp, h1, by simp [Ty.offs, h2]⟩
  | t' :: ts, _, o, ⟨f, fs', rfl, h1, h2, _, h3⟩, k + 1, t, ht => by
    obtain ⟨g, hg, h4, h5⟩ := h3.get (k := k) ht
    exact ⟨g, by simpa using hg, h4, by rw [h5]; simp [Ty.offs, Nat.add_assoc]⟩

/-! ### What the model's helpers come to -/

section
variable {P : Program} {ty : Ty} {t : TypeId}

theorem run_underlying {d : TypeDesc} (h : P.underlying t = some d) (w : World) : (underlying t).run P w = .ok d w := by
  simp [underlying, h]
theorem run_typeInfo {i : TypeInfo} (h : P.info? t = some i) (w : World) : (typeInfo t).run P w = .ok i w := by
  simp [typeInfo, h]
theorem Base.run_size (h : Base P ty t) (w : World) : (sizeOf t).run P w = .ok ty.size w := by
  obtain ⟨i, hi, hs, _⟩ := h.ex
  simp [sizeOf, run_typeInfo hi, hs]
theorem Base.run_zero (h : Base P ty t) (w : World) : (zeroValue t).run P w = .ok (mkVal ty (zcells ty)) w := by
  obtain ⟨i, hi, _, hz, _⟩ := h.ex
  simp [zeroValue, run_typeInfo hi, hz]
theorem TyOK.run_isAgg (h : TyOK P ty t) (w : World) : (isAgg t).run P w = .ok ty.isAgg w := by
  cases ty <;> simp only [TyOK] at h
  · simp [isAgg, run_underlying h.2, Ty.isAgg]
  · simp [isAgg, run_underlying h.2, Ty.isAgg]
  · simp [isAgg, run_underlying h.2, Ty.isAgg]
  · obtain ⟨_, _, fs, h, _⟩ := h; simp [isAgg, run_underlying h, Ty.isAgg]
  · obtain ⟨_, te, h, _⟩ := h; simp [isAgg, run_underlying h, Ty.isAgg]
  · obtain ⟨_, te, h, _⟩ := h; simp [isAgg, run_underlying h, Ty.isAgg]
  · obtain ⟨_, te, h⟩ := h; simp [isAgg, run_underlying h, Ty.isAgg]
  · obtain ⟨_, tk, tv, h, _⟩ := h; simp [isAgg, run_underlying h, Ty.isAgg]
  · obtain ⟨_, a, b, c, h⟩ := h; simp [isAgg, run_underlying h, Ty.isAgg]
  · obtain ⟨_, ms, h⟩ := h; simp [isAgg, run_underlying h, Ty.isAgg]

theorem size_one_of_not_agg (h : ty.isAgg = false) : ty.size = 1 := by
  cases ty <;> simp [Ty.isAgg, Ty.size] at h ⊢

theorem addr_add (b o n : Nat) : (⟨b, o, none⟩ : Addr).add n = ⟨b, o + n, none⟩ := by
  unfold Addr.add
  split
  · simp_all
  · rfl
theorem addr_add' {a : Addr} (h : a.spot = none) (n : Nat) : a.add n = ⟨a.block, a.off + n, none⟩ := by
  obtain ⟨b, o, s⟩ := a
  simp only at h; subst h
  exact addr_add b o n

theorem cell_in {w : World} {b : Nat} {c : Array Value} {e : TypeId} {f : Nat × Nat} (hb : w.heap[b]? = some (.cells c e f)) (o : Nat) : w.cell? ⟨b, o, none⟩ = c[o]? := by
  simp [World.cell?, hb]

theorem run_loadVar (h : TyOK P ty t) {w : World} {b o : Nat} {c : Array Value} {e : TypeId} {f : Nat × Nat} (hb : w.heap[b]? = some (.cells c e f)) (ho : o + ty.size ≤ c.size) :
    (loadVar t ⟨b, o, none⟩).run P w = .ok (mkVal ty ((c.toList.drop o).take ty.size)) w := by
  unfold loadVar
  simp only [Sem.run_bind, h.run_isAgg, Result.andThen_ok]
  cases ha : ty.isAgg with
  | true =>
    simp only [if_true, Sem.run_bind, h.base.run_size, Result.andThen_ok]
    have hl : ((c.toList.drop o).take ty.size).length = ty.size := by simp; omega
    have := run_loadCells_list (P := P) w ⟨b, o, none⟩ ((c.toList.drop o).take ty.size) (fun j v hj => by
      rw [addr_add, cell_in hb]
      rw [List.getElem?_take, List.getElem?_drop] at hj
      split at hj
      · simpa using hj
      · simp at hj)
    rw [hl] at this
    simp [this, mkVal, ha]
  | false =>
    have h1 := size_one_of_not_agg ha
    simp only [Bool.false_eq_true, if_false, run_load, cell_in hb]
    have hlt : o < c.size := by omega
    have : (c.toList.drop o).take ty.size = [c[o]] := by
      rw [h1, List.take_one, List.head?_drop]
      simp [hlt]
    simp [this, mkVal, ha, hlt]

/-- no cell of it is frozen -/
def Fz (c : Array Value) (f : Nat × Nat) : Prop := ∀ j, j < c.size → ¬ (f.1 ≤ j ∧ j < f.2)
theorem Fz.zero (c : Array Value) : Fz c (0, 0) := by intro j _; simp
theorem Fz.congr {c c' : Array Value} {f : Nat × Nat} (h : Fz c f) (hc : c'.size = c.size) : Fz c' f := fun j hj => h j (by omega)

theorem run_storeCells_free {g o : Nat} {t : TypeId} {f : Nat × Nat} : ∀ (vs : List Value) (i : Nat) (cur : Array Value) (w : World), w.heap[g]? = some (.cells cur t f) → Fz cur f → o + i + vs.length ≤ cur.size → (∀ v ∈ vs, v.oneCell' = true) →
    (storeCells ⟨g, o, none⟩ vs i).run P w = .ok () (w.setRow g (splice cur.toList (o + i) vs).toArray)
  | [], i, cur, w, hg, _, _, _ => by
    simp only [storeCells, splice, List.append_nil, List.length_nil, Nat.add_zero, List.take_append_drop, Array.toArray_toList]
    rw [setRow_self w g cur t f hg]
    rfl
  | v :: rest, i, cur, w, hg, hz, hl, h1 => by
    have hi : o + i < cur.size := by simp at hl; omega
    have hcell : w.cell? ⟨g, o + i, none⟩ = some cur[o + i] := by simp [World.cell?, hg, hi]
    have hfro : w.frozen? ⟨g, o + i, none⟩ = false := by
      have := hz (o + i) hi
      obtain ⟨lo, hi'⟩ := f
      simp only [World.frozen?, hg]
      simpa using this
    have hst : (store ((⟨g, o, none⟩ : Addr).add i) v).run P w = .ok () (w.setRow g (cur.setIfInBounds (o + i) v)) := by
      rw [addr_add, run_store P w _ v _ (h1 v (by simp)), hcell]
      simp [hfro, setCell_eq_setRow w g (o + i) cur t f v hg]
    have ih := run_storeCells_free (o := o) rest (i + 1) (cur.setIfInBounds (o + i) v) (w.setRow g (cur.setIfInBounds (o + i) v)) (setRow_heap w g cur _ t _ hg) (hz.congr (by simp)) (by simp at hl ⊢; omega) (fun x hx => h1 x (by simp [hx]))
    simp only [storeCells, Sem.run_bind, hst, Result.andThen_ok, ih, setRow_setRow]
    congr 3
    have e := list_seg_step cur.toList (o + i) v rest (by simp at hl ⊢; omega)
    simpa [splice, Array.toList_setIfInBounds, Nat.add_assoc] using e

theorem run_storeVar (h : TyOK P ty t) {w : World} {b o : Nat} {c : Array Value} {e : TypeId} {f : Nat × Nat} (hb : w.heap[b]? = some (.cells c e f)) (hz : Fz c f) {v : Value} (hv : (cellsOf v).length = ty.size)
    (ho : o + ty.size ≤ c.size) (h1 : ∀ x ∈ cellsOf v, x.oneCell' = true) :
    (storeVar t ⟨b, o, none⟩ v).run P w = .ok () (w.setRow b (splice c.toList o (cellsOf v)).toArray) := by
  unfold storeVar
  simp only [Sem.run_bind, h.base.run_size, Result.andThen_ok]
  have hv' : v.cells.size = ty.size := by simpa [cellsOf] using hv
  rw [if_neg (by simp [hv'])]
  have := run_storeCells_free (P := P) (o := o) (cellsOf v) 0 c w hb hz (by omega) h1
  simpa [cellsOf, splice] using this

end
end Go.Ev
