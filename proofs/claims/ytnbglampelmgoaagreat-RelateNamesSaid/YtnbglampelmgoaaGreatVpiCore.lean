/- The verified interpreter, part 1: values, the small store, the resolved code, and the evaluator. Nothing here is about one program. -/
import Derived.Orders
namespace Go.Proofs.YtnbglampelmgoaaGreat.Vpi
open Go
set_option linter.unusedVariables false
set_option linter.unusedSimpArgs false

/-- values without references: what can be read and is never written again -/
inductive PV where
  | int (k : IntKind) (n : Int)
  | bool (b : Bool)
  | str (s : ByteArray)
  | agg (cs : List PV)
  | sl (es : List PV)
  deriving Inhabited

/-- values of a running function -/
inductive CV where
  | any
  | p (v : PV)
  | nils
  | own (b off n : Nat)
  | ptr (b i off : Nat)
  | rp (e : PV) (off : Nat)
  | agg (cs : List CV)
  | tup (vs : List CV)
  | fn (f : Nat) (cap : List CV)
  deriving Inhabited

inductive Blk where
  | dead
  | hole
  | prow (sz : Nat) (es : List PV)
  | kblk (sz : Nat) (cs : List CV)
  deriving Inhabited

abbrev Store := List Blk
abbrev Env := List (Nat × CV)

inductive Opd where
  | t (n : Nat)
  | c (v : CV)

inductive CK where
  | pu | fz | full | keep | cell | peek

inductive ROp where
  | mv (x : Opd)
  | pick (c a b : Opd)
  | alloc (zs : List CV)
  | box (x : Opd)
  | build (zs : List CV) (parts : List (Nat × Nat × Opd))
  | bslice (sz : Nat) (xs : List Opd)
  | load (agg : Bool) (sz : Nat) (a : Opd)
  | store (sz : Nat) (a x : Opd)
  | nilc (x : Opd)
  | bin (op : BinOp) (x y : Opd)
  | beq (ne : Bool) (x y : Opd)
  | un (op : UnOp) (x : Opd)
  | conv (k : IntKind) (x : Opd)
  | mkfn (f : Nat) (cap : List Opd)
  | mks (deep : Bool) (sz bytes : Nat) (z : PV) (l c : Opd)
  | slice (sz : Nat) (x : Opd) (lo hi mx : Option Opd)
  | fieldA (off : Nat) (x : Opd)
  | field (agg : Bool) (off sz : Nat) (x : Opd)
  | indexA (sz : Nat) (x i : Opd)
  | extract (x : Opd) (i : Nat)
  | idx (tab : List Nat) (x : Opd)
  | len (x : Opd)
  | append (sz bytes : Nat) (s x : Opd)
  | copy (sz : Nat) (d s : Opd)
  | mx (x y : Opd)
  | mn (x y : Opd)
  | call (k : CK) (f : Nat) (args : List Opd)
  | callv (k : CK) (x : Opd) (args : List Opd)

structure LOp where
  d : Option Nat
  g : Option (Nat × Bool)
  sl : Option Nat
  op : ROp

inductive RCode where
  | skip
  | reg (ops : List LOp) (draw : Option (Nat × List (Nat × Nat)))
  | seq (a b : RCode)
  | cond (c : Opd) (a b : RCode)
  | block (id : Nat) (c : RCode)
  | scope (c : RCode)
  | loop (c : RCode)
  | exit (id : Nat)
  | ret
  | fg (keep : List Nat) (c : RCode)

inductive KI where
  | code (c : RCode)
  | blk (id : Nat)
  | lp (c : RCode)
  | sc

inductive RRes where
  | t (n : Nat)
  | cell (n : Nat) (agg : Bool) (sz : Nat)

structure RFun where
  code : RCode
  res : List RRes

abbrev RProg := Nat → Option RFun

/-! ### small words -/

def PV.cells : PV → List PV
  | .agg cs => cs
  | v => [v]

def gt : Env → Nat → CV
  | [], _ => .any
  | (k, v) :: l, n => if k = n then v else gt l n

def st (d : Nat) (v : CV) : Env → Env
  | [] => [(d, v)]
  | (k, u) :: l => if d < k then (d, v) :: (k, u) :: l else if k = d then (d, v) :: l else (k, u) :: st d v l

def sto (d : Option Nat) (v : CV) (e : Env) : Env :=
  match d with
  | some d => st d v e
  | none => e

/-- only the named ones are kept -/
def fgt (keep : List Nat) : Env → Env
  | [] => []
  | (k, v) :: l => if keep.elem k then (k, v) :: fgt keep l else fgt keep l

def vl (e : Env) : Opd → CV
  | .t n => gt e n
  | .c v => v

def i64 (n : Int) : CV := .p (.int .i64 n)

/-- a list of cells that are all pure -/
def allP : List CV → Option (List PV)
  | [] => some []
  | .p v :: l => (allP l).map (v :: ·)
  | _ :: _ => none

def mkAgg (cs : List CV) : CV :=
  match allP cs with
  | some ps => .p (.agg ps)
  | none => .agg cs

/-- the cells of a value, if it is made of cells -/
def CV.cells : CV → Option (List CV)
  | .p v => some (v.cells.map .p)
  | .agg cs => some cs
  | .any | .tup _ | .rp _ _ => none
  | v => some [v]

/-- a value read as a pure one (own slices are read off the store) -/
def frz1 (σ : Store) : CV → Option PV
  | .p v => some v
  | .nils => some (.sl [])
  | .own b off n =>
    match σ[b]? with
    | some (.prow _ es) => if off + n ≤ es.length then some (.sl ((es.drop off).take n)) else none
    | _ => none
  | _ => none

def frzL (σ : Store) : List CV → Option (List PV)
  | [] => some []
  | v :: l =>
    match frz1 σ v with
    | some x => (frzL σ l).map (x :: ·)
    | none => none

def frz (σ : Store) : CV → Option PV
  | .agg cs => (frzL σ cs).map .agg
  | v => frz1 σ v

/-- the blocks that it read are given up -/
def kill1 (σ : Store) : CV → Store
  | .own b _ _ => σ.set b .dead
  | _ => σ

def killL (σ : Store) (l : List CV) : Store := l.foldl kill1 σ

def kill (σ : Store) : CV → Store
  | .agg cs => killL σ cs
  | v => kill1 σ v

/-- what a slice holds -/
def content (σ : Store) : CV → Option (List PV)
  | .p (.sl es) => some es
  | .nils => some []
  | .own b off n =>
    match σ[b]? with
    | some (.prow _ es) => if off + n ≤ es.length then some ((es.drop off).take n) else none
    | _ => none
  | _ => none

/-- a part of an element -/
def subPV (agg : Bool) (sz : Nat) (e : PV) (off : Nat) : Option PV :=
  match agg with
  | true =>
    match e with
    | .agg cs => if off + sz ≤ cs.length then some (.agg ((cs.drop off).take sz)) else none
    | _ => none
  | false => e.cells[off]?

def subCV (agg : Bool) (sz : Nat) (cs : List CV) (off : Nat) : Option CV :=
  match agg with
  | true => if off + sz ≤ cs.length then some (mkAgg ((cs.drop off).take sz)) else none
  | false => cs[off]?

/-- cells written from a place on -/
def setCells {α : Type} (cs : List α) (off : Nat) (xs : List α) : List α := cs.take off ++ xs ++ cs.drop (off + xs.length)

/-- an element with a part written -/
def updPV (e : PV) (off sz : Nat) (x : PV) : Option PV :=
  match e with
  | .agg cs => if x.cells.length = sz ∧ off + sz ≤ cs.length then some (.agg (setCells cs off x.cells)) else none
  | .sl _ | .int _ _ | .bool _ | .str _ => if off = 0 ∧ sz = 1 then (match x with | .agg _ => none | x => some x) else none

def binV (op : BinOp) (x y : PV) : Option PV :=
  match op, x, y with
  | .shl, .int k a, .int _ b => if b < 0 then none else some (.int k (k.wrap (a * 2 ^ min b.toNat k.bits)))
  | .shr, .int k a, .int _ b => if b < 0 then none else some (.int k (a.fdiv (2 ^ min b.toNat k.bits)))
  | .add, .int k a, .int k' b => if k = k' then some (.int k (k.wrap (a + b))) else none
  | .sub, .int k a, .int k' b => if k = k' then some (.int k (k.wrap (a - b))) else none
  | .mul, .int k a, .int k' b => if k = k' then some (.int k (k.wrap (a * b))) else none
  | .quo, .int k a, .int k' b => if k = k' then (if b = 0 then none else some (.int k (k.wrap (a.tdiv b)))) else none
  | .rem, .int k a, .int k' b => if k = k' then (if b = 0 then none else some (.int k (a.tmod b))) else none
  | .and, .int k a, .int k' b => if k = k' then some (.int k (k.wrap (BitVec.ofInt k.bits a &&& BitVec.ofInt k.bits b).toNat)) else none
  | .or, .int k a, .int k' b => if k = k' then some (.int k (k.wrap (BitVec.ofInt k.bits a ||| BitVec.ofInt k.bits b).toNat)) else none
  | .xor, .int k a, .int k' b => if k = k' then some (.int k (k.wrap (BitVec.ofInt k.bits a ^^^ BitVec.ofInt k.bits b).toNat)) else none
  | .eql, .int k a, .int k' b => if k = k' then some (.bool (a == b)) else none
  | .neq, .int k a, .int k' b => if k = k' then some (.bool (a != b)) else none
  | .lss, .int k a, .int k' b => if k = k' then some (.bool (decide (a < b))) else none
  | .leq, .int k a, .int k' b => if k = k' then some (.bool (decide (a ≤ b))) else none
  | .gtr, .int k a, .int k' b => if k = k' then some (.bool (decide (a > b))) else none
  | .geq, .int k a, .int k' b => if k = k' then some (.bool (decide (a ≥ b))) else none
  | _, _, _ => none

def unV (op : UnOp) (x : PV) : Option PV :=
  match op, x with
  | .neg, .int k n => some (.int k (k.wrap (0 - n)))
  | .not, .bool b => some (.bool !b)
  | _, _ => none

/-- an integer's value -/
def CV.num : CV → Option Int
  | .p (.int _ n) => some n
  | _ => none

/-- a new block: behind all others, or in the place that was kept for it -/
def push (base : Nat) (sl : Option Nat) (σ : Store) (b : Blk) : Option (Nat × Store) :=
  match sl with
  | none => some (σ.length, σ ++ [b])
  | some j =>
    match σ[base + j]? with
    | some .hole => some (base + j, σ.set (base + j) b)
    | _ => none

/-- the size of a block's elements -/
def bsz (σ : Store) (b : Nat) : Option Nat :=
  match σ[b]? with
  | some (.prow s _) => some s
  | some (.kblk s _) => some s
  | _ => none

/-- all elements have so many cells -/
def allSz (sz : Nat) (es : List PV) : Bool := es.all fun e => e.cells.length == sz

def sliceV (σ : Store) (sz : Nat) (x : CV) (l h : Nat) : Option CV :=
  if l ≤ h then
    match x with
    | .p (.sl es) => if h ≤ es.length ∧ (l = 0 ∨ allSz sz es = true) then some (.p (.sl ((es.drop l).take (h - l)))) else none
    | .own b off n => if h ≤ n ∧ bsz σ b = some sz then some (.own b (off + l) (h - l)) else none
    | .nils => if h = 0 then some .nils else none
    | _ => none
  else none

def lenV : CV → Option Nat
  | .p (.sl es) => some es.length
  | .own _ _ n => some n
  | .nils => some 0
  | _ => none

/-- a bound of a slice expression -/
def bnd (e : Env) (x : Option Opd) (d : Nat) : Option Nat :=
  match x with
  | none => some d
  | some x =>
    match (vl e x).num with
    | some n => if 0 ≤ n then some n.toNat else none
    | none => none

def fill (zs : List CV) (e : Env) : List (Nat × Nat × Opd) → Option (List CV)
  | [] => some zs
  | (off, sz, x) :: l =>
    match (vl e x).cells with
    | some cs => if cs.length = sz ∧ off + sz ≤ zs.length then fill (setCells zs off cs) e l else none
    | none => none

def isPure1 : CV → Option PV
  | .p v => some v
  | .nils => some (.sl [])
  | _ => none

def pureL : List CV → Option (List PV)
  | [] => some []
  | v :: l =>
    match isPure1 v with
    | some x => (pureL l).map (x :: ·)
    | none => none

/-- a value as a pure one, if it has no reference -/
def toP : CV → Option PV
  | .agg cs => (pureL cs).map .agg
  | v => isPure1 v

def toPs : List CV → Option (List PV)
  | [] => some []
  | v :: l =>
    match toP v with
    | some x => (toPs l).map (x :: ·)
    | none => none

def frzs (σ : Store) : List CV → Option (List PV)
  | [] => some []
  | v :: l =>
    match frz σ v with
    | some x => (frzs σ l).map (x :: ·)
    | none => none

def kills (σ : Store) (l : List CV) : Store := l.foldl kill σ

/-- what is handed back: blocks from base on are read off and given up, the others stay references -/
def back1 (base : Nat) (σ : Store) (v : CV) : Option CV :=
  match v with
  | .any => some .any
  | .own b off n => if b < base then some (.own b off n) else (frz1 σ v).map .p
  | .ptr b i off => if b < base then some (.ptr b i off) else none
  | .agg cs => if (cs.all fun | .own b _ _ => base ≤ b | _ => true) = true then (frz σ (.agg cs)).map .p else none
  | v => (frz σ v).map .p

def backL (base : Nat) (σ : Store) : List CV → Option (List CV)
  | [] => some []
  | v :: l =>
    match back1 base σ v with
    | some x => (backL base σ l).map (x :: ·)
    | none => none

def back (base : Nat) (σ : Store) : CV → Option CV
  | .tup vs => (backL base σ vs).map .tup
  | v => back1 base σ v

/-- no reference to a block from base on -/
def below1 (base : Nat) : CV → Bool
  | .own b _ _ => b < base
  | .ptr b _ _ => b < base
  | .p _ | .nils | .any => true
  | .fn _ cap => cap.all fun | .own b _ _ => b < base | .ptr b _ _ => b < base | .p _ | .nils | .any => true | _ => false
  | _ => false

def blkBelow (base : Nat) : Blk → Bool
  | .kblk _ cs => cs.all (below1 base)
  | _ => true

def addrs : CV → List Nat
  | .ptr b _ _ => [b]
  | _ => []

/-- an argument of a call that gets one block of cells alone -/
def cellArg (b : Nat) : CV → Option CV
  | .p v => some (.p v)
  | .ptr b' i o => if b' = b then some (.ptr 0 i o) else none
  | _ => none

def cellArgs (b : Nat) : List CV → Option (List CV)
  | [] => some []
  | v :: l =>
    match cellArg b v with
    | some x => (cellArgs b l).map (x :: ·)
    | none => none

/-- an answer without memory -/
def scal : Option CV → Option CV
  | some (.p (.int k n)) => some (.p (.int k n))
  | some (.p (.bool b)) => some (.p (.bool b))
  | _ => none

abbrev Caller := Nat → List CV → Store → Option (CV × Store)

/-- one call, by its kind; `run` runs a function's body -/
def doCall (run : Caller) (k : CK) (f : Nat) (args : List CV) (σ : Store) : Option (CV × Store) :=
  match k with
  | .pu =>
    match toPs args with
    | some ps =>
      match run f (ps.map .p) [] with
      | some (r, τ) => (back 0 τ r).map fun r => (r, σ)
      | none => none
    | none => none
  | .fz =>
    match frzs σ args with
    | some ps =>
      match run f (ps.map .p) [] with
      | some (r, τ) => (back 0 τ r).map fun r => (r, kills σ args)
      | none => none
    | none => none
  | .full =>
    match run f args σ with
    | some (r, τ) => if (τ.take σ.length).all (blkBelow σ.length) = true then (back σ.length τ r).map fun r => (r, τ.take σ.length) else none
    | none => none
  | .keep => run f args σ
  | .peek =>
    match frzs σ args with
    | some ps =>
      match run f (ps.map .p) [] with
      | some (r, τ) => (scal (back 0 τ r)).map fun r => (r, σ)
      | none => none
    | none => none
  | .cell =>
    match args.flatMap addrs with
    | [] =>
      match toPs args with
      | some ps =>
        match run f (ps.map .p) [] with
        | some (r, τ) => (back 0 τ r).map fun r => (r, σ)
        | none => none
      | none => none
    | [b] =>
      match σ[b]? with
      | some (.kblk s cs) =>
        match cellArgs b args, allP cs with
        | some as, some _ =>
          match run f as [.kblk s cs] with
          | some (.p v, τ) =>
            match τ[(0 : Nat)]? with
            | some (.kblk s' cs') => if s' = s ∧ (allP cs').isSome = true then some (.p v, σ.set b (.kblk s' cs')) else none
            | _ => none
          | _ => none
        | _, _ => none
      | _ => none
    | _ => none

/-- one operation that is no call -/
def ev (base : Nat) (sl : Option Nat) (op : ROp) (e : Env) (σ : Store) : Option (CV × Store) :=
  match op with
  | .mv x => some (vl e x, σ)
  | .pick c a b =>
    match vl e c with
    | .p (.bool t) => some (if t = true then vl e a else vl e b, σ)
    | _ => none
  | .alloc zs => (push base sl σ (.kblk zs.length zs)).map fun (b, σ) => (.ptr b 0 0, σ)
  | .box x =>
    match (vl e x).cells with
    | some cs => (push base sl σ (.kblk cs.length cs)).map fun (b, σ) => (.ptr b 0 0, σ)
    | none => none
  | .build zs parts => (fill zs e parts).map fun cs => (mkAgg cs, σ)
  | .bslice sz xs =>
    match frzs σ (xs.map (vl e)) with
    | some ps =>
      if allSz sz ps = true then (push base sl (kills σ (xs.map (vl e))) (.prow sz ps)).map fun (b, σ) => (.own b 0 ps.length, σ) else none
    | none => none
  | .load agg sz a =>
    match vl e a with
    | .ptr b i off =>
      match σ[b]? with
      | some (.prow _ es) =>
        match es[i]? with
        | some x => (subPV agg sz x off).map fun v => (.p v, σ)
        | none => none
      | some (.kblk s cs) => (subCV agg sz cs (i * s + off)).map fun v => (v, σ)
      | _ => none
    | .rp x off => (subPV agg sz x off).map fun v => (.p v, σ)
    | _ => none
  | .store sz a x =>
    match vl e a with
    | .ptr b i off =>
      match σ[b]? with
      | some (.prow _ _) =>
        match frz σ (vl e x) with
        | some v =>
          match (kill σ (vl e x))[b]? with
          | some (.prow s es) =>
            match es[i]? with
            | some u => (updPV u off sz v).map fun u => (.any, (kill σ (vl e x)).set b (.prow s (es.set i u)))
            | none => none
          | _ => none
        | none => none
      | some (.kblk s cs) =>
        match (vl e x).cells with
        | some xs => if xs.length = sz ∧ i * s + off + sz ≤ cs.length then some (.any, σ.set b (.kblk s (setCells cs (i * s + off) xs))) else none
        | none => none
      | _ => none
    | _ => none
  | .nilc x =>
    match vl e x with
    | .fn f cap => some (.fn f cap, σ)
    | .ptr b i off => some (.ptr b i off, σ)
    | .rp v off => some (.rp v off, σ)
    | _ => none
  | .bin op x y =>
    match vl e x, vl e y with
    | .p a, .p b => (binV op a b).map fun v => (.p v, σ)
    | _, _ => none
  | .beq ne x y =>
    match vl e x, vl e y with
    | .p (.bool a), .p (.bool b) => some (.p (.bool (if ne = true then !(a == b) else a == b)), σ)
    | _, _ => none
  | .un op x =>
    match vl e x with
    | .p a => (unV op a).map fun v => (.p v, σ)
    | _ => none
  | .conv k x =>
    match (vl e x).num with
    | some n => some (.p (.int k (k.wrap n)), σ)
    | none => none
  | .mkfn f cap => some (.fn f (cap.map (vl e)), σ)
  | .mks deep sz bytes z l c =>
    match (vl e l).num, (vl e c).num with
    | some l, some c =>
      if 0 ≤ l ∧ l ≤ c ∧ (bytes : Int) * c ≤ 281474976710656 ∧ c ≤ 9223372036854775807 ∧ z.cells.length = sz then
        match deep with
        | false => (push base sl σ (.prow sz (List.replicate l.toNat z))).map fun (b, σ) => (.own b 0 l.toNat, σ)
        | true => if sz = 1 then (push base sl σ (.kblk sz (List.replicate l.toNat .nils))).map fun (b, σ) => (.own b 0 l.toNat, σ) else none
      else none
    | _, _ => none
  | .slice sz x lo hi mx =>
    match lenV (vl e x) with
    | some n =>
      match bnd e lo 0, bnd e hi n with
      | some l, some h =>
        match mx with
        | none => (sliceV σ sz (vl e x) l h).map fun v => (v, σ)
        | some m =>
          match (vl e m).num with
          | some m => if 0 ≤ m ∧ h ≤ m.toNat ∧ m.toNat ≤ n then (sliceV σ sz (vl e x) l h).map fun v => (v, σ) else none
          | none => none
      | _, _ => none
    | none => none
  | .fieldA off x =>
    match vl e x with
    | .ptr b i o => some (.ptr b i (o + off), σ)
    | .rp v o => some (.rp v (o + off), σ)
    | _ => none
  | .field agg off sz x =>
    match vl e x with
    | .p (.agg cs) => (subPV agg sz (.agg cs) off).map fun v => (.p v, σ)
    | .agg cs => (subCV agg sz cs off).map fun v => (v, σ)
    | _ => none
  | .indexA sz x i =>
    match (vl e i).num with
    | some i =>
      if 0 ≤ i then
        match vl e x with
        | .p (.sl es) =>
          match es[i.toNat]? with
          | some v => if v.cells.length = sz then some (.rp v 0, σ) else none
          | none => none
        | .own b off n => if i.toNat < n ∧ bsz σ b = some sz then some (.ptr b (off + i.toNat) 0, σ) else none
        | _ => none
      else none
    | none => none
  | .extract x i =>
    match vl e x with
    | .tup vs => (vs[i]?).map fun v => (v, σ)
    | _ => none
  | .idx tab x =>
    match (vl e x).num with
    | some i =>
      if 0 ≤ i then
        match tab[i.toNat]? with
        | some v => some (.p (.int .u8 v), σ)
        | none => none
      else none
    | none => none
  | .len x => (lenV (vl e x)).map fun (n : Nat) => (i64 (n : Int), σ)
  | .append sz bytes s x =>
    match content σ (vl e s), content σ (vl e x) with
    | some a, some b =>
      if (a.length + b.length) * bytes ≤ 140737488355328 ∧ allSz sz b = true then
        match vl e s with
        | .nils => (push base sl σ (.prow sz (a ++ b))).map fun (k, σ) => (.own k 0 (a.length + b.length), σ)
        | .own k' _ _ =>
          match σ[k']? with
          | some (.prow sz' _) => if sz' = sz then (push base sl (σ.set k' .dead) (.prow sz (a ++ b))).map fun (k, σ) => (.own k 0 (a.length + b.length), σ) else none
          | _ => none
        | _ => none
      else none
    | _, _ => none
  | .copy sz d s =>
    match vl e d, content σ (vl e s) with
    | .own b off n, some xs =>
      match σ[b]? with
      | some (.prow s es) =>
        if off + n ≤ es.length ∧ s = sz ∧ allSz sz xs = true then some (i64 (min xs.length n : Nat), σ.set b (.prow s (setCells es off (xs.take n)))) else none
      | _ => none
    | .nils, some _ => some (i64 0, σ)
    | _, _ => none
  | .mx x y =>
    match vl e x, vl e y with
    | .p (.int k a), .p (.int _ b) => some (.p (.int k (if b > a then b else a)), σ)
    | _, _ => none
  | .mn x y =>
    match vl e x, vl e y with
    | .p (.int k a), .p (.int _ b) => some (.p (.int k (if b < a then b else a)), σ)
    | _, _ => none
  | .call .. | .callv .. => none

/-- one operation -/
def ev1 (run : Caller) (base : Nat) (sl : Option Nat) (op : ROp) (e : Env) (σ : Store) : Option (CV × Store) :=
  match op with
  | .call k f args => doCall run k f (args.map (vl e)) σ
  | .callv k x args =>
    match vl e x with
    | .fn f cap => doCall run k f (args.map (vl e) ++ cap) σ
    | _ => none
  | op => ev base sl op e σ

/-- one operation with its guard and its place -/
def evL (run : Caller) (base : Nat) (o : LOp) (e : Env) (σ : Store) : Option (Env × Store) :=
  match o.g with
  | none => (ev1 run base o.sl o.op e σ).map fun (v, σ) => (sto o.d v e, σ)
  | some (t, want) =>
    match gt e t with
    | .p (.bool b) => if b = want then (ev1 run base o.sl o.op e σ).map fun (v, σ) => (sto o.d v e, σ) else some (sto o.d (.tup []) e, σ)
    | .tup [] => some (sto o.d (.tup []) e, σ)
    | _ => none

def runO (run : Caller) (base : Nat) : List LOp → Env → Store → Option (Env × Store)
  | [], e, σ => some (e, σ)
  | o :: l, e, σ =>
    match evL run base o e σ with
    | some (e, σ) => runO run base l e σ
    | none => none

def resV (e : Env) (σ : Store) : RRes → Option CV
  | .t n => some (gt e n)
  | .cell n agg sz =>
    match gt e n with
    | .ptr b i off =>
      match σ[b]? with
      | some (.kblk s cs) => subCV agg sz cs (i * s + off)
      | _ => none
    | _ => none

def resL (e : Env) (σ : Store) : List RRes → Option (List CV)
  | [] => some []
  | r :: l =>
    match resV e σ r with
    | some v => (resL e σ l).map (v :: ·)
    | none => none

def resultsV (rs : List RRes) (e : Env) (σ : Store) : Option CV :=
  match resL e σ rs with
  | some [v] => some v
  | some vs => some (.tup vs)
  | none => none

def exitK (id : Nat) : List KI → Option (List KI)
  | .blk id' :: k => if id' = id then some k else exitK id k
  | _ :: k => exitK id k
  | [] => none

def args0 : Nat → List CV → Env
  | _, [] => []
  | k, v :: l => (k, v) :: args0 (k + 1) l

/-! ### the blocks that an operation touches -/

def own0 : CV → List Nat
  | .own b _ _ => [b]
  | _ => []

def ownsOf : CV → List Nat
  | .agg cs => cs.flatMap own0
  | c => own0 c

structure Foot where
  rd : List Nat
  sz : List Nat
  wr : List Nat
  kl : List Nat

def capOf : CV → List CV
  | .fn _ cap => cap
  | _ => []

def foot (e : Env) : ROp → Foot
  | .load _ _ a => ⟨addrs (vl e a), [], [], []⟩
  | .store _ a x => ⟨addrs (vl e a) ++ ownsOf (vl e x), [], addrs (vl e a) ++ ownsOf (vl e x), ownsOf (vl e x)⟩
  | .bslice _ xs => ⟨(xs.map (vl e)).flatMap ownsOf, [], (xs.map (vl e)).flatMap ownsOf, (xs.map (vl e)).flatMap ownsOf⟩
  | .append _ _ s x => ⟨ownsOf (vl e s) ++ ownsOf (vl e x), [], ownsOf (vl e s), ownsOf (vl e s)⟩
  | .copy _ d s => ⟨ownsOf (vl e d) ++ ownsOf (vl e s), [], ownsOf (vl e d), []⟩
  | .slice _ x _ _ _ => ⟨[], ownsOf (vl e x), [], []⟩
  | .indexA _ x _ => ⟨[], ownsOf (vl e x), [], []⟩
  | .call .cell _ args => ⟨(args.map (vl e)).flatMap addrs, [], (args.map (vl e)).flatMap addrs, []⟩
  | .call .peek _ args => ⟨(args.map (vl e)).flatMap ownsOf, [], [], []⟩
  | .call .fz _ args => ⟨(args.map (vl e)).flatMap ownsOf, [], (args.map (vl e)).flatMap ownsOf, (args.map (vl e)).flatMap ownsOf⟩
  | .callv .fz x args => ⟨(args.map (vl e) ++ capOf (vl e x)).flatMap ownsOf, [], (args.map (vl e) ++ capOf (vl e x)).flatMap ownsOf, (args.map (vl e) ++ capOf (vl e x)).flatMap ownsOf⟩
  | _ => ⟨[], [], [], []⟩

/-- nothing that one writes is read or written by the other -/
def apartB (F H : Foot) : Bool :=
  F.rd.all (fun b => !H.wr.elem b) && F.sz.all (fun b => !H.kl.elem b) && H.rd.all (fun b => !F.wr.elem b) && H.sz.all (fun b => !F.kl.elem b) && F.wr.all (fun b => !H.wr.elem b)

/-- two operations whose order is open touch nothing in common -/
def apartAt (e : Env) (ops : List LOp) (ij : Nat × Nat) : Bool :=
  match ops[ij.1]?, ops[ij.2]? with
  | some x, some y => apartB (foot e x.op) (foot e y.op)
  | _, _ => false

def runK (rp : RProg) : Nat → List RRes → RCode → List KI → Env → Store → Option (CV × Store)
  | 0, _, _, _, _, _ => none
  | n + 1, rs, c, ks, e, σ =>
    match c with
    | .skip =>
      match ks with
      | [] => (resultsV rs e σ).map fun v => (v, σ)
      | .code c :: ks => runK rp n rs c ks e σ
      | .blk _ :: ks => runK rp n rs .skip ks e σ
      | .sc :: ks => runK rp n rs .skip ks e σ
      | .lp c :: ks => runK rp n rs c (.lp c :: ks) e σ
    | .reg ops none =>
      match runO (fun f args σ => match rp f with | some rf => runK rp n rf.res rf.code [] (args0 0 args) σ | none => none) σ.length ops e σ with
      | some (e, σ) => runK rp n rs .skip ks e σ
      | none => none
    | .reg ops (some (h, xp)) =>
      match runO (fun f args σ => match rp f with | some rf => runK rp n rf.res rf.code [] (args0 0 args) σ | none => none) σ.length ops e (σ ++ List.replicate h .hole) with
      | some (e, σ) => if xp.all (apartAt e ops) then runK rp n rs .skip ks e σ else none
      | none => none
    | .seq a b => runK rp n rs a (.code b :: ks) e σ
    | .cond c a b =>
      match vl e c with
      | .p (.bool t) => if t = true then runK rp n rs a ks e σ else runK rp n rs b ks e σ
      | _ => none
    | .block id c => runK rp n rs c (.blk id :: ks) e σ
    | .scope c => runK rp n rs c (.sc :: ks) e σ
    | .loop c => runK rp n rs c (.lp c :: ks) e σ
    | .exit id =>
      match exitK id ks with
      | some ks => runK rp n rs .skip ks e σ
      | none => none
    | .ret => (resultsV rs e σ).map fun v => (v, σ)
    | .fg keep c => runK rp n rs c ks (fgt keep e) σ

/-- a function's body on arguments -/
def runF (rp : RProg) (n : Nat) : Caller := fun f args σ =>
  match rp f with
  | some rf => runK rp n rf.res rf.code [] (args0 0 args) σ
  | none => none

end Go.Proofs.YtnbglampelmgoaaGreat.Vpi
