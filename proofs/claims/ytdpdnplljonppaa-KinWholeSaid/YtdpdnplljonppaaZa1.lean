/- The verified interpreter, part 1: values, the small store, the resolved code, and the evaluator. Nothing here is about one program; The verified interpreter, part 2: how its values and its store stand for the model's values and memory; The verified interpreter, part 3: what a new block, a store, and a block that is given up do to the relation; The verified interpreter, part 4: the look that holds resolved code against the model's code; The verified interpreter, part 5: each operation of the model does what the evaluator says (reads and sums); The verified interpreter, part 6: the operations that only read and reckon; The verified interpreter, part 7: reads, places, lengths, slices; The verified interpreter, part 8: literals and new memory; The verified interpreter, part 9: blocks given up, stores, copies, appends; The verified interpreter, part 10: slice literals, stores, copies, appends; The verified interpreter, part 11: append and copy; The verified interpreter, part 11b: lists whose elements are blocks of their own. No condition. -/
import Derived.Orders
import Derived.Laws.Sem
import Derived.Laws.AppendOwn
import Derived.Laws.CopyRow
import Derived.Laws.MakeOwn
import Derived.Laws.Strings

namespace Go.Proofs.Ytdpdnplljonppaa.Vpi
open Go
set_option linter.unusedVariables false
set_option linter.unusedSimpArgs false
inductive PV where
  | int (k : IntKind) (n : Int)
  | bool (b : Bool)
  | str (s : ByteArray)
  | agg (cs : List PV)
  | sl (es : List PV)
  deriving Inhabited
inductive CV where
  | any
  | p (v : PV)
  | nils
  | own (b off n : Nat)
  | ptr (b i off : Nat)
  | rp (e : PV) (off : Nat)
  | agg (cs : List CV)
  | tup (vs : List CV)
  | fn (f : Nat) (cap : List CV)
  deriving Inhabited
inductive Blk where
  | dead
  | hole
  | prow (sz : Nat) (es : List PV)
  | kblk (sz : Nat) (cs : List CV)
  deriving Inhabited
abbrev Store := List Blk
abbrev Env := List (Nat × CV)
inductive Opd where
  | t (n : Nat)
  | c (v : CV)
inductive CK where
  | pu | fz | full | keep | cell | peek
inductive ROp where
  | mv (x : Opd)
  | pick (c a b : Opd)
  | alloc (zs : List CV)
  | box (x : Opd)
  | build (zs : List CV) (parts : List (Nat × Nat × Opd))
  | bslice (sz : Nat) (xs : List Opd)
  | bslk (xs : List Opd)
  | load (agg : Bool) (sz : Nat) (a : Opd)
  | store (sz : Nat) (a x : Opd)
  | nilc (x : Opd)
  | bin (op : BinOp) (x y : Opd)
  | beq (ne : Bool) (x y : Opd)
  | un (op : UnOp) (x : Opd)
  | conv (k : IntKind) (x : Opd)
  | mkfn (f : Nat) (cap : List Opd)
  | mks (deep : Bool) (sz bytes : Nat) (z : PV) (l c : Opd)
  | slice (sz : Nat) (x : Opd) (lo hi mx : Option Opd)
  | fieldA (off : Nat) (x : Opd)
  | field (agg : Bool) (off sz : Nat) (x : Opd)
  | indexA (sz : Nat) (x i : Opd)
  | extract (x : Opd) (i : Nat)
  | idx (tab : List Nat) (x : Opd)
  | len (x : Opd)
  | append (sz bytes : Nat) (s x : Opd)
  | appk (bytes : Nat) (s x : Opd)
  | appz (sz bytes : Nat) (z : PV) (s x : Opd)
  | copy (sz : Nat) (d s : Opd)
  | mx (x y : Opd)
  | mn (x y : Opd)
  | call (k : CK) (f : Nat) (args : List Opd)
  | callv (k : CK) (x : Opd) (args : List Opd)
  | madec (f : Nat) (args : List Opd)
structure LOp where
  d : Option Nat
  g : Option (Nat × Bool)
  sl : Option Nat
  op : ROp
inductive RCode where
  | skip
  | reg (ops : List LOp) (draw : Option (Nat × List (Nat × Nat)))
  | seq (a b : RCode)
  | cond (c : Opd) (a b : RCode)
  | block (id : Nat) (c : RCode)
  | scope (c : RCode)
  | loop (c : RCode)
  | exit (id : Nat)
  | ret
  | fg (keep : List Nat) (c : RCode)
  | rng (b : Bool) (ps : List Nat) (x : Opd) (asg body : RCode)
  | iter (c : RCode)
  | yld (y : Nat) (pre : List LOp) (d : Nat) (args : List Opd) (post : List LOp)
  | bret
  | bexit (id : Nat)
  | frzk (t : Nat) (c : RCode)
inductive KI where
  | code (c : RCode)
  | blk (id : Nat)
  | lp (c : RCode)
  | sc
  | fin
inductive RRes where
  | t (n : Nat)
  | cell (n : Nat) (agg : Bool) (sz : Nat)
structure RFun where
  code : RCode
  res : List RRes
abbrev RProg := Nat → Option RFun
/-! ### small words -/
def PV.cells : PV → List PV
  | .agg cs => cs
  | v => [v]
def gt : Env → Nat → CV
  | [], _ => .any
  | (k, v) :: l, n => if k = n then v else gt l n
def st (d : Nat) (v : CV) : Env → Env
  | [] => [(d, v)]
  | (k, u) :: l => if d < k then (d, v) :: (k, u) :: l else if k = d then (d, v) :: l else (k, u) :: st d v l
def sto (d : Option Nat) (v : CV) (e : Env) : Env :=
  match d with
  | some d => st d v e
  | none => e
def fgt (keep : List Nat) : Env → Env
  | [] => []
  | (k, v) :: l => if keep.elem k then (k, v) :: fgt keep l else fgt keep l
def vl (e : Env) : Opd → CV
  | .t n => gt e n
  | .c v => v
def i64 (n : Int) : CV := .p (.int .i64 n)
def allP : List CV → Option (List PV)
  | [] => some []
  | .p v :: l => (allP l).map (v :: ·)
  | _ :: _ => none
def mkAgg (cs : List CV) : CV :=
  match allP cs with
  | some ps => .p (.agg ps)
  | none => .agg cs
def CV.cells : CV → Option (List CV)
  | .p v => some (v.cells.map .p)
  | .agg cs => some cs
  | .any | .tup _ | .rp _ _ => none
  | v => some [v]
def frz1 (σ : Store) : CV → Option PV
  | .p v => some v
  | .nils => some (.sl [])
  | .own b off n =>
    match σ[b]? with
    | some (.prow _ es) => if off + n ≤ es.length then some (.sl ((es.drop off).take n)) else none
    | _ => none
  | _ => none
def frzL (σ : Store) : List CV → Option (List PV)
  | [] => some []
  | v :: l =>
    match frz1 σ v with
    | some x => (frzL σ l).map (x :: ·)
    | none => none
def frz (σ : Store) : CV → Option PV
  | .agg cs => (frzL σ cs).map .agg
  | v => frz1 σ v
def kill1 (σ : Store) : CV → Store
  | .own b _ _ => σ.set b .dead
  | _ => σ
def killL (σ : Store) (l : List CV) : Store := l.foldl kill1 σ
def kill (σ : Store) : CV → Store
  | .agg cs => killL σ cs
  | v => kill1 σ v
def content (σ : Store) : CV → Option (List PV)
  | .p (.sl es) => some es
  | .nils => some []
  | .own b off n =>
    match σ[b]? with
    | some (.prow _ es) => if off + n ≤ es.length then some ((es.drop off).take n) else none
    | _ => none
  | _ => none
def contentK (σ : Store) : CV → Option (List CV)
  | .nils => some []
  | .own b off n =>
    match σ[b]? with
    | some (.kblk 1 cs) => if off + n ≤ cs.length then some ((cs.drop off).take n) else none
    | _ => none
  | _ => none
def cellL : List CV → Option (List CV)
  | [] => some []
  | v :: l =>
    match v.cells with
    | some [c] => (cellL l).map (c :: ·)
    | _ => none
def subPV (agg : Bool) (sz : Nat) (e : PV) (off : Nat) : Option PV :=
  match agg with
  | true =>
    match e with
    | .agg cs => if off + sz ≤ cs.length then some (.agg ((cs.drop off).take sz)) else none
    | _ => none
  | false => e.cells[off]?
def subCV (agg : Bool) (sz : Nat) (cs : List CV) (off : Nat) : Option CV :=
  match agg with
  | true => if off + sz ≤ cs.length then some (mkAgg ((cs.drop off).take sz)) else none
  | false => cs[off]?
def setCells {α : Type} (cs : List α) (off : Nat) (xs : List α) : List α := cs.take off ++ xs ++ cs.drop (off + xs.length)
def updPV (e : PV) (off sz : Nat) (x : PV) : Option PV :=
  match e with
  | .agg cs => if x.cells.length = sz ∧ off + sz ≤ cs.length then some (.agg (setCells cs off x.cells)) else none
  | .sl _ | .int _ _ | .bool _ | .str _ => if off = 0 ∧ sz = 1 then (match x with | .agg _ => none | x => some x) else none
def binV (op : BinOp) (x y : PV) : Option PV :=
  match op, x, y with
  | .shl, .int k a, .int _ b => if b < 0 then none else some (.int k (k.wrap (a * 2 ^ min b.toNat k.bits)))
  | .shr, .int k a, .int _ b => if b < 0 then none else some (.int k (a.fdiv (2 ^ min b.toNat k.bits)))
  | .add, .int k a, .int k' b => if k = k' then some (.int k (k.wrap (a + b))) else none
  | .sub, .int k a, .int k' b => if k = k' then some (.int k (k.wrap (a - b))) else none
  | .mul, .int k a, .int k' b => if k = k' then some (.int k (k.wrap (a * b))) else none
  | .quo, .int k a, .int k' b => if k = k' then (if b = 0 then none else some (.int k (k.wrap (a.tdiv b)))) else none
  | .rem, .int k a, .int k' b => if k = k' then (if b = 0 then none else some (.int k (a.tmod b))) else none
  | .and, .int k a, .int k' b => if k = k' then some (.int k (k.wrap (BitVec.ofInt k.bits a &&& BitVec.ofInt k.bits b).toNat)) else none
  | .or, .int k a, .int k' b => if k = k' then some (.int k (k.wrap (BitVec.ofInt k.bits a ||| BitVec.ofInt k.bits b).toNat)) else none
  | .xor, .int k a, .int k' b => if k = k' then some (.int k (k.wrap (BitVec.ofInt k.bits a ^^^ BitVec.ofInt k.bits b).toNat)) else none
  | .eql, .int k a, .int k' b => if k = k' then some (.bool (a == b)) else none
  | .neq, .int k a, .int k' b => if k = k' then some (.bool (a != b)) else none
  | .lss, .int k a, .int k' b => if k = k' then some (.bool (decide (a < b))) else none
  | .leq, .int k a, .int k' b => if k = k' then some (.bool (decide (a ≤ b))) else none
  | .gtr, .int k a, .int k' b => if k = k' then some (.bool (decide (a > b))) else none
  | .geq, .int k a, .int k' b => if k = k' then some (.bool (decide (a ≥ b))) else none
  | _, _, _ => none
def unV (op : UnOp) (x : PV) : Option PV :=
  match op, x with
  | .neg, .int k n => some (.int k (k.wrap (0 - n)))
  | .not, .bool b => some (.bool !b)
  | _, _ => none
def CV.num : CV → Option Int
  | .p (.int _ n) => some n
  | _ => none
def push (base : Nat) (sl : Option Nat) (σ : Store) (b : Blk) : Option (Nat × Store) :=
  match sl with
  | none => some (σ.length, σ ++ [b])
  | some j =>
    match σ[base + j]? with
    | some .hole => some (base + j, σ.set (base + j) b)
    | _ => none
def bsz (σ : Store) (b : Nat) : Option Nat :=
  match σ[b]? with
  | some (.prow s _) => some s
  | some (.kblk s _) => some s
  | _ => none
def allSz (sz : Nat) (es : List PV) : Bool := es.all fun e => e.cells.length == sz
def sliceV (σ : Store) (sz : Nat) (x : CV) (l h : Nat) : Option CV :=
  if l ≤ h then
    match x with
    | .p (.sl es) => if h ≤ es.length ∧ (l = 0 ∨ allSz sz es = true) then some (.p (.sl ((es.drop l).take (h - l)))) else none
    | .own b off n => if h ≤ n ∧ bsz σ b = some sz then some (.own b (off + l) (h - l)) else none
    | .nils => if h = 0 then some .nils else none
    | _ => none
  else none
def lenV : CV → Option Nat
  | .p (.sl es) => some es.length
  | .own _ _ n => some n
  | .nils => some 0
  | _ => none
def bnd (e : Env) (x : Option Opd) (d : Nat) : Option Nat :=
  match x with
  | none => some d
  | some x =>
    match (vl e x).num with
    | some n => if 0 ≤ n then some n.toNat else none
    | none => none
def fill (zs : List CV) (e : Env) : List (Nat × Nat × Opd) → Option (List CV)
  | [] => some zs
  | (off, sz, x) :: l =>
    match (vl e x).cells with
    | some cs => if cs.length = sz ∧ off + sz ≤ zs.length then fill (setCells zs off cs) e l else none
    | none => none
def isPure1 : CV → Option PV
  | .p v => some v
  | .nils => some (.sl [])
  | _ => none
def pureL : List CV → Option (List PV)
  | [] => some []
  | v :: l =>
    match isPure1 v with
    | some x => (pureL l).map (x :: ·)
    | none => none
def toP : CV → Option PV
  | .agg cs => (pureL cs).map .agg
  | v => isPure1 v
def toPs : List CV → Option (List PV)
  | [] => some []
  | v :: l =>
    match toP v with
    | some x => (toPs l).map (x :: ·)
    | none => none
def frzs (σ : Store) : List CV → Option (List PV)
  | [] => some []
  | v :: l =>
    match frz σ v with
    | some x => (frzs σ l).map (x :: ·)
    | none => none
def kills (σ : Store) (l : List CV) : Store := l.foldl kill σ
def back1 (base : Nat) (σ : Store) (v : CV) : Option CV :=
  match v with
  | .any => some .any
  | .own b off n => if b < base then some (.own b off n) else (frz1 σ v).map .p
  | .ptr b i off => if b < base then some (.ptr b i off) else none
  | .agg cs => if (cs.all fun | .own b _ _ => base ≤ b | _ => true) = true then (frz σ (.agg cs)).map .p else none
  | v => (frz σ v).map .p
def backL (base : Nat) (σ : Store) : List CV → Option (List CV)
  | [] => some []
  | v :: l =>
    match back1 base σ v with
    | some x => (backL base σ l).map (x :: ·)
    | none => none
def back (base : Nat) (σ : Store) : CV → Option CV
  | .tup vs => (backL base σ vs).map .tup
  | v => back1 base σ v
def below1 (base : Nat) : CV → Bool
  | .own b _ _ => b < base
  | .ptr b _ _ => b < base
  | .p _ | .nils | .any => true
  | .fn _ cap => cap.all fun | .own b _ _ => b < base | .ptr b _ _ => b < base | .p _ | .nils | .any => true | _ => false
  | _ => false
def blkBelow (base : Nat) : Blk → Bool
  | .kblk _ cs => cs.all (below1 base)
  | _ => true
def addrs : CV → List Nat
  | .ptr b _ _ => [b]
  | _ => []
def cellArg (b : Nat) : CV → Option CV
  | .p v => some (.p v)
  | .ptr b' i o => if b' = b then some (.ptr 0 i o) else none
  | _ => none
def cellArgs (b : Nat) : List CV → Option (List CV)
  | [] => some []
  | v :: l =>
    match cellArg b v with
    | some x => (cellArgs b l).map (x :: ·)
    | none => none
def scal : Option CV → Option CV
  | some (.p (.int k n)) => some (.p (.int k n))
  | some (.p (.bool b)) => some (.p (.bool b))
  | _ => none
abbrev Caller := Nat → List CV → Store → Option (CV × Store)
def doCall (run : Caller) (k : CK) (f : Nat) (args : List CV) (σ : Store) : Option (CV × Store) :=
  match k with
  | .pu =>
    match toPs args with
    | some ps =>
      match run f (ps.map .p) [] with
      | some (r, τ) => (back 0 τ r).map fun r => (r, σ)
      | none => none
    | none => none
  | .fz =>
    match frzs σ args with
    | some ps =>
      match run f (ps.map .p) [] with
      | some (r, τ) => (back 0 τ r).map fun r => (r, kills σ args)
      | none => none
    | none => none
  | .full =>
    match run f args σ with
    | some (r, τ) => if (τ.take σ.length).all (blkBelow σ.length) = true then (back σ.length τ r).map fun r => (r, τ.take σ.length) else none
    | none => none
  | .keep => run f args σ
  | .peek =>
    match frzs σ args with
    | some ps =>
      match run f (ps.map .p) [] with
      | some (r, τ) => (scal (back 0 τ r)).map fun r => (r, σ)
      | none => none
    | none => none
  | .cell =>
    match args.flatMap addrs with
    | [] =>
      match toPs args with
      | some ps =>
        match run f (ps.map .p) [] with
        | some (r, τ) => (back 0 τ r).map fun r => (r, σ)
        | none => none
      | none => none
    | [b] =>
      match σ[b]? with
      | some (.kblk s cs) =>
        match cellArgs b args, allP cs with
        | some as, some _ =>
          match run f as [.kblk s cs] with
          | some (.p v, τ) =>
            match τ[(0 : Nat)]? with
            | some (.kblk s' cs') => if s' = s ∧ (allP cs').isSome = true then some (.p v, σ.set b (.kblk s' cs')) else none
            | _ => none
          | _ => none
        | _, _ => none
      | _ => none
    | _ => none
def ev (base : Nat) (sl : Option Nat) (op : ROp) (e : Env) (σ : Store) : Option (CV × Store) :=
  match op with
  | .mv x => some (vl e x, σ)
  | .pick c a b =>
    match vl e c with
    | .p (.bool t) => some (if t = true then vl e a else vl e b, σ)
    | _ => none
  | .alloc zs => (push base sl σ (.kblk zs.length zs)).map fun (b, σ) => (.ptr b 0 0, σ)
  | .box x =>
    match (vl e x).cells with
    | some cs => (push base sl σ (.kblk cs.length cs)).map fun (b, σ) => (.ptr b 0 0, σ)
    | none => none
  | .build zs parts => (fill zs e parts).map fun cs => (mkAgg cs, σ)
  | .bslice sz xs =>
    match frzs σ (xs.map (vl e)) with
    | some ps =>
      if allSz sz ps = true then (push base sl (kills σ (xs.map (vl e))) (.prow sz ps)).map fun (b, σ) => (.own b 0 ps.length, σ) else none
    | none => none
  | .bslk xs =>
    match cellL (xs.map (vl e)) with
    | some cs => (push base sl σ (.kblk 1 cs)).map fun (b, σ) => (.own b 0 cs.length, σ)
    | none => none
  | .appk bytes s x =>
    match contentK σ (vl e s), contentK σ (vl e x) with
    | some a, some b =>
      if (a.length + b.length) * bytes ≤ 140737488355328 ∧ 0 < b.length then
        match vl e s with
        | .nils => (push base sl σ (.kblk 1 (a ++ b))).map fun (k, σ) => (.own k 0 (a.length + b.length), σ)
        | .own k' _ _ => (push base sl (σ.set k' .dead) (.kblk 1 (a ++ b))).map fun (k, σ) => (.own k 0 (a.length + b.length), σ)
        | _ => none
      else none
    | _, _ => none
  | .load agg sz a =>
    match vl e a with
    | .ptr b i off =>
      match σ[b]? with
      | some (.prow _ es) =>
        match es[i]? with
        | some x => (subPV agg sz x off).map fun v => (.p v, σ)
        | none => none
      | some (.kblk s cs) => (subCV agg sz cs (i * s + off)).map fun v => (v, σ)
      | _ => none
    | .rp x off => (subPV agg sz x off).map fun v => (.p v, σ)
    | _ => none
  | .store sz a x =>
    match vl e a with
    | .ptr b i off =>
      match σ[b]? with
      | some (.prow _ _) =>
        match frz σ (vl e x) with
        | some v =>
          match (kill σ (vl e x))[b]? with
          | some (.prow s es) =>
            match es[i]? with
            | some u => (updPV u off sz v).map fun u => (.any, (kill σ (vl e x)).set b (.prow s (es.set i u)))
            | none => none
          | _ => none
        | none => none
      | some (.kblk s cs) =>
        match (vl e x).cells with
        | some xs => if xs.length = sz ∧ i * s + off + sz ≤ cs.length then some (.any, σ.set b (.kblk s (setCells cs (i * s + off) xs))) else none
        | none => none
      | _ => none
    | _ => none
  | .nilc x =>
    match vl e x with
    | .fn f cap => some (.fn f cap, σ)
    | .ptr b i off => some (.ptr b i off, σ)
    | .rp v off => some (.rp v off, σ)
    | _ => none
  | .bin op x y =>
    match vl e x, vl e y with
    | .p a, .p b => (binV op a b).map fun v => (.p v, σ)
    | _, _ => none
  | .beq ne x y =>
    match vl e x, vl e y with
    | .p (.bool a), .p (.bool b) => some (.p (.bool (if ne = true then !(a == b) else a == b)), σ)
    | _, _ => none
  | .un op x =>
    match vl e x with
    | .p a => (unV op a).map fun v => (.p v, σ)
    | _ => none
  | .conv k x =>
    match (vl e x).num with
    | some n => some (.p (.int k (k.wrap n)), σ)
    | none => none
  | .mkfn f cap => some (.fn f (cap.map (vl e)), σ)
  | .mks deep sz bytes z l c =>
    match (vl e l).num, (vl e c).num with
    | some l, some c =>
      if 0 ≤ l ∧ l ≤ c ∧ (bytes : Int) * c ≤ 281474976710656 ∧ c ≤ 9223372036854775807 ∧ z.cells.length = sz then
        match deep with
        | false => (push base sl σ (.prow sz (List.replicate l.toNat z))).map fun (b, σ) => (.own b 0 l.toNat, σ)
        | true => if sz = 1 then (push base sl σ (.kblk sz (List.replicate l.toNat .nils))).map fun (b, σ) => (.own b 0 l.toNat, σ) else none
      else none
    | _, _ => none
  | .slice sz x lo hi mx =>
    match lenV (vl e x) with
    | some n =>
      match bnd e lo 0, bnd e hi n with
      | some l, some h =>
        match mx with
        | none => (sliceV σ sz (vl e x) l h).map fun v => (v, σ)
        | some m =>
          match (vl e m).num with
          | some m => if 0 ≤ m ∧ h ≤ m.toNat ∧ m.toNat ≤ n then (sliceV σ sz (vl e x) l h).map fun v => (v, σ) else none
          | none => none
      | _, _ => none
    | none => none
  | .fieldA off x =>
    match vl e x with
    | .ptr b i o => some (.ptr b i (o + off), σ)
    | .rp v o => some (.rp v (o + off), σ)
    | _ => none
  | .field agg off sz x =>
    match vl e x with
    | .p (.agg cs) => (subPV agg sz (.agg cs) off).map fun v => (.p v, σ)
    | .agg cs => (subCV agg sz cs off).map fun v => (v, σ)
    | _ => none
  | .indexA sz x i =>
    match (vl e i).num with
    | some i =>
      if 0 ≤ i then
        match vl e x with
        | .p (.sl es) =>
          match es[i.toNat]? with
          | some v => if v.cells.length = sz then some (.rp v 0, σ) else none
          | none => none
        | .own b off n => if i.toNat < n ∧ bsz σ b = some sz then some (.ptr b (off + i.toNat) 0, σ) else none
        | _ => none
      else none
    | none => none
  | .extract x i =>
    match vl e x with
    | .tup vs => (vs[i]?).map fun v => (v, σ)
    | _ => none
  | .idx tab x =>
    match (vl e x).num with
    | some i =>
      if 0 ≤ i then
        match tab[i.toNat]? with
        | some v => some (.p (.int .u8 v), σ)
        | none => none
      else none
    | none => none
  | .len x => (lenV (vl e x)).map fun (n : Nat) => (i64 (n : Int), σ)
  | .append sz bytes s x =>
    match content σ (vl e s), content σ (vl e x) with
    | some a, some b =>
      if (a.length + b.length) * bytes ≤ 140737488355328 ∧ allSz sz b = true then
        match vl e s with
        | .nils => (push base sl σ (.prow sz (a ++ b))).map fun (k, σ) => (.own k 0 (a.length + b.length), σ)
        | .own k' _ _ =>
          match σ[k']? with
          | some (.prow sz' _) => if sz' = sz then (push base sl (σ.set k' .dead) (.prow sz (a ++ b))).map fun (k, σ) => (.own k 0 (a.length + b.length), σ) else none
          | _ => none
        | _ => none
      else none
    | _, _ => none
  | .appz sz bytes z s x =>
    match content σ (vl e s), (vl e x).num with
    | some a, some m =>
      if 0 ≤ m ∧ m ≤ 9223372036854775807 ∧ (a.length + m.toNat) * bytes ≤ 140737488355328 ∧ z.cells.length = sz then
        match vl e s with
        | .nils => (push base sl σ (.prow sz (a ++ List.replicate m.toNat z))).map fun (k, σ) => (.own k 0 (a.length + m.toNat), σ)
        | .own k' _ _ =>
          match σ[k']? with
          | some (.prow sz' _) => if sz' = sz then (push base sl (σ.set k' .dead) (.prow sz (a ++ List.replicate m.toNat z))).map fun (k, σ) => (.own k 0 (a.length + m.toNat), σ) else none
          | _ => none
        | _ => none
      else none
    | _, _ => none
  | .copy sz d s =>
    match vl e d, content σ (vl e s) with
    | .own b off n, some xs =>
      match σ[b]? with
      | some (.prow s es) =>
        if off + n ≤ es.length ∧ s = sz ∧ allSz sz xs = true then some (i64 (min xs.length n : Nat), σ.set b (.prow s (setCells es off (xs.take n)))) else none
      | _ => none
    | .nils, some _ => some (i64 0, σ)
    | _, _ => none
  | .mx x y =>
    match vl e x, vl e y with
    | .p (.int k a), .p (.int _ b) => some (.p (.int k (if b > a then b else a)), σ)
    | _, _ => none
  | .mn x y =>
    match vl e x, vl e y with
    | .p (.int k a), .p (.int _ b) => some (.p (.int k (if b < a then b else a)), σ)
    | _, _ => none
  | .call .. | .callv .. | .madec .. => none
def madeV (run : Caller) (f : Nat) (args : List CV) : Option (Nat × List PV) :=
  match toPs args with
  | some ps =>
    match run f (ps.map .p) [] with
    | some (.own b 0 n, τ) =>
      match τ[b]? with
      | some (.prow s es) => if n = es.length then some (s, es) else none
      | _ => none
    | _ => none
  | none => none
def ev1 (run : Caller) (base : Nat) (sl : Option Nat) (op : ROp) (e : Env) (σ : Store) : Option (CV × Store) :=
  match op with
  | .madec f args =>
    match madeV run f (args.map (vl e)) with
    | some x => (push base sl σ (.prow x.1 x.2)).map fun (k, σ) => (.own k 0 x.2.length, σ)
    | none => none
  | .call k f args => doCall run k f (args.map (vl e)) σ
  | .callv k x args =>
    match vl e x with
    | .fn f cap => doCall run k f (args.map (vl e) ++ cap) σ
    | _ => none
  | op => ev base sl op e σ
def evL (run : Caller) (base : Nat) (o : LOp) (e : Env) (σ : Store) : Option (Env × Store) :=
  match o.g with
  | none => (ev1 run base o.sl o.op e σ).map fun (v, σ) => (sto o.d v e, σ)
  | some (t, want) =>
    match gt e t with
    | .p (.bool b) => if b = want then (ev1 run base o.sl o.op e σ).map fun (v, σ) => (sto o.d v e, σ) else some (sto o.d (.tup []) e, σ)
    | .tup [] => some (sto o.d (.tup []) e, σ)
    | _ => none
def runO (run : Caller) (base : Nat) : List LOp → Env → Store → Option (Env × Store)
  | [], e, σ => some (e, σ)
  | o :: l, e, σ =>
    match evL run base o e σ with
    | some (e, σ) => runO run base l e σ
    | none => none
def resV (e : Env) (σ : Store) : RRes → Option CV
  | .t n => some (gt e n)
  | .cell n agg sz =>
    match gt e n with
    | .ptr b i off =>
      match σ[b]? with
      | some (.kblk s cs) => subCV agg sz cs (i * s + off)
      | _ => none
    | _ => none
def resL (e : Env) (σ : Store) : List RRes → Option (List CV)
  | [] => some []
  | r :: l =>
    match resV e σ r with
    | some v => (resL e σ l).map (v :: ·)
    | none => none
def resultsV (rs : List RRes) (e : Env) (σ : Store) : Option CV :=
  match resL e σ rs with
  | some [v] => some v
  | some vs => some (.tup vs)
  | none => none
def exitK (id : Nat) : List KI → Option (List KI)
  | .blk id' :: k => if id' = id then some k else exitK id k
  | _ :: k => exitK id k
  | [] => none
def args0 : Nat → List CV → Env
  | _, [] => []
  | k, v :: l => (k, v) :: args0 (k + 1) l
/-! ### the blocks that an operation touches -/
def own0 : CV → List Nat
  | .own b _ _ => [b]
  | _ => []
def ownsOf : CV → List Nat
  | .agg cs => cs.flatMap own0
  | c => own0 c
structure Foot where
  rd : List Nat
  sz : List Nat
  wr : List Nat
  kl : List Nat
def capOf : CV → List CV
  | .fn _ cap => cap
  | _ => []
def foot (e : Env) : ROp → Foot
  | .load _ _ a => ⟨addrs (vl e a), [], [], []⟩
  | .store _ a x => ⟨addrs (vl e a) ++ ownsOf (vl e x), [], addrs (vl e a) ++ ownsOf (vl e x), ownsOf (vl e x)⟩
  | .bslice _ xs => ⟨(xs.map (vl e)).flatMap ownsOf, [], (xs.map (vl e)).flatMap ownsOf, (xs.map (vl e)).flatMap ownsOf⟩
  | .append _ _ s x => ⟨ownsOf (vl e s) ++ ownsOf (vl e x), [], ownsOf (vl e s), ownsOf (vl e s)⟩
  | .appz _ _ _ s _ => ⟨ownsOf (vl e s), [], ownsOf (vl e s), ownsOf (vl e s)⟩
  | .appk _ s x => ⟨ownsOf (vl e s) ++ ownsOf (vl e x), [], ownsOf (vl e s), ownsOf (vl e s)⟩
  | .copy _ d s => ⟨ownsOf (vl e d) ++ ownsOf (vl e s), [], ownsOf (vl e d), []⟩
  | .slice _ x _ _ _ => ⟨[], ownsOf (vl e x), [], []⟩
  | .indexA _ x _ => ⟨[], ownsOf (vl e x), [], []⟩
  | .call .cell _ args => ⟨(args.map (vl e)).flatMap addrs, [], (args.map (vl e)).flatMap addrs, []⟩
  | .call .peek _ args => ⟨(args.map (vl e)).flatMap ownsOf, [], [], []⟩
  | .call .fz _ args => ⟨(args.map (vl e)).flatMap ownsOf, [], (args.map (vl e)).flatMap ownsOf, (args.map (vl e)).flatMap ownsOf⟩
  | .callv .fz x args => ⟨(args.map (vl e) ++ capOf (vl e x)).flatMap ownsOf, [], (args.map (vl e) ++ capOf (vl e x)).flatMap ownsOf, (args.map (vl e) ++ capOf (vl e x)).flatMap ownsOf⟩
  | _ => ⟨[], [], [], []⟩
def apartB (F H : Foot) : Bool :=
  F.rd.all (fun b => !H.wr.elem b) && F.sz.all (fun b => !H.kl.elem b) && H.rd.all (fun b => !F.wr.elem b) && H.sz.all (fun b => !F.kl.elem b) && F.wr.all (fun b => !H.wr.elem b)
def apartAt (e : Env) (ops : List LOp) (ij : Nat × Nat) : Bool :=
  match ops[ij.1]?, ops[ij.2]? with
  | some x, some y => apartB (foot e x.op) (foot e y.op)
  | _, _ => false
def isSl : PV → Bool
  | .sl _ => true
  | _ => false
/-! ### ranges over functions -/
def isT : CV → Bool
  | .p (.bool b) => b
  | _ => false
def stL : List Nat → List CV → Env → Env
  | p :: ps, v :: vs, e => stL ps vs (st p v e)
  | _, _, e => e
def runA (call : Caller) : RCode → Env → Store → Option (Env × Store)
  | .skip, e, σ => some (e, σ)
  | .reg ops none, e, σ => runO call σ.length ops e σ
  | .seq a b, e, σ =>
    match runA call a e σ with
    | some (e, σ) => runA call b e σ
    | none => none
  | _, _, _ => none
def runI (call : Caller) (Y : List CV → Store → Option (CV × Store)) : Nat → Option CV → RCode → List KI → Env → Store → Option (Option CV × Store)
  | 0, _, _, _, _, _ => none
  | n + 1, pd, c, ks, e, σ =>
    match c with
    | .skip =>
      match ks with
      | [] => some (pd, σ)
      | .code c :: ks => runI call Y n pd c ks e σ
      | .blk _ :: ks => runI call Y n pd .skip ks e σ
      | .sc :: ks => runI call Y n pd .skip ks e σ
      | .lp c :: ks => runI call Y n pd c (.lp c :: ks) e σ
      | .fin :: _ => none
    | .reg ops none =>
      match runO call σ.length ops e σ with
      | some (e, σ) => runI call Y n pd .skip ks e σ
      | none => none
    | .yld y pre d args post =>
      match pd with
      | some _ => none
      | none =>
        match runO call σ.length pre (st y .any e) σ with
        | none => none
        | some (e, σ) =>
          match Y (args.map (vl e)) σ with
          | none => none
          | some (out, σ) =>
            match runO call σ.length post (st d (.p (.bool (isT out))) e) σ with
            | none => none
            | some (e, σ) => runI call Y n (if isT out = true then none else some out) .skip ks e σ
    | .seq a b => runI call Y n pd a (.code b :: ks) e σ
    | .cond c a b =>
      match vl e c with
      | .p (.bool t) => if t = true then runI call Y n pd a ks e σ else runI call Y n pd b ks e σ
      | _ => none
    | .block id c => runI call Y n pd c (.blk id :: ks) e σ
    | .scope c => runI call Y n pd c (.sc :: ks) e σ
    | .loop c => runI call Y n pd c (.lp c :: ks) e σ
    | .exit id =>
      match exitK id ks with
      | some ks => runI call Y n pd .skip ks e σ
      | none => none
    | .ret => some (pd, σ)
    | .fg keep c => runI call Y n pd c ks (fgt keep e) σ
    | _ => none
def runK (rp : RProg) : Nat → List RRes → RCode → List KI → Env → Store → Option (CV × Store)
  | 0, _, _, _, _, _ => none
  | n + 1, rs, c, ks, e, σ =>
    match c with
    | .skip =>
      match ks with
      | [] => (resultsV rs e σ).map fun v => (v, σ)
      | .code c :: ks => runK rp n rs c ks e σ
      | .blk _ :: ks => runK rp n rs .skip ks e σ
      | .sc :: ks => runK rp n rs .skip ks e σ
      | .lp c :: ks => runK rp n rs c (.lp c :: ks) e σ
      | .fin :: _ => some (.p (.bool true), σ)
    | .reg ops none =>
      match runO (fun f args σ => match rp f with | some rf => runK rp n rf.res rf.code [] (args0 0 args) σ | none => none) σ.length ops e σ with
      | some (e, σ) => runK rp n rs .skip ks e σ
      | none => none
    | .reg ops (some (h, xp)) =>
      match runO (fun f args σ => match rp f with | some rf => runK rp n rf.res rf.code [] (args0 0 args) σ | none => none) σ.length ops e (σ ++ List.replicate h .hole) with
      | some (e, σ) => if xp.all (apartAt e ops) then runK rp n rs .skip ks e σ else none
      | none => none
    | .seq a b => runK rp n rs a (.code b :: ks) e σ
    | .cond c a b =>
      match vl e c with
      | .p (.bool t) => if t = true then runK rp n rs a ks e σ else runK rp n rs b ks e σ
      | _ => none
    | .block id c => runK rp n rs c (.blk id :: ks) e σ
    | .scope c => runK rp n rs c (.sc :: ks) e σ
    | .loop c => runK rp n rs c (.lp c :: ks) e σ
    | .exit id =>
      match exitK id ks with
      | some ks => runK rp n rs .skip ks e σ
      | none => none
    | .ret => (resultsV rs e σ).map fun v => (v, σ)
    | .fg keep c => runK rp n rs c ks (fgt keep e) σ
    | .bret => some (.p (.bool false), σ)
    | .bexit id =>
      match exitK id ks with
      | some _ => none
      | none => some (.p (.int .i64 id), σ)
    | .rng b ps x asg body =>
      match vl e x with
      | .fn f cap =>
        match rp f with
        | some ⟨.iter c, []⟩ =>
          match runI (fun f args σ => match rp f with | some rf => runK rp n rf.res rf.code [] (args0 0 args) σ | none => none) (fun args σ => if args.length = ps.length then (match runA (fun f args σ => match rp f with | some rf => runK rp n rf.res rf.code [] (args0 0 args) σ | none => none) asg (stL ps args e) σ with | some (e, σ) => runK rp n [] body [.fin] e σ | none => none) else none) n none c [] (args0 0 (.any :: cap)) σ with
          | some (none, σ) => runK rp n rs .skip ks e σ
          | some (some (.p (.bool _)), σ) => runK rp n rs (if b = true then .bret else .ret) ks e σ
          | some (some (.p (.int _ z)), σ) =>
            match exitK z.toNat ks with
            | some _ => runK rp n rs (.exit z.toNat) ks e σ
            | none => if b = true then runK rp n rs (.bexit z.toNat) ks e σ else none
          | _ => none
        | _ => none
      | _ => none
    | .iter _ => none
    | .yld _ _ _ _ _ => none
    | .frzk t c =>
      match gt e t with
      | .own b _ _ =>
        match σ[b]? with
        | some (.kblk s cs) =>
          match frzL σ cs with
          | some ps => if s = 1 ∧ ps.all isSl = true ∧ (cs.flatMap own0).elem b = false then runK rp n rs c ks e ((killL σ cs).set b (.prow 1 ps)) else none
          | none => none
        | _ => runK rp n rs c ks e σ
      | _ => runK rp n rs c ks e σ
def runF (rp : RProg) (n : Nat) : Caller := fun f args σ =>
  match rp f with
  | some rf => runK rp n rf.res rf.code [] (args0 0 args) σ
  | none => none
abbrev lq (d : Nat) (op : ROp) : LOp := ⟨some d, none, none, op⟩
end Go.Proofs.Ytdpdnplljonppaa.Vpi

namespace Go.Proofs.Ytdpdnplljonppaa.Vpi
open Go
set_option linter.unusedVariables false
set_option linter.unusedSimpArgs false
inductive Loc where
  | lv (blk off tot sz : Nat)
  | det
  | dead
  | hole
inductive RepP (w : World) (G : Nat → Prop) : PV → Value → Prop
  | int (k : IntKind) (n : Int) : RepP w G (.int k n) (.int k n)
  | bool (b : Bool) : RepP w G (.bool b) (.bool b)
  | str (s : ByteArray) : RepP w G (.str s) (.string s)
  | agg (cs : List PV) (vs : List Value) (hl : cs.length = vs.length) (hk : ∀ (k : Nat) c v, cs[k]? = some c → vs[k]? = some v → RepP w G c v) (h1 : ∀ v ∈ vs, v.oneCell' = true) : RepP w G (.agg cs) (.agg vs.toArray)
  | nil (a : Option Addr) (cap : Nat) : RepP w G (.sl []) (.slice a 0 cap)
  | sl (es : List PV) (blk off : Nat) (arr : Array Value) (el : TypeId) (fr : Nat × Nat) (cap sz : Nat) (hg : G blk) (hb : w.heap[blk]? = some (.cells arr el fr))
      (hc : es.length ≤ cap) (hs : off + es.length * sz ≤ arr.size) (he : ∀ (i : Nat) e, es[i]? = some e → e.cells.length = sz)
      (hk : ∀ (i : Nat) e (k : Nat) c u, es[i]? = some e → e.cells[k]? = some c → arr[off + i * sz + k]? = some u → RepP w G c u)
      (h1 : ∀ (i : Nat) e (k : Nat) u, es[i]? = some e → k < sz → arr[off + i * sz + k]? = some u → u.oneCell' = true) :
      RepP w G (.sl es) (.slice (some ⟨blk, off, none⟩) es.length cap)
theorem RepP.mono {w w' : World} {G G' : Nat → Prop} (hw : ∀ k, G k → w'.heap[k]? = w.heap[k]?) (hG : ∀ k, G k → G' k) {x : PV} {v : Value} (h : RepP w G x v) : RepP w' G' x v := by
  induction h with
  | int k n => exact .int k n
  | bool b => exact .bool b
  | str s => exact .str s
  | agg cs vs hl _ h1 ih => exact .agg cs vs hl ih h1
  | nil a cap => exact .nil a cap
  | sl es blk off arr el fr cap sz hg hb hc hs he _ h1 ih => exact .sl es blk off arr el fr cap sz (hG _ hg) ((hw _ hg).trans hb) hc hs he ih h1
def OwnOk (ρ : List Loc) (b off : Nat) (a : Option Addr) (cap : Nat) : Prop :=
  match ρ[b]? with
  | some (.lv blk o tot sz) => cap = 0 ∨ (a = some ⟨blk, o + off * sz, none⟩ ∧ o + (off + cap) * sz ≤ tot)
  | some .det => cap = 0
  | some .dead => True
  | _ => False
def PtrOk (ρ : List Loc) (b i off : Nat) (a : Addr) : Prop :=
  match ρ[b]? with
  | some (.lv blk o _ sz) => a = ⟨blk, o + i * sz + off, none⟩
  | some .det => True
  | some .dead => True
  | _ => False
inductive RepC (w : World) (G : Nat → Prop) (ρ : List Loc) : CV → Value → Prop
  | any (v : Value) : RepC w G ρ .any v
  | p (x : PV) (v : Value) (h : RepP w G x v) : RepC w G ρ (.p x) v
  | nils : RepC w G ρ .nils (.slice none 0 0)
  | own (b off n : Nat) (a : Option Addr) (cap : Nat) (hc : n ≤ cap) (h : OwnOk ρ b off a cap) : RepC w G ρ (.own b off n) (.slice a n cap)
  | ptr (b i off : Nat) (a : Addr) (h : PtrOk ρ b i off a) : RepC w G ρ (.ptr b i off) (.pointer (some a))
  | rp (e : PV) (off blk o : Nat) (arr : Array Value) (el : TypeId) (fr : Nat × Nat) (hg : G blk) (hb : w.heap[blk]? = some (.cells arr el fr)) (hs : o + e.cells.length ≤ arr.size)
      (hk : ∀ (k : Nat) c u, e.cells[k]? = some c → arr[o + k]? = some u → RepP w G c u ∧ u.oneCell' = true) : RepC w G ρ (.rp e off) (.pointer (some ⟨blk, o + off, none⟩))
  | agg (cs : List CV) (vs : List Value) (hl : cs.length = vs.length) (hk : ∀ (k : Nat) c v, cs[k]? = some c → vs[k]? = some v → RepC w G ρ c v) (h1 : ∀ v ∈ vs, v.oneCell' = true) : RepC w G ρ (.agg cs) (.agg vs.toArray)
  | tup (cs : List CV) (vs : List Value) (hl : cs.length = vs.length) (hk : ∀ (k : Nat) c v, cs[k]? = some c → vs[k]? = some v → RepC w G ρ c v) : RepC w G ρ (.tup cs) (.tuple vs.toArray)
  | fn (f : Nat) (cap : List CV) (vs : List Value) (hl : cap.length = vs.length) (hk : ∀ (k : Nat) c v, cap[k]? = some c → vs[k]? = some v → RepC w G ρ c v) : RepC w G ρ (.fn f cap) (.func (.func f) #[] vs.toArray)
def LocExt (ρ ρ' : List Loc) : Prop := ∀ (i : Nat) l, ρ[i]? = some l → ρ'[i]? = some l ∨ ρ'[i]? = some .dead ∨ l = .hole
theorem LocExt.refl (ρ : List Loc) : LocExt ρ ρ := fun _ _ h => .inl h
theorem LocExt.trans {ρ ρ₁ ρ₂ : List Loc} (h : LocExt ρ ρ₁) (h' : LocExt ρ₁ ρ₂) : LocExt ρ ρ₂ := by
  intro i l hl
  rcases h i l hl with h1 | h1 | h1
  · exact h' i l h1
  · rcases h' i _ h1 with h2 | h2 | h2
    · exact .inr (.inl h2)
    · exact .inr (.inl h2)
    · cases h2
  · exact .inr (.inr h1)
theorem OwnOk.mono {ρ ρ' : List Loc} (h : LocExt ρ ρ') {b off : Nat} {a : Option Addr} {cap : Nat} (ho : OwnOk ρ b off a cap) : OwnOk ρ' b off a cap := by
  unfold OwnOk at *
  cases hb : ρ[b]? with
  | none => rw [hb] at ho; exact ho.elim
  | some l =>
    rw [hb] at ho
    rcases h b l hb with h1 | h1 | h1
    · rw [h1]; exact ho
    · rw [h1]; trivial
    · subst h1; exact ho.elim
theorem PtrOk.mono {ρ ρ' : List Loc} (h : LocExt ρ ρ') {b i off : Nat} {a : Addr} (ho : PtrOk ρ b i off a) : PtrOk ρ' b i off a := by
  unfold PtrOk at *
  cases hb : ρ[b]? with
  | none => rw [hb] at ho; exact ho.elim
  | some l =>
    rw [hb] at ho
    rcases h b l hb with h1 | h1 | h1
    · rw [h1]; exact ho
    · rw [h1]; trivial
    · subst h1; exact ho.elim
theorem RepC.mono {w w' : World} {G G' : Nat → Prop} {ρ ρ' : List Loc} (hw : ∀ k, G k → w'.heap[k]? = w.heap[k]?) (hG : ∀ k, G k → G' k) (hρ : LocExt ρ ρ') {x : CV} {v : Value}
    (h : RepC w G ρ x v) : RepC w' G' ρ' x v := by
  induction h with
  | any v => exact .any v
  | p x v h => exact .p x v (h.mono hw hG)
  | nils => exact .nils
  | own b off n a cap hc h => exact .own b off n a cap hc (h.mono hρ)
  | ptr b i off a h => exact .ptr b i off a (h.mono hρ)
  | rp e off blk o arr el fr hg hb hs hk => exact .rp e off blk o arr el fr (hG _ hg) ((hw _ hg).trans hb) hs fun k c u h1 h2 => ⟨(hk k c u h1 h2).1.mono hw hG, (hk k c u h1 h2).2⟩
  | agg cs vs hl _ h1 ih => exact .agg cs vs hl ih h1
  | tup cs vs hl _ ih => exact .tup cs vs hl ih
  | fn f cap vs hl _ ih => exact .fn f cap vs hl ih
def BlkOk (w : World) (G : Nat → Prop) (ρ : List Loc) (l : Loc) (b : Blk) : Prop :=
  match b, l with
  | .dead, .dead => True
  | .hole, .hole => True
  | .prow sz es, .lv blk o tot sz' => sz = sz' ∧ ¬ G blk ∧ ∃ arr el, w.heap[blk]? = some (.cells arr el (0, 0)) ∧ arr.size = tot ∧ o + es.length * sz ≤ tot ∧
      (∀ (i : Nat) e, es[i]? = some e → e.cells.length = sz) ∧ (∀ (i : Nat) e (k : Nat) c u, es[i]? = some e → e.cells[k]? = some c → arr[o + i * sz + k]? = some u → RepP w G c u ∧ u.oneCell' = true)
  | .prow _ es, .det => es = []
  | .kblk sz cs, .lv blk o tot sz' => sz = sz' ∧ ¬ G blk ∧ ∃ arr el, w.heap[blk]? = some (.cells arr el (0, 0)) ∧ arr.size = tot ∧ o + cs.length ≤ tot ∧
      (∀ (k : Nat) c u, cs[k]? = some c → arr[o + k]? = some u → RepC w G ρ c u ∧ u.oneCell' = true)
  | _, _ => False
def Live (ρ : List Loc) (k : Nat) : Prop := ∃ (i o t s : Nat), ρ[i]? = some (.lv k o t s)
structure St (w : World) (G : Nat → Prop) (ρ : List Loc) (σ : Store) : Prop where
  g : ∀ k, G k → k < w.heap.size
  len : ρ.length = σ.length
  inj : ∀ (i j k o t s o' t' s' : Nat), ρ[i]? = some (.lv k o t s) → ρ[j]? = some (.lv k o' t' s') → i = j
  ok : ∀ (i : Nat) l b, ρ[i]? = some l → σ[i]? = some b → BlkOk w G ρ l b
def Same (w w' : World) : Prop := w'.os = w.os ∧ w'.tape = w.tape ∧ w'.output = w.output
theorem Same.trans {a b c : World} (h : Same a b) (k : Same b c) : Same a c := ⟨k.1.trans h.1, k.2.1.trans h.2.1, k.2.2.trans h.2.2⟩
structure Ext (w : World) (G : Nat → Prop) (ρ : List Loc) (w' : World) (G' : Nat → Prop) (ρ' : List Loc) : Prop where
  wld : Same w w'
  loc : LocExt ρ ρ'
  heap : w.heap.size ≤ w'.heap.size
  grow : ∀ k, G k → G' k
  only : ∀ k, G' k → G k ∨ w.heap.size ≤ k ∨ Live ρ k
  below : ∀ k, k < w.heap.size → ¬ Live ρ k → w'.heap[k]? = w.heap[k]?
  lives : ∀ k, Live ρ' k → Live ρ k ∨ w.heap.size ≤ k
theorem St.notG {w : World} {G : Nat → Prop} {ρ : List Loc} {σ : Store} (h : St w G ρ σ) {k : Nat} (hk : Live ρ k) : ¬ G k := by
  obtain ⟨i, o, t, s, hi⟩ := hk
  have hlt : i < ρ.length := by
    rcases Nat.lt_or_ge i ρ.length with h1 | h1
    · exact h1
    · simp [List.getElem?_eq_none h1] at hi
  have hs : σ[i]? = some σ[i]! := by
    have : i < σ.length := h.len ▸ hlt
    simp [this]
  have := h.ok i _ _ hi hs
  unfold BlkOk at this
  split at this
  · simp_all
  · simp_all
  · rename_i heq; cases heq; exact this.2.1
  · simp_all
  · rename_i heq; cases heq; exact this.2.1
  · exact this.elim
theorem St.live_lt {w : World} {G : Nat → Prop} {ρ : List Loc} {σ : Store} (h : St w G ρ σ) {k : Nat} (hk : Live ρ k) : k < w.heap.size := by
  obtain ⟨i, o, t, s, hi⟩ := hk
  have hlt : i < ρ.length := by
    rcases Nat.lt_or_ge i ρ.length with h1 | h1
    · exact h1
    · simp [List.getElem?_eq_none h1] at hi
  have hs : σ[i]? = some σ[i]! := by
    have : i < σ.length := h.len ▸ hlt
    simp [this]
  have := h.ok i _ _ hi hs
  have key : ∀ arr el, w.heap[k]? = some (.cells arr el (0, 0)) → k < w.heap.size := by
    intro arr el he
    rcases Nat.lt_or_ge k w.heap.size with h1 | h1
    · exact h1
    · simp [Array.getElem?_eq_none h1] at he
  unfold BlkOk at this
  split at this
  · simp_all
  · simp_all
  · rename_i heq; cases heq; obtain ⟨_, _, arr, el, hh, _⟩ := this; exact key _ _ hh
  · simp_all
  · rename_i heq; cases heq; obtain ⟨_, _, arr, el, hh, _⟩ := this; exact key _ _ hh
  · exact this.elim
theorem Ext.same {w w' : World} {G G' : Nat → Prop} {ρ ρ' : List Loc} {σ : Store} (h : Ext w G ρ w' G' ρ') (hs : St w G ρ σ) : ∀ k, G k → w'.heap[k]? = w.heap[k]? :=
  fun k hk => h.below k (hs.g k hk) fun hl => hs.notG hl hk
theorem Ext.refl {w : World} {G : Nat → Prop} {ρ : List Loc} : Ext w G ρ w G ρ :=
  ⟨⟨rfl, rfl, rfl⟩, LocExt.refl _, Nat.le_refl _, fun _ h => h, fun _ h => .inl h, fun _ _ _ => rfl, fun _ h => .inl h⟩
theorem Ext.trans {w w₁ w₂ : World} {G G₁ G₂ : Nat → Prop} {ρ ρ₁ ρ₂ : List Loc} (h : Ext w G ρ w₁ G₁ ρ₁) (h' : Ext w₁ G₁ ρ₁ w₂ G₂ ρ₂) : Ext w G ρ w₂ G₂ ρ₂ where
  wld := h.wld.trans h'.wld
  loc := h.loc.trans h'.loc
  heap := Nat.le_trans h.heap h'.heap
  grow := fun k hk => h'.grow k (h.grow k hk)
  only := by
    intro k hk
    rcases h'.only k hk with h1 | h1 | h1
    · exact h.only k h1
    · exact .inr (.inl (Nat.le_trans h.heap h1))
    · rcases h.lives k h1 with h2 | h2
      · exact .inr (.inr h2)
      · exact .inr (.inl h2)
  below := by
    intro k hk hn
    rw [h'.below k (Nat.lt_of_lt_of_le hk h.heap) fun hl => ?_, h.below k hk hn]
    rcases h.lives k hl with h2 | h2
    · exact hn h2
    · omega
  lives := by
    intro k hk
    rcases h'.lives k hk with h1 | h1
    · exact h.lives k h1
    · exact .inr (Nat.le_trans h.heap h1)
theorem RepC.ext {w w' : World} {G G' : Nat → Prop} {ρ ρ' : List Loc} {σ : Store} (h : Ext w G ρ w' G' ρ') (hs : St w G ρ σ) {x : CV} {v : Value} (hr : RepC w G ρ x v) : RepC w' G' ρ' x v :=
  hr.mono (h.same hs) h.grow h.loc
def RepE (w : World) (G : Nat → Prop) (ρ : List Loc) (e : Env) (ts : Array Value) : Prop := ∀ k, RepC w G ρ (gt e k) (ts.getD k undef)
theorem RepE.ext {w w' : World} {G G' : Nat → Prop} {ρ ρ' : List Loc} {σ : Store} (h : Ext w G ρ w' G' ρ') (hs : St w G ρ σ) {e : Env} {ts : Array Value} (hr : RepE w G ρ e ts) : RepE w' G' ρ' e ts :=
  fun k => (hr k).ext h hs
theorem gt_st (d k : Nat) (v : CV) : ∀ e : Env, gt (st d v e) k = if k = d then v else gt e k := by
  intro e
  induction e with
  | nil =>
    simp only [st, gt]
    by_cases h : k = d
    · rw [if_pos h, if_pos h.symm]
    · rw [if_neg h, if_neg fun x => h x.symm]
  | cons a l ih =>
    obtain ⟨j, u⟩ := a
    simp only [st]
    by_cases h1 : d < j
    · rw [if_pos h1]
      simp only [gt]
      by_cases h : k = d
      · rw [if_pos h, if_pos h.symm]
      · rw [if_neg h, if_neg fun x => h x.symm]
    · rw [if_neg h1]
      by_cases h2 : j = d
      · rw [if_pos h2]
        subst h2
        simp only [gt]
        by_cases h : k = j
        · rw [if_pos h, if_pos h.symm]
        · rw [if_neg h, if_neg fun x => h x.symm, if_neg fun x => h x.symm]
      · rw [if_neg h2]
        simp only [gt]
        by_cases h3 : j = k
        · rw [if_pos h3, if_pos h3, if_neg (by omega)]
        · rw [if_neg h3, if_neg h3, ih]
theorem gt_fgt (keep : List Nat) (k : Nat) : ∀ e : Env, gt (fgt keep e) k = gt e k ∨ gt (fgt keep e) k = .any := by
  intro e
  induction e with
  | nil => exact .inl rfl
  | cons a l ih =>
    obtain ⟨j, u⟩ := a
    simp only [fgt]
    by_cases h : keep.elem j = true
    · rw [if_pos h]
      simp only [gt]
      by_cases h2 : j = k
      · rw [if_pos h2, if_pos h2]; exact .inl rfl
      · rw [if_neg h2, if_neg h2]; exact ih
    · rw [if_neg h]
      by_cases h2 : j = k
      · subst h2
        right
        clear ih
        induction l with
        | nil => rfl
        | cons b l ih =>
          obtain ⟨i, x⟩ := b
          simp only [fgt]
          by_cases h3 : keep.elem i = true
          · rw [if_pos h3]
            simp only [gt]
            rw [if_neg (by rintro rfl; exact h h3)]
            exact ih
          · rw [if_neg h3]; exact ih
      · simp only [gt]; rw [if_neg h2]; exact ih
theorem RepE.fgt {w : World} {G : Nat → Prop} {ρ : List Loc} {e : Env} {ts : Array Value} (h : RepE w G ρ e ts) (keep : List Nat) : RepE w G ρ (fgt keep e) ts := by
  intro k
  rcases gt_fgt keep k e with h1 | h1
  · rw [h1]; exact h k
  · rw [h1]; exact .any _
theorem RepE.sto {w : World} {G : Nat → Prop} {ρ : List Loc} {e : Env} {a : Act} (h : RepE w G ρ e a.tmps) (d : Option Nat) {v : CV} {u : Value} (hd : ∀ t, d = some t → t < a.tmps.size) (hv : RepC w G ρ v u) :
    RepE w G ρ (sto d v e) (a.put d u).tmps := by
  cases d with
  | none => exact h
  | some d =>
    intro k
    have hlt := hd d rfl
    simp only [Vpi.sto, Act.put]
    rw [gt_st]
    by_cases hk : k = d
    · subst hk
      rw [if_pos rfl]
      simp [Array.getD, hlt]
      exact hv
    · rw [if_neg hk]
      have := h k
      simp only [Array.getD_eq_getD_getElem?, Array.getElem?_setIfInBounds_ne (fun x => hk x.symm)] at this ⊢
      exact this
theorem put_size (a : Act) (d : Option Nat) (u : Value) : (a.put d u).tmps.size = a.tmps.size := by
  cases d <;> simp [Act.put]
theorem put_defers (a : Act) (d : Option Nat) (u : Value) : (a.put d u).defers = a.defers := by
  cases d <;> rfl
end Go.Proofs.Ytdpdnplljonppaa.Vpi

namespace Go.Proofs.Ytdpdnplljonppaa.Vpi
open Go
set_option linter.unusedVariables false
set_option linter.unusedSimpArgs false
theorem BlkOk.mono {w w' : World} {G G' : Nat → Prop} {ρ ρ' : List Loc} {l : Loc} {b : Blk} (hw : ∀ k, G k → w'.heap[k]? = w.heap[k]?) (hG : ∀ k, G k → G' k) (hρ : LocExt ρ ρ')
    (hl : ∀ (k o t s : Nat), l = .lv k o t s → w'.heap[k]? = w.heap[k]? ∧ (¬ G k → ¬ G' k)) (h : BlkOk w G ρ l b) : BlkOk w' G' ρ' l b := by
  unfold BlkOk at *
  split at h
  · trivial
  · trivial
  · obtain ⟨h1, h2, arr, el, h3, h4, h5, h6, h7⟩ := h
    obtain ⟨a1, a2⟩ := hl _ _ _ _ rfl
    exact ⟨h1, a2 h2, arr, el, a1.trans h3, h4, h5, h6, fun i e k c u x y z => ⟨(h7 i e k c u x y z).1.mono hw hG, (h7 i e k c u x y z).2⟩⟩
  · exact h
  · obtain ⟨h1, h2, arr, el, h3, h4, h5, h6⟩ := h
    obtain ⟨a1, a2⟩ := hl _ _ _ _ rfl
    exact ⟨h1, a2 h2, arr, el, a1.trans h3, h4, h5, fun k c u x y => ⟨(h6 k c u x y).1.mono hw hG hρ, (h6 k c u x y).2⟩⟩
  · exact h.elim
theorem St.sameHeap {w w' : World} {G : Nat → Prop} {ρ : List Loc} {σ : Store} (h : St w G ρ σ) (hw : w'.heap = w.heap) : St w' G ρ σ where
  g := by rw [hw]; exact h.g
  len := h.len
  inj := h.inj
  ok := fun i l b h1 h2 => (h.ok i l b h1 h2).mono (fun k _ => by rw [hw]) (fun _ x => x) (LocExt.refl _) fun k o t s _ => ⟨by rw [hw], id⟩
theorem Ext.sameHeap {w w' : World} {G : Nat → Prop} {ρ : List Loc} (hw : w'.heap = w.heap) (hsame : Same w w' := by first | assumption | exact ⟨rfl, rfl, rfl⟩) : Ext w G ρ w' G ρ :=
  ⟨hsame, LocExt.refl _, by rw [hw]; exact Nat.le_refl _, fun _ h => h, fun _ h => .inl h, fun _ _ _ => by rw [hw], fun _ h => .inl h⟩
theorem push_spec {base : Nat} {sl : Option Nat} {σ σ' : Store} {b : Blk} {k : Nat} (h : push base sl σ b = some (k, σ')) :
    (k = σ.length ∧ σ' = σ ++ [b]) ∨ (σ[k]? = some .hole ∧ σ' = σ.set k b) := by
  unfold push at h
  split at h
  · simp only [Option.some.injEq, Prod.mk.injEq] at h
    exact .inl ⟨h.1.symm, h.2.symm⟩
  · split at h
    · rename_i hh
      simp only [Option.some.injEq, Prod.mk.injEq] at h
      obtain ⟨rfl, rfl⟩ := h
      exact .inr ⟨hh, rfl⟩
    · cases h
theorem get_lt {α : Type} {l : List α} {i : Nat} {x : α} (h : l[i]? = some x) : i < l.length := by
  rcases Nat.lt_or_ge i l.length with h1 | h1
  · exact h1
  · simp [List.getElem?_eq_none h1] at h
theorem aget_lt {α : Type} {l : Array α} {i : Nat} {x : α} (h : l[i]? = some x) : i < l.size := by
  rcases Nat.lt_or_ge i l.size with h1 | h1
  · exact h1
  · simp [Array.getElem?_eq_none h1] at h
theorem St.push {w w' : World} {G : Nat → Prop} {ρ : List Loc} {σ σ' : Store} {base : Nat} {sl : Option Nat} {b : Blk} {k : Nat} (h : St w G ρ σ) (hp : push base sl σ b = some (k, σ'))
    (arr : Array Value) (el : TypeId) (sz : Nat) (hw : w'.heap = w.heap.push (.cells arr el (0, 0)))
    (hb : ∀ ρ', LocExt ρ ρ' → BlkOk w' G ρ' (.lv w.heap.size 0 arr.size sz) b) (hsame : Same w w' := by first | assumption | exact ⟨rfl, rfl, rfl⟩) :
    ∃ ρ', St w' G ρ' σ' ∧ Ext w G ρ w' G ρ' ∧ ρ'[k]? = some (.lv w.heap.size 0 arr.size sz) := by
  have hold : ∀ j, j < w.heap.size → w'.heap[j]? = w.heap[j]? := by
    intro j hj
    rw [hw, Array.getElem?_push]
    simp [Nat.ne_of_lt hj]
  have hsz : w'.heap.size = w.heap.size + 1 := by rw [hw]; simp
  have hlive : ∀ j, Live ρ j → j < w.heap.size := fun j hj => h.live_lt hj
  have hGl : ∀ j, G j → w'.heap[j]? = w.heap[j]? := fun j hj => hold j (h.g j hj)
  rcases push_spec hp with ⟨rfl, rfl⟩ | ⟨hk, rfl⟩
  · have hloc : LocExt ρ (ρ ++ [.lv w.heap.size 0 arr.size sz]) := by
      intro i l hi
      exact .inl (by rw [List.getElem?_append_left (get_lt hi)]; exact hi)
    have hnew : (ρ ++ [Loc.lv w.heap.size 0 arr.size sz])[σ.length]? = some (.lv w.heap.size 0 arr.size sz) := by
      rw [← h.len]; simp
    have hcase : ∀ (i : Nat) l, (ρ ++ [Loc.lv w.heap.size 0 arr.size sz])[i]? = some l → ρ[i]? = some l ∨ (i = ρ.length ∧ l = .lv w.heap.size 0 arr.size sz) := by
      intro i l hi
      rcases Nat.lt_or_ge i ρ.length with h1 | h1
      · rw [List.getElem?_append_left h1] at hi; exact .inl hi
      · rw [List.getElem?_append_right h1] at hi
        have : i - ρ.length = 0 := by
          have := get_lt hi
          simp at this
          omega
        rw [this] at hi
        simp at hi
        exact .inr ⟨by omega, hi.symm⟩
    refine ⟨ρ ++ [.lv w.heap.size 0 arr.size sz], ?_, ?_, hnew⟩
    · constructor
      · intro j hj; rw [hsz]; exact Nat.lt_succ_of_lt (h.g j hj)
      · simp [h.len]
      · intro i j k o t s o' t' s' hi hj
        rcases hcase i _ hi with h1 | ⟨h1, h2⟩ <;> rcases hcase j _ hj with h3 | ⟨h3, h4⟩
        · exact h.inj i j k o t s o' t' s' h1 h3
        · cases h4
          have := hlive _ ⟨i, o, t, s, h1⟩
          omega
        · cases h2
          have := hlive _ ⟨j, o', t', s', h3⟩
          omega
        · omega
      · intro i l x hi hx
        rcases hcase i _ hi with h1 | ⟨h1, h2⟩
        · rw [List.getElem?_append_left (by rw [← h.len]; exact get_lt h1)] at hx
          refine (h.ok i l x h1 hx).mono hGl (fun _ y => y) hloc ?_
          rintro j o t s rfl
          exact ⟨hold j (hlive j ⟨i, o, t, s, h1⟩), id⟩
        · subst h1 h2
          rw [List.getElem?_append_right (by rw [h.len]; exact Nat.le_refl _), h.len] at hx
          simp at hx
          subst hx
          exact hb _ hloc
    · constructor
      · exact hsame
      · exact hloc
      · omega
      · exact fun _ x => x
      · exact fun _ x => .inl x
      · exact fun j hj _ => hold j hj
      · rintro j ⟨i, o, t, s, hi⟩
        rcases hcase i _ hi with h1 | ⟨_, h2⟩
        · exact .inl ⟨i, o, t, s, h1⟩
        · cases h2; exact .inr (Nat.le_refl _)
  · have hklt : k < ρ.length := by rw [h.len]; exact get_lt hk
    have hρk : ρ[k]? = some .hole := by
      have := h.ok k ρ[k] .hole (by simp [hklt]) hk
      unfold BlkOk at this
      split at this <;> simp_all
    have hloc : LocExt ρ (ρ.set k (.lv w.heap.size 0 arr.size sz)) := by
      intro i l hi
      by_cases hik : k = i
      · subst hik; rw [hρk] at hi; cases hi; exact .inr (.inr rfl)
      · exact .inl (by rw [List.getElem?_set_ne hik]; exact hi)
    have hcase : ∀ (i : Nat) l, (ρ.set k (Loc.lv w.heap.size 0 arr.size sz))[i]? = some l → (i ≠ k ∧ ρ[i]? = some l) ∨ (i = k ∧ l = .lv w.heap.size 0 arr.size sz) := by
      intro i l hi
      by_cases hik : k = i
      · subst hik; rw [List.getElem?_set_self hklt] at hi; exact .inr ⟨rfl, by cases hi; rfl⟩
      · rw [List.getElem?_set_ne hik] at hi; exact .inl ⟨fun x => hik x.symm, hi⟩
    refine ⟨ρ.set k (.lv w.heap.size 0 arr.size sz), ?_, ?_, by rw [List.getElem?_set_self hklt]⟩
    · constructor
      · intro j hj; rw [hsz]; exact Nat.lt_succ_of_lt (h.g j hj)
      · simp [h.len]
      · intro i j k o t s o' t' s' hi hj
        rcases hcase i _ hi with ⟨_, h1⟩ | ⟨h1, h2⟩ <;> rcases hcase j _ hj with ⟨_, h3⟩ | ⟨h3, h4⟩
        · exact h.inj i j k o t s o' t' s' h1 h3
        · cases h4
          have := hlive _ ⟨i, o, t, s, h1⟩
          omega
        · cases h2
          have := hlive _ ⟨j, o', t', s', h3⟩
          omega
        · omega
      · intro i l x hi hx
        rcases hcase i _ hi with ⟨h0, h1⟩ | ⟨h1, h2⟩
        · rw [List.getElem?_set_ne (fun y => h0 y.symm)] at hx
          refine (h.ok i l x h1 hx).mono hGl (fun _ y => y) hloc ?_
          rintro j o t s rfl
          exact ⟨hold j (hlive j ⟨i, o, t, s, h1⟩), id⟩
        · subst h1 h2
          rw [List.getElem?_set_self (by rw [← h.len]; exact hklt)] at hx
          cases hx
          exact hb _ hloc
    · constructor
      · exact hsame
      · exact hloc
      · omega
      · exact fun _ x => x
      · exact fun _ x => .inl x
      · exact fun j hj _ => hold j hj
      · rintro j ⟨i, o, t, s, hi⟩
        rcases hcase i _ hi with ⟨_, h1⟩ | ⟨_, h2⟩
        · exact .inl ⟨i, o, t, s, h1⟩
        · cases h2; exact .inr (Nat.le_refl _)
theorem St.write {w w' : World} {G : Nat → Prop} {ρ : List Loc} {σ : Store} {i k o t s : Nat} {b : Blk} {x : Obj} (h : St w G ρ σ) (hi : ρ[i]? = some (.lv k o t s)) (hlt : k < w.heap.size)
    (hw : w'.heap = w.heap.setIfInBounds k x) (hb : BlkOk w' G ρ (.lv k o t s) b) (hsame : Same w w' := by first | assumption | exact ⟨rfl, rfl, rfl⟩) : St w' G ρ (σ.set i b) ∧ Ext w G ρ w' G ρ := by
  have hother : ∀ j, j ≠ k → w'.heap[j]? = w.heap[j]? := by
    intro j hj
    rw [hw, Array.getElem?_setIfInBounds_ne (fun y => hj y.symm)]
  have hGl : ∀ j, G j → w'.heap[j]? = w.heap[j]? := fun j hj => hother j (fun y => h.notG ⟨i, o, t, s, hi⟩ (y ▸ hj))
  have hsz : w'.heap.size = w.heap.size := by rw [hw]; simp
  constructor
  · constructor
    · intro j hj; rw [hsz]; exact h.g j hj
    · simp [h.len]
    · exact h.inj
    · intro j l y hj hy
      by_cases hji : i = j
      · subst hji
        rw [hi] at hj
        cases hj
        rw [List.getElem?_set_self (by rw [← h.len]; exact get_lt hi)] at hy
        cases hy
        exact hb
      · rw [List.getElem?_set_ne hji] at hy
        refine (h.ok j l y hj hy).mono hGl (fun _ z => z) (LocExt.refl _) ?_
        rintro j' o' t' s' rfl
        refine ⟨hother j' ?_, id⟩
        rintro rfl
        exact hji (h.inj i j j' o t s o' t' s' hi hj)
  · exact ⟨hsame, LocExt.refl _, by omega, fun _ y => y, fun _ y => .inl y, fun j hj hn => hother j (fun y => hn (y ▸ ⟨i, o, t, s, hi⟩)), fun _ y => .inl y⟩
theorem St.give {w : World} {G : Nat → Prop} {ρ : List Loc} {σ : Store} {i k o t s : Nat} (h : St w G ρ σ) (hi : ρ[i]? = some (.lv k o t s)) :
    St w (fun j => G j ∨ j = k) (ρ.set i .dead) (σ.set i .dead) ∧ Ext w G ρ w (fun j => G j ∨ j = k) (ρ.set i .dead) := by
  have hloc : LocExt ρ (ρ.set i .dead) := by
    intro j l hj
    by_cases hji : i = j
    · subst hji; exact .inr (.inl (by rw [List.getElem?_set_self (get_lt hi)]))
    · exact .inl (by rw [List.getElem?_set_ne hji]; exact hj)
  have hcase : ∀ (j : Nat) l, (ρ.set i Loc.dead)[j]? = some l → (j ≠ i ∧ ρ[j]? = some l) ∨ (j = i ∧ l = .dead) := by
    intro j l hj
    by_cases hji : i = j
    · subst hji; rw [List.getElem?_set_self (get_lt hi)] at hj; exact .inr ⟨rfl, by cases hj; rfl⟩
    · rw [List.getElem?_set_ne hji] at hj; exact .inl ⟨fun x => hji x.symm, hj⟩
  constructor
  · constructor
    · rintro j (hj | rfl)
      · exact h.g j hj
      · exact h.live_lt ⟨i, o, t, s, hi⟩
    · simp [h.len]
    · intro a b k' o1 t1 s1 o2 t2 s2 h1 h2
      rcases hcase a _ h1 with ⟨_, h1⟩ | ⟨_, h1⟩
      · rcases hcase b _ h2 with ⟨_, h2⟩ | ⟨_, h2⟩
        · exact h.inj a b k' o1 t1 s1 o2 t2 s2 h1 h2
        · cases h2
      · cases h1
    · intro j l y hj hy
      rcases hcase j _ hj with ⟨h0, h1⟩ | ⟨h0, h1⟩
      · rw [List.getElem?_set_ne (fun y => h0 y.symm)] at hy
        refine (h.ok j l y h1 hy).mono (fun _ _ => rfl) (fun _ z => .inl z) hloc ?_
        rintro j' o' t' s' rfl
        refine ⟨rfl, ?_⟩
        rintro hn (hx | rfl)
        · exact hn hx
        · exact h0 (h.inj j i j' o' t' s' o t s h1 hi)
      · subst h0 h1
        rw [List.getElem?_set_self (by rw [← h.len]; exact get_lt hi)] at hy
        cases hy
        trivial
  · constructor
    · exact ⟨rfl, rfl, rfl⟩
    · exact hloc
    · exact Nat.le_refl _
    · exact fun _ x => .inl x
    · rintro j (hj | rfl)
      · exact .inl hj
      · exact .inr (.inr ⟨i, o, t, s, hi⟩)
    · exact fun _ _ _ => rfl
    · rintro j ⟨a, o', t', s', ha⟩
      rcases hcase a _ ha with ⟨_, h1⟩ | ⟨_, h1⟩
      · exact .inl ⟨a, o', t', s', h1⟩
      · cases h1
theorem St.giveDet {w : World} {G : Nat → Prop} {ρ : List Loc} {σ : Store} {i : Nat} {l : Loc} (h : St w G ρ σ) (hi : ρ[i]? = some l) :
    (¬ ∃ k o t s, l = .lv k o t s) → St w G (ρ.set i .dead) (σ.set i .dead) ∧ Ext w G ρ w G (ρ.set i .dead) := by
  intro hn
  have hloc : LocExt ρ (ρ.set i .dead) := by
    intro j l hj
    by_cases hji : i = j
    · subst hji; exact .inr (.inl (by rw [List.getElem?_set_self (get_lt hi)]))
    · exact .inl (by rw [List.getElem?_set_ne hji]; exact hj)
  have hcase : ∀ (j : Nat) l, (ρ.set i Loc.dead)[j]? = some l → (j ≠ i ∧ ρ[j]? = some l) ∨ (j = i ∧ l = .dead) := by
    intro j l hj
    by_cases hji : i = j
    · subst hji; rw [List.getElem?_set_self (get_lt hi)] at hj; exact .inr ⟨rfl, by cases hj; rfl⟩
    · rw [List.getElem?_set_ne hji] at hj; exact .inl ⟨fun x => hji x.symm, hj⟩
  constructor
  · constructor
    · exact h.g
    · simp [h.len]
    · intro a b k' o1 t1 s1 o2 t2 s2 h1 h2
      rcases hcase a _ h1 with ⟨_, h1⟩ | ⟨_, h1⟩
      · rcases hcase b _ h2 with ⟨_, h2⟩ | ⟨_, h2⟩
        · exact h.inj a b k' o1 t1 s1 o2 t2 s2 h1 h2
        · cases h2
      · cases h1
    · intro j l y hj hy
      rcases hcase j _ hj with ⟨h0, h1⟩ | ⟨h0, h1⟩
      · rw [List.getElem?_set_ne (fun y => h0 y.symm)] at hy
        exact (h.ok j l y h1 hy).mono (fun _ _ => rfl) (fun _ z => z) hloc fun _ _ _ _ _ => ⟨rfl, id⟩
      · subst h0 h1
        rw [List.getElem?_set_self (by rw [← h.len]; exact get_lt hi)] at hy
        cases hy
        trivial
  · constructor
    · exact ⟨rfl, rfl, rfl⟩
    · exact hloc
    · exact Nat.le_refl _
    · exact fun _ x => x
    · exact fun _ x => .inl x
    · exact fun _ _ _ => rfl
    · rintro j ⟨a, o', t', s', ha⟩
      rcases hcase a _ ha with ⟨_, h1⟩ | ⟨_, h1⟩
      · exact .inl ⟨a, o', t', s', h1⟩
      · cases h1
end Go.Proofs.Ytdpdnplljonppaa.Vpi

namespace Go.Proofs.Ytdpdnplljonppaa.Vpi
open Go
set_option linter.unusedVariables false
set_option linter.unusedSimpArgs false
def oneAll (vs : List Value) : Bool := vs.all (·.oneCell')
def okC1 : Value → CV → Bool
  | _, .any => true
  | .int k n, .p (.int k' n') => k == k' && n == n'
  | .bool b, .p (.bool b') => b == b'
  | .slice none 0 0, .nils => true
  | .slice none 0 0, .p (.sl []) => true
  | .func (.func f) x y, .fn f' [] => f == f' && x.isEmpty && y.isEmpty
  | _, _ => false
def okCs : List Value → List CV → Bool
  | [], [] => true
  | v :: vs, c :: cs => okC1 v c && okCs vs cs
  | _, _ => false
def okP1 : Value → PV → Bool
  | .int k n, .int k' n' => k == k' && n == n'
  | .bool b, .bool b' => b == b'
  | .slice none 0 0, .sl [] => true
  | _, _ => false
def okPs : List Value → List PV → Bool
  | [], [] => true
  | v :: vs, c :: cs => okP1 v c && okPs vs cs
  | _, _ => false
def okC : Value → CV → Bool
  | .agg vs, .agg cs => okCs vs.toList cs
  | .agg vs, .p (.agg ps) => okPs vs.toList ps
  | v, c => okC1 v c
def okOpd : Operand → Opd → Bool
  | .tmp t, .t n => t == n
  | .const v, .c c => okC v c && oneAll v.cells.toList
  | .func f, .c (.fn f' []) => f == f'
  | _, _ => false
def okOpds : List Operand → List Opd → Bool
  | [], [] => true
  | x :: xs, y :: ys => okOpd x y && okOpds xs ys
  | _, _ => false
def okOpt : Option Operand → Option Opd → Bool
  | none, none => true
  | some x, some y => okOpd x y
  | _, _ => false
def szP (P : Program) (t : TypeId) : Option Nat := (P.info? t).map (·.size)
def aggD : TypeDesc → Bool
  | .struct _ | .array _ _ => true
  | _ => false
def aggP (P : Program) (t : TypeId) : Option Bool := (P.underlying t).map aggD
def okParts (P : Program) (fs : Array Field) : List (Nat × Operand) → List (Nat × Nat × Opd) → Bool
  | [], [] => true
  | (i, x) :: l, (off, sz, y) :: r => (match fs[i]? with | some f => f.offset == off && szP P f.type == some sz | none => false) && okOpd x y && okParts P fs l r
  | _, _ => false
def okEach : Nat → List (Nat × Operand) → List Opd → Bool
  | _, [], [] => true
  | k, (i, x) :: l, y :: r => i == k && okOpd x y && okEach (k + 1) l r
  | _, _, _ => false
def isSlice (P : Program) (t e : TypeId) : Bool :=
  match P.underlying t with
  | some (.slice e') => e' == e
  | _ => false
def sliceElem (P : Program) (t : TypeId) : Option TypeId :=
  match P.underlying t with
  | some (.slice e) => some e
  | _ => none
def isIntT (P : Program) (t : TypeId) : Bool :=
  match P.underlying t with
  | some (.int _) => true
  | _ => false
def isBoolT (P : Program) (t : TypeId) : Bool :=
  match P.underlying t with
  | some .bool => true
  | _ => false
def isStrT (P : Program) (t : TypeId) : Bool :=
  match P.underlying t with
  | some .string => true
  | _ => false
def strTab (c : Operand) (tab : List Nat) : Bool :=
  match c with
  | .const (.string s) => s.data.toList.map (·.toNat) == tab
  | _ => false
def intKindT (P : Program) (t : TypeId) : Option IntKind :=
  match P.underlying t with
  | some (.int k) => some k
  | _ => none
def beqOk : BinOp → Bool → Bool
  | .eql, ne => !ne
  | .neq, ne => ne
  | _, _ => false
def okFn (P : Program) (f : FuncId) : Bool :=
  match P.funcs[f]? with
  | some fn => fn.name != "runtime.NumGoroutine" && fn.body.isSome
  | none => false
def okCall (P : Program) (c : Call) : ROp → Bool
  | .len y => (match c.callee, c.args.toList, c.argTypes.toList with | .builtin .len, [x], [t] => (sliceElem P t).isSome && okOpd x y | _, _, _ => false)
  | .append sz bytes s x =>
    (match c.callee, c.args.toList, c.argTypes.toList with
     | .builtin .append, [a, b], [t, u] => t == u && okOpd a s && okOpd b x &&
       (match sliceElem P t with
        | some e => (match P.info? e with | some i => i.size == sz && i.bytes == bytes && sz != 0 && bytes != 0 && (match i.zero with | some zv => zv.cells.size == sz | none => false) | none => false)
        | none => false)
     | _, _, _ => false)
  | .appk bytes s x =>
    (match c.callee, c.args.toList, c.argTypes.toList with
     | .builtin .append, [a, b], [t, u] => t == u && okOpd a s && okOpd b x &&
       (match sliceElem P t with
        | some e => (match P.info? e with | some i => i.size == 1 && i.bytes == bytes && bytes != 0 && (match i.zero with | some zv => zv.cells.size == 1 | none => false) | none => false)
        | none => false)
     | _, _, _ => false)
  | .appz sz bytes z s x =>
    (match c.callee, c.args.toList, c.argTypes.toList with
     | .builtin .append, [a, b], [t, u] => okOpd a s && okOpd b x && (match P.underlying u with | some (.int _) => true | _ => false) &&
       (match sliceElem P t with
        | some e => (match P.info? e with | some i => i.size == sz && i.bytes == bytes && sz != 0 && bytes != 0 && (match i.zero with | some zv => zv.cells.size == sz && okPs zv.cells.toList z.cells | none => false) | none => false)
        | none => false)
     | _, _, _ => false)
  | .copy sz d s =>
    (match c.callee, c.args.toList, c.argTypes.toList with
     | .builtin .copy, [a, b], [t, _] => okOpd a d && okOpd b s && (match sliceElem P t with | some e => szP P e == some sz | none => false)
     | _, _, _ => false)
  | .mx x y => (match c.callee, c.args.toList with | .builtin .max, [a, b] => okOpd a x && okOpd b y | _, _ => false)
  | .mn x y => (match c.callee, c.args.toList with | .builtin .min, [a, b] => okOpd a x && okOpd b y | _, _ => false)
  | .call _ f args => (match c.callee with | .value (.func g) => g == f && okOpds c.args.toList args | _ => false)
  | .madec f args => (match c.callee with | .value (.func g) => g == f && okOpds c.args.toList args | _ => false)
  | .callv _ x args => (match c.callee with | .value y => okOpd y x && okOpds c.args.toList args | _ => false)
  | _ => false
def okOp (P : Program) : Op → ROp → Bool
  | .move x, .mv y => okOpd x y
  | .assign x, .mv y => okOpd x y
  | .pick c a b, .pick c' a' b' => okOpd c c' && okOpd a a' && okOpd b b'
  | .alloc t, .alloc zs => match (P.info? t).bind (·.zero) with | some z => okCs z.cells.toList zs && oneAll z.cells.toList | none => false
  | .box _ x, .box y => okOpd x y
  | .build t ps, .build zs qs =>
    (match (P.info? t).bind (·.zero) with | some z => okCs z.cells.toList zs && oneAll z.cells.toList | none => false) &&
    (match P.underlying t with | some (.struct fs) => fs.all (fun f => (szP P f.type).isSome) && okParts P fs ps.toList qs | _ => false)
  | .buildSlice t n ps, .bslice sz xs =>
    (match sliceElem P t with | some e => szP P e == some sz && n == xs.length && n * sz ≤ 16777216 && okEach 0 ps.toList xs && (match (P.info? e).bind (·.zero) with | some z => z.cells.size == sz | none => false) | none => false)
  | .buildSlice t n ps, .bslk xs =>
    (match sliceElem P t with | some e => (match P.info? e with | some i => i.size == 1 && n == xs.length && n * 1 ≤ 16777216 && okEach 0 ps.toList xs && (match i.zero with | some z => z.cells.size == 1 | none => false) | none => false) | none => false)
  | .load t a, .load agg sz b => aggP P t == some agg && szP P t == some sz && okOpd a b
  | .store t a x, .store sz b y => szP P t == some sz && okOpd a b && okOpd x y
  | .nilCheck x, .nilc y => okOpd x y
  | .binOp op t x y _, .bin op' x' y' => op == op' && okOpd x x' && okOpd y y' && (match op with | .eql | .neq => isIntT P t | _ => true)
  | .binOp op t x y _, .beq ne x' y' => okOpd x x' && okOpd y y' && isBoolT P t && beqOk op ne
  | .unOp op _ x, .un op' y => op == op' && okOpd x y
  | .convert s d x, .conv k y => (P.underlying s).isSome && intKindT P d == some k && okOpd x y
  | .makeFunc (.func f) fi cap, .mkfn g cs => f == g && fi.size == 0 && okOpds cap.toList cs
  | .makeSlice t l c, .mks deep sz bytes z l' c' =>
    okOpd l l' && okOpd c c' &&
    (match sliceElem P t with
     | some e => (match P.info? e with
        | some i => i.size == sz && i.bytes == bytes && (match i.zero with | some zv => (if deep then okPs zv.cells.toList [.sl []] else okPs zv.cells.toList z.cells) | none => false)
        | none => false)
     | none => false)
  | .slice t x lo hi mx, .slice sz x' lo' hi' mx' => (match sliceElem P t with | some e => szP P e == some sz | none => false) && okOpd x x' && okOpt lo lo' && okOpt hi hi' && okOpt mx mx' && (mx.isNone || hi.isSome)
  | .fieldAddr t x f, .fieldA off y =>
    (match P.underlying t with | some (.struct fs) => (match fs[f]? with | some fd => fd.offset == off && (match szP P fd.type with | some n => n != 0 | none => false) | none => false) | _ => false) && okOpd x y
  | .field t x f, .field agg off sz y =>
    (match P.underlying t with | some (.struct fs) => (match fs[f]? with | some fd => fd.offset == off && szP P fd.type == some sz && aggP P fd.type == some agg | none => false) | _ => false) && okOpd x y
  | .indexAddr t x i, .indexA sz x' i' => (match sliceElem P t with | some e => szP P e == some sz | none => false) && okOpd x x' && okOpd i i'
  | .extract x i, .extract y j => i == j && okOpd x y
  | .index t c x, .idx tab y => okOpd x y && isStrT P t && strTab c tab
  | .call c, r => okCall P c r
  | _, _ => false
def isStore : Op → Bool
  | .store .. => true
  | _ => false
def okLOp (P : Program) (ops : Array Oper) (n : Nat) (o : Oper) (l : LOp) : Bool :=
  okOp P o.op l.op && (match o.dst, l.d with | none, none => true | some a, some b => a == b && a < n && !isStore o.op | _, _ => false) &&
  (match o.guard, l.g with | none, none => true | some (j, w), some (t, w') => w == w' && ((ops[j]?).bind (·.dst)) == some t | _, _ => false)
def okL (P : Program) (ops : Array Oper) (n : Nat) : List Oper → List LOp → Bool
  | [], [] => true
  | o :: os, l :: ls => okLOp P ops n o l && okL P ops n os ls
  | _, _ => false
end Go.Proofs.Ytdpdnplljonppaa.Vpi

namespace Go.Proofs.Ytdpdnplljonppaa.Vpi
open Go
set_option linter.unusedVariables false
set_option linter.unusedSimpArgs false
section words
variable {w : World} {G : Nat → Prop} {ρ : List Loc}
theorem okC1_rep {v : Value} {c : CV} (h : okC1 v c = true) : RepC w G ρ c v := by
  unfold okC1 at h
  split at h
  · exact .any _
  · simp at h; obtain ⟨rfl, rfl⟩ := h; exact .p _ _ (.int _ _)
  · simp at h; subst h; exact .p _ _ (.bool _)
  · exact .nils
  · exact .p _ _ (.nil _ _)
  · simp at h; obtain ⟨⟨rfl, rfl⟩, rfl⟩ := h; exact .fn _ [] [] rfl (by simp)
  · cases h
theorem okP1_rep {v : Value} {c : PV} (h : okP1 v c = true) : RepP w G c v := by
  unfold okP1 at h
  split at h
  · simp at h; obtain ⟨rfl, rfl⟩ := h; exact .int _ _
  · simp at h; subst h; exact .bool _
  · exact .nil _ _
  · cases h
theorem okP1_one {v : Value} {c : PV} (h : okP1 v c = true) : v.oneCell' = true := by
  unfold okP1 at h
  split at h <;> first | rfl | cases h
theorem okPs_len : ∀ {vs : List Value} {cs : List PV}, okPs vs cs = true → cs.length = vs.length ∧ (∀ (k : Nat) c v, cs[k]? = some c → vs[k]? = some v → RepP w G c v) ∧ ∀ v ∈ vs, v.oneCell' = true
  | [], [], _ => ⟨rfl, by simp, by simp⟩
  | v :: vs, c :: cs, h => by
    simp only [okPs, Bool.and_eq_true] at h
    obtain ⟨h1, h2, h3⟩ := okPs_len h.2
    refine ⟨by simp [h1], ?_, ?_⟩
    · intro k c' v' hc hv
      cases k with
      | zero => simp at hc hv; subst hc hv; exact okP1_rep h.1
      | succ k => exact h2 k c' v' (by simpa using hc) (by simpa using hv)
    · intro u hu
      rcases List.mem_cons.1 hu with rfl | hu
      · exact okP1_one h.1
      · exact h3 u hu
  | [], _ :: _, h => by simp [okPs] at h
  | _ :: _, [], h => by simp [okPs] at h
theorem okCs_len : ∀ {vs : List Value} {cs : List CV}, okCs vs cs = true → cs.length = vs.length ∧ (∀ (k : Nat) c v, cs[k]? = some c → vs[k]? = some v → RepC w G ρ c v)
  | [], [], _ => ⟨rfl, by simp⟩
  | v :: vs, c :: cs, h => by
    simp only [okCs, Bool.and_eq_true] at h
    obtain ⟨h1, h2⟩ := okCs_len h.2
    refine ⟨by simp [h1], ?_⟩
    intro k c' v' hc hv
    cases k with
    | zero => simp at hc hv; subst hc hv; exact okC1_rep h.1
    | succ k => exact h2 k c' v' (by simpa using hc) (by simpa using hv)
  | [], _ :: _, h => by simp [okCs] at h
  | _ :: _, [], h => by simp [okCs] at h
theorem okC_rep {v : Value} {c : CV} (h : okC v c = true) (hv : oneAll v.cells.toList = true) : RepC w G ρ c v := by
  unfold okC at h
  split at h
  · rename_i vs cs
    obtain ⟨h1, h2⟩ := okCs_len (w := w) (G := G) (ρ := ρ) h
    exact .agg cs vs.toList h1 h2 fun v hv' => List.all_eq_true.1 hv v hv'
  · rename_i vs cs
    obtain ⟨h1, h2, h3⟩ := okPs_len (w := w) (G := G) h
    exact .p _ _ (.agg cs vs.toList h1 h2 h3)
  · exact okC1_rep h
theorem RepP.cells {x : PV} {v : Value} (h : RepP w G x v) : x.cells.length = v.cells.size ∧ (∀ (k : Nat) c u, x.cells[k]? = some c → v.cells[k]? = some u → RepP w G c u) ∧ ∀ u ∈ v.cells, u.oneCell' = true := by
  have one : ∀ {x : PV} {v : Value}, RepP w G x v → x.cells = [x] → v.cells = #[v] → v.oneCell' = true → x.cells.length = v.cells.size ∧ (∀ (k : Nat) c u, x.cells[k]? = some c → v.cells[k]? = some u → RepP w G c u) ∧ ∀ u ∈ v.cells, u.oneCell' = true := by
    intro x v h h1 h2 h3
    rw [h1, h2]
    refine ⟨rfl, ?_, ?_⟩
    · intro k c u hc hu
      cases k with
      | zero => simp at hc hu; subst hc hu; exact h
      | succ k => simp at hc
    · intro u hu; simp at hu; subst hu; exact h3
  cases h with
  | int k n => exact one (.int k n) rfl rfl rfl
  | bool b => exact one (.bool b) rfl rfl rfl
  | str s => exact one (.str s) rfl rfl rfl
  | nil a cap => exact one (.nil a cap) rfl rfl rfl
  | sl es blk off arr el fr cap sz hg hb hc hs he hk h1 => exact one (.sl es blk off arr el fr cap sz hg hb hc hs he hk h1) rfl rfl rfl
  | agg cs vs hl hk h1 => exact ⟨by simpa [PV.cells, Value.cells] using hl, by simpa [PV.cells, Value.cells] using hk, by simpa [Value.cells] using h1⟩
theorem RepC.cells {c : CV} {v : Value} {cs : List CV} (h : RepC w G ρ c v) (hc : c.cells = some cs) :
    cs.length = v.cells.size ∧ (∀ (k : Nat) x u, cs[k]? = some x → v.cells[k]? = some u → RepC w G ρ x u) ∧ ∀ u ∈ v.cells, u.oneCell' = true := by
  have one : ∀ {x : CV} {v : Value}, RepC w G ρ x v → x.cells = some [x] → v.cells = #[v] → v.oneCell' = true → x.cells = some cs → cs.length = v.cells.size ∧ (∀ (k : Nat) c u, cs[k]? = some c → v.cells[k]? = some u → RepC w G ρ c u) ∧ ∀ u ∈ v.cells, u.oneCell' = true := by
    intro x v h h1 h2 h3 h4
    rw [h1] at h4
    cases h4
    rw [h2]
    refine ⟨rfl, ?_, ?_⟩
    · intro k c u hc hu
      cases k with
      | zero => simp at hc hu; subst hc hu; exact h
      | succ k => simp at hc
    · intro u hu; simp at hu; subst hu; exact h3
  cases h with
  | any v => cases hc
  | tup => cases hc
  | rp => cases hc
  | nils => exact one .nils rfl rfl rfl hc
  | own b off n a cap h1 h2 => exact one (.own b off n a cap h1 h2) rfl rfl rfl hc
  | ptr b i off a h1 => exact one (.ptr b i off a h1) rfl rfl rfl hc
  | fn f cap vs hl hk => exact one (.fn f cap vs hl hk) rfl rfl rfl hc
  | agg cs' vs hl hk h1 =>
    cases hc
    exact ⟨by simpa [Value.cells] using hl, by simpa [Value.cells] using hk, by simpa [Value.cells] using h1⟩
  | p x v h =>
    cases hc
    obtain ⟨h1, h2, h3⟩ := h.cells
    refine ⟨by simpa using h1, ?_, h3⟩
    intro k c u hc hu
    simp only [List.getElem?_map, Option.map_eq_some_iff] at hc
    obtain ⟨y, hy, rfl⟩ := hc
    exact .p _ _ (h2 k y u hy hu)
theorem allP_spec : ∀ {cs : List CV} {ps : List PV}, allP cs = some ps → cs = ps.map .p
  | [], ps, h => by simp [allP] at h; subst h; rfl
  | .p v :: l, ps, h => by
    simp only [allP, Option.map_eq_some_iff] at h
    obtain ⟨a, ha, rfl⟩ := h
    rw [allP_spec ha]; rfl
  | .any :: _, _, h => by simp [allP] at h
  | .nils :: _, _, h => by simp [allP] at h
  | .own .. :: _, _, h => by simp [allP] at h
  | .ptr .. :: _, _, h => by simp [allP] at h
  | .rp .. :: _, _, h => by simp [allP] at h
  | .agg .. :: _, _, h => by simp [allP] at h
  | .tup .. :: _, _, h => by simp [allP] at h
  | .fn .. :: _, _, h => by simp [allP] at h
theorem rep_p {x : PV} {v : Value} (h : RepC w G ρ (.p x) v) : RepP w G x v := by cases h; assumption
theorem mkAgg_rep {cs : List CV} {vs : List Value} (hl : cs.length = vs.length) (hk : ∀ (k : Nat) c v, cs[k]? = some c → vs[k]? = some v → RepC w G ρ c v) (h1 : ∀ v ∈ vs, v.oneCell' = true) :
    RepC w G ρ (mkAgg cs) (.agg vs.toArray) := by
  unfold mkAgg
  split
  · rename_i ps hps
    have := allP_spec hps
    subst this
    refine .p _ _ (.agg ps vs (by simpa using hl) ?_ h1)
    intro k c v hc hv
    exact rep_p (hk k (.p c) v (by simp [hc]) hv)
  · exact .agg cs vs hl hk h1
end words
section ops
variable {P : Program} {w : World} {G : Nat → Prop} {ρ : List Loc} {σ : Store} {e : Env} {a : Act}
theorem okOpd_rep {x : Operand} {y : Opd} (h : okOpd x y = true) (he : RepE w G ρ e a.tmps) : RepC w G ρ (vl e y) (a.eval x) := by
  unfold okOpd at h
  split at h
  · simp at h; subst h; exact he _
  · simp only [Bool.and_eq_true] at h; exact okC_rep h.1 h.2
  · simp at h; subst h; exact .fn _ [] [] rfl (by simp)
  · cases h
theorem cell_at {blk o : Nat} {arr : Array Value} {el : TypeId} {fr : Nat × Nat} (hb : w.heap[blk]? = some (.cells arr el fr)) : w.cell? ⟨blk, o, none⟩ = arr[o]? := by
  simp [World.cell?, hb]
theorem add_at (blk o n : Nat) : (⟨blk, o, none⟩ : Addr).add n = ⟨blk, o + n, none⟩ := by
  unfold Addr.add; split <;> simp_all
theorem run_isAgg {t : TypeId} {b : Bool} (h : aggP P t = some b) : (isAgg t).run P w = .ok b w := by
  unfold aggP at h
  cases hu : P.underlying t with
  | none => rw [hu] at h; cases h
  | some d =>
    rw [hu] at h
    simp only [Option.map_some, Option.some.injEq] at h
    unfold isAgg
    simp only [Sem.run_bind, run_underlying hu, Result.andThen_ok]
    subst h
    cases d <;> rfl
theorem run_sizeOf {t : TypeId} {n : Nat} (h : szP P t = some n) : (sizeOf t).run P w = .ok n w := by
  unfold szP at h
  cases hi : P.info? t with
  | none => rw [hi] at h; cases h
  | some i =>
    rw [hi] at h
    simp only [Option.map_some, Option.some.injEq] at h
    simp [sizeOf, typeInfo, hi, h]
theorem run_loadVar_agg {t : TypeId} {sz blk o : Nat} {arr : Array Value} {el : TypeId} {fr : Nat × Nat} (ha : aggP P t = some true) (hs : szP P t = some sz) (hb : w.heap[blk]? = some (.cells arr el fr)) (hf : o + sz ≤ arr.size) :
    (loadVar t ⟨blk, o, none⟩).run P w = .ok (.agg ((arr.toList.drop o).take sz).toArray) w := by
  have hl := run_loadCells_list (P := P) w ⟨blk, o, none⟩ ((arr.toList.drop o).take sz) (by
    intro j v hj
    rw [add_at, cell_at hb]
    rw [List.getElem?_take] at hj
    split at hj
    · simpa using hj
    · cases hj)
  rw [show ((arr.toList.drop o).take sz).length = sz by simp; omega] at hl
  simp [loadVar, run_isAgg ha, run_sizeOf hs, hl]
theorem run_loadVar_one {t : TypeId} {blk o : Nat} {arr : Array Value} {el : TypeId} {fr : Nat × Nat} {v : Value} (ha : aggP P t = some false) (hb : w.heap[blk]? = some (.cells arr el fr)) (hv : arr[o]? = some v) :
    (loadVar t ⟨blk, o, none⟩).run P w = .ok v w := by
  simp [loadVar, run_isAgg ha, cell_at hb, hv]
theorem load_sub {t : TypeId} {agg : Bool} {sz blk B off : Nat} {arr : Array Value} {el : TypeId} {fr : Nat × Nat} {x y : PV} (ha : aggP P t = some agg) (hs : szP P t = some sz) (hb : w.heap[blk]? = some (.cells arr el fr))
    (hfit : B + x.cells.length ≤ arr.size) (hk : ∀ (k : Nat) c u, x.cells[k]? = some c → arr[B + k]? = some u → RepP w G c u ∧ u.oneCell' = true) (h : subPV agg sz x off = some y) :
    ∃ v, (loadVar t ⟨blk, B + off, none⟩).run P w = .ok v w ∧ RepP w G y v := by
  unfold subPV at h
  split at h
  · split at h
    · rename_i cs
      split at h
      · rename_i hle
        cases h
        simp only [PV.cells] at hfit hk
        refine ⟨_, run_loadVar_agg ha hs hb (by omega), .agg _ _ (by simp; omega) ?_ ?_⟩
        · intro k c v hc hv
          rw [List.getElem?_take] at hc hv
          by_cases hks : k < sz
          · rw [if_pos hks, List.getElem?_drop] at hc hv
            exact (hk (off + k) c v hc (by simpa [Nat.add_assoc] using hv)).1
          · rw [if_neg hks] at hc; cases hc
        · intro v hv
          obtain ⟨k, hk1⟩ := List.getElem?_of_mem hv
          rw [List.getElem?_take] at hk1
          split at hk1
          · rename_i hlt
            rw [List.getElem?_drop] at hk1
            refine (hk (off + k) cs[off + k] v (by simp) (by simpa [Nat.add_assoc] using hk1)).2
          · cases hk1
      · cases h
    · cases h
  · rename_i b
    have hlt : off < x.cells.length := get_lt h
    refine ⟨arr[B + off]'(by omega), run_loadVar_one ha hb (by simp), ?_⟩
    exact (hk off y _ h (by simp)).1
theorem load_subC {t : TypeId} {agg : Bool} {sz blk B off : Nat} {arr : Array Value} {el : TypeId} {fr : Nat × Nat} {cs : List CV} {y : CV} (ha : aggP P t = some agg) (hs : szP P t = some sz) (hb : w.heap[blk]? = some (.cells arr el fr))
    (hfit : B + cs.length ≤ arr.size) (hk : ∀ (k : Nat) c u, cs[k]? = some c → arr[B + k]? = some u → RepC w G ρ c u ∧ u.oneCell' = true) (h : subCV agg sz cs off = some y) :
    ∃ v, (loadVar t ⟨blk, B + off, none⟩).run P w = .ok v w ∧ RepC w G ρ y v := by
  unfold subCV at h
  split at h
  · split at h
    · rename_i hle
      cases h
      refine ⟨_, run_loadVar_agg ha hs hb (by omega), mkAgg_rep (by simp; omega) ?_ ?_⟩
      · intro k c v hc hv
        rw [List.getElem?_take] at hc hv
        by_cases hks : k < sz
        · rw [if_pos hks, List.getElem?_drop] at hc hv
          exact (hk (off + k) c v hc (by simpa [Nat.add_assoc] using hv)).1
        · rw [if_neg hks] at hc; cases hc
      · intro v hv
        obtain ⟨k, hk1⟩ := List.getElem?_of_mem hv
        rw [List.getElem?_take] at hk1
        split at hk1
        · rename_i hlt
          rw [List.getElem?_drop] at hk1
          refine (hk (off + k) cs[off + k] v (by simp) (by simpa [Nat.add_assoc] using hk1)).2
        · cases hk1
    · cases h
  · have hlt : off < cs.length := get_lt h
    refine ⟨arr[B + off]'(by omega), run_loadVar_one ha hb (by simp), ?_⟩
    exact (hk off y _ h (by simp)).1
end ops
end Go.Proofs.Ytdpdnplljonppaa.Vpi

namespace Go.Proofs.Ytdpdnplljonppaa.Vpi
open Go
set_option linter.unusedVariables false
set_option linter.unusedSimpArgs false
def SimOp (P : Program) (o : Oper) (a : Act) (w : World) (G : Nat → Prop) (ρ : List Loc) (c : CV) (σ' : Store) : Prop :=
  ∃ nx v w' G' ρ', (execOp a.eval o).run P w = .ok nx w' ∧ (nx = .value v ∨ (nx = .skip ∧ v = undef)) ∧ St w' G' ρ' σ' ∧ Ext w G ρ w' G' ρ' ∧ RepC w' G' ρ' c v
section
variable {P : Program} {o : Oper} {w : World} {G : Nat → Prop} {ρ : List Loc} {σ : Store} {e : Env} {a : Act} {base : Nat} {sl : Option Nat}
theorem SimOp.quiet {c : CV} {v : Value} (hs : St w G ρ σ) (hr : (execOp a.eval o).run P w = .ok (.value v) w) (hc : RepC w G ρ c v) : SimOp P o a w G ρ c σ :=
  ⟨.value v, v, w, G, ρ, hr, .inl rfl, hs, Ext.refl, hc⟩
theorem rep_num {c : CV} {n : Int} {v : Value} (hn : c.num = some n) (h : RepC w G ρ c v) : ∃ k, v = .int k n ∧ c = .p (.int k n) := by
  unfold CV.num at hn
  split at hn
  · cases hn; cases h with | p x v h => cases h; exact ⟨_, rfl, rfl⟩
  · cases hn
theorem rep_bool {b : Bool} {v : Value} (h : RepC w G ρ (.p (.bool b)) v) : v = .bool b := by cases h with | p x v h => cases h; rfl
theorem sliceElem_spec {t : TypeId} {q : TypeId → Bool} (h : (match sliceElem P t with | some e => q e | none => false) = true) : ∃ e, P.underlying t = some (.slice e) ∧ q e = true := by
  cases hs : sliceElem P t with
  | none => rw [hs] at h; cases h
  | some e =>
    rw [hs] at h
    unfold sliceElem at hs
    split at hs
    · rename_i hu; cases hs; exact ⟨_, hu, h⟩
    · cases hs
theorem isBool_spec {t : TypeId} (h : isBoolT P t = true) : P.underlying t = some .bool := by
  unfold isBoolT at h; split at h
  · assumption
  · cases h
theorem intKind_spec {t : TypeId} {k : IntKind} (h : (intKindT P t == some k) = true) : P.underlying t = some (.int k) := by
  unfold intKindT at h; split at h
  · rename_i hu; simp at h; subst h; exact hu
  · simp at h
theorem run_bin {op : BinOp} {t : TypeId} {x y : PV} {z : PV} {u v : Value} (h : binV op x y = some z) (hx : RepP w G x u) (hy : RepP w G y v) : ∃ r, (binOp op t u v).run P w = .ok r w ∧ RepP w G z r := by
  unfold binV at h
  split at h <;> first
    | (cases h; done)
    | (cases hx; cases hy
       first
         | (split at h
            · cases h
            · rename_i hn; cases h; exact ⟨_, by simp only [binOp, Op.shift, if_neg hn]; rfl, .int _ _⟩)
         | (split at h
            · rename_i hk
              subst hk
              first
                | (cases h; exact ⟨_, by simp [binOp, Op.intArith]; rfl, .int _ _⟩)
                | (cases h; exact ⟨_, by simp [binOp, Op.intBits]; rfl, .int _ _⟩)
                | (cases h; exact ⟨_, by simp only [binOp, Op.intCmp, ne_eq, not_true_eq_false, if_false]; rfl, .bool _⟩)
                | (split at h
                   · cases h
                   · rename_i hz; cases h; exact ⟨_, by simp only [binOp, Op.intDiv, ne_eq, not_true_eq_false, if_false, if_neg hz]; rfl, .int _ _⟩)
            · cases h))
theorem run_eqGuard {op : BinOp} {t : TypeId} {x y : Operand} {k k' : IntKind} {m n : Int} : (eqGuard op t x y (.int k m) (.int k' n)).run P w = .ok () w := by
  unfold eqGuard; cases op <;> rfl
theorem run_eqGuardB {op : BinOp} {t : TypeId} {x y : Operand} {m n : Bool} : (eqGuard op t x y (.bool m) (.bool n)).run P w = .ok () w := by
  unfold eqGuard; cases op <;> rfl
theorem binV_ints {op : BinOp} {x y z : PV} (h : binV op x y = some z) : (∃ k n, x = .int k n) ∧ ∃ k n, y = .int k n := by
  unfold binV at h
  split at h <;> first | cases h; done | exact ⟨⟨_, _, rfl⟩, _, _, rfl⟩
theorem sim_mv {x : Operand} {y : Opd} (hs : St w G ρ σ) (he : RepE w G ρ e a.tmps) (ho : o.op = .move x ∨ o.op = .assign x) (hx : okOpd x y = true) : SimOp P o a w G ρ (vl e y) σ := by
  refine SimOp.quiet (v := a.eval x) hs ?_ (okOpd_rep hx he)
  rcases ho with ho | ho <;> simp [execOp, ho]
theorem sim_pick {c x y : Operand} {c' x' y' : Opd} {b : Bool} (hs : St w G ρ σ) (he : RepE w G ρ e a.tmps) (ho : o.op = .pick c x y) (hc : okOpd c c' = true) (hx : okOpd x x' = true) (hy : okOpd y y' = true)
    (hb : vl e c' = .p (.bool b)) : SimOp P o a w G ρ (if b = true then vl e x' else vl e y') σ := by
  have h1 := okOpd_rep hc he
  rw [hb] at h1
  have h2 := rep_bool h1
  refine SimOp.quiet (v := if b = true then a.eval x else a.eval y) hs ?_ ?_
  · simp [execOp, ho, h2, asBool]
  · cases b
    · exact okOpd_rep hy he
    · exact okOpd_rep hx he
theorem rep_fn {f : Nat} {cap : List CV} {v : Value} (h : RepC w G ρ (.fn f cap) v) : ∃ vs : List Value, v = .func (.func f) #[] vs.toArray ∧ cap.length = vs.length ∧ ∀ (k : Nat) c v, cap[k]? = some c → vs[k]? = some v → RepC w G ρ c v := by
  cases h with | fn f cap vs hl hk => exact ⟨vs, rfl, hl, hk⟩
theorem rep_ptr {b i off : Nat} {v : Value} (h : RepC w G ρ (.ptr b i off) v) : ∃ ad, v = .pointer (some ad) ∧ PtrOk ρ b i off ad := by
  cases h with | ptr b i off ad h => exact ⟨ad, rfl, h⟩
theorem rep_rp {x : PV} {off : Nat} {v : Value} (h : RepC w G ρ (.rp x off) v) : ∃ (blk o : Nat) (arr : Array Value) (el : TypeId) (fr : Nat × Nat), v = .pointer (some ⟨blk, o + off, none⟩) ∧ G blk ∧ w.heap[blk]? = some (.cells arr el fr) ∧ o + x.cells.length ≤ arr.size ∧
    ∀ (k : Nat) c u, x.cells[k]? = some c → arr[o + k]? = some u → RepP w G c u ∧ u.oneCell' = true := by
  cases h with | rp x off blk o arr el fr hg hb hs hk => exact ⟨blk, o, arr, el, fr, rfl, hg, hb, hs, hk⟩
theorem rep_own {b off n : Nat} {v : Value} (h : RepC w G ρ (.own b off n) v) : ∃ (ad : Option Addr) (cap : Nat), v = .slice ad n cap ∧ n ≤ cap ∧ OwnOk ρ b off ad cap := by
  cases h with | own b off n ad cap hc h => exact ⟨ad, cap, rfl, hc, h⟩
theorem rep_nils {v : Value} (h : RepC w G ρ .nils v) : v = .slice none 0 0 := by cases h; rfl
theorem rep_tup {cs : List CV} {v : Value} (h : RepC w G ρ (.tup cs) v) : ∃ vs : List Value, v = .tuple vs.toArray ∧ cs.length = vs.length ∧ ∀ (k : Nat) c v, cs[k]? = some c → vs[k]? = some v → RepC w G ρ c v := by
  cases h with | tup cs vs hl hk => exact ⟨vs, rfl, hl, hk⟩
theorem rep_agg {cs : List CV} {v : Value} (h : RepC w G ρ (.agg cs) v) : ∃ vs : List Value, v = .agg vs.toArray ∧ cs.length = vs.length ∧ (∀ (k : Nat) c v, cs[k]? = some c → vs[k]? = some v → RepC w G ρ c v) ∧ ∀ v ∈ vs, v.oneCell' = true := by
  cases h with | agg cs vs hl hk h1 => exact ⟨vs, rfl, hl, hk, h1⟩
theorem rep_pagg {cs : List PV} {v : Value} (h : RepP w G (.agg cs) v) : ∃ vs : List Value, v = .agg vs.toArray ∧ cs.length = vs.length ∧ (∀ (k : Nat) c v, cs[k]? = some c → vs[k]? = some v → RepP w G c v) ∧ ∀ v ∈ vs, v.oneCell' = true := by
  cases h with | agg cs vs hl hk h1 => exact ⟨vs, rfl, hl, hk, h1⟩
theorem rep_sl {es : List PV} {v : Value} (h : RepP w G (.sl es) v) : ∃ (ad : Option Addr) (cap : Nat), v = .slice ad es.length cap ∧ es.length ≤ cap ∧
    (es = [] ∨ ∃ (blk off : Nat) (arr : Array Value) (el : TypeId) (fr : Nat × Nat) (sz : Nat), ad = some ⟨blk, off, none⟩ ∧ G blk ∧ w.heap[blk]? = some (.cells arr el fr) ∧ off + es.length * sz ≤ arr.size ∧
      (∀ (i : Nat) e, es[i]? = some e → e.cells.length = sz) ∧ (∀ (i : Nat) e (k : Nat) c u, es[i]? = some e → e.cells[k]? = some c → arr[off + i * sz + k]? = some u → RepP w G c u ∧ u.oneCell' = true)) := by
  cases h with
  | nil ad cap => exact ⟨ad, cap, rfl, Nat.zero_le _, .inl rfl⟩
  | sl es blk off arr el fr cap sz hg hb hc hs he hk h1 =>
    exact ⟨_, cap, rfl, hc, .inr ⟨blk, off, arr, el, fr, sz, rfl, hg, hb, hs, he, fun i e k c u a b d => ⟨hk i e k c u a b d, h1 i e k u a (by rw [← he i e a]; exact get_lt b) d⟩⟩⟩
theorem sim_nilc {x : Operand} {y : Opd} {r : CV × Store} (hs : St w G ρ σ) (he : RepE w G ρ e a.tmps) (ho : o.op = .nilCheck x) (hx : okOpd x y = true) (h : ev base sl (.nilc y) e σ = some r) : SimOp P o a w G ρ r.1 r.2 := by
  have h1 := okOpd_rep hx he
  generalize hu : a.eval x = u at h1
  simp only [ev] at h
  split at h
  · rename_i f cap hv
    cases h
    rw [hv] at h1
    obtain ⟨vs, rfl, _⟩ := rep_fn h1
    exact SimOp.quiet hs (by simp [execOp, ho, hu]) h1
  · rename_i hv
    cases h
    rw [hv] at h1
    obtain ⟨ad, rfl, _⟩ := rep_ptr h1
    exact SimOp.quiet hs (by simp [execOp, ho, hu]) h1
  · rename_i hv
    cases h
    rw [hv] at h1
    obtain ⟨blk, o', arr, el, fr, rfl, _⟩ := rep_rp h1
    exact SimOp.quiet hs (by simp [execOp, ho, hu]) h1
  · cases h
theorem sim_bin {op : BinOp} {t t' : TypeId} {x y : Operand} {x' y' : Opd} {r : CV × Store} (hs : St w G ρ σ) (he : RepE w G ρ e a.tmps) (ho : o.op = .binOp op t x y t') (hx : okOpd x x' = true) (hy : okOpd y y' = true)
    (h : ev base sl (.bin op x' y') e σ = some r) : SimOp P o a w G ρ r.1 r.2 := by
  have h1 := okOpd_rep hx he
  have h2 := okOpd_rep hy he
  generalize hu : a.eval x = u at h1
  generalize hv : a.eval y = v at h2
  simp only [ev] at h
  split at h
  · rename_i p q hp hq
    simp only [Option.map_eq_some_iff] at h
    obtain ⟨z, hz, rfl⟩ := h
    rw [hp] at h1
    rw [hq] at h2
    obtain ⟨⟨k, n, rfl⟩, k', m, rfl⟩ := binV_ints hz
    have r1 := rep_p h1
    have r2 := rep_p h2
    obtain ⟨r, hr, hr2⟩ := run_bin (P := P) (w := w) (t := t) hz r1 r2
    cases r1
    cases r2
    refine SimOp.quiet hs ?_ (.p _ _ hr2)
    simp only [execOp, ho, hu, hv, Sem.run_bind, run_eqGuard, Result.andThen_ok, hr, Sem.run_pure]
  · cases h
theorem run_equalB {t : TypeId} {p q : Bool} (hu : P.underlying t = some .bool) : (Op.equal t (.bool p) (.bool q)).run P w = .ok (p == q) w := by
  rw [Op.equal, show Op.maxDepth = 9999 + 1 from rfl, Op.equalIn, Sem.run_bind, run_underlying hu, Result.andThen_ok]
  rfl
theorem sim_beq {op : BinOp} {ne : Bool} {t t' : TypeId} {x y : Operand} {x' y' : Opd} {r : CV × Store} (hs : St w G ρ σ) (he : RepE w G ρ e a.tmps) (ho : o.op = .binOp op t x y t') (hx : okOpd x x' = true) (hy : okOpd y y' = true)
    (ht : isBoolT P t = true) (hop : beqOk op ne = true) (h : ev base sl (.beq ne x' y') e σ = some r) : SimOp P o a w G ρ r.1 r.2 := by
  have h1 := okOpd_rep hx he
  have h2 := okOpd_rep hy he
  generalize hu : a.eval x = u at h1
  generalize hv : a.eval y = v at h2
  simp only [ev] at h
  split at h
  · rename_i p q hp hq
    cases h
    rw [hp] at h1
    rw [hq] at h2
    have r1 := rep_bool h1
    have r2 := rep_bool h2
    subst r1 r2
    have hu' := isBool_spec ht
    refine SimOp.quiet (v := .bool (if ne = true then !(p == q) else p == q)) hs ?_ (.p _ _ (.bool _))
    simp only [execOp, ho, hu, hv, Sem.run_bind, run_eqGuardB, Result.andThen_ok, Sem.run_pure]
    cases op <;> cases ne <;> first
      | (cases hop; done)
      | (unfold binOp; simp only [Sem.run_bind, run_equalB hu', Result.andThen_ok, Sem.run_pure]; rfl)
  · cases h
theorem sim_un {op : UnOp} {t : TypeId} {x : Operand} {x' : Opd} {r : CV × Store} (hs : St w G ρ σ) (he : RepE w G ρ e a.tmps) (ho : o.op = .unOp op t x) (hx : okOpd x x' = true)
    (h : ev base sl (.un op x') e σ = some r) : SimOp P o a w G ρ r.1 r.2 := by
  have h1 := okOpd_rep hx he
  generalize hu : a.eval x = u at h1
  simp only [ev] at h
  split at h
  · rename_i p hp
    simp only [Option.map_eq_some_iff] at h
    obtain ⟨z, hz, rfl⟩ := h
    rw [hp] at h1
    have r1 := rep_p h1
    unfold unV at hz
    split at hz
    · cases hz
      cases r1
      exact SimOp.quiet hs (by simp [execOp, ho, hu, Op.unary, Op.intArith]) (.p _ _ (.int _ _))
    · cases hz
      cases r1
      exact SimOp.quiet hs (by simp [execOp, ho, hu, Op.unary]) (.p _ _ (.bool _))
    · cases hz
  · cases h
theorem sim_conv {s d : TypeId} {k : IntKind} {x : Operand} {x' : Opd} {r : CV × Store} (hs : St w G ρ σ) (he : RepE w G ρ e a.tmps) (ho : o.op = .convert s d x) (hx : okOpd x x' = true)
    (hsu : (P.underlying s).isSome = true) (hd : (intKindT P d == some k) = true) (h : ev base sl (.conv k x') e σ = some r) : SimOp P o a w G ρ r.1 r.2 := by
  have h1 := okOpd_rep hx he
  generalize hu : a.eval x = u at h1
  simp only [ev] at h
  split at h
  · rename_i n hn
    cases h
    obtain ⟨k', rfl, h2⟩ := rep_num hn h1
    obtain ⟨ds, hds⟩ := Option.isSome_iff_exists.1 hsu
    exact SimOp.quiet hs (by simp [execOp, ho, hu, convert, run_underlying hds, run_underlying (intKind_spec hd), Conv.intToInt]) (.p _ _ (.int _ _))
  · cases h
end
end Go.Proofs.Ytdpdnplljonppaa.Vpi

namespace Go.Proofs.Ytdpdnplljonppaa.Vpi
open Go
set_option linter.unusedVariables false
set_option linter.unusedSimpArgs false
set_option maxRecDepth 4000
section
variable {P : Program} {o : Oper} {w : World} {G : Nat → Prop} {ρ : List Loc} {σ : Store} {e : Env} {a : Act} {base : Nat} {sl : Option Nat}
theorem St.get {b : Nat} {x : Blk} (hs : St w G ρ σ) (h : σ[b]? = some x) : ∃ l, ρ[b]? = some l ∧ BlkOk w G ρ l x := by
  have hlt : b < ρ.length := by rw [hs.len]; exact get_lt h
  exact ⟨ρ[b], by simp, hs.ok b _ x (by simp) h⟩
theorem sim_load {agg : Bool} {sz : Nat} {t : TypeId} {x : Operand} {x' : Opd} {r : CV × Store} (hs : St w G ρ σ) (he : RepE w G ρ e a.tmps) (ho : o.op = .load t x) (hx : okOpd x x' = true)
    (ha : aggP P t = some agg) (hz : szP P t = some sz) (h : ev base sl (.load agg sz x') e σ = some r) : SimOp P o a w G ρ r.1 r.2 := by
  have h1 := okOpd_rep hx he
  generalize hu : a.eval x = u at h1
  have fin : ∀ {ad : Addr} {c : CV}, u = .pointer (some ad) → r = (c, σ) → (∃ v, (loadVar t ad).run P w = .ok v w ∧ RepC w G ρ c v) → SimOp P o a w G ρ r.1 r.2 := by
    rintro ad c rfl rfl ⟨v, hv, hc⟩
    exact SimOp.quiet hs (by simp [execOp, ho, hu, Instr.loadAt, Instr.sureAddr, hv]) hc
  simp only [ev] at h
  split at h
  · rename_i b i off hv
    rw [hv] at h1
    obtain ⟨ad, hue, hp⟩ := rep_ptr h1
    split at h
    · rename_i s es hb
      obtain ⟨l, hl, hok⟩ := hs.get hb
      split at h
      · rename_i x hxi
        simp only [Option.map_eq_some_iff] at h
        obtain ⟨y, hy, rfl⟩ := h
        cases l with
        | lv blk o' tot s' =>
          obtain ⟨rfl, _, arr, el, hh, rfl, hfit, hlen, hk⟩ := hok
          simp only [PtrOk, hl] at hp
          subst hp
          have hlt := get_lt hxi
          have hm : (i + 1) * s ≤ es.length * s := Nat.mul_le_mul_right _ hlt
          rw [Nat.succ_mul] at hm
          have := load_sub (P := P) (w := w) (G := G) ha hz hh (B := o' + i * s) (by rw [hlen i x hxi]; omega) (fun k c u hc hu => hk i x k c u hxi hc hu) hy
          obtain ⟨v, hv1, hv2⟩ := this
          exact fin hue rfl ⟨v, hv1, .p _ _ hv2⟩
        | det => simp only [BlkOk] at hok; subst hok; simp at hxi
        | dead => exact hok.elim
        | hole => exact hok.elim
      · cases h
    · rename_i s cs hb
      obtain ⟨l, hl, hok⟩ := hs.get hb
      simp only [Option.map_eq_some_iff] at h
      obtain ⟨y, hy, rfl⟩ := h
      cases l with
      | lv blk o' tot s' =>
        obtain ⟨rfl, _, arr, el, hh, rfl, hfit, hk⟩ := hok
        simp only [PtrOk, hl] at hp
        subst hp
        have := load_subC (P := P) (w := w) (G := G) (ρ := ρ) ha hz hh (B := o') hfit hk hy
        rw [← Nat.add_assoc] at this
        exact fin hue rfl this
      | det => exact hok.elim
      | dead => exact hok.elim
      | hole => exact hok.elim
    · cases h
  · rename_i x off hv
    rw [hv] at h1
    obtain ⟨blk, o', arr, el, fr, hue, hg, hh, hfit, hk⟩ := rep_rp h1
    simp only [Option.map_eq_some_iff] at h
    obtain ⟨y, hy, rfl⟩ := h
    obtain ⟨v, hv1, hv2⟩ := load_sub (P := P) (w := w) (G := G) ha hz hh hfit hk hy
    exact fin hue rfl ⟨v, hv1, .p _ _ hv2⟩
  · cases h
theorem sim_fieldA {off f : Nat} {t : TypeId} {x : Operand} {x' : Opd} {r : CV × Store} (hs : St w G ρ σ) (he : RepE w G ρ e a.tmps) (ho : o.op = .fieldAddr t x f) (hx : okOpd x x' = true)
    {fs : Array Field} {fd : Field} {n : Nat} (ht : P.underlying t = some (.struct fs)) (hf : fs[f]? = some fd) (hoff : fd.offset = off) (hn : szP P fd.type = some n) (hn0 : n ≠ 0)
    (h : ev base sl (.fieldA off x') e σ = some r) : SimOp P o a w G ρ r.1 r.2 := by
  have h1 := okOpd_rep hx he
  generalize hu : a.eval x = u at h1
  have run : ∀ ad : Addr, u = .pointer (some ad) → (execOp a.eval o).run P w = .ok (.value (.pointer (some (ad.add off)))) w := by
    rintro ad rfl
    simp [execOp, ho, hu, Instr.fieldAt, run_underlying ht, hf, Instr.sureAddr, fieldPlace, run_sizeOf hn, hn0, hoff]
  simp only [ev] at h
  split at h
  · rename_i b i o' hv
    cases h
    rw [hv] at h1
    obtain ⟨ad, rfl, hp⟩ := rep_ptr h1
    refine SimOp.quiet hs (run ad rfl) (.ptr _ _ _ _ ?_)
    unfold PtrOk at hp ⊢
    split at hp
    · subst hp; rw [add_at]; simp [Nat.add_assoc]
    · trivial
    · trivial
    · exact hp.elim
  · rename_i y o' hv
    cases h
    rw [hv] at h1
    obtain ⟨blk, o2, arr, el, fr, rfl, hg, hh, hfit, hk⟩ := rep_rp h1
    refine SimOp.quiet hs (run _ rfl) ?_
    rw [add_at, Nat.add_assoc]
    exact .rp y (o' + off) blk o2 arr el fr hg hh hfit hk
  · cases h
theorem part_run {agg : Bool} {t : TypeId} {sz off : Nat} {vs : Array Value} {v : Value} (ha : aggP P t = some agg) (hz : szP P t = some sz)
    (h : (agg = true ∧ v = .agg (vs.extract off (off + sz))) ∨ (agg = false ∧ vs[off]? = some v)) : (part t vs off).run P w = .ok v w := by
  rcases h with ⟨rfl, rfl⟩ | ⟨rfl, h⟩
  · simp [part, run_isAgg ha, run_sizeOf hz]
  · simp [part, run_isAgg ha, h]
theorem sim_field {agg : Bool} {off sz f : Nat} {t : TypeId} {x : Operand} {x' : Opd} {r : CV × Store} (hs : St w G ρ σ) (he : RepE w G ρ e a.tmps) (ho : o.op = .field t x f) (hx : okOpd x x' = true)
    {fs : Array Field} {fd : Field} (ht : P.underlying t = some (.struct fs)) (hf : fs[f]? = some fd) (hoff : fd.offset = off) (hz : szP P fd.type = some sz) (ha : aggP P fd.type = some agg)
    (h : ev base sl (.field agg off sz x') e σ = some r) : SimOp P o a w G ρ r.1 r.2 := by
  have h1 := okOpd_rep hx he
  generalize hu : a.eval x = u at h1
  have run : ∀ (vs : Array Value) (v : Value), u = .agg vs → (part fd.type vs off).run P w = .ok v w → (execOp a.eval o).run P w = .ok (.value v) w := by
    rintro vs v rfl hp
    simp [execOp, ho, hu, Instr.field, run_underlying ht, hf, asAgg, hoff, hp]
  simp only [ev] at h
  split at h
  · rename_i cs hv
    rw [hv] at h1
    obtain ⟨vs, rfl, hl, hk, h1c⟩ := rep_pagg (rep_p h1)
    simp only [Option.map_eq_some_iff] at h
    obtain ⟨y, hy, rfl⟩ := h
    cases agg with
    | true =>
      simp only [subPV] at hy
      split at hy
      · rename_i hle
        cases hy
        refine SimOp.quiet hs (run _ _ rfl (part_run ha hz (.inl ⟨rfl, rfl⟩))) ?_
        rw [show vs.toArray.extract off (off + sz) = ((vs.drop off).take sz).toArray by simp]
        refine .p _ _ (.agg _ _ (by simp; omega) ?_ fun v hv' => h1c v (List.mem_of_mem_drop (List.mem_of_mem_take hv')))
        intro k c v hc hv'
        rw [List.getElem?_take] at hc hv'
        by_cases hks : k < sz
        · rw [if_pos hks, List.getElem?_drop] at hc hv'
          exact hk (off + k) c v hc hv'
        · rw [if_neg hks] at hc; cases hc
      · cases hy
    | false =>
      simp only [subPV, PV.cells] at hy
      have hlt := get_lt hy
      refine SimOp.quiet (v := vs[off]'(by omega)) hs (run _ _ rfl (part_run ha hz (.inr ⟨rfl, by simp⟩))) ?_
      exact .p _ _ (hk off y _ hy (by simp))
  · rename_i cs hv
    rw [hv] at h1
    obtain ⟨vs, rfl, hl, hk, h1c⟩ := rep_agg h1
    simp only [Option.map_eq_some_iff] at h
    obtain ⟨y, hy, rfl⟩ := h
    unfold subCV at hy
    split at hy
    · split at hy
      · rename_i hle
        cases hy
        refine SimOp.quiet hs (run _ _ rfl (part_run ha hz (.inl ⟨rfl, rfl⟩))) ?_
        rw [show vs.toArray.extract off (off + sz) = ((vs.drop off).take sz).toArray by simp]
        refine mkAgg_rep (by simp; omega) ?_ fun v hv' => h1c v (List.mem_of_mem_drop (List.mem_of_mem_take hv'))
        intro k c v hc hv'
        rw [List.getElem?_take] at hc hv'
        by_cases hks : k < sz
        · rw [if_pos hks, List.getElem?_drop] at hc hv'
          exact hk (off + k) c v hc hv'
        · rw [if_neg hks] at hc; cases hc
      · cases hy
    · have hlt := get_lt hy
      refine SimOp.quiet (v := vs[off]'(by omega)) hs (run _ _ rfl (part_run ha hz (.inr ⟨rfl, by simp⟩))) ?_
      exact hk off y _ hy (by simp)
  · cases h
theorem bsz_spec {b s : Nat} (hs : St w G ρ σ) (h : bsz σ b = some s) : ∃ l, ρ[b]? = some l ∧ ((∃ blk o tot, l = .lv blk o tot s) ∨ l = .det) := by
  unfold bsz at h
  split at h
  · rename_i s' es hb
    cases h
    obtain ⟨l, hl, hok⟩ := hs.get hb
    cases l with
    | lv blk o' tot s' => obtain ⟨rfl, _⟩ := hok; exact ⟨_, hl, .inl ⟨blk, o', tot, rfl⟩⟩
    | det => exact ⟨_, hl, .inr rfl⟩
    | dead => exact hok.elim
    | hole => exact hok.elim
  · rename_i s' es hb
    cases h
    obtain ⟨l, hl, hok⟩ := hs.get hb
    cases l with
    | lv blk o' tot s' => obtain ⟨rfl, _⟩ := hok; exact ⟨_, hl, .inl ⟨blk, o', tot, rfl⟩⟩
    | det => exact hok.elim
    | dead => exact hok.elim
    | hole => exact hok.elim
  · cases h
theorem sim_indexA {sz : Nat} {t el : TypeId} {x i : Operand} {x' i' : Opd} {r : CV × Store} (hs : St w G ρ σ) (he : RepE w G ρ e a.tmps) (ho : o.op = .indexAddr t x i) (hx : okOpd x x' = true) (hi : okOpd i i' = true)
    (ht : P.underlying t = some (.slice el)) (hz : szP P el = some sz) (h : ev base sl (.indexA sz x' i') e σ = some r) : SimOp P o a w G ρ r.1 r.2 := by
  have h1 := okOpd_rep hx he
  have h2 := okOpd_rep hi he
  generalize hu : a.eval x = u at h1
  generalize hv : a.eval i = v at h2
  have run : ∀ (ad : Addr) (n c : Nat) (k : IntKind) (j : Int), u = .slice (some ad) n c → v = .int k j → 0 ≤ j → j.toNat < n → (execOp a.eval o).run P w = .ok (.value (.pointer (some (ad.add (j.toNat * sz))))) w := by
    rintro ad n c k j rfl rfl h0 hlt
    have hc : 0 ≤ j ∧ j < (n : Int) := ⟨h0, by omega⟩
    simp [execOp, ho, hu, hv, Instr.indexAt, run_underlying ht, asIntOf, hc, run_sizeOf hz]
  simp only [ev] at h
  split at h
  · rename_i j hj
    obtain ⟨k, rfl, _⟩ := rep_num hj h2
    split at h
    · rename_i h0
      split at h
      · rename_i es hv'
        split at h
        · rename_i y hy
          split at h
          · rename_i hcell
            cases h
            rw [hv'] at h1
            obtain ⟨ad, cap, rfl, hc, hcase⟩ := rep_sl (rep_p h1)
            have hlt := get_lt hy
            rcases hcase with rfl | ⟨blk, off, arr, el', fr, s, rfl, hg, hh, hfit, hlen, hk⟩
            · simp at hlt
            have hsz : s = sz := by rw [← hlen _ y hy, hcell]
            subst hsz
            refine SimOp.quiet hs (run _ _ _ _ _ rfl rfl h0 hlt) ?_
            rw [add_at]
            have hm : (j.toNat + 1) * s ≤ es.length * s := Nat.mul_le_mul_right _ hlt
            rw [Nat.succ_mul] at hm
            exact .rp y 0 blk (off + j.toNat * s) arr el' fr hg hh (by rw [hcell]; omega) fun k c u hc hu => hk j.toNat y k c u hy hc hu
          · cases h
        · cases h
      · rename_i b off n hv'
        split at h
        · rename_i hlt
          cases h
          rw [hv'] at h1
          obtain ⟨ad, cap, rfl, hc, hok⟩ := rep_own h1
          obtain ⟨l, hl, hcase⟩ := bsz_spec hs hlt.2
          simp only [OwnOk, hl] at hok
          rcases hcase with ⟨blk, o', tot, rfl⟩ | rfl
          · rcases hok with rfl | ⟨rfl, hfit⟩
            · omega
            · refine SimOp.quiet hs (run _ _ _ _ _ rfl rfl h0 hlt.1) (.ptr _ _ _ _ ?_)
              simp only [PtrOk, hl]
              rw [add_at]
              simp [Nat.add_mul, Nat.add_assoc]
          · simp only at hok; omega
        · cases h
      · cases h
    · cases h
  · cases h
theorem slice_spec {c : CV} {n : Nat} {v : Value} (h : lenV c = some n) (hr : RepC w G ρ c v) : ∃ ad cap, v = .slice ad n cap ∧ n ≤ cap := by
  unfold lenV at h
  split at h
  · cases h; obtain ⟨ad, cap, he, hc, _⟩ := rep_sl (rep_p hr); exact ⟨ad, cap, he, hc⟩
  · cases h; obtain ⟨ad, cap, he, hc, _⟩ := rep_own hr; exact ⟨ad, cap, he, hc⟩
  · cases h; have := rep_nils hr; exact ⟨none, 0, this, Nat.le_refl _⟩
  · cases h
theorem sim_len {t : TypeId} {x : Operand} {x' : Opd} {r : CV × Store} (hs : St w G ρ σ) (he : RepE w G ρ e a.tmps) (ho : ∃ c : Call, o.op = .call c ∧ c.callee = .builtin .len ∧ c.args = #[x] ∧ c.argTypes = #[t]) (hx : okOpd x x' = true)
    (ht : (sliceElem P t).isSome = true) (h : ev base sl (.len x') e σ = some r) : SimOp P o a w G ρ r.1 r.2 := by
  obtain ⟨el, hel⟩ := Option.isSome_iff_exists.1 ht
  have hu' : P.underlying t = some (.slice el) := by
    unfold sliceElem at hel; split at hel
    · rename_i h2; cases hel; exact h2
    · cases hel
  have h1 := okOpd_rep hx he
  generalize hu : a.eval x = u at h1
  obtain ⟨c, ho, hc1, hc2, hc3⟩ := ho
  simp only [ev, Option.map_eq_some_iff] at h
  obtain ⟨n, hn, rfl⟩ := h
  obtain ⟨ad, cap, rfl, hcap⟩ := slice_spec hn h1
  refine SimOp.quiet (v := .int .i64 n) hs ?_ (.p _ _ (.int _ _))
  simp [execOp, ho, resolve, hc1, hc2, hc3, hu, invoke, builtin, Builtin.len_, run_underlying hu', goInt]
theorem sim_mx {x y : Operand} {x' y' : Opd} {r : CV × Store} (hs : St w G ρ σ) (he : RepE w G ρ e a.tmps) (ho : ∃ c : Call, o.op = .call c ∧ c.callee = .builtin .max ∧ c.args = #[x, y]) (hx : okOpd x x' = true) (hy : okOpd y y' = true)
    (h : ev base sl (.mx x' y') e σ = some r) : SimOp P o a w G ρ r.1 r.2 := by
  have h1 := okOpd_rep hx he
  have h2 := okOpd_rep hy he
  generalize hu : a.eval x = u at h1
  generalize hv : a.eval y = v at h2
  obtain ⟨c, ho, hc1, hc2⟩ := ho
  simp only [ev] at h
  split at h
  · rename_i k p k' q hp hq
    cases h
    rw [hp] at h1
    rw [hq] at h2
    have r1 := rep_p h1
    have r2 := rep_p h2
    cases r1
    cases r2
    refine SimOp.quiet hs (by simp [execOp, ho, resolve, hc1, hc2, hu, hv, invoke, builtin, Builtin.max_, Builtin.max2]) (.p _ _ (.int _ _))
  · cases h
theorem sim_mn {x y : Operand} {x' y' : Opd} {r : CV × Store} (hs : St w G ρ σ) (he : RepE w G ρ e a.tmps) (ho : ∃ c : Call, o.op = .call c ∧ c.callee = .builtin .min ∧ c.args = #[x, y]) (hx : okOpd x x' = true) (hy : okOpd y y' = true)
    (h : ev base sl (.mn x' y') e σ = some r) : SimOp P o a w G ρ r.1 r.2 := by
  have h1 := okOpd_rep hx he
  have h2 := okOpd_rep hy he
  generalize hu : a.eval x = u at h1
  generalize hv : a.eval y = v at h2
  obtain ⟨c, ho, hc1, hc2⟩ := ho
  simp only [ev] at h
  split at h
  · rename_i k p k' q hp hq
    cases h
    rw [hp] at h1
    rw [hq] at h2
    have r1 := rep_p h1
    have r2 := rep_p h2
    cases r1
    cases r2
    refine SimOp.quiet hs (by simp [execOp, ho, resolve, hc1, hc2, hu, hv, invoke, builtin, Builtin.min_, Builtin.min2]) (.p _ _ (.int _ _))
  · cases h
theorem sim_extract {i : Nat} {x : Operand} {x' : Opd} {r : CV × Store} (hs : St w G ρ σ) (he : RepE w G ρ e a.tmps) (ho : o.op = .extract x i) (hx : okOpd x x' = true) (h : ev base sl (.extract x' i) e σ = some r) : SimOp P o a w G ρ r.1 r.2 := by
  have h1 := okOpd_rep hx he
  generalize hu : a.eval x = u at h1
  simp only [ev] at h
  split at h
  · rename_i cs hv
    rw [hv] at h1
    obtain ⟨vs, rfl, hl, hk⟩ := rep_tup h1
    simp only [Option.map_eq_some_iff] at h
    obtain ⟨y, hy, rfl⟩ := h
    have hlt := get_lt hy
    have hvi : vs[i]? = some (vs[i]'(by omega)) := by simp
    exact SimOp.quiet hs (by simp [execOp, ho, hu, Instr.extract, hvi]) (hk i y _ hy hvi)
  · cases h
theorem sim_idx {tab : List Nat} {t : TypeId} {s : ByteArray} {x : Operand} {x' : Opd} {r : CV × Store} (hs : St w G ρ σ) (he : RepE w G ρ e a.tmps) (ho : o.op = .index t (.const (.string s)) x) (hx : okOpd x x' = true) (ht : isStrT P t = true)
    (htab : s.data.toList.map (·.toNat) = tab) (h : ev base sl (.idx tab x') e σ = some r) : SimOp P o a w G ρ r.1 r.2 := by
  have h1 := okOpd_rep hx he
  have hu : P.underlying t = some .string := by
    unfold isStrT at ht; split at ht
    · assumption
    · cases ht
  simp only [ev] at h
  split at h
  · rename_i i hi
    obtain ⟨k, hk, _⟩ := rep_num hi h1
    split at h
    · rename_i h0
      split at h
      · rename_i v hv
        cases h
        have hlt : i.toNat < s.size := by
          have := get_lt hv
          rw [← htab] at this
          rw [List.length_map, Array.length_toList] at this
          exact this
        have hval : (s[i.toNat]'hlt).toNat = v := by
          rw [← htab, List.getElem?_map] at hv
          have h2 : s.data.toList[i.toNat]? = some (s[i.toNat]'hlt) := by
            rw [List.getElem?_eq_getElem (by rw [Array.length_toList]; exact hlt)]; rfl
          rw [h2] at hv
          simpa using hv
        refine SimOp.quiet (v := .int .u8 v) hs ?_ (.p _ _ (.int _ _))
        have hcond : 0 ≤ i ∧ i < s.size := ⟨h0, by omega⟩
        have := run_index_string w t s k i hu
        rw [dif_pos hcond, hval] at this
        have hc : a.eval (.const (.string s)) = .string s := rfl
        simp only [execOp, ho, hc, hk, Sem.run_bind, this, Result.andThen_ok, Sem.run_pure]
      · cases h
    · cases h
  · cases h
theorem okOpds_rep : ∀ {xs : List Operand} {ys : List Opd}, okOpds xs ys = true → RepE w G ρ e a.tmps → ys.length = xs.length ∧ ∀ (k : Nat) c v, (ys.map (vl e))[k]? = some c → (xs.map a.eval)[k]? = some v → RepC w G ρ c v
  | [], [], _, _ => ⟨rfl, by simp⟩
  | x :: xs, y :: ys, h, he => by
    simp only [okOpds, Bool.and_eq_true] at h
    obtain ⟨h1, h2⟩ := okOpds_rep h.2 he
    refine ⟨by simp [h1], ?_⟩
    intro k c v hc hv
    cases k with
    | zero => simp at hc hv; subst hc hv; exact okOpd_rep h.1 he
    | succ k => exact h2 k c v (by simpa using hc) (by simpa using hv)
  | [], _ :: _, h, _ => by simp [okOpds] at h
  | _ :: _, [], h, _ => by simp [okOpds] at h
theorem sim_mkfn {f : Nat} {fi cap : Array Operand} {cs : List Opd} {r : CV × Store} (hs : St w G ρ σ) (he : RepE w G ρ e a.tmps) (ho : o.op = .makeFunc (.func f) fi cap) (hfi : fi.size = 0) (hc : okOpds cap.toList cs = true)
    (h : ev base sl (.mkfn f cs) e σ = some r) : SimOp P o a w G ρ r.1 r.2 := by
  simp only [ev] at h
  cases h
  obtain ⟨h1, h2⟩ := okOpds_rep hc he
  have hfi' : fi = #[] := by simpa using hfi
  refine SimOp.quiet (v := .func (.func f) #[] (cap.toList.map a.eval).toArray) hs ?_ (.fn f _ _ (by simp [h1]) h2)
  have hcap : cap.map a.eval = (cap.toList.map a.eval).toArray := by cases cap; simp
  simp [execOp, ho, Instr.makeFunc, hfi', hcap]
theorem run_slice_all {t el : TypeId} {sz : Nat} (hu : P.underlying t = some (.slice el)) (hz : szP P el = some sz) (ad : Option Addr) (n cap : Nat) (lo hi mx : Option Value) (l h m : Nat)
    (hlo : lo = none ∧ l = 0 ∨ ∃ k i, lo = some (.int k i) ∧ 0 ≤ i ∧ i.toNat = l) (hhi : hi = none ∧ h = n ∧ mx = none ∨ ∃ k i, hi = some (.int k i) ∧ 0 ≤ i ∧ i.toNat = h)
    (hmx : mx = none ∧ m = cap ∨ ∃ k i, mx = some (.int k i) ∧ 0 ≤ i ∧ i.toNat = m) (h1 : l ≤ h) (h2 : h ≤ m) (h3 : m ≤ cap) :
    (Instr.sliceAt t (.slice ad n cap) lo hi mx).run P w = .ok (.slice (if m = l then ad else ad.map (·.add (l * sz))) (h - l) (m - l)) w := by
  have b : ∀ (k : IntKind) (i : Int) (y x : Nat) (code : BoundsCode), 0 ≤ i → i.toNat = x → x ≤ y → (Instr.sliceBound (.int k i) y code).run P w = .ok x w := by
    rintro k i y x code h0 rfl hle
    have hc : 0 ≤ i ∧ i ≤ (y : Int) := ⟨h0, by omega⟩
    simp [Instr.sliceBound, asIntOf, hc]
  rcases hmx with ⟨rfl, rfl⟩ | ⟨k3, i3, rfl, hi3, hm⟩
  · rcases hhi with ⟨rfl, rfl, _⟩ | ⟨k2, i2, rfl, hi2, hh⟩
    · rcases hlo with ⟨rfl, rfl⟩ | ⟨k1, i1, rfl, hi1, hl⟩
      · simp [Instr.sliceAt, Instr.slice, Instr.sliceBounds, run_underlying hu, run_sizeOf hz]
      · simp [Instr.sliceAt, Instr.slice, Instr.sliceBounds, run_underlying hu, run_sizeOf hz, b _ _ _ _ _ hi1 hl h1]
    · rcases hlo with ⟨rfl, rfl⟩ | ⟨k1, i1, rfl, hi1, hl⟩
      · simp [Instr.sliceAt, Instr.slice, Instr.sliceBounds, run_underlying hu, run_sizeOf hz, b _ _ _ _ _ hi2 hh h2]
      · simp [Instr.sliceAt, Instr.slice, Instr.sliceBounds, run_underlying hu, run_sizeOf hz, b _ _ _ _ _ hi2 hh h2, b _ _ _ _ _ hi1 hl h1]
  · rcases hhi with ⟨_, _, hx⟩ | ⟨k2, i2, rfl, hi2, hh⟩
    · cases hx
    · rcases hlo with ⟨rfl, rfl⟩ | ⟨k1, i1, rfl, hi1, hl⟩
      · simp [Instr.sliceAt, Instr.slice, Instr.sliceBounds, run_underlying hu, run_sizeOf hz, b _ _ _ _ _ hi3 hm h3, b _ _ _ _ _ hi2 hh h2]
      · simp [Instr.sliceAt, Instr.slice, Instr.sliceBounds, run_underlying hu, run_sizeOf hz, b _ _ _ _ _ hi3 hm h3, b _ _ _ _ _ hi2 hh h2, b _ _ _ _ _ hi1 hl h1]
theorem sliceV_rep {c d : CV} {sz n l h m : Nat} {ad : Option Addr} {cap : Nat} (hs : St w G ρ σ) (hv : sliceV σ sz c l h = some d) (hr : RepC w G ρ c (.slice ad n cap)) (hm1 : h ≤ m) (hm2 : m ≤ cap) (_hn : n ≤ cap) :
    RepC w G ρ d (.slice (if m = l then ad else ad.map (·.add (l * sz))) (h - l) (m - l)) := by
  unfold sliceV at hv
  split at hv
  · rename_i hlh
    split at hv
    · rename_i es
      split at hv
      · rename_i hc
        cases hv
        obtain ⟨ad', cap', he, hcap, hcase⟩ := rep_sl (rep_p hr)
        cases he
        by_cases hz : h - l = 0
        · have : (es.drop l).take (h - l) = [] := by rw [hz]; rfl
          rw [this, hz]
          exact .p _ _ (.nil _ _)
        · rcases hcase with rfl | ⟨blk, off, arr, el, fr, s, rfl, hg, hh, hfit, hlen, hk⟩
          · simp at hc; omega
          · have hml : ¬ m = l := by omega
            rw [if_neg hml]
            simp only [Option.map_some]
            rw [add_at]
            have hoff : l * sz = l * s := by
              rcases hc.2 with rfl | hall
              · simp
              · have h0 : es[0]? = some (es[0]'(by omega)) := by simp
                have e1 := hlen 0 _ h0
                have e2 : (es[0]'(by omega)).cells.length = sz := by simpa using List.all_eq_true.1 hall _ (List.getElem_mem (by omega))
                rw [← e1, e2]
            rw [hoff]
            have hlen2 : ((es.drop l).take (h - l)).length = h - l := by simp; omega
            have hmul : l * s + (h - l) * s ≤ es.length * s := by rw [← Nat.add_mul]; exact Nat.mul_le_mul_right _ (by omega)
            have := RepP.sl (w := w) (G := G) ((es.drop l).take (h - l)) blk (off + l * s) arr el fr (m - l) s hg hh (by rw [hlen2]; omega) (by rw [hlen2]; omega)
              (by
                intro i e he
                rw [List.getElem?_take] at he
                split at he
                · rw [List.getElem?_drop] at he; exact hlen _ _ he
                · cases he)
              (by
                intro i e k c u he hc hu
                rw [List.getElem?_take] at he
                split at he
                · rw [List.getElem?_drop] at he
                  exact (hk (l + i) e k c u he hc (by rw [Nat.add_mul]; rw [show off + (l * s + i * s) + k = off + l * s + i * s + k by omega]; exact hu)).1
                · cases he)
              (by
                intro i e k u he hks hu
                rw [List.getElem?_take] at he
                split at he
                · rw [List.getElem?_drop] at he
                  have hcl := hlen _ _ he
                  exact (hk (l + i) e k (e.cells[k]'(by omega)) u he (by simp) (by rw [Nat.add_mul]; rw [show off + (l * s + i * s) + k = off + l * s + i * s + k by omega]; exact hu)).2
                · cases he)
            rw [hlen2] at this
            exact .p _ _ this
      · cases hv
    · rename_i b off n'
      split at hv
      · rename_i hc
        cases hv
        obtain ⟨ad', cap', he, hcap, hok⟩ := rep_own hr
        cases he
        obtain ⟨loc, hloc, hcase⟩ := bsz_spec hs hc.2
        refine .own _ _ _ _ _ (by omega) ?_
        simp only [OwnOk, hloc] at hok ⊢
        rcases hcase with ⟨blk, o', tot, rfl⟩ | rfl
        · simp only at hok ⊢
          by_cases hml : m = l
          · left; omega
          · right
            rcases hok with rfl | ⟨rfl, hfit⟩
            · omega
            · rw [if_neg hml]
              simp only [Option.map_some]
              rw [add_at]
              refine ⟨by simp [Nat.add_mul, Nat.add_assoc], ?_⟩
              have : (off + l + (m - l)) * sz ≤ (off + cap) * sz := Nat.mul_le_mul_right _ (by omega)
              omega
        · simp only at hok ⊢; omega
      · cases hv
    · split at hv
      · rename_i hc
        cases hv
        have := rep_nils hr
        cases this
        have : m = l := by omega
        subst this
        have : h = 0 := by omega
        subst this
        simp only [if_true]
        have h2 : m = 0 := by omega
        subst h2
        exact .nils
      · cases hv
    · cases hv
  · cases hv
theorem sliceV_le {c d : CV} {sz n l h : Nat} (hv : sliceV σ sz c l h = some d) (hn : lenV c = some n) : h ≤ n := by
  unfold sliceV at hv
  unfold lenV at hn
  split at hv
  · split at hv
    · simp only at hn
      cases hn
      split at hv
      · omega
      · cases hv
    · simp only at hn
      cases hn
      split at hv
      · omega
      · cases hv
    · split at hv
      · omega
      · cases hv
    · cases hv
  · cases hv
theorem bnd_spec {x : Option Operand} {x' : Option Opd} {d n : Nat} (he : RepE w G ρ e a.tmps) (hx : okOpt x x' = true) (h : bnd e x' d = some n) :
    (x.map a.eval = none ∧ x' = none ∧ n = d) ∨ ∃ k i, x.map a.eval = some (.int k i) ∧ 0 ≤ i ∧ i.toNat = n := by
  unfold okOpt at hx
  split at hx
  · simp only [bnd] at h; cases h; exact .inl ⟨rfl, rfl, rfl⟩
  · rename_i x y
    simp only [bnd] at h
    split at h
    · rename_i i hi
      split at h
      · rename_i h0
        cases h
        obtain ⟨k, hk, _⟩ := rep_num hi (okOpd_rep hx he)
        exact .inr ⟨k, i, by simp [hk], h0, rfl⟩
      · cases h
    · cases h
  · cases hx
theorem sim_slice {sz : Nat} {t el : TypeId} {x : Operand} {lo hi mx : Option Operand} {x' : Opd} {lo' hi' mx' : Option Opd} {r : CV × Store} (hs : St w G ρ σ) (he : RepE w G ρ e a.tmps) (ho : o.op = .slice t x lo hi mx)
    (hx : okOpd x x' = true) (hlo : okOpt lo lo' = true) (hhi : okOpt hi hi' = true) (hmx : okOpt mx mx' = true) (hmh : (mx.isNone || hi.isSome) = true)
    (ht : P.underlying t = some (.slice el)) (hz : szP P el = some sz) (h : ev base sl (.slice sz x' lo' hi' mx') e σ = some r) : SimOp P o a w G ρ r.1 r.2 := by
  have h1 := okOpd_rep hx he
  generalize hu : a.eval x = u at h1
  simp only [ev] at h
  split at h
  · rename_i n hn
    obtain ⟨ad, cap, rfl, hcap⟩ := slice_spec hn h1
    split at h
    · rename_i l hh hl' hh'
      have bl := bnd_spec he hlo hl'
      have bh := bnd_spec he hhi hh'
      have hlo2 : lo.map a.eval = none ∧ l = 0 ∨ ∃ k i, lo.map a.eval = some (.int k i) ∧ 0 ≤ i ∧ i.toNat = l := by
        rcases bl with ⟨x1, _, x2⟩ | x1
        · exact .inl ⟨x1, x2⟩
        · exact .inr x1
      have fin : ∀ (m : Nat) (d : CV), sliceV σ sz (vl e x') l hh = some d → r = (d, σ) → hh ≤ m → m ≤ cap → (mx.map a.eval = none ∧ m = cap ∨ ∃ k i, mx.map a.eval = some (.int k i) ∧ 0 ≤ i ∧ i.toNat = m) → SimOp P o a w G ρ r.1 r.2 := by
        rintro m d hd rfl hm1 hm2 hmm
        have hlh : l ≤ hh := by
          unfold sliceV at hd
          split at hd
          · assumption
          · cases hd
        have hhi2 : hi.map a.eval = none ∧ hh = n ∧ mx.map a.eval = none ∨ ∃ k i, hi.map a.eval = some (.int k i) ∧ 0 ≤ i ∧ i.toNat = hh := by
          rcases bh with ⟨x1, _, x2⟩ | x1
          · refine .inl ⟨x1, x2, ?_⟩
            cases mx with
            | none => rfl
            | some y => cases hi with
              | none => simp at hmh
              | some z => simp at x1
          · exact .inr x1
        have hrun := run_slice_all (P := P) (w := w) ht hz ad n cap (lo.map a.eval) (hi.map a.eval) (mx.map a.eval) l hh m hlo2 hhi2 hmm hlh hm1 hm2
        refine SimOp.quiet hs ?_ (sliceV_rep hs hd h1 hm1 hm2 hcap)
        simp only [execOp, ho, hu, Sem.run_bind, hrun, Result.andThen_ok, Sem.run_pure]
      cases hmx0 : mx' with
      | none =>
        rw [hmx0] at h
        simp only [Option.map_eq_some_iff] at h
        obtain ⟨d, hd, rfl⟩ := h
        have hle : hh ≤ cap := Nat.le_trans (sliceV_le hd hn) hcap
        refine fin cap d hd rfl hle (Nat.le_refl _) (.inl ⟨?_, rfl⟩)
        rw [hmx0] at hmx
        cases mx with
        | none => rfl
        | some y => simp [okOpt] at hmx
      | some y =>
        rw [hmx0] at h
        simp only at h
        split at h
        · rename_i m hm
          split at h
          · rename_i hc
            simp only [Option.map_eq_some_iff] at h
            obtain ⟨d, hd, rfl⟩ := h
            refine fin m.toNat d hd rfl hc.2.1 (by omega) (.inr ?_)
            rw [hmx0] at hmx
            cases mx with
            | none => simp [okOpt] at hmx
            | some z =>
              obtain ⟨k, hk, _⟩ := rep_num hm (okOpd_rep hmx he)
              exact ⟨k, m, by simp [hk], hc.1, rfl⟩
          · cases h
        · cases h
    · cases h
  · cases h
end
end Go.Proofs.Ytdpdnplljonppaa.Vpi

namespace Go.Proofs.Ytdpdnplljonppaa.Vpi
open Go
set_option linter.unusedVariables false
set_option linter.unusedSimpArgs false
section
variable {P : Program} {o : Oper} {w : World} {G : Nat → Prop} {ρ : List Loc} {σ : Store} {e : Env} {a : Act} {base : Nat} {sl : Option Nat}
theorem run_places : ∀ (fs : List Field), (∀ f ∈ fs, (szP P f.type).isSome = true) →
    (fs.mapM fun f => (do pure (f.offset, ← sizeOf f.type) : Sem (Nat × Nat))).run P w = .ok (fs.map fun f => (f.offset, (szP P f.type).getD 0)) w
  | [], _ => by simp
  | f :: fs, h => by
    obtain ⟨n, hn⟩ := Option.isSome_iff_exists.1 (h f (by simp))
    have ih := run_places fs fun g hg => h g (by simp [hg])
    rw [List.mapM_cons]
    simp only [Sem.run_bind, run_sizeOf hn, Result.andThen_ok, Sem.run_pure, ih, List.map_cons, hn, Option.getD_some]
theorem foldl_set : ∀ (vs : List Value) (k off : Nat) (arr : Array Value) (i : Nat),
    ((vs.zipIdx k).foldl (fun cs (x : Value × Nat) => cs.setIfInBounds (off + x.2) x.1) arr)[i]? = if off + k ≤ i ∧ i < off + k + vs.length ∧ i < arr.size then vs[i - (off + k)]? else arr[i]?
  | [], k, off, arr, i => by
    rw [if_neg (by simp; omega)]; rfl
  | v :: vs, k, off, arr, i => by
    rw [List.zipIdx_cons, List.foldl_cons, foldl_set vs (k + 1) off (arr.setIfInBounds (off + k) v) i]
    simp only [Array.size_setIfInBounds, List.length_cons]
    by_cases h1 : i = off + k
    · subst h1
      rw [if_neg (by omega)]
      by_cases h2 : off + k < arr.size
      · rw [if_pos (by omega)]; simp [h2]
      · rw [if_neg (by omega)]; simp [h2]
    · rw [Array.getElem?_setIfInBounds_ne (fun x => h1 x.symm)]
      by_cases h2 : off + k ≤ i ∧ i < off + k + (vs.length + 1) ∧ i < arr.size
      · rw [if_pos h2, if_pos (by omega)]
        rw [show i - (off + k) = (i - (off + (k + 1))) + 1 by omega, List.getElem?_cons_succ]
      · rw [if_neg h2, if_neg (by omega)]
structure CellsRep (w : World) (G : Nat → Prop) (ρ : List Loc) (cs : List CV) (vs : Array Value) : Prop where
  len : cs.length = vs.size
  rep : ∀ (k : Nat) c v, cs[k]? = some c → vs[k]? = some v → RepC w G ρ c v
  one : ∀ v ∈ vs, v.oneCell' = true
theorem setCells_get {α : Type} (cs xs : List α) (off i : Nat) (h : off + xs.length ≤ cs.length) : (setCells cs off xs)[i]? = if off ≤ i ∧ i < off + xs.length then xs[i - off]? else cs[i]? := by
  unfold setCells
  rcases Nat.lt_or_ge i off with h1 | h1
  · rw [if_neg (by omega), List.append_assoc, List.getElem?_append_left (by simp; omega), List.getElem?_take, if_pos h1]
  · rcases Nat.lt_or_ge i (off + xs.length) with h2 | h2
    · rw [if_pos ⟨h1, h2⟩, List.getElem?_append_left (by simp; omega), List.getElem?_append_right (by simp; omega)]
      congr 1; simp; omega
    · rw [if_neg (by omega), List.getElem?_append_right (by simp; omega), List.getElem?_drop]
      congr 1; simp; omega
theorem setCells_len {α : Type} (cs xs : List α) (off : Nat) (h : off + xs.length ≤ cs.length) : (setCells cs off xs).length = cs.length := by
  unfold setCells; simp; omega
theorem CellsRep.set {cs xs : List CV} {vs us : Array Value} {off : Nat} (h : CellsRep w G ρ cs vs) (hx : CellsRep w G ρ xs us) (hf : off + xs.length ≤ cs.length) :
    CellsRep w G ρ (setCells cs off xs) (us.zipIdx.foldl (fun cs (x : Value × Nat) => cs.setIfInBounds (off + x.2) x.1) vs) := by
  have hg : ∀ i : Nat, (us.zipIdx.foldl (fun cs (x : Value × Nat) => cs.setIfInBounds (off + x.2) x.1) vs)[i]? = if off ≤ i ∧ i < off + xs.length then us[i - off]? else vs[i]? := by
    intro i
    have := foldl_set us.toList 0 off vs i
    rw [← Array.foldl_toList]
    simp only [Array.toList_zipIdx]
    rw [this]
    have h1 := h.len
    have h2 := hx.len
    simp only [Nat.add_zero, Array.length_toList]
    by_cases hc : off ≤ i ∧ i < off + xs.length
    · rw [if_pos hc, if_pos (by omega)]; simp
    · rw [if_neg hc, if_neg (by omega)]
  have hsz : (us.zipIdx.foldl (fun cs (x : Value × Nat) => cs.setIfInBounds (off + x.2) x.1) vs).size = vs.size := by
    have h1 := h.len
    have h2 := hx.len
    rcases Nat.lt_trichotomy (us.zipIdx.foldl (fun cs (x : Value × Nat) => cs.setIfInBounds (off + x.2) x.1) vs).size vs.size with h3 | h3 | h3
    · have := hg (us.zipIdx.foldl (fun cs (x : Value × Nat) => cs.setIfInBounds (off + x.2) x.1) vs).size
      rw [Array.getElem?_eq_none (Nat.le_refl _)] at this
      split at this
      · rw [Array.getElem?_eq_getElem (by omega)] at this; cases this
      · rw [Array.getElem?_eq_getElem h3] at this; cases this
    · exact h3
    · have := hg vs.size
      rw [Array.getElem?_eq_getElem h3] at this
      split at this
      · omega
      · rw [Array.getElem?_eq_none (Nat.le_refl _)] at this; cases this
  constructor
  · rw [setCells_len _ _ _ hf, hsz]; exact h.len
  · intro k c v hc hv
    rw [setCells_get _ _ _ _ hf] at hc
    rw [hg] at hv
    by_cases hcase : off ≤ k ∧ k < off + xs.length
    · rw [if_pos hcase] at hc hv; exact hx.rep _ c v hc hv
    · rw [if_neg hcase] at hc hv; exact h.rep _ c v hc hv
  · intro v hv
    obtain ⟨i, hi⟩ := Array.getElem?_of_mem hv
    rw [hg] at hi
    split at hi
    · exact hx.one v (Array.mem_of_getElem? hi)
    · exact h.one v (Array.mem_of_getElem? hi)
theorem rep_cells {c : CV} {v : Value} {cs : List CV} (h : RepC w G ρ c v) (hc : c.cells = some cs) : CellsRep w G ρ cs v.cells :=
  let ⟨h1, h2, h3⟩ := h.cells hc; ⟨h1, h2, h3⟩
theorem fill_rep {fs : Array Field} (he : RepE w G ρ e a.tmps) : ∀ (ps : List (Nat × Operand)) (qs : List (Nat × Nat × Opd)) (zs cs : List CV) (vs : Array Value), okParts P fs ps qs = true → fill zs e qs = some cs → CellsRep w G ρ zs vs →
    ∃ us, Instr.fill (fun i => (fs[i]?).map fun f => (f.offset, (szP P f.type).getD 0)) vs (ps.map fun x => (x.1, a.eval x.2)) = some us ∧ CellsRep w G ρ cs us
  | [], [], zs, cs, vs, _, h, hr => by
    simp only [fill] at h; cases h; exact ⟨vs, rfl, hr⟩
  | (i, x) :: ps, (off, sz, y) :: qs, zs, cs, vs, hok, h, hr => by
    simp only [okParts, Bool.and_eq_true] at hok
    obtain ⟨⟨h1, h2⟩, h3⟩ := hok
    simp only [fill] at h
    split at h
    · rename_i xs hxs
      split at h
      · rename_i hc
        have hx := rep_cells (okOpd_rep h2 he) hxs
        cases hfi : fs[i]? with
        | none => rw [hfi] at h1; cases h1
        | some f =>
          rw [hfi] at h1
          simp only [Bool.and_eq_true, beq_iff_eq] at h1
          obtain ⟨us, hus, hrep⟩ := fill_rep he ps qs _ cs _ h3 h (hr.set hx (by rw [hc.1]; exact hc.2))
          refine ⟨us, ?_, hrep⟩
          simp only [List.map_cons, Instr.fill, hfi, Option.map_some, h1.1, h1.2, Option.getD_some]
          have e1 : (a.eval x).cells.size = sz := by rw [← hx.len, hc.1]
          rw [if_neg (by simp [e1]; have := hr.len; omega)]
          exact hus
      · cases h
    · cases h
  | [], _ :: _, _, _, _, h, _, _ => by simp [okParts] at h
  | _ :: _, [], _, _, _, h, _, _ => by simp [okParts] at h
theorem zero_rep {t : TypeId} {zs : List CV} (h : (match (P.info? t).bind (·.zero) with | some z => okCs z.cells.toList zs && oneAll z.cells.toList | none => false) = true) :
    ∃ z, (zeroValue t).run P w = .ok z w ∧ CellsRep w G ρ zs z.cells := by
  split at h
  · rename_i z hz
    simp only [Bool.and_eq_true] at h
    obtain ⟨h1, h2⟩ := okCs_len (w := w) (G := G) (ρ := ρ) h.1
    refine ⟨z, ?_, ⟨by simpa using h1, by simpa using h2, fun v hv => List.all_eq_true.1 h.2 v (by simpa using hv)⟩⟩
    cases hi : P.info? t with
    | none => rw [hi] at hz; cases hz
    | some i => rw [hi] at hz; simp only [Option.bind_some] at hz; simp [zeroValue, typeInfo, hi, hz]
  · cases h
theorem mkAgg_cells {cs : List CV} {vs : Array Value} (h : CellsRep w G ρ cs vs) : RepC w G ρ (mkAgg cs) (.agg vs) := by
  have := mkAgg_rep (vs := vs.toList) (by simpa using h.len) (by simpa using h.rep) (fun v hv => h.one v (by simpa using hv))
  simpa using this
theorem sim_build {t : TypeId} {ps : Array (Nat × Operand)} {zs : List CV} {qs : List (Nat × Nat × Opd)} {fs : Array Field} {r : CV × Store} (hs : St w G ρ σ) (he : RepE w G ρ e a.tmps) (ho : o.op = .build t ps)
    (hz : (match (P.info? t).bind (·.zero) with | some z => okCs z.cells.toList zs && oneAll z.cells.toList | none => false) = true) (ht : P.underlying t = some (.struct fs)) (hfs : fs.all (fun f => (szP P f.type).isSome) = true)
    (hp : okParts P fs ps.toList qs = true) (h : ev base sl (.build zs qs) e σ = some r) : SimOp P o a w G ρ r.1 r.2 := by
  simp only [ev, Option.map_eq_some_iff] at h
  obtain ⟨cs, hcs, rfl⟩ := h
  obtain ⟨z, hz1, hz2⟩ := zero_rep (w := w) (G := G) (ρ := ρ) hz
  obtain ⟨us, hus, hrep⟩ := fill_rep he ps.toList qs zs cs z.cells hp hcs hz2
  have hpl := run_places (P := P) (w := w) fs.toList (by
    intro f hf
    obtain ⟨i, hi, he⟩ := List.getElem_of_mem hf
    have := Array.all_eq_true.1 hfs i (by simpa using hi)
    simpa [← he] using this)
  have hpl' : (fs.mapM fun f => (do pure (f.offset, ← sizeOf f.type) : Sem (Nat × Nat))).run P w = .ok (fs.map fun f => (f.offset, (szP P f.type).getD 0)) w := by
    rw [Array.mapM_eq_mapM_toList, Sem.run_map, hpl]
    cases fs; simp
  have hps : (ps.map fun (i, x) => (i, a.eval x)).toList = ps.toList.map fun x => (x.1, a.eval x.2) := by simp
  have hpf : (fun i : Nat => (fs.map fun f => (f.offset, (szP P f.type).getD 0))[i]?) = fun i => (fs[i]?).map fun f => (f.offset, (szP P f.type).getD 0) := by funext i; simp
  refine SimOp.quiet (v := .agg us) hs ?_ (mkAgg_cells hrep)
  simp only [execOp, ho, Instr.build, Sem.run_bind, hz1, Result.andThen_ok, run_underlying ht, hpl', hps, hpf, hus, Sem.run_pure]
theorem CellsRep.mono {w' : World} {G' : Nat → Prop} {ρ' : List Loc} {cs : List CV} {vs : Array Value} (hw : ∀ k, G k → w'.heap[k]? = w.heap[k]?) (hG : ∀ k, G k → G' k) (hρ : LocExt ρ ρ') (h : CellsRep w G ρ cs vs) : CellsRep w' G' ρ' cs vs :=
  ⟨h.len, fun k c v h1 h2 => (h.rep k c v h1 h2).mono hw hG hρ, h.one⟩
theorem heap_push_same {x : Obj} {w' : World} (hs : St w G ρ σ) (hw : w'.heap = w.heap.push x) : ∀ k, G k → w'.heap[k]? = w.heap[k]? := by
  intro k hk
  have := hs.g k hk
  rw [hw, Array.getElem?_push]
  simp [Nat.ne_of_lt this]
theorem push_box {cs : List CV} {arr : Array Value} {el : TypeId} {σ' : Store} {k : Nat} {w' : World} (hs : St w G ρ σ) (hp : push base sl σ (.kblk cs.length cs) = some (k, σ')) (hc : CellsRep w G ρ cs arr) (hw : w'.heap = w.heap.push (.cells arr el (0, 0))) (hsame : Same w w' := by first | assumption | exact ⟨rfl, rfl, rfl⟩) :
    ∃ ρ', St w' G ρ' σ' ∧ Ext w G ρ w' G ρ' ∧ RepC w' G ρ' (.ptr k 0 0) (.pointer (some ⟨w.heap.size, 0, none⟩)) := by
  obtain ⟨ρ', h1, h2, h3⟩ := hs.push hp arr el cs.length hw (by
    intro ρ' hρ
    have hc' := hc.mono (heap_push_same hs hw) (fun _ x => x) hρ
    refine ⟨rfl, fun hg => Nat.lt_irrefl _ (hs.g _ hg), arr, el, by rw [hw]; simp, rfl, by rw [hc.len]; omega, ?_⟩
    intro k c u hck hu
    simp only [Nat.zero_add] at hu
    exact ⟨hc'.rep k c u hck hu, hc'.one u (Array.mem_of_getElem? hu)⟩)
  exact ⟨ρ', h1, h2, .ptr _ _ _ _ (by simp [PtrOk, h3])⟩
theorem push_row {es : List PV} {sz n cap : Nat} {arr : Array Value} {el : TypeId} {σ' : Store} {k : Nat} {w' : World} (hs : St w G ρ σ) (hp : push base sl σ (.prow sz es) = some (k, σ')) (hw : w'.heap = w.heap.push (.cells arr el (0, 0)))
    (hn : n ≤ cap) (hcap : cap * sz ≤ arr.size) (hfit : es.length * sz ≤ arr.size) (hlen : ∀ (i : Nat) e, es[i]? = some e → e.cells.length = sz)
    (hk : ∀ (i : Nat) e (k : Nat) c u, es[i]? = some e → e.cells[k]? = some c → arr[i * sz + k]? = some u → RepP w G c u ∧ u.oneCell' = true) (hsame : Same w w' := by first | assumption | exact ⟨rfl, rfl, rfl⟩) :
    ∃ ρ', St w' G ρ' σ' ∧ Ext w G ρ w' G ρ' ∧ RepC w' G ρ' (.own k 0 n) (.slice (some ⟨w.heap.size, 0, none⟩) n cap) := by
  obtain ⟨ρ', h1, h2, h3⟩ := hs.push hp arr el sz hw (by
    intro ρ' hρ
    refine ⟨rfl, fun hg => Nat.lt_irrefl _ (hs.g _ hg), arr, el, by rw [hw]; simp, rfl, by omega, hlen, ?_⟩
    intro i e k c u h1 h2 h3
    rw [Nat.zero_add] at h3
    obtain ⟨a1, a2⟩ := hk i e k c u h1 h2 h3
    exact ⟨a1.mono (heap_push_same hs hw) (fun _ x => x), a2⟩)
  exact ⟨ρ', h1, h2, .own _ _ _ _ _ hn (by simp only [OwnOk, h3]; right; exact ⟨by simp, by simp; exact hcap⟩)⟩
theorem sim_alloc {t : TypeId} {zs : List CV} {r : CV × Store} (hs : St w G ρ σ) (ho : o.op = .alloc t)
    (hz : (match (P.info? t).bind (·.zero) with | some z => okCs z.cells.toList zs && oneAll z.cells.toList | none => false) = true) (h : ev base sl (.alloc zs) e σ = some r) : SimOp P o a w G ρ r.1 r.2 := by
  simp only [ev, Option.map_eq_some_iff] at h
  obtain ⟨⟨k, σ'⟩, hp, rfl⟩ := h
  obtain ⟨z, hz1, hz2⟩ := zero_rep (w := w) (G := G) (ρ := ρ) hz
  obtain ⟨ρ', h1, h2, h3⟩ := push_box (w' := { w with heap := w.heap.push (.cells z.cells t (0, 0)) }) hs hp hz2 rfl
  refine ⟨.value _, _, _, G, ρ', ?_, .inl rfl, h1, h2, h3⟩
  simp only [execOp, ho, Instr.alloc, Sem.run_bind, hz1, Result.andThen_ok, newVar, newRow, run_newObj, Sem.run_pure]
theorem sim_box {t : TypeId} {x : Operand} {x' : Opd} {r : CV × Store} (hs : St w G ρ σ) (he : RepE w G ρ e a.tmps) (ho : o.op = .box t x) (hx : okOpd x x' = true) (h : ev base sl (.box x') e σ = some r) : SimOp P o a w G ρ r.1 r.2 := by
  simp only [ev] at h
  split at h
  · rename_i cs hcs
    simp only [Option.map_eq_some_iff] at h
    obtain ⟨⟨k, σ'⟩, hp, rfl⟩ := h
    have hc := rep_cells (okOpd_rep hx he) hcs
    obtain ⟨ρ', h1, h2, h3⟩ := push_box (w' := { w with heap := w.heap.push (.cells (a.eval x).cells t (0, 0)) }) hs hp hc rfl
    refine ⟨.value _, _, _, G, ρ', ?_, .inl rfl, h1, h2, h3⟩
    simp only [execOp, ho, Instr.box, Sem.run_bind, Result.andThen_ok, newVar, newRow, run_newObj, Sem.run_pure]
  · cases h
theorem madeCells_get {z : Array Value} {n i : Nat} (h : i < n) (hz : 0 < z.size) : (madeCells z n)[i]? = z[i % z.size]? := by
  have : i % z.size < z.size := Nat.mod_lt _ hz
  simp [madeCells, h, this]
theorem sim_mks {deep : Bool} {sz bytes : Nat} {z : PV} {t el : TypeId} {l c : Operand} {l' c' : Opd} {i : TypeInfo} {zv : Value} {r : CV × Store} (hs : St w G ρ σ) (he : RepE w G ρ e a.tmps) (ho : o.op = .makeSlice t l c) (hl : okOpd l l' = true) (hc : okOpd c c' = true)
    (ht : P.underlying t = some (.slice el)) (hi : P.info? el = some i) (hsz : i.size = sz) (hby : i.bytes = bytes) (hz : i.zero = some zv) (hzz : (if deep then okPs zv.cells.toList [.sl []] else okPs zv.cells.toList z.cells) = true)
    (h : ev base sl (.mks deep sz bytes z l' c') e σ = some r) : SimOp P o a w G ρ r.1 r.2 := by
  have r1 := okOpd_rep hl he
  have r2 := okOpd_rep hc he
  generalize hu : a.eval l = u at r1
  generalize hv : a.eval c = v at r2
  simp only [ev] at h
  split at h
  · rename_i ln cn hln hcn
    obtain ⟨kl, rfl, _⟩ := rep_num hln r1
    obtain ⟨kc, rfl, _⟩ := rep_num hcn r2
    split at h
    · rename_i hcond
      obtain ⟨c1, c2, c3, c4, c5⟩ := hcond
      have hrun := run_make (P := P) w t el i zv ht hi hz kl kc ln cn c1 c2 (by rw [hby]; exact c3) c4
      have exec : (execOp a.eval o).run P w = .ok (.value (.slice (some ⟨w.heap.size, 0, none⟩) ln.toNat cn.toNat)) (w.alloc (.cells (madeCells zv.cells (cn.toNat * i.size)) el)) := by
        simp only [execOp, ho, hu, hv, Sem.run_bind, hrun, Result.andThen_ok, Sem.run_pure]
      have hle : ln.toNat ≤ cn.toNat := by omega
      have hmul : ln.toNat * sz ≤ cn.toNat * sz := Nat.mul_le_mul_right _ hle
      split at h
      · simp only [if_false, Bool.false_eq_true] at hzz
        obtain ⟨z1, z2, z3⟩ := okPs_len (w := w) (G := G) hzz
        simp only [Option.map_eq_some_iff] at h
        obtain ⟨⟨k, σ'⟩, hp, rfl⟩ := h
        have hzsz : zv.cells.size = sz := by rw [← c5, z1]; simp
        obtain ⟨ρ', h1, h2, h3⟩ := push_row (w' := w.alloc (.cells (madeCells zv.cells (cn.toNat * i.size)) el)) hs hp rfl hle (by rw [size_madeCells, hsz]; exact Nat.le_refl _) (by rw [size_madeCells, hsz]; simpa using hmul)
          (by intro i e he; rw [List.getElem?_replicate] at he; split at he <;> simp_all)
          (by
            intro j e k c u he hck hu
            rw [List.getElem?_replicate] at he
            split at he
            · rename_i hj
              cases he
              have hk : k < sz := by rw [← c5]; exact get_lt hck
              have hidx : j * sz + k < cn.toNat * i.size := by
                have : (j + 1) * sz ≤ cn.toNat * sz := Nat.mul_le_mul_right _ (by omega)
                rw [Nat.succ_mul] at this
                rw [hsz]; omega
              rw [madeCells_get hidx (by omega), hzsz, Nat.add_comm (j * sz), Nat.add_mul_mod_self_right, Nat.mod_eq_of_lt hk] at hu
              exact ⟨z2 k c u hck (by simpa using hu), z3 u (by simpa using Array.mem_of_getElem? hu)⟩
            · cases he)
        exact ⟨.value _, _, _, G, ρ', exec, .inl rfl, h1, h2, h3⟩
      · simp only [if_true] at hzz
        split at h
        · rename_i hone
          obtain ⟨z1, z2, z3⟩ := okPs_len (w := w) (G := G) hzz
          simp only [Option.map_eq_some_iff] at h
          obtain ⟨⟨k, σ'⟩, hp, rfl⟩ := h
          have hz0 : zv.cells.toList = [.slice none 0 0] := by
            have hz1 : zv.cells.toList.length = 1 := by simpa using z1.symm
            obtain ⟨y, hy⟩ : ∃ y, zv.cells.toList = [y] := by
              match hm : zv.cells.toList, hz1 with
              | [y], _ => exact ⟨y, rfl⟩
            rw [hy] at hzz ⊢
            simp only [okPs, Bool.and_true] at hzz
            unfold okP1 at hzz
            split at hzz <;> first | rfl | cases hzz | simp_all
          have hzsz : zv.cells.size = 1 := by have := congrArg List.length hz0; simpa using this
          subst hone
          rw [← hsz] at hp
          obtain ⟨ρ', h1, h2, h3⟩ := hs.push (w' := w.alloc (.cells (madeCells zv.cells (cn.toNat * i.size)) el)) hp (madeCells zv.cells (cn.toNat * i.size)) el i.size rfl (by
            intro ρ' hρ
            refine ⟨rfl, fun hg => Nat.lt_irrefl _ (hs.g _ hg), _, el, by show (w.heap.push _)[w.heap.size]? = _; simp, rfl, by rw [size_madeCells, hsz]; simp; omega, ?_⟩
            intro k c u hck hu
            rw [List.getElem?_replicate] at hck
            split at hck
            · cases hck
              rw [Nat.zero_add, madeCells_get (by rw [hsz]; omega) (by omega), hzsz, Nat.mod_one] at hu
              have : u = .slice none 0 0 := by
                have h0 : zv.cells.toList[0]? = some u := by simpa using hu
                rw [hz0] at h0
                simpa using h0.symm
              subst this
              exact ⟨.nils, rfl⟩
            · cases hck)
          exact ⟨.value _, _, _, G, ρ', exec, .inl rfl, h1, h2, .own _ _ _ _ _ hle (by simp only [OwnOk, h3]; right; exact ⟨by simp, by simp [size_madeCells]⟩)⟩
        · cases h
    · cases h
  · cases h
end
end Go.Proofs.Ytdpdnplljonppaa.Vpi

namespace Go.Proofs.Ytdpdnplljonppaa.Vpi
open Go
set_option linter.unusedVariables false
set_option linter.unusedSimpArgs false
section
variable {P : Program} {o : Oper} {w : World} {G : Nat → Prop} {ρ : List Loc} {σ : Store} {e : Env} {a : Act} {base : Nat} {sl : Option Nat}
def dieAll (σ : Store) (bs : List Nat) : Store := bs.foldl (fun σ b => σ.set b .dead) σ
theorem kill1_eq (σ : Store) (c : CV) : kill1 σ c = dieAll σ (own0 c) := by
  cases c <;> rfl
theorem dieAll_append (σ : Store) (x y : List Nat) : dieAll σ (x ++ y) = dieAll (dieAll σ x) y := by
  simp [dieAll, List.foldl_append]
theorem killL_eq : ∀ (l : List CV) (σ : Store), killL σ l = dieAll σ (l.flatMap own0)
  | [], _ => rfl
  | c :: l, σ => by
    rw [List.flatMap_cons, dieAll_append, ← kill1_eq, ← killL_eq l]
    rfl
theorem kill_eq (σ : Store) (c : CV) : kill σ c = dieAll σ (ownsOf c) := by
  cases c <;> simp only [kill, ownsOf] <;> first | exact killL_eq _ _ | exact kill1_eq _ _
theorem kills_eq : ∀ (l : List CV) (σ : Store), kills σ l = dieAll σ (l.flatMap ownsOf)
  | [], _ => rfl
  | c :: l, σ => by
    rw [List.flatMap_cons, dieAll_append, ← kill_eq, ← kills_eq l]
    rfl
def Track (ρ : List Loc) (G' : Nat → Prop) (ρ' : List Loc) : Prop := ∀ (i blk o t s : Nat), ρ[i]? = some (.lv blk o t s) → ρ'[i]? = some (.lv blk o t s) ∨ G' blk
theorem dieAll_st : ∀ (bs : List Nat) (G : Nat → Prop) (ρ : List Loc) (σ : Store), St w G ρ σ → (∀ b ∈ bs, b < σ.length) →
    ∃ G' ρ', St w G' ρ' (dieAll σ bs) ∧ Ext w G ρ w G' ρ' ∧ Track ρ G' ρ' ∧ ∀ b ∈ bs, ρ'[b]? = some .dead
  | [], G, ρ, σ, hs, _ => ⟨G, ρ, hs, Ext.refl, fun _ _ _ _ _ h => .inl h, by simp⟩
  | b :: bs, G, ρ, σ, hs, hb => by
    have hlt : b < ρ.length := by rw [hs.len]; exact hb b (by simp)
    have hl : ρ[b]? = some ρ[b] := by simp
    have one : ∃ G1, St w G1 (ρ.set b .dead) (σ.set b .dead) ∧ Ext w G ρ w G1 (ρ.set b .dead) ∧ Track ρ G1 (ρ.set b .dead) := by
      cases hc : ρ[b] with
      | lv blk o t s =>
        rw [hc] at hl
        obtain ⟨h1, h2⟩ := hs.give hl
        refine ⟨_, h1, h2, ?_⟩
        intro i blk' o' t' s' hi
        by_cases hbi : b = i
        · subst hbi; rw [hl] at hi; cases hi; exact .inr (.inr rfl)
        · exact .inl (by rw [List.getElem?_set_ne hbi]; exact hi)
      | det =>
        rw [hc] at hl
        obtain ⟨h1, h2⟩ := hs.giveDet hl (by rintro ⟨k, o, t, s, h⟩; cases h)
        refine ⟨G, h1, h2, ?_⟩
        intro i blk' o' t' s' hi
        by_cases hbi : b = i
        · subst hbi; rw [hl] at hi; cases hi
        · exact .inl (by rw [List.getElem?_set_ne hbi]; exact hi)
      | dead =>
        rw [hc] at hl
        obtain ⟨h1, h2⟩ := hs.giveDet hl (by rintro ⟨k, o, t, s, h⟩; cases h)
        refine ⟨G, h1, h2, ?_⟩
        intro i blk' o' t' s' hi
        by_cases hbi : b = i
        · subst hbi; rw [hl] at hi; cases hi
        · exact .inl (by rw [List.getElem?_set_ne hbi]; exact hi)
      | hole =>
        rw [hc] at hl
        obtain ⟨h1, h2⟩ := hs.giveDet hl (by rintro ⟨k, o, t, s, h⟩; cases h)
        refine ⟨G, h1, h2, ?_⟩
        intro i blk' o' t' s' hi
        by_cases hbi : b = i
        · subst hbi; rw [hl] at hi; cases hi
        · exact .inl (by rw [List.getElem?_set_ne hbi]; exact hi)
    obtain ⟨G1, s1, e1, t1⟩ := one
    obtain ⟨G2, ρ2, s2, e2, t2, d2⟩ := dieAll_st bs G1 _ _ s1 (fun c hc => by simpa using hb c (by simp [hc]))
    refine ⟨G2, ρ2, s2, e1.trans e2, ?_, ?_⟩
    · intro i blk o t s hi
      rcases t1 i blk o t s hi with h | h
      · exact t2 i blk o t s h
      · exact .inr (e2.grow _ h)
    · intro c hc
      by_cases hm : c ∈ bs
      · exact d2 c hm
      · have : c = b := by simpa [hm] using hc
        subst this
        have h0 : (ρ.set c Loc.dead)[c]? = some .dead := by rw [List.getElem?_set_self hlt]
        rcases e2.loc c _ h0 with h | h | h
        · exact h
        · exact h
        · cases h
theorem frz1_rep {c : CV} {x : PV} {v : Value} {G' : Nat → Prop} (hs : St w G ρ σ) (h : frz1 σ c = some x) (hr : RepC w G ρ c v) (hG : ∀ k, G k → G' k) (hO : ∀ b ∈ own0 c, ∀ (blk o t s : Nat), ρ[b]? = some (.lv blk o t s) → G' blk) :
    RepP w G' x v := by
  unfold frz1 at h
  split at h
  · cases h; exact (rep_p hr).mono (fun _ _ => rfl) hG
  · cases h; rw [rep_nils hr]; exact .nil _ _
  · rename_i b off n
    split at h
    · rename_i s es hb
      split at h
      · rename_i hle
        cases h
        obtain ⟨ad, cap, rfl, hcap, hok⟩ := rep_own hr
        obtain ⟨l, hl, hblk⟩ := hs.get hb
        have hlen : ((es.drop off).take n).length = n := by simp; omega
        by_cases hn : n = 0
        · subst hn
          simp only [List.take_zero]
          exact .nil _ _
        · simp only [OwnOk, hl] at hok
          cases l with
          | lv blk o t s' =>
            obtain ⟨rfl, hng, arr, el, hh, rfl, hfit, hcl, hk⟩ := hblk
            simp only at hok
            rcases hok with rfl | ⟨rfl, hf2⟩
            · omega
            · have hg' := hO b (by simp [own0]) _ _ _ _ hl
              have hmul : (off + n) * s ≤ es.length * s := Nat.mul_le_mul_right _ hle
              rw [Nat.add_mul] at hmul
              have := RepP.sl (w := w) (G := G') ((es.drop off).take n) blk (o + off * s) arr el (0, 0) cap s hg' hh (by rw [hlen]; exact hcap) (by rw [hlen]; omega)
                (by
                  intro i e he
                  rw [List.getElem?_take] at he
                  split at he
                  · rw [List.getElem?_drop] at he; exact hcl _ _ he
                  · cases he)
                (by
                  intro i e k c u he hc hu
                  rw [List.getElem?_take] at he
                  split at he
                  · rw [List.getElem?_drop] at he
                    exact (hk (off + i) e k c u he hc (by rw [Nat.add_mul]; rw [show o + (off * s + i * s) + k = o + off * s + i * s + k by omega]; exact hu)).1.mono (fun _ _ => rfl) hG
                  · cases he)
                (by
                  intro i e k u he hks hu
                  rw [List.getElem?_take] at he
                  split at he
                  · rw [List.getElem?_drop] at he
                    have hcl' := hcl _ _ he
                    exact (hk (off + i) e k (e.cells[k]'(by omega)) u he (by simp) (by rw [Nat.add_mul]; rw [show o + (off * s + i * s) + k = o + off * s + i * s + k by omega]; exact hu)).2
                  · cases he)
              rw [hlen] at this
              exact this
          | det => simp only at hok; omega
          | dead => exact hblk.elim
          | hole => exact hblk.elim
      · cases h
    · cases h
  · cases h
theorem frzL_rep {G' : Nat → Prop} (hs : St w G ρ σ) (hG : ∀ k, G k → G' k) : ∀ {cs : List CV} {xs : List PV} {vs : List Value}, frzL σ cs = some xs → cs.length = vs.length → (∀ (k : Nat) c v, cs[k]? = some c → vs[k]? = some v → RepC w G ρ c v) →
    (∀ b ∈ cs.flatMap own0, ∀ (blk o t s : Nat), ρ[b]? = some (.lv blk o t s) → G' blk) → xs.length = vs.length ∧ ∀ (k : Nat) x v, xs[k]? = some x → vs[k]? = some v → RepP w G' x v
  | [], xs, vs, h, hl, _, _ => by simp [frzL] at h; subst h; exact ⟨hl, by simp⟩
  | c :: cs, xs, [], _, hl, _, _ => by simp at hl
  | c :: cs, xs, v :: vs, h, hl, hk, hO => by
    simp only [frzL] at h
    split at h
    · rename_i x hx
      simp only [Option.map_eq_some_iff] at h
      obtain ⟨ys, hys, rfl⟩ := h
      obtain ⟨h1, h2⟩ := frzL_rep hs hG hys (by simpa using hl) (fun k c v hc hv => hk (k + 1) c v (by simpa using hc) (by simpa using hv)) (fun b hb => hO b (by simp only [List.flatMap_cons, List.mem_append]; exact .inr hb))
      refine ⟨by simp [h1], ?_⟩
      intro k y u hy hu
      cases k with
      | zero =>
        simp at hy hu; subst hy hu
        exact frz1_rep hs hx (hk 0 c _ rfl rfl) hG fun b hb => hO b (by simp only [List.flatMap_cons, List.mem_append]; exact .inl hb)
      | succ k => exact h2 k y u (by simpa using hy) (by simpa using hu)
    · cases h
theorem frz_rep {c : CV} {x : PV} {v : Value} {G' : Nat → Prop} (hs : St w G ρ σ) (h : frz σ c = some x) (hr : RepC w G ρ c v) (hG : ∀ k, G k → G' k) (hO : ∀ b ∈ ownsOf c, ∀ (blk o t s : Nat), ρ[b]? = some (.lv blk o t s) → G' blk) :
    RepP w G' x v := by
  cases c with
  | agg cs =>
    simp only [frz, Option.map_eq_some_iff] at h
    obtain ⟨xs, hxs, rfl⟩ := h
    obtain ⟨vs, rfl, hl, hk, h1⟩ := rep_agg hr
    obtain ⟨h2, h3⟩ := frzL_rep hs hG hxs hl hk hO
    exact .agg xs vs h2 h3 h1
  | _ => simp only [frz] at h; simp only [ownsOf] at hO; exact frz1_rep hs h hr hG hO
theorem frz1_lt {c : CV} {x : PV} (h : frz1 σ c = some x) : ∀ b ∈ own0 c, b < σ.length := by
  cases c with
  | own b off n =>
    simp only [frz1] at h
    split at h
    · rename_i hb
      intro b' hb'
      simp [own0] at hb'
      subst hb'
      exact get_lt hb
    · cases h
  | _ => intro b hb; simp [own0] at hb
theorem frzL_lt : ∀ {cs : List CV} {xs : List PV}, frzL σ cs = some xs → ∀ b ∈ cs.flatMap own0, b < σ.length
  | [], _, _ => by simp
  | c :: cs, xs, h => by
    simp only [frzL] at h
    split at h
    · rename_i x hx
      simp only [Option.map_eq_some_iff] at h
      obtain ⟨ys, hys, rfl⟩ := h
      intro b hb
      simp only [List.flatMap_cons, List.mem_append] at hb
      rcases hb with hb | hb
      · exact frz1_lt hx b hb
      · exact frzL_lt hys b hb
    · cases h
theorem frz_lt {c : CV} {x : PV} (h : frz σ c = some x) : ∀ b ∈ ownsOf c, b < σ.length := by
  cases c with
  | agg cs =>
    simp only [frz, Option.map_eq_some_iff] at h
    obtain ⟨xs, hxs, rfl⟩ := h
    exact frzL_lt hxs
  | _ => simp only [frz] at h; simp only [ownsOf]; exact frz1_lt h
theorem frzs_lt : ∀ {cs : List CV} {xs : List PV}, frzs σ cs = some xs → ∀ b ∈ cs.flatMap ownsOf, b < σ.length
  | [], _, _ => by simp
  | c :: cs, xs, h => by
    simp only [frzs] at h
    split at h
    · rename_i x hx
      simp only [Option.map_eq_some_iff] at h
      obtain ⟨ys, hys, rfl⟩ := h
      intro b hb
      simp only [List.flatMap_cons, List.mem_append] at hb
      rcases hb with hb | hb
      · exact frz_lt hx b hb
      · exact frzs_lt hys b hb
    · cases h
theorem frzs_rep {G' : Nat → Prop} (hs : St w G ρ σ) (hG : ∀ k, G k → G' k) : ∀ {cs : List CV} {xs : List PV} {vs : List Value}, frzs σ cs = some xs → cs.length = vs.length → (∀ (k : Nat) c v, cs[k]? = some c → vs[k]? = some v → RepC w G ρ c v) →
    (∀ b ∈ cs.flatMap ownsOf, ∀ (blk o t s : Nat), ρ[b]? = some (.lv blk o t s) → G' blk) → xs.length = vs.length ∧ ∀ (k : Nat) x v, xs[k]? = some x → vs[k]? = some v → RepP w G' x v
  | [], xs, vs, h, hl, _, _ => by simp [frzs] at h; subst h; exact ⟨hl, by simp⟩
  | c :: cs, xs, [], _, hl, _, _ => by simp at hl
  | c :: cs, xs, v :: vs, h, hl, hk, hO => by
    simp only [frzs] at h
    split at h
    · rename_i x hx
      simp only [Option.map_eq_some_iff] at h
      obtain ⟨ys, hys, rfl⟩ := h
      obtain ⟨h1, h2⟩ := frzs_rep hs hG hys (by simpa using hl) (fun k c v hc hv => hk (k + 1) c v (by simpa using hc) (by simpa using hv)) (fun b hb => hO b (by simp only [List.flatMap_cons, List.mem_append]; exact .inr hb))
      refine ⟨by simp [h1], ?_⟩
      intro k y u hy hu
      cases k with
      | zero =>
        simp at hy hu; subst hy hu
        exact frz_rep hs hx (hk 0 c _ rfl rfl) hG fun b hb => hO b (by simp only [List.flatMap_cons, List.mem_append]; exact .inl hb)
      | succ k => exact h2 k y u (by simpa using hy) (by simpa using hu)
    · cases h
theorem give_all {cs : List CV} {xs : List PV} {vs : List Value} (hs : St w G ρ σ) (h : frzs σ cs = some xs) (hl : cs.length = vs.length) (hk : ∀ (k : Nat) c v, cs[k]? = some c → vs[k]? = some v → RepC w G ρ c v) :
    ∃ G' ρ', St w G' ρ' (kills σ cs) ∧ Ext w G ρ w G' ρ' ∧ xs.length = vs.length ∧ ∀ (k : Nat) x v, xs[k]? = some x → vs[k]? = some v → RepP w G' x v := by
  obtain ⟨G', ρ', s1, e1, t1, d1⟩ := dieAll_st (cs.flatMap ownsOf) G ρ σ hs (frzs_lt h)
  rw [← kills_eq] at s1
  obtain ⟨h1, h2⟩ := frzs_rep hs e1.grow h hl hk (by
    intro b hb blk o t s hloc
    rcases t1 b blk o t s hloc with h | h
    · rw [d1 b hb] at h; cases h
    · exact h)
  exact ⟨G', ρ', s1, e1, h1, h2⟩
theorem give_one {c : CV} {x : PV} {v : Value} (hs : St w G ρ σ) (h : frz σ c = some x) (hr : RepC w G ρ c v) :
    ∃ G' ρ', St w G' ρ' (kill σ c) ∧ Ext w G ρ w G' ρ' ∧ RepP w G' x v := by
  obtain ⟨G', ρ', s1, e1, t1, d1⟩ := dieAll_st (ownsOf c) G ρ σ hs (frz_lt h)
  rw [← kill_eq] at s1
  refine ⟨G', ρ', s1, e1, frz_rep hs h hr e1.grow ?_⟩
  intro b hb blk o t s hloc
  rcases t1 b blk o t s hloc with h | h
  · rw [d1 b hb] at h; cases h
  · exact h
end
end Go.Proofs.Ytdpdnplljonppaa.Vpi

namespace Go.Proofs.Ytdpdnplljonppaa.Vpi
open Go
set_option linter.unusedVariables false
set_option linter.unusedSimpArgs false
section
variable {P : Program} {o : Oper} {w : World} {G : Nat → Prop} {ρ : List Loc} {σ : Store} {e : Env} {a : Act} {base : Nat} {sl : Option Nat}
theorem fold_get (vs us : Array Value) (off i : Nat) (h : off + us.size ≤ vs.size) :
    (us.zipIdx.foldl (fun cs (x : Value × Nat) => cs.setIfInBounds (off + x.2) x.1) vs)[i]? = if off ≤ i ∧ i < off + us.size then us[i - off]? else vs[i]? := by
  have := foldl_set us.toList 0 off vs i
  rw [← Array.foldl_toList]
  simp only [Array.toList_zipIdx]
  rw [this]
  simp only [Nat.add_zero, Array.length_toList]
  by_cases hc : off ≤ i ∧ i < off + us.size
  · rw [if_pos hc, if_pos (by omega)]; simp
  · rw [if_neg hc, if_neg (by omega)]
theorem fold_size (vs us : Array Value) (off : Nat) : (us.zipIdx.foldl (fun cs (x : Value × Nat) => cs.setIfInBounds (off + x.2) x.1) vs).size = vs.size := by
  rw [← Array.foldl_toList]
  generalize us.zipIdx.toList = l
  induction l generalizing vs with
  | nil => rfl
  | cons x l ih => rw [List.foldl_cons, ih]; simp
theorem fill_each {sz : Nat} : ∀ (l : List Value) (k : Nat) (vs : Array Value), (∀ v ∈ l, v.cells.size = sz) → (k + l.length) * sz ≤ vs.size →
    ∃ us, Instr.fill (fun i => some (i * sz, sz)) vs ((l.zipIdx k).map fun x => (x.2, x.1)) = some us ∧ us.size = vs.size ∧
      (∀ (i : Nat) v (j : Nat) u, l[i]? = some v → v.cells[j]? = some u → us[(k + i) * sz + j]? = some u) ∧ (∀ idx : Nat, idx < k * sz → us[idx]? = vs[idx]?)
  | [], k, vs, _, _ => ⟨vs, rfl, rfl, by simp, fun _ _ => rfl⟩
  | v :: l, k, vs, h, hf => by
    have hv := h v (by simp)
    have hf' : (k + 1 + l.length) * sz ≤ vs.size := by rw [show k + 1 + l.length = k + (v :: l).length by simp; omega]; exact hf
    have hk1 : (k + 1) * sz ≤ (k + 1 + l.length) * sz := Nat.mul_le_mul_right _ (by omega)
    rw [Nat.succ_mul] at hk1
    obtain ⟨us, h1, h2, h3, h4⟩ := fill_each l (k + 1) (v.cells.zipIdx.foldl (fun cs (x : Value × Nat) => cs.setIfInBounds (k * sz + x.2) x.1) vs) (fun u hu => h u (by simp [hu])) (by rw [fold_size]; exact hf')
    refine ⟨us, ?_, by rw [h2, fold_size], ?_, ?_⟩
    · simp only [List.zipIdx_cons, List.map_cons, Instr.fill]
      rw [if_neg (by simp [hv]; omega)]
      exact h1
    · intro i x j u hi hj
      cases i with
      | zero =>
        simp at hi
        subst hi
        have hj' := aget_lt hj
        rw [Nat.add_zero, h4 _ (by rw [Nat.succ_mul]; omega), fold_get _ _ _ _ (by omega), if_pos (by omega)]
        rw [show k * sz + j - k * sz = j by omega]
        exact hj
      | succ i =>
        have := h3 i x j u (by simpa using hi) hj
        rw [show k + (i + 1) = k + 1 + i by omega]
        exact this
    · intro idx hidx
      rw [h4 idx (by rw [Nat.succ_mul]; omega), fold_get _ _ _ _ (by omega), if_neg (by omega)]
theorem okEach_eval : ∀ (k : Nat) (ps : List (Nat × Operand)) (xs : List Opd), okEach k ps xs = true → RepE w G ρ e a.tmps →
    ∃ vs : List Value, (ps.map fun x => (x.1, a.eval x.2)) = (vs.zipIdx k).map (fun x => (x.2, x.1)) ∧ vs.length = xs.length ∧ ∀ (i : Nat) c v, (xs.map (vl e))[i]? = some c → vs[i]? = some v → RepC w G ρ c v
  | _, [], [], _, _ => ⟨[], rfl, rfl, by simp⟩
  | k, (i, x) :: ps, y :: xs, h, he => by
    simp only [okEach, Bool.and_eq_true, beq_iff_eq] at h
    obtain ⟨⟨rfl, h1⟩, h2⟩ := h
    obtain ⟨vs, e1, e2, e3⟩ := okEach_eval (i + 1) ps xs h2 he
    refine ⟨a.eval x :: vs, by simp [e1], by simp [e2], ?_⟩
    intro j c v hc hv
    cases j with
    | zero => simp at hc hv; subst hc hv; exact okOpd_rep h1 he
    | succ j => exact e3 j c v (by simpa using hc) (by simpa using hv)
  | _, [], _ :: _, h, _ => by simp [okEach] at h
  | _, _ :: _, [], h, _ => by simp [okEach] at h
theorem sim_bslice {t el : TypeId} {n sz : Nat} {ps : Array (Nat × Operand)} {xs : List Opd} {zv : Value} {i : TypeInfo} {r : CV × Store} (hs : St w G ρ σ) (he : RepE w G ρ e a.tmps) (ho : o.op = .buildSlice t n ps)
    (ht : P.underlying t = some (.slice el)) (hi : P.info? el = some i) (hsz : i.size = sz) (hz : i.zero = some zv) (hzs : zv.cells.size = sz) (hn : n = xs.length) (hbig : n * sz ≤ 16777216) (hp : okEach 0 ps.toList xs = true)
    (h : ev base sl (.bslice sz xs) e σ = some r) : SimOp P o a w G ρ r.1 r.2 := by
  simp only [ev] at h
  split at h
  · rename_i es hes
    split at h
    · rename_i hall
      simp only [Option.map_eq_some_iff] at h
      obtain ⟨⟨k, σ'⟩, hpush, rfl⟩ := h
      obtain ⟨vs, h1, h2, h3⟩ := okEach_eval 0 ps.toList xs hp he
      obtain ⟨G1, ρ1, s1, e1, h4, h5⟩ := give_all hs hes (by simp [h2]) h3
      have hsize : ∀ v ∈ vs, v.cells.size = sz := by
        intro v hv
        obtain ⟨j, hj⟩ := List.getElem?_of_mem hv
        have hj' := get_lt hj
        have hx : es[j]? = some (es[j]'(by omega)) := by simp
        rw [← (h5 j _ _ hx hj).cells.1]
        simpa using List.all_eq_true.1 hall _ (List.getElem_mem (by omega))
      have hsz2 : szP P el = some sz := by simp [szP, hi, hsz]
      obtain ⟨us, u1, u2, u3, _⟩ := fill_each (sz := sz) vs 0 ((Array.range (n * sz)).map ((if n * sz = 0 then #[] else zv.cells)[· % (if n * sz = 0 then #[] else zv.cells).size]!)) hsize (by simp [h2, hn])
      have hus : us.size = n * sz := by rw [u2]; simp
      obtain ⟨ρ2, s2, e2, r2⟩ := push_row (n := es.length) (cap := n) (w' := { w with heap := w.heap.push (.cells us el (0, 0)) }) s1 hpush rfl (by rw [h4, h2, hn]; exact Nat.le_refl _) (by rw [hus]; exact Nat.le_refl _) (by rw [hus, h4, h2, hn]; exact Nat.le_refl _)
        (by intro j x hx; simpa using List.all_eq_true.1 hall x (List.mem_of_getElem? hx))
        (by
          intro j x q c u hx hc hu
          have hj : j < vs.length := by rw [← h4]; exact get_lt hx
          have hvj : vs[j]? = some vs[j] := by simp
          have hrep := h5 j x _ hx hvj
          obtain ⟨c1, c2, c3⟩ := hrep.cells
          have hq : q < vs[j].cells.size := by rw [← c1]; exact get_lt hc
          have := u3 j vs[j] q vs[j].cells[q] hvj (by simp)
          rw [Nat.zero_add] at this
          rw [this] at hu
          cases hu
          exact ⟨c2 q c _ hc (by simp), c3 _ (by simp)⟩)
      have hlen : es.length = n := by rw [h4, h2, hn]
      rw [hlen] at r2
      refine ⟨.value _, _, _, G1, ρ2, ?_, .inl rfl, s2, e1.trans e2, by rw [hlen]; exact r2⟩
      have hps : (ps.map fun (i, x) => (i, a.eval x)).toList = ps.toList.map fun x => (x.1, a.eval x.2) := by simp
      rw [← h1] at u1
      simp only [execOp, ho, Instr.buildSlice, Sem.run_bind, run_underlying ht, Result.andThen_ok, run_sizeOf hsz2]
      rw [if_neg (by omega)]
      by_cases h0 : n * sz = 0
      · simp only [if_pos h0] at u1
        rw [if_pos h0]
        simp only [Sem.run_bind, Sem.run_pure, Result.andThen_ok, hps, u1, newRow, run_newObj]
      · simp only [if_neg h0] at u1
        rw [if_neg h0]
        have hzv : (zeroValue el).run P w = .ok zv w := by simp [zeroValue, typeInfo, hi, hz]
        simp only [Sem.run_bind, Sem.run_pure, Result.andThen_ok, hzv, hps, u1, newRow, run_newObj]
    · cases h
  · cases h
theorem setRow_eq {g : Nat} {old new : Array Value} {t : TypeId} {fr : Nat × Nat} (h : w.heap[g]? = some (.cells old t fr)) : (w.setRow g new).heap = w.heap.setIfInBounds g (.cells new t fr) := by
  have hlt := aget_lt h
  apply Array.ext'
  simp only [World.setRow, Array.toList_modify, Array.toList_setIfInBounds]
  apply List.ext_getElem?
  intro i
  rw [List.getElem?_modify]
  by_cases hi : g = i
  · subst hi
    have h' : w.heap.toList[g]? = some (.cells old t fr) := by simpa using h
    rw [List.getElem?_set_self (by simpa using hlt), h']
    simp
  · rw [List.getElem?_set_ne hi]
    cases w.heap.toList[i]? <;> simp [hi]
def wrote (arr : Array Value) (A : Nat) (vs : List Value) : Array Value := (arr.toList.take A ++ vs ++ arr.toList.drop (A + vs.length)).toArray
theorem wrote_get {arr : Array Value} {A : Nat} {vs : List Value} (h : A + vs.length ≤ arr.size) (i : Nat) : (wrote arr A vs)[i]? = if A ≤ i ∧ i < A + vs.length then vs[i - A]? else arr[i]? := by
  have := setCells_get arr.toList vs A i (by simpa using h)
  unfold wrote
  unfold setCells at this
  simpa using this
theorem wrote_size {arr : Array Value} {A : Nat} {vs : List Value} (h : A + vs.length ≤ arr.size) : (wrote arr A vs).size = arr.size := by
  unfold wrote; simp; omega
theorem run_storeAt {t el : TypeId} {blk A sz : Nat} {arr : Array Value} {v : Value} (hz : szP P t = some sz) (hh : w.heap[blk]? = some (.cells arr el (0, 0))) (hv : v.cells.size = sz) (hf : A + sz ≤ arr.size) (h1 : ∀ u ∈ v.cells, u.oneCell' = true) :
    (Instr.storeAt t (.pointer (some ⟨blk, A, none⟩)) v).run P w = .ok () (w.setRow blk (wrote arr A v.cells.toList)) := by
  have hst := run_storeCells_at P blk A el v.cells.toList 0 arr w hh (by simp [hv]; omega) (by simpa using h1)
  simp only [Nat.add_zero] at hst
  simp only [Instr.storeAt, Instr.sureAddr, Sem.run_bind, Sem.run_pure, Result.andThen_ok, storeVar, run_sizeOf hz]
  rw [if_neg (by simp [hv])]
  exact hst
theorem scal_cells {x y u : PV} {off sz : Nat} (hx : x.cells = [x]) (h : (if off = 0 ∧ sz = 1 then (match y with | .agg _ => none | y => some y) else none) = some u) :
    u.cells = setCells x.cells off y.cells ∧ off + y.cells.length ≤ x.cells.length ∧ y.cells.length = sz := by
  split at h
  · rename_i hc
    obtain ⟨rfl, rfl⟩ := hc
    rw [hx]
    cases y <;> cases h <;> simp [PV.cells, setCells]
  · cases h
theorem updPV_cells {x y u : PV} {off sz : Nat} (h : updPV x off sz y = some u) : u.cells = setCells x.cells off y.cells ∧ off + y.cells.length ≤ x.cells.length ∧ y.cells.length = sz := by
  cases x with
  | agg cs =>
    simp only [updPV] at h
    split at h
    · rename_i hc
      cases h
      exact ⟨rfl, by simp only [PV.cells] at *; omega, hc.1⟩
    · cases h
  | sl es => exact scal_cells rfl h
  | int k n => exact scal_cells rfl h
  | bool b => exact scal_cells rfl h
  | str s => exact scal_cells rfl h
theorem setCells_len2 {α : Type} {cs xs : List α} {off : Nat} (h : off + xs.length ≤ cs.length) : (setCells cs off xs).length = cs.length := setCells_len cs xs off h
theorem sim_store {sz : Nat} {t : TypeId} {p x : Operand} {p' x' : Opd} {r : CV × Store} (hs : St w G ρ σ) (he : RepE w G ρ e a.tmps) (ho : o.op = .store t p x) (hp : okOpd p p' = true) (hx : okOpd x x' = true) (hz : szP P t = some sz)
    (h : ev base sl (.store sz p' x') e σ = some r) : SimOp P o a w G ρ r.1 r.2 := by
  have h1 := okOpd_rep hp he
  have h2 := okOpd_rep hx he
  generalize hu : a.eval p = u at h1
  generalize hv : a.eval x = v at h2
  simp only [ev] at h
  split at h
  · rename_i b i off hpv
    rw [hpv] at h1
    obtain ⟨ad, rfl, hptr⟩ := rep_ptr h1
    split at h
    · rename_i s0 es0 hb0
      split at h
      · rename_i pv hfrz
        obtain ⟨G1, ρ1, s1, e1, hrep⟩ := give_one hs hfrz h2
        split at h
        · rename_i s es hb
          split at h
          · rename_i x0 hx0
            simp only [Option.map_eq_some_iff] at h
            obtain ⟨x1, hx1, rfl⟩ := h
            obtain ⟨u1, u2, u3⟩ := updPV_cells hx1
            obtain ⟨l, hl, hblk⟩ := s1.get hb
            have hlt := get_lt hx0
            have hptr1 := hptr.mono e1.loc
            cases l with
            | lv blk o' tot s' =>
              have hblk' := hblk
              obtain ⟨rfl, hng, arr, el, hh, rfl, hfit, hcl, hk⟩ := hblk'
              simp only [PtrOk, hl] at hptr1
              subst hptr1
              have hx0c := hcl i x0 hx0
              have hm : (i + 1) * s ≤ es.length * s := Nat.mul_le_mul_right _ hlt
              rw [Nat.succ_mul] at hm
              obtain ⟨v1, v2, v3⟩ := hrep.cells
              have hvsz : v.cells.size = sz := by rw [← v1, u3]
              have hA : o' + i * s + off + sz ≤ arr.size := by omega
              have hrun := run_storeAt (P := P) hz hh hvsz hA v3
              have hlen : v.cells.toList.length = sz := by simpa using hvsz
              obtain ⟨s2, e2⟩ := s1.write (w' := w.setRow blk (wrote arr (o' + i * s + off) v.cells.toList)) hl (aget_lt hh) (setRow_eq hh) (b := .prow s (es.set i x1)) (by
                have hGsame : ∀ k, G1 k → (w.setRow blk (wrote arr (o' + i * s + off) v.cells.toList)).heap[k]? = w.heap[k]? := by
                  intro k hk'
                  rw [setRow_eq hh, Array.getElem?_setIfInBounds_ne]
                  rintro rfl; exact hng hk'
                refine ⟨rfl, hng, wrote arr (o' + i * s + off) v.cells.toList, el, ?_, wrote_size (by rw [hlen]; omega), by simpa using hfit, ?_, ?_⟩
                · rw [setRow_eq hh, Array.getElem?_setIfInBounds_self_of_lt (aget_lt hh)]
                · intro j y hy
                  by_cases hji : i = j
                  · subst hji
                    rw [List.getElem?_set_self hlt] at hy
                    cases hy
                    rw [u1, setCells_len2 u2, hx0c]
                  · rw [List.getElem?_set_ne hji] at hy; exact hcl j y hy
                · intro j y k c q hy hc hq
                  rw [wrote_get (by rw [hlen]; omega), hlen] at hq
                  by_cases hji : i = j
                  · subst hji
                    rw [List.getElem?_set_self hlt] at hy
                    cases hy
                    rw [u1, setCells_get _ _ _ _ u2, u3] at hc
                    by_cases hin : off ≤ k ∧ k < off + sz
                    · rw [if_pos hin] at hc
                      rw [if_pos (by omega), show o' + i * s + k - (o' + i * s + off) = k - off by omega] at hq
                      have hq' : v.cells[k - off]? = some q := by simpa using hq
                      exact ⟨(v2 _ c q hc hq').mono hGsame (fun _ y => y), v3 q (Array.mem_of_getElem? hq')⟩
                    · rw [if_neg hin] at hc
                      rw [if_neg (by omega)] at hq
                      obtain ⟨y1, y2⟩ := hk i x0 k c q hx0 hc hq
                      exact ⟨y1.mono hGsame (fun _ y => y), y2⟩
                  · rw [List.getElem?_set_ne hji] at hy
                    have hks : k < s := by rw [← hcl j y hy]; exact get_lt hc
                    have hout : ¬ (o' + i * s + off ≤ o' + j * s + k ∧ o' + j * s + k < o' + i * s + off + sz) := by
                      rintro ⟨x2, x3⟩
                      rcases Nat.lt_or_gt_of_ne hji with hlt2 | hlt2
                      · have := Nat.mul_le_mul_right s (show i + 1 ≤ j from hlt2)
                        rw [Nat.succ_mul] at this
                        omega
                      · have := Nat.mul_le_mul_right s (show j + 1 ≤ i from hlt2)
                        rw [Nat.succ_mul] at this
                        omega
                    rw [if_neg hout] at hq
                    obtain ⟨y1, y2⟩ := hk j y k c q hy hc hq
                    exact ⟨y1.mono hGsame (fun _ y => y), y2⟩)
              refine ⟨.skip, undef, _, G1, ρ1, ?_, .inr ⟨rfl, rfl⟩, s2, e1.trans e2, .any _⟩
              simp only [execOp, ho, hu, hv, Sem.run_bind, hrun, Result.andThen_ok, Sem.run_pure]
            | det => simp only [BlkOk] at hblk; subst hblk; simp at hlt
            | dead => exact hblk.elim
            | hole => exact hblk.elim
          · cases h
        · cases h
      · cases h
    · rename_i s cs hb
      split at h
      · rename_i xs hxs
        split at h
        · rename_i hc
          cases h
          have hcr := rep_cells h2 hxs
          obtain ⟨l, hl, hblk⟩ := hs.get hb
          cases l with
          | lv blk o' tot s' =>
            obtain ⟨rfl, hng, arr, el, hh, rfl, hfit, hk⟩ := hblk
            simp only [PtrOk, hl] at hptr
            subst hptr
            have hvsz : v.cells.size = sz := by rw [← hcr.len, hc.1]
            have hlen : v.cells.toList.length = sz := by simpa using hvsz
            have hA : o' + i * s + off + sz ≤ arr.size := by omega
            have hrun := run_storeAt (P := P) hz hh hvsz hA hcr.one
            have hsc : i * s + off + xs.length ≤ cs.length := by omega
            obtain ⟨s2, e2⟩ := hs.write (w' := w.setRow blk (wrote arr (o' + i * s + off) v.cells.toList)) hl (aget_lt hh) (setRow_eq hh) (b := .kblk s (setCells cs (i * s + off) xs)) (by
              have hGsame : ∀ k, G k → (w.setRow blk (wrote arr (o' + i * s + off) v.cells.toList)).heap[k]? = w.heap[k]? := by
                intro k hk'
                rw [setRow_eq hh, Array.getElem?_setIfInBounds_ne]
                rintro rfl; exact hng hk'
              refine ⟨rfl, hng, wrote arr (o' + i * s + off) v.cells.toList, el, ?_, wrote_size (by rw [hlen]; omega), by rw [setCells_len2 hsc]; exact hfit, ?_⟩
              · rw [setRow_eq hh, Array.getElem?_setIfInBounds_self_of_lt (aget_lt hh)]
              · intro k c q hck hq
                rw [setCells_get _ _ _ _ hsc, hc.1] at hck
                rw [wrote_get (by rw [hlen]; omega), hlen] at hq
                by_cases hin : i * s + off ≤ k ∧ k < i * s + off + sz
                · rw [if_pos hin] at hck
                  rw [if_pos (by omega), show o' + k - (o' + i * s + off) = k - (i * s + off) by omega] at hq
                  have hq' : v.cells[k - (i * s + off)]? = some q := by simpa using hq
                  exact ⟨(hcr.rep _ c q hck hq').mono hGsame (fun _ y => y) (LocExt.refl _), hcr.one q (Array.mem_of_getElem? hq')⟩
                · rw [if_neg hin] at hck
                  rw [if_neg (by omega)] at hq
                  obtain ⟨y1, y2⟩ := hk k c q hck hq
                  exact ⟨y1.mono hGsame (fun _ y => y) (LocExt.refl _), y2⟩)
            refine ⟨.skip, undef, _, G, ρ, ?_, .inr ⟨rfl, rfl⟩, s2, e2, .any _⟩
            simp only [execOp, ho, hu, hv, Sem.run_bind, hrun, Result.andThen_ok, Sem.run_pure]
          | det => exact hblk.elim
          | dead => exact hblk.elim
          | hole => exact hblk.elim
        · cases h
      · cases h
    · cases h
  · cases h
end
end Go.Proofs.Ytdpdnplljonppaa.Vpi

namespace Go.Proofs.Ytdpdnplljonppaa.Vpi
open Go
set_option linter.unusedVariables false
set_option linter.unusedSimpArgs false
section
variable {P : Program} {o : Oper} {w : World} {G : Nat → Prop} {ρ : List Loc} {σ : Store} {e : Env} {a : Act} {base : Nat} {sl : Option Nat}
theorem push_loc {σ' : Store} {b : Blk} {k : Nat} {ρ : List Loc} (l : Loc) (hp : Vpi.push base sl σ b = some (k, σ')) (hlen : ρ.length = σ.length) :
    ∃ ρ' : List Loc, ρ'.length = σ'.length ∧ ρ'[k]? = some l ∧ σ'[k]? = some b ∧ (∀ (j : Nat) x, ρ'[j]? = some x → (j ≠ k ∧ ρ[j]? = some x ∧ σ'[j]? = σ[j]?) ∨ (j = k ∧ x = l)) ∧
      (∀ (j : Nat) x, ρ[j]? = some x → (j ≠ k ∧ ρ'[j]? = some x) ∨ (j = k ∧ σ[k]? = some .hole)) := by
  rcases push_spec hp with ⟨rfl, rfl⟩ | ⟨hk, rfl⟩
  · refine ⟨ρ ++ [l], by simp [hlen], by rw [← hlen]; simp, by simp, ?_, ?_⟩
    · intro j x hj
      rcases Nat.lt_or_ge j ρ.length with h1 | h1
      · rw [List.getElem?_append_left h1] at hj
        exact .inl ⟨by omega, hj, by rw [List.getElem?_append_left (by omega)]⟩
      · rw [List.getElem?_append_right h1] at hj
        have : j - ρ.length = 0 := by
          have := get_lt hj
          simp at this
          omega
        rw [this] at hj
        simp at hj
        exact .inr ⟨by omega, hj.symm⟩
    · intro j x hj
      have := get_lt hj
      exact .inl ⟨by omega, by rw [List.getElem?_append_left this]; exact hj⟩
  · have hlt : k < ρ.length := by rw [hlen]; exact get_lt hk
    refine ⟨ρ.set k l, by simp [hlen], by rw [List.getElem?_set_self hlt], by rw [List.getElem?_set_self (by omega)], ?_, ?_⟩
    · intro j x hj
      by_cases hjk : k = j
      · subst hjk; rw [List.getElem?_set_self hlt] at hj; cases hj; exact .inr ⟨rfl, rfl⟩
      · rw [List.getElem?_set_ne hjk] at hj
        exact .inl ⟨fun x => hjk x.symm, hj, by rw [List.getElem?_set_ne hjk]⟩
    · intro j x hj
      by_cases hjk : k = j
      · subst hjk; exact .inr ⟨rfl, hk⟩
      · exact .inl ⟨fun x => hjk x.symm, by rw [List.getElem?_set_ne hjk]; exact hj⟩
theorem St.pushDet {σ' : Store} {k sz : Nat} (hs : St w G ρ σ) (hp : Vpi.push base sl σ (.prow sz []) = some (k, σ')) :
    ∃ ρ', St w G ρ' σ' ∧ Ext w G ρ w G ρ' ∧ ρ'[k]? = some .det := by
  obtain ⟨ρ', h1, h2, h3, h4, h5⟩ := push_loc .det hp hs.len
  have hloc : LocExt ρ ρ' := by
    intro j x hj
    rcases h5 j x hj with ⟨_, h⟩ | ⟨rfl, h⟩
    · exact .inl h
    · have := hs.ok _ _ _ hj h
      unfold BlkOk at this
      split at this <;> simp_all
  refine ⟨ρ', ⟨hs.g, h1, ?_, ?_⟩, ⟨⟨rfl, rfl, rfl⟩, hloc, Nat.le_refl _, fun _ x => x, fun _ x => .inl x, fun _ _ _ => rfl, ?_⟩, h2⟩
  · intro i j q o1 t1 s1 o2 t2 s2 hi hj
    rcases h4 i _ hi with ⟨_, hi, _⟩ | ⟨_, hi⟩
    · rcases h4 j _ hj with ⟨_, hj, _⟩ | ⟨_, hj⟩
      · exact hs.inj i j q o1 t1 s1 o2 t2 s2 hi hj
      · cases hj
    · cases hi
  · intro i l b hi hb
    rcases h4 i _ hi with ⟨hne, hi, he⟩ | ⟨rfl, rfl⟩
    · rw [he] at hb
      exact (hs.ok i l b hi hb).mono (fun _ _ => rfl) (fun _ x => x) hloc fun _ _ _ _ _ => ⟨rfl, id⟩
    · rw [h3] at hb; cases hb; rfl
  · rintro q ⟨i, o1, t1, s1, hi⟩
    rcases h4 i _ hi with ⟨_, hi, _⟩ | ⟨_, hi⟩
    · exact .inl ⟨i, o1, t1, s1, hi⟩
    · cases hi
theorem St.repl {σ' : Store} {i k : Nat} {li l : Loc} {b : Blk} (hs : St w G ρ σ) (hi : ρ[i]? = some li) (hp : Vpi.push base sl (σ.set i .dead) b = some (k, σ'))
    (hl : ∀ (blk o t s : Nat), l = .lv blk o t s → ∃ o' t' s', li = .lv blk o' t' s') (hb : ∀ ρ', LocExt ρ ρ' → BlkOk w G ρ' l b) :
    ∃ ρ', St w G ρ' σ' ∧ Ext w G ρ w G ρ' ∧ ρ'[k]? = some l := by
  have hilt := get_lt hi
  obtain ⟨ρ', h1, h2, h3, h4, h5⟩ := push_loc (ρ := ρ.set i .dead) l hp (by simp [hs.len])
  have hset : ∀ (j : Nat) x, (ρ.set i Loc.dead)[j]? = some x → (j ≠ i ∧ ρ[j]? = some x) ∨ (j = i ∧ x = .dead) := by
    intro j x hj
    by_cases hji : i = j
    · subst hji; rw [List.getElem?_set_self hilt] at hj; cases hj; exact .inr ⟨rfl, rfl⟩
    · rw [List.getElem?_set_ne hji] at hj; exact .inl ⟨fun x => hji x.symm, hj⟩
  have hloc : LocExt ρ ρ' := by
    intro j x hj
    by_cases hji : i = j
    · subst hji
      have h0 : (ρ.set i Loc.dead)[i]? = some .dead := by rw [List.getElem?_set_self hilt]
      rcases h5 i _ h0 with ⟨_, h⟩ | ⟨hk, h⟩
      · exact .inr (.inl h)
      · subst hk; rw [List.getElem?_set_self (by rw [← hs.len]; exact hilt)] at h; cases h
    · have h0 : (ρ.set i Loc.dead)[j]? = some x := by rw [List.getElem?_set_ne hji]; exact hj
      rcases h5 j _ h0 with ⟨_, h⟩ | ⟨hk, h⟩
      · exact .inl h
      · subst hk
        rw [List.getElem?_set_ne hji] at h
        have := hs.ok _ _ _ hj h
        unfold BlkOk at this
        split at this <;> simp_all
  refine ⟨ρ', ⟨hs.g, h1, ?_, ?_⟩, ⟨⟨rfl, rfl, rfl⟩, hloc, Nat.le_refl _, fun _ x => x, fun _ x => .inl x, fun _ _ _ => rfl, ?_⟩, h2⟩
  · intro x y q o1 t1 s1 o2 t2 s2 hx hy
    rcases h4 x _ hx with ⟨hxk, hx, _⟩ | ⟨hxk, hx⟩ <;> rcases h4 y _ hy with ⟨hyk, hy, _⟩ | ⟨hyk, hy⟩
    · rcases hset x _ hx with ⟨_, hx⟩ | ⟨_, hx⟩
      · rcases hset y _ hy with ⟨_, hy⟩ | ⟨_, hy⟩
        · exact hs.inj x y q o1 t1 s1 o2 t2 s2 hx hy
        · cases hy
      · cases hx
    · rcases hset x _ hx with ⟨hxi, hx⟩ | ⟨_, hx⟩
      · obtain ⟨o', t', s', rfl⟩ := hl _ _ _ _ hy.symm
        exact absurd (hs.inj x i q o1 t1 s1 o' t' s' hx hi) hxi
      · cases hx
    · rcases hset y _ hy with ⟨hyi, hy⟩ | ⟨_, hy⟩
      · obtain ⟨o', t', s', rfl⟩ := hl _ _ _ _ hx.symm
        exact absurd (hs.inj y i q o2 t2 s2 o' t' s' hy hi) hyi
      · cases hy
    · omega
  · intro j x y hj hy
    rcases h4 j _ hj with ⟨hne, hj, he⟩ | ⟨rfl, rfl⟩
    · rw [he] at hy
      rcases hset j _ hj with ⟨hji, hj⟩ | ⟨rfl, rfl⟩
      · rw [List.getElem?_set_ne (fun z => hji z.symm)] at hy
        exact (hs.ok j x y hj hy).mono (fun _ _ => rfl) (fun _ x => x) hloc fun _ _ _ _ _ => ⟨rfl, id⟩
      · rw [List.getElem?_set_self (by rw [← hs.len]; exact hilt)] at hy
        cases hy
        trivial
    · rw [h3] at hy; cases hy; exact hb _ hloc
  · rintro q ⟨x, o1, t1, s1, hx⟩
    rcases h4 x _ hx with ⟨_, hx, _⟩ | ⟨_, hx⟩
    · rcases hset x _ hx with ⟨_, hx⟩ | ⟨_, hx⟩
      · exact .inl ⟨x, o1, t1, s1, hx⟩
      · cases hx
    · obtain ⟨o', t', s', rfl⟩ := hl _ _ _ _ hx.symm
      exact .inl ⟨i, o', t', s', hi⟩
theorem content_rep {c : CV} {xs : List PV} {v : Value} {sz : Nat} (hs : St w G ρ σ) (h : content σ c = some xs) (hr : RepC w G ρ c v) (hall : allSz sz xs = true) :
    ∃ (ad : Option Addr) (cap : Nat) (us : List Value), v = .slice ad xs.length cap ∧ xs.length ≤ cap ∧ us.length = xs.length * sz ∧ (∀ A, ad = some A → ∀ (j : Nat) u, us[j]? = some u → w.cell? (A.add j) = some u) ∧ (ad = none → xs = []) ∧
      (∀ (i : Nat) x (k : Nat) c u, xs[i]? = some x → x.cells[k]? = some c → us[i * sz + k]? = some u → RepP w G c u) ∧ ∀ u ∈ us, u.oneCell' = true := by
  have hall' : ∀ (i : Nat) x, xs[i]? = some x → x.cells.length = sz := fun i x hx => by simpa using List.all_eq_true.1 hall x (List.mem_of_getElem? hx)
  -- out of a block that has the cells
  have key : ∀ (ad : Option Addr) (cap blk B : Nat) (arr : Array Value) (el : TypeId) (fr : Nat × Nat), xs ≠ [] → v = .slice ad xs.length cap → xs.length ≤ cap → ad = some ⟨blk, B, none⟩ → w.heap[blk]? = some (.cells arr el fr) → B + xs.length * sz ≤ arr.size →
      (∀ (i : Nat) x (k : Nat) c u, xs[i]? = some x → x.cells[k]? = some c → arr[B + i * sz + k]? = some u → RepP w G c u ∧ u.oneCell' = true) →
      ∃ (ad : Option Addr) (cap : Nat) (us : List Value), v = .slice ad xs.length cap ∧ xs.length ≤ cap ∧ us.length = xs.length * sz ∧ (∀ A, ad = some A → ∀ (j : Nat) u, us[j]? = some u → w.cell? (A.add j) = some u) ∧ (ad = none → xs = []) ∧
      (∀ (i : Nat) x (k : Nat) c u, xs[i]? = some x → x.cells[k]? = some c → us[i * sz + k]? = some u → RepP w G c u) ∧ ∀ u ∈ us, u.oneCell' = true := by
    intro ad cap blk B arr el fr hne hv hcap had hh hfit hk
    have hget : ∀ j : Nat, j < xs.length * sz → ((arr.toList.drop B).take (xs.length * sz))[j]? = arr[B + j]? := by
      intro j hj
      rw [List.getElem?_take, if_pos hj, List.getElem?_drop]
      simp
    refine ⟨ad, cap, (arr.toList.drop B).take (xs.length * sz), hv, hcap, by simp; omega, ?_, (by rw [had]; intro x; cases x), ?_, ?_⟩
    · intro A hA j u hu
      rw [had] at hA
      cases hA
      have hj := get_lt hu
      rw [hget j (by simp at hj; omega)] at hu
      rw [add_at, cell_at hh]
      exact hu
    · intro i x k c u hx hc hu
      have hi := get_lt hx
      have hkk := get_lt hc
      rw [hall' i x hx] at hkk
      have : (i + 1) * sz ≤ xs.length * sz := Nat.mul_le_mul_right _ hi
      rw [Nat.succ_mul] at this
      rw [hget _ (by omega), ← Nat.add_assoc] at hu
      exact (hk i x k c u hx hc hu).1
    · intro u hu
      obtain ⟨j, hj⟩ := List.getElem?_of_mem hu
      have hjl := get_lt hj
      simp at hjl
      have hj2 : j < xs.length * sz := by omega
      rw [hget j hj2] at hj
      rcases Nat.eq_zero_or_pos sz with h0 | h0
      · subst h0; simp at hj2
      · have hq : j / sz < xs.length := Nat.div_lt_of_lt_mul (by rw [Nat.mul_comm]; exact hj2)
        have hx : xs[j / sz]? = some (xs[j / sz]) := by simp
        have hm : j % sz < (xs[j / sz]).cells.length := by rw [hall' _ _ hx]; exact Nat.mod_lt _ h0
        have hj3 : arr[B + j / sz * sz + j % sz]? = some u := by
          rw [Nat.add_assoc, Nat.div_add_mod' j sz]; exact hj
        exact (hk _ _ (j % sz) ((xs[j / sz]).cells[j % sz]'hm) u hx (List.getElem?_eq_getElem hm) hj3).2
  have empty : xs = [] → ∀ (ad : Option Addr) (cap : Nat), v = .slice ad xs.length cap → ∃ (ad : Option Addr) (cap : Nat) (us : List Value), v = .slice ad xs.length cap ∧ xs.length ≤ cap ∧ us.length = xs.length * sz ∧ (∀ A, ad = some A → ∀ (j : Nat) u, us[j]? = some u → w.cell? (A.add j) = some u) ∧ (ad = none → xs = []) ∧
      (∀ (i : Nat) x (k : Nat) c u, xs[i]? = some x → x.cells[k]? = some c → us[i * sz + k]? = some u → RepP w G c u) ∧ ∀ u ∈ us, u.oneCell' = true := by
    intro h0 ad cap hv
    exact ⟨ad, cap, [], hv, by rw [h0]; simp, by rw [h0]; simp, by simp, fun _ => h0, by simp, by simp⟩
  unfold content at h
  split at h
  · cases h
    obtain ⟨ad, cap, rfl, hcap, hcase⟩ := rep_sl (rep_p hr)
    rcases hcase with h0 | ⟨blk, off, arr, el, fr, s, rfl, hg, hh, hfit, hlen, hk⟩
    · exact empty h0 ad cap rfl
    · by_cases h0 : xs = []
      · exact empty h0 _ cap rfl
      · obtain ⟨x, hx⟩ : ∃ x, xs[0]? = some x := by
          cases xs with
          | nil => exact absurd rfl h0
          | cons x l => exact ⟨x, rfl⟩
        have hss : s = sz := by rw [← hlen 0 x hx, hall' 0 x hx]
        subst hss
        exact key _ cap blk off arr el fr h0 rfl hcap rfl hh hfit hk
  · cases h
    have := rep_nils hr
    exact empty rfl none 0 this
  · rename_i b off n
    split at h
    · rename_i s es hb
      split at h
      · rename_i hle
        cases h
        obtain ⟨ad, cap, rfl, hcap, hok⟩ := rep_own hr
        have hlen : ((es.drop off).take n).length = n := by simp; omega
        by_cases h0 : (es.drop off).take n = []
        · exact empty h0 ad cap (by rw [hlen])
        · have hn : n ≠ 0 := by rintro rfl; exact h0 (by simp)
          obtain ⟨l, hl, hblk⟩ := hs.get hb
          simp only [OwnOk, hl] at hok
          cases l with
          | lv blk o' t s' =>
            obtain ⟨rfl, hng, arr, el, hh, rfl, hfit, hcl, hk⟩ := hblk
            simp only at hok
            rcases hok with rfl | ⟨rfl, hf2⟩
            · omega
            · have hx0 : (es.drop off)[0]? = some (es[off]'(by omega)) := by simp
              have hss : s = sz := by
                rw [← hcl off (es[off]'(by omega)) (by simp)]
                exact hall' 0 _ (by rw [List.getElem?_take, if_pos (by omega)]; exact hx0)
              subst hss
              have hmul : (off + n) * s ≤ es.length * s := Nat.mul_le_mul_right _ hle
              rw [Nat.add_mul] at hmul
              refine key _ cap blk (o' + off * s) arr el (0, 0) h0 (by rw [hlen]) (by rw [hlen]; exact hcap) rfl hh (by rw [hlen]; omega) ?_
              intro i x k c u hx hc hu
              rw [List.getElem?_take] at hx
              split at hx
              · rw [List.getElem?_drop] at hx
                exact hk (off + i) x k c u hx hc (by rw [Nat.add_mul, show o' + (off * s + i * s) + k = o' + off * s + i * s + k by omega]; exact hu)
              · cases hx
          | det => simp only at hok; omega
          | dead => exact hblk.elim
          | hole => exact hblk.elim
      · cases h
    · cases h
  · cases h
theorem run_first {size n cap : Nat} {ad : Option Addr} {us : List Value} {w' : World} (hl : us.length = n * size) (h : ∀ A, ad = some A → ∀ (j : Nat) u, us[j]? = some u → w'.cell? (A.add j) = some u) (hn : ad = none → n = 0) :
    (Builtin.firstCells size n (.slice ad n cap)).run P w' = .ok us.toArray w' := by
  cases ad with
  | none =>
    have := hn rfl
    subst this
    have : us = [] := by simpa using hl
    subst this
    simp [Builtin.firstCells]
  | some A => exact run_firstCells_some (P := P) w' size n A n cap us hl (h A rfl)
theorem run_app_fits {t el ty : TypeId} {i : TypeInfo} {n cap m bcap : Nat} {ad bd : Option Addr} {us : List Value} {w' : World} (ht : P.underlying t = some (.slice el)) (hi : P.info? el = some i) (hl : us.length = m * i.size)
    (h : ∀ A, bd = some A → ∀ (j : Nat) u, us[j]? = some u → w.cell? (A.add j) = some u) (hn : bd = none → m = 0) (hroom : n + m ≤ cap)
    (hst : match ad with | some A => (storeCells (A.add (n * i.size)) us).run P w = .ok () w' | none => w' = w) :
    (Builtin.append_ #[t, t] ty #[.slice ad n cap, .slice bd m bcap]).run P w = .ok (.slice ad (n + m) cap) w' := by
  have hf := run_first (P := P) (cap := bcap) (w' := w) hl h hn
  cases ad with
  | none => subst hst; simp [Builtin.append_, run_underlying ht, sizeOf, typeInfo, hi, Builtin.lenOf, hroom, hf]
  | some A => simp [Builtin.append_, run_underlying ht, sizeOf, typeInfo, hi, Builtin.lenOf, hroom, hf, hst]
theorem run_app_grows {t el ty : TypeId} {i : TypeInfo} {z : Value} {n cap m bcap : Nat} {ad bd : Option Addr} {os us : List Value} (ht : P.underlying t = some (.slice el)) (hi : P.info? el = some i) (hz : i.zero = some z) (hlo : os.length = n * i.size) (hl : us.length = m * i.size)
    (ho : ∀ A, ad = some A → ∀ (j : Nat) u, os[j]? = some u → w.cell? (A.add j) = some u) (hno : ad = none → n = 0 ∧ cap = 0)
    (h : ∀ A, bd = some A → ∀ (j : Nat) u, us[j]? = some u → w.cell? (A.add j) = some u) (hn : bd = none → m = 0) (hg : cap < n + m) (hncap : n ≤ cap) (hbytes : (n + m) * i.bytes ≤ 140737488355328) (h63 : ((n + m : Nat) : Int) ≤ 9223372036854775807) :
    (Builtin.append_ #[t, t] ty #[.slice ad n cap, .slice bd m bcap]).run P w =
      .ok (.slice (some ⟨w.heap.size, 0, none⟩) (n + m) (grownCap w (n + m) cap el)) (w.drew.alloc (.cells (os.toArray ++ us.toArray ++ Builtin.zeroCells z.cells (grownCap w (n + m) cap el - (n + m))) el)) := by
  cases bd with
  | none => have := hn rfl; omega
  | some B =>
    cases ad with
    | none =>
      obtain ⟨rfl, rfl⟩ := hno rfl
      have : os = [] := by simpa using hlo
      subst this
      have := run_append_nil (P := P) w t ty el i z ht hi hz B m bcap us hl (h B rfl) (by omega) (by omega) (by rw [Nat.zero_add] at hbytes; omega)
      simp only [Nat.zero_add]
      rw [this]
      simp
    | some A =>
      exact run_append_grow (P := P) w t ty el i z ht hi hz A n cap os hlo (ho A rfl) B m bcap us hl (h B rfl) hg h63 (growslice_fits hg hbytes)
theorem seg_get {os us zs : List Value} {A B : List PV} {sz i k : Nat} {x : PV} (hlo : os.length = A.length * sz) (hl : us.length = B.length * sz) (hx : (A ++ B)[i]? = some x) (hk : k < sz) :
    (i < A.length ∧ A[i]? = some x ∧ (os ++ us ++ zs)[i * sz + k]? = os[i * sz + k]?) ∨ (A.length ≤ i ∧ B[i - A.length]? = some x ∧ (os ++ us ++ zs)[i * sz + k]? = us[(i - A.length) * sz + k]?) := by
  rcases Nat.lt_or_ge i A.length with h | h
  · rw [List.getElem?_append_left h] at hx
    have : (i + 1) * sz ≤ A.length * sz := Nat.mul_le_mul_right _ h
    rw [Nat.succ_mul] at this
    exact .inl ⟨h, hx, by rw [List.append_assoc, List.getElem?_append_left (by omega)]⟩
  · rw [List.getElem?_append_right h] at hx
    have hb := get_lt hx
    have : (i - A.length + 1) * sz ≤ B.length * sz := Nat.mul_le_mul_right _ hb
    rw [Nat.succ_mul] at this
    have hmul : i * sz = A.length * sz + (i - A.length) * sz := by rw [← Nat.add_mul]; congr 1; omega
    refine .inr ⟨h, hx, ?_⟩
    rw [List.append_assoc, List.getElem?_append_right (by omega), List.getElem?_append_left (by omega)]
    congr 1; omega
theorem exec_append {c : Call} {x y : Operand} {t : TypeId} (ho : o.op = .call c) (hc1 : c.callee = .builtin .append) (hc2 : c.args = #[x, y]) (hc3 : c.argTypes = #[t, t]) :
    (execOp a.eval o).run P w = ((Builtin.append_ #[t, t] o.type #[a.eval x, a.eval y]).run P w).andThen fun v w => .ok (.value v) w := by
  simp [execOp, ho, resolve, hc1, hc2, hc3, invoke, builtin]
theorem sim_append {sz bytes : Nat} {t el : TypeId} {x y : Operand} {x' y' : Opd} {i : TypeInfo} {z : Value} {r : CV × Store} (hs : St w G ρ σ) (he : RepE w G ρ e a.tmps) (ho : ∃ c : Call, o.op = .call c ∧ c.callee = .builtin .append ∧ c.args = #[x, y] ∧ c.argTypes = #[t, t])
    (hx : okOpd x x' = true) (hy : okOpd y y' = true) (ht : P.underlying t = some (.slice el)) (hi : P.info? el = some i) (hsz : i.size = sz) (hby : i.bytes = bytes) (hz : i.zero = some z) (hzs : z.cells.size = sz) (h0 : sz ≠ 0) (hb0 : bytes ≠ 0)
    (h : ev base sl (.append sz bytes x' y') e σ = some r) : SimOp P o a w G ρ r.1 r.2 := by
  have r1 := okOpd_rep hx he
  have r2 := okOpd_rep hy he
  obtain ⟨c, ho, hc1, hc2, hc3⟩ := ho
  have exec := exec_append (P := P) (w := w) (a := a) ho hc1 hc2 hc3
  generalize hu : a.eval x = u at r1
  generalize hv : a.eval y = v at r2
  rw [hu, hv] at exec
  simp only [ev] at h
  split at h
  · rename_i A B hA hB
    split at h
    · rename_i hcond
      obtain ⟨hbytes, hallB⟩ := hcond
      obtain ⟨bd, bcap, us, rfl, hbcap, hul, hucell, hunone, hurep, hu1⟩ := content_rep hs hB r2 hallB
      subst hsz hby
      have h63 : ((A.length + B.length : Nat) : Int) ≤ 9223372036854775807 := by
        have : (A.length + B.length) * 1 ≤ (A.length + B.length) * i.bytes := Nat.mul_le_mul_left _ (by omega)
        omega
      -- a new block
      have fresh : ∀ {G1 : Nat → Prop} {ρ1 : List Loc} {σ1 σ' : Store} {k : Nat} {ad : Option Addr} {cap : Nat} {os : List Value}, St w G1 ρ1 σ1 → Ext w G ρ w G1 ρ1 → Vpi.push base sl σ1 (.prow i.size (A ++ B)) = some (k, σ') → r = (.own k 0 (A.length + B.length), σ') → u = .slice ad A.length cap → os.length = A.length * i.size →
          (∀ A', ad = some A' → ∀ (j : Nat) u, os[j]? = some u → w.cell? (A'.add j) = some u) → (ad = none → A.length = 0 ∧ cap = 0) → cap < A.length + B.length → A.length ≤ cap → allSz i.size A = true → ((A.length + B.length : Nat) : Int) ≤ 9223372036854775807 →
          (∀ (j : Nat) x (k : Nat) c q, A[j]? = some x → x.cells[k]? = some c → os[j * i.size + k]? = some q → RepP w G1 c q) → (∀ q ∈ os, q.oneCell' = true) → SimOp P o a w G ρ r.1 r.2 := by
        intro G1 ρ1 σ1 σ' k ad cap os s1 e1 hp hr hua hol hoc hon hg hnc hallA h63 horep ho1
        subst hr hua
        have hrun := run_app_grows (P := P) (w := w) (ty := o.type) (bcap := bcap) ht hi hz hol hul hoc hon hucell (fun x => by rw [hunone x]; rfl) hg hnc hbytes h63
        have hge := grownCap_ge w (A.length + B.length) cap el
        have hAc : ∀ (j : Nat) x, A[j]? = some x → x.cells.length = i.size := fun j x hx => by simpa using List.all_eq_true.1 hallA x (List.mem_of_getElem? hx)
        have hBc : ∀ (j : Nat) x, B[j]? = some x → x.cells.length = i.size := fun j x hx => by simpa using List.all_eq_true.1 hallB x (List.mem_of_getElem? hx)
        have hABc : ∀ (j : Nat) x, (A ++ B)[j]? = some x → x.cells.length = i.size := by
          intro j x hx
          rcases Nat.lt_or_ge j A.length with h1 | h1
          · rw [List.getElem?_append_left h1] at hx; exact hAc j x hx
          · rw [List.getElem?_append_right h1] at hx; exact hBc _ x hx
        have harr : (os.toArray ++ us.toArray ++ Builtin.zeroCells z.cells (grownCap w (A.length + B.length) cap el - (A.length + B.length))).size = grownCap w (A.length + B.length) cap el * i.size := by
          simp only [Array.size_append, List.size_toArray, hol, hul, size_zeroCells, hzs]
          rw [← Nat.add_mul, ← Nat.add_mul]
          congr 1; omega
        obtain ⟨ρ2, s2, e2, rep2⟩ := push_row (n := A.length + B.length) (w' := w.drew.alloc (.cells (os.toArray ++ us.toArray ++ Builtin.zeroCells z.cells (grownCap w (A.length + B.length) cap el - (A.length + B.length))) el)) s1 hp rfl hge (by rw [harr]; exact Nat.le_refl _)
          (by rw [harr, List.length_append]; exact Nat.mul_le_mul_right _ hge) hABc
          (by
            intro j x q c p hx hc hp'
            have hq : q < i.size := by rw [← hABc j x hx]; exact get_lt hc
            have hget : (os ++ us ++ (Builtin.zeroCells z.cells (grownCap w (A.length + B.length) cap el - (A.length + B.length))).toList)[j * i.size + q]? = some p := by
              have : (os.toArray ++ us.toArray ++ Builtin.zeroCells z.cells (grownCap w (A.length + B.length) cap el - (A.length + B.length))).toList = os ++ us ++ (Builtin.zeroCells z.cells (grownCap w (A.length + B.length) cap el - (A.length + B.length))).toList := by simp
              rw [← this, Array.getElem?_toList]
              exact hp'
            rcases seg_get (zs := (Builtin.zeroCells z.cells (grownCap w (A.length + B.length) cap el - (A.length + B.length))).toList) hol hul hx hq with ⟨h1, h2, h3⟩ | ⟨h1, h2, h3⟩
            · rw [h3] at hget
              exact ⟨horep j x q c p h2 hc hget, ho1 p (List.mem_of_getElem? hget)⟩
            · rw [h3] at hget
              exact ⟨(hurep _ x q c p h2 hc hget).mono (fun _ _ => rfl) e1.grow, hu1 p (List.mem_of_getElem? hget)⟩)
        refine ⟨.value _, _, _, G1, ρ2, ?_, .inl rfl, s2, e1.trans e2, rep2⟩
        rw [exec, hrun]; rfl
      split at h
      · -- nil
        rename_i hnil
        rw [hnil] at r1 hA
        have hu0 := rep_nils r1
        subst hu0
        simp only [content, Option.some.injEq] at hA
        subst hA
        simp only [Option.map_eq_some_iff] at h
        obtain ⟨⟨k, σ'⟩, hp, hr⟩ := h
        by_cases hm : B.length = 0
        · have hB0 : B = [] := by simpa using hm
          subst hB0
          obtain ⟨ρ', s1, e1, hk⟩ := hs.pushDet hp
          subst hr
          have hrun := run_app_fits (P := P) (w := w) (ty := o.type) (n := 0) (cap := 0) (ad := none) (bcap := bcap) (w' := w) ht hi hul hucell (fun _ => rfl) (by simp) rfl
          refine ⟨.value _, _, w, G, ρ', by rw [exec, hrun]; rfl, .inl rfl, s1, e1, ?_⟩
          exact .own _ _ _ _ _ (by simp) (by simp [OwnOk, hk])
        · exact fresh (os := []) hs Ext.refl hp hr.symm rfl (by simp) (by simp) (fun _ => ⟨rfl, rfl⟩) (by simp; omega) (by simp) (by simp [allSz]) h63 (by simp) (by simp)
      · -- a block of our own
        rename_i b off n hown
        split at h
        · rename_i s es hb
          split at h
          · rename_i hss
            subst hss
            simp only [Option.map_eq_some_iff] at h
            obtain ⟨⟨k, σ'⟩, hp, hr⟩ := h
            rw [hown] at r1 hA
            have r1' := r1
            obtain ⟨ad, cap, rfl, hcap, hok⟩ := rep_own r1
            obtain ⟨l, hl, hblk⟩ := hs.get hb
            have hA' := hA
            simp only [content, hb] at hA'
            split at hA'
            · rename_i hle
              cases hA'
              have hlen : ((es.drop off).take n).length = n := by simp; omega
              have hcl : ∀ (j : Nat) x, es[j]? = some x → x.cells.length = i.size := by
                cases l with
                | lv blk o' t s' => obtain ⟨rfl, _, _, _, _, _, _, hcl, _⟩ := hblk; exact hcl
                | det => simp only [BlkOk] at hblk; subst hblk; simp
                | dead => exact hblk.elim
                | hole => exact hblk.elim
              have hallA : allSz i.size ((es.drop off).take n) = true := by
                rw [allSz, List.all_eq_true]
                intro x hx
                have := List.mem_of_mem_drop (List.mem_of_mem_take hx)
                obtain ⟨j, hj⟩ := List.getElem?_of_mem this
                simpa using hcl j x hj
              obtain ⟨ad2, cap2, os, he2, _, hol, hocell, honone, horep, ho1⟩ := content_rep hs hA r1' hallA
              simp only [Value.slice.injEq] at he2
              obtain ⟨rfl, _, rfl⟩ := he2
              rw [hlen] at hol h63 hbytes
              -- the old block is given up
              have hdie : ∃ G1 ρ1, St w G1 ρ1 (σ.set b .dead) ∧ Ext w G ρ w G1 ρ1 := by
                cases l with
                | lv blk o' t s' => obtain ⟨x1, x2⟩ := hs.give hl; exact ⟨_, _, x1, x2⟩
                | det => obtain ⟨x1, x2⟩ := hs.giveDet hl (by rintro ⟨_, _, _, _, x⟩; cases x); exact ⟨_, _, x1, x2⟩
                | dead => exact hblk.elim
                | hole => exact hblk.elim
              rcases Nat.lt_or_ge cap (n + B.length) with hroom | hroom
              · obtain ⟨G1, ρ1, s1, e1⟩ := hdie
                refine fresh (os := os) (cap := cap) (ad := ad) s1 e1 hp hr.symm (by rw [hlen]) (by rw [hlen]; exact hol) hocell ?_ (by rw [hlen]; exact hroom) (by rw [hlen]; exact hcap) hallA (by rw [hlen]; exact h63) ?_ ho1
                · intro hnone
                  have := honone hnone
                  refine ⟨by rw [this]; rfl, ?_⟩
                  simp only [OwnOk, hl] at hok
                  cases l with
                  | lv blk o' t s' =>
                    simp only at hok
                    rcases hok with h | ⟨h, _⟩
                    · exact h
                    · rw [hnone] at h; cases h
                  | det => exact hok
                  | dead => exact hblk.elim
                  | hole => exact hblk.elim
                · intro j x k c q h1 h2 h3
                  exact (horep j x k c q h1 h2 h3).mono (fun _ _ => rfl) e1.grow
              · -- there is room
                by_cases hm : B.length = 0
                · have hB0 : B = [] := by simpa using hm
                  subst hB0
                  have hus : us = [] := by simpa using hul
                  subst hus
                  have hrun := run_app_fits (P := P) (w := w) (ty := o.type) (n := n) (cap := cap) (ad := ad) (bcap := bcap) (w' := w) ht hi hul hucell (fun x => rfl) (by simpa using hcap) (by cases ad <;> rfl)
                  have hnewloc : ∃ l', (∀ (blk o t s : Nat), l' = .lv blk o t s → ∃ o' t' s', l = .lv blk o' t' s') ∧ (∀ ρ', LocExt ρ ρ' → BlkOk w G ρ' l' (.prow i.size ((es.drop off).take n))) ∧
                      (match l' with | .lv blk o tot sz => cap = 0 ∨ (ad = some ⟨blk, o + 0 * sz, none⟩ ∧ o + (0 + cap) * sz ≤ tot) | .det => cap = 0 | _ => False) := by
                    cases l with
                    | lv blk o' t s' =>
                      obtain ⟨rfl, hng, arr, el', hh, rfl, hfit, hcl2, hk2⟩ := hblk
                      simp only [OwnOk, hl] at hok
                      rcases hok with hc0 | ⟨hada, hf2⟩
                      · refine ⟨.det, by simp, ?_, hc0⟩
                        intro ρ' _
                        have : n = 0 := by omega
                        subst this
                        simp [BlkOk]
                      · have hmul : (off + n) * i.size ≤ es.length * i.size := Nat.mul_le_mul_right _ hle
                        rw [Nat.add_mul] at hmul
                        refine ⟨.lv blk (o' + off * i.size) arr.size i.size, ?_, ?_, .inr ⟨by simpa using hada, by rw [Nat.add_mul] at hf2; simpa [Nat.add_assoc] using hf2⟩⟩
                        · rintro blk' o2 t2 s2 h2; cases h2; exact ⟨_, _, _, rfl⟩
                        · intro ρ' _
                          refine ⟨rfl, hng, arr, el', hh, rfl, by rw [hlen]; omega, ?_, ?_⟩
                          · intro j x hx
                            rw [List.getElem?_take] at hx
                            split at hx
                            · rw [List.getElem?_drop] at hx; exact hcl2 _ _ hx
                            · cases hx
                          · intro j x k c u hx hc hu
                            rw [List.getElem?_take] at hx
                            split at hx
                            · rw [List.getElem?_drop] at hx
                              exact hk2 (off + j) x k c u hx hc (by rw [Nat.add_mul, show o' + (off * i.size + j * i.size) + k = o' + off * i.size + j * i.size + k by omega]; exact hu)
                            · cases hx
                    | det =>
                      refine ⟨.det, by simp, ?_, by simpa [OwnOk, hl] using hok⟩
                      intro ρ' _
                      simp only [BlkOk] at hblk ⊢
                      subst hblk
                      simp
                    | dead => exact hblk.elim
                    | hole => exact hblk.elim
                  obtain ⟨l', hl'1, hl'2, hl'3⟩ := hnewloc
                  simp only [List.append_nil] at hp
                  obtain ⟨ρ', s1, e1, hk⟩ := hs.repl hl hp hl'1 hl'2
                  subst hr
                  refine ⟨.value _, _, w, G, ρ', by rw [exec, hrun]; rfl, .inl rfl, s1, e1, ?_⟩
                  have hrep : RepC w G ρ' (.own k 0 n) (.slice ad n cap) := by
                    refine .own _ _ _ _ _ (by simpa using hcap) ?_
                    simp only [OwnOk, hk]
                    cases l' <;> first | exact hl'3 | exact hl'3.elim
                  simpa [hlen] using hrep
                · cases l with
                  | lv blk o' t s' =>
                    obtain ⟨rfl, hng, arr, el', hh, rfl, hfit, hcl2, hk2⟩ := hblk
                    simp only [OwnOk, hl] at hok
                    rcases hok with hc0 | ⟨rfl, hf2⟩
                    · omega
                    · have hmul : (off + n) * i.size ≤ es.length * i.size := Nat.mul_le_mul_right _ hle
                      have hmul2 : (off + (n + B.length)) * i.size ≤ (off + cap) * i.size := Nat.mul_le_mul_right _ (by omega)
                      have hx1 : (off + n) * i.size = off * i.size + n * i.size := Nat.add_mul _ _ _
                      have hx2 : (off + (n + B.length)) * i.size = off * i.size + n * i.size + B.length * i.size := by rw [Nat.add_mul, Nat.add_mul]; omega
                      have hW : o' + off * i.size + n * i.size + us.length ≤ arr.size := by rw [hul]; omega
                      have hst := run_storeCells_at P blk (o' + off * i.size + n * i.size) el' us 0 arr w hh (by omega) hu1
                      simp only [Nat.add_zero] at hst
                      have hrun := run_app_fits (P := P) (w := w) (ty := o.type) (n := n) (cap := cap) (ad := some ⟨blk, o' + off * i.size, none⟩) (bcap := bcap) (w' := w.setRow blk (wrote arr (o' + off * i.size + n * i.size) us)) ht hi hul hucell (fun x => by rw [hunone x]; rfl) hroom
                        (by simp only [add_at]; exact hst)
                      have hGsame : ∀ k, G k → (w.setRow blk (wrote arr (o' + off * i.size + n * i.size) us)).heap[k]? = w.heap[k]? := by
                        intro q hq
                        rw [setRow_eq hh, Array.getElem?_setIfInBounds_ne]
                        rintro rfl; exact hng hq
                      have hnew : (w.setRow blk (wrote arr (o' + off * i.size + n * i.size) us)).heap[blk]? = some (.cells (wrote arr (o' + off * i.size + n * i.size) us) el' (0, 0)) := by
                        rw [setRow_eq hh, Array.getElem?_setIfInBounds_self_of_lt (aget_lt hh)]
                      obtain ⟨s1, e1⟩ := hs.write (w' := w.setRow blk (wrote arr (o' + off * i.size + n * i.size) us)) hl (aget_lt hh) (setRow_eq hh) (b := .prow i.size [])
                        ⟨rfl, hng, _, el', hnew, wrote_size hW, by simp; omega, by simp, by simp⟩
                      have hp' : Vpi.push base sl ((σ.set b (.prow i.size [])).set b .dead) (.prow i.size (List.take n (List.drop off es) ++ B)) = some (k, σ') := by rw [List.set_set]; exact hp
                      obtain ⟨ρ', s2, e2, hk⟩ := s1.repl hl hp' (l := .lv blk (o' + off * i.size) arr.size i.size) (by rintro blk' o2 t2 s2 h2; cases h2; exact ⟨_, _, _, rfl⟩) (by
                        intro ρ' _
                        refine ⟨rfl, hng, _, el', hnew, wrote_size hW, ?_, ?_, ?_⟩
                        · rw [List.length_append, hlen, Nat.add_mul]; omega
                        · intro j x hx
                          rcases Nat.lt_or_ge j n with h1 | h1
                          · rw [List.getElem?_append_left (by rw [hlen]; exact h1), List.getElem?_take, if_pos h1, List.getElem?_drop] at hx; exact hcl2 _ _ hx
                          · rw [List.getElem?_append_right (by rw [hlen]; exact h1)] at hx
                            simpa using List.all_eq_true.1 hallB x (List.mem_of_getElem? hx)
                        · intro j x q c p hx hc hpq
                          rw [wrote_get hW] at hpq
                          rcases Nat.lt_or_ge j n with h1 | h1
                          · rw [List.getElem?_append_left (by rw [hlen]; exact h1), List.getElem?_take, if_pos h1, List.getElem?_drop] at hx
                            have hq : q < i.size := by rw [← hcl2 _ _ hx]; exact get_lt hc
                            have h2 : (j + 1) * i.size ≤ n * i.size := Nat.mul_le_mul_right _ h1
                            rw [Nat.succ_mul] at h2
                            rw [if_neg (by omega)] at hpq
                            obtain ⟨y1, y2⟩ := hk2 (off + j) x q c p hx hc (by rw [Nat.add_mul, show o' + (off * i.size + j * i.size) + q = o' + off * i.size + j * i.size + q by omega]; exact hpq)
                            exact ⟨y1.mono hGsame (fun _ y => y), y2⟩
                          · rw [List.getElem?_append_right (by rw [hlen]; exact h1), hlen] at hx
                            have hq : q < i.size := by rw [← (by simpa using List.all_eq_true.1 hallB x (List.mem_of_getElem? hx) : x.cells.length = i.size)]; exact get_lt hc
                            have hjB := get_lt hx
                            have h2 : (j - n + 1) * i.size ≤ B.length * i.size := Nat.mul_le_mul_right _ hjB
                            rw [Nat.succ_mul] at h2
                            have h3 : j * i.size = n * i.size + (j - n) * i.size := by rw [← Nat.add_mul]; congr 1; omega
                            rw [if_pos (by omega), show o' + off * i.size + j * i.size + q - (o' + off * i.size + n * i.size) = (j - n) * i.size + q by omega] at hpq
                            exact ⟨(hurep _ x q c p hx hc hpq).mono hGsame (fun _ y => y), hu1 p (List.mem_of_getElem? hpq)⟩)
                      subst hr
                      have hrep : RepC (w.setRow blk (wrote arr (o' + off * i.size + n * i.size) us)) G ρ' (.own k 0 (n + B.length)) (.slice (some ⟨blk, o' + off * i.size, none⟩) (n + B.length) cap) := by
                        refine .own _ _ _ _ _ hroom ?_
                        simp only [OwnOk, hk]
                        right
                        rw [Nat.add_mul] at hf2
                        exact ⟨by simp, by simp; omega⟩
                      exact ⟨.value _, _, _, G, ρ', by rw [exec, hrun]; rfl, .inl rfl, s2, e1.trans e2, by simpa [hlen] using hrep⟩
                  | det => simp only [OwnOk, hl] at hok; omega
                  | dead => exact hblk.elim
                  | hole => exact hblk.elim
            · cases hA'
          · cases h
        · cases h
      · cases h
    · cases h
  · cases h
theorem exec_copy {c : Call} {x y : Operand} {t t2 : TypeId} (ho : o.op = .call c) (hc1 : c.callee = .builtin .copy) (hc2 : c.args = #[x, y]) (hc3 : c.argTypes = #[t, t2]) :
    (execOp a.eval o).run P w = ((Builtin.copy_ #[t, t2] o.type #[a.eval x, a.eval y]).run P w).andThen fun v w => .ok (.value v) w := by
  simp [execOp, ho, resolve, hc1, hc2, hc3, invoke, builtin]
theorem run_copy_all {t t2 el ty : TypeId} {sz n cap m bcap : Nat} {ad bd : Option Addr} {us : List Value} {w' : World} (ht : P.underlying t = some (.slice el)) (hz : szP P el = some sz) (hl : us.length = (min m n) * sz)
    (h : ∀ A, bd = some A → ∀ (j : Nat) u, us[j]? = some u → w.cell? (A.add j) = some u) (hn : bd = none → m = 0) (hst : match ad with | some A => (storeCells A us).run P w = .ok () w' | none => w' = w) :
    (Builtin.copy_ #[t, t2] ty #[.slice ad n cap, .slice bd m bcap]).run P w = .ok (.int .i64 ((min m n : Nat) : Int)) w' := by
  have hf : (Builtin.firstCells sz (min m n) (.slice bd m bcap)).run P w = .ok us.toArray w := by
    cases bd with
    | none =>
      have := hn rfl
      subst this
      have : us = [] := by simpa using hl
      subst this
      simp [Builtin.firstCells]
    | some A => exact run_firstCells_some (P := P) w sz (min m n) A m bcap us hl (h A rfl)
  have hmin : Nat.min m n = min m n := rfl
  cases ad with
  | none => subst hst; simp [Builtin.copy_, run_underlying ht, run_sizeOf hz, Builtin.lenOf, hmin, hf, goInt]
  | some A => simp [Builtin.copy_, run_underlying ht, run_sizeOf hz, Builtin.lenOf, hmin, hf, hst, goInt]
theorem content_len {c : CV} {xs : List PV} (h : content σ c = some xs) : ∃ m, lenV c = some m := by
  cases c with
  | p v => cases v <;> first | exact ⟨_, rfl⟩ | cases h
  | nils => exact ⟨_, rfl⟩
  | own b off n => exact ⟨_, rfl⟩
  | _ => cases h
theorem sim_copy {sz : Nat} {t t2 el : TypeId} {x y : Operand} {x' y' : Opd} {r : CV × Store} (hs : St w G ρ σ) (he : RepE w G ρ e a.tmps) (ho : ∃ c : Call, o.op = .call c ∧ c.callee = .builtin .copy ∧ c.args = #[x, y] ∧ c.argTypes = #[t, t2])
    (hx : okOpd x x' = true) (hy : okOpd y y' = true) (ht : P.underlying t = some (.slice el)) (hz : szP P el = some sz) (h : ev base sl (.copy sz x' y') e σ = some r) : SimOp P o a w G ρ r.1 r.2 := by
  have r1 := okOpd_rep hx he
  have r2 := okOpd_rep hy he
  obtain ⟨c, ho, hc1, hc2, hc3⟩ := ho
  have exec := exec_copy (P := P) (w := w) (a := a) ho hc1 hc2 hc3
  generalize hu : a.eval x = u at r1
  generalize hv : a.eval y = v at r2
  rw [hu, hv] at exec
  simp only [ev] at h
  split at h
  · rename_i b off n xs hd hc
    split at h
    · rename_i s es hb
      split at h
      · rename_i hcond
        obtain ⟨hle, rfl, hall⟩ := hcond
        cases h
        rw [hd] at r1
        obtain ⟨ad, cap, rfl, hcap, hok⟩ := rep_own r1
        obtain ⟨bd, bcap, us, rfl, hbcap, hul, hucell, hunone, hurep, hu1⟩ := content_rep hs hc r2 hall
        have hlt := get_lt hb
        by_cases hm : min xs.length n = 0
        · have hxt : xs.take n = [] := by
            rw [← List.length_eq_zero_iff, List.length_take, Nat.min_comm]; exact hm
          have hrun := run_copy_all (P := P) (w := w) (t2 := t2) (ty := o.type) (n := n) (cap := cap) (ad := ad) (bcap := bcap) (m := xs.length) (us := []) (w' := w) ht hz (by rw [hm]; simp) (by simp) (fun x => by rw [hunone x]; rfl) (by cases ad <;> rfl)
          have hset : σ.set b (.prow s (setCells es off (xs.take n))) = σ := by
            rw [hxt]
            simp only [setCells, List.append_nil, List.length_nil, Nat.add_zero, List.take_append_drop]
            have : σ[b] = .prow s es := by
              rw [List.getElem?_eq_getElem hlt] at hb; simpa using hb
            rw [← this, List.set_getElem_self]
          rw [hset]
          exact SimOp.quiet hs (by rw [exec, hrun]; rfl) (.p _ _ (.int _ _))
        · obtain ⟨l, hl, hblk⟩ := hs.get hb
          cases l with
          | lv blk o' t' s' =>
            obtain ⟨rfl, hng, arr, el', hh, rfl, hfit, hcl, hk⟩ := hblk
            simp only [OwnOk, hl] at hok
            rcases hok with hc0 | ⟨rfl, hf2⟩
            · omega
            · have hmn : min xs.length n ≤ n := Nat.min_le_right _ _
              have hmx : min xs.length n ≤ xs.length := Nat.min_le_left _ _
              have hmulA : (off + min xs.length n) * s ≤ es.length * s := Nat.mul_le_mul_right _ (by omega)
              rw [Nat.add_mul] at hmulA
              have hmulB : min xs.length n * s ≤ xs.length * s := Nat.mul_le_mul_right _ hmx
              have htl : (us.take (min xs.length n * s)).length = min xs.length n * s := by rw [List.length_take, hul]; omega
              have htk : (xs.take n).length = min xs.length n := by rw [List.length_take, Nat.min_comm]
              have hW : o' + off * s + (us.take (min xs.length n * s)).length ≤ arr.size := by rw [htl]; omega
              have hst := run_storeCells_at P blk (o' + off * s) el' (us.take (min xs.length n * s)) 0 arr w hh (by omega) (fun q hq => hu1 q (List.mem_of_mem_take hq))
              simp only [Nat.add_zero] at hst
              have hrun := run_copy_all (P := P) (w := w) (t2 := t2) (ty := o.type) (n := n) (cap := cap) (ad := some ⟨blk, o' + off * s, none⟩) (bcap := bcap) (m := xs.length) (us := us.take (min xs.length n * s)) (w' := w.setRow blk (wrote arr (o' + off * s) (us.take (min xs.length n * s)))) ht hz htl
                (by
                  intro A hA j q hq
                  rw [List.getElem?_take] at hq
                  split at hq
                  · exact hucell A hA j q hq
                  · cases hq)
                (fun x => by rw [hunone x]; rfl) hst
              have hGsame : ∀ k, G k → (w.setRow blk (wrote arr (o' + off * s) (us.take (min xs.length n * s)))).heap[k]? = w.heap[k]? := by
                intro q hq
                rw [setRow_eq hh, Array.getElem?_setIfInBounds_ne]
                rintro rfl; exact hng hq
              have hnew : (w.setRow blk (wrote arr (o' + off * s) (us.take (min xs.length n * s)))).heap[blk]? = some (.cells (wrote arr (o' + off * s) (us.take (min xs.length n * s))) el' (0, 0)) := by
                rw [setRow_eq hh, Array.getElem?_setIfInBounds_self_of_lt (aget_lt hh)]
              have hsf : off + (xs.take n).length ≤ es.length := by rw [htk]; omega
              obtain ⟨s1, e1⟩ := hs.write (w' := w.setRow blk (wrote arr (o' + off * s) (us.take (min xs.length n * s)))) hl (aget_lt hh) (setRow_eq hh) (b := .prow s (setCells es off (xs.take n))) (by
                refine ⟨rfl, hng, _, el', hnew, wrote_size hW, by rw [setCells_len2 hsf]; exact hfit, ?_, ?_⟩
                · intro j x hx
                  rw [setCells_get _ _ _ _ hsf] at hx
                  split at hx
                  · rw [List.getElem?_take] at hx
                    split at hx
                    · simpa using List.all_eq_true.1 hall x (List.mem_of_getElem? hx)
                    · cases hx
                  · exact hcl j x hx
                · intro j x q c p hx hc' hpq
                  rw [setCells_get _ _ _ _ hsf, htk] at hx
                  rw [wrote_get hW, htl] at hpq
                  by_cases hin : off ≤ j ∧ j < off + min xs.length n
                  · rw [if_pos hin, List.getElem?_take, if_pos (by omega)] at hx
                    have hq : q < s := by rw [← (by simpa using List.all_eq_true.1 hall x (List.mem_of_getElem? hx) : x.cells.length = s)]; exact get_lt hc'
                    have h2 : (j - off + 1) * s ≤ min xs.length n * s := Nat.mul_le_mul_right _ (by omega)
                    rw [Nat.succ_mul] at h2
                    have h3 : j * s = off * s + (j - off) * s := by rw [← Nat.add_mul]; congr 1; omega
                    rw [if_pos (by omega), List.getElem?_take, if_pos (by omega), show o' + j * s + q - (o' + off * s) = (j - off) * s + q by omega] at hpq
                    exact ⟨(hurep _ x q c p hx hc' hpq).mono hGsame (fun _ y => y), hu1 p (List.mem_of_getElem? hpq)⟩
                  · rw [if_neg hin] at hx
                    have hq : q < s := by rw [← hcl j x hx]; exact get_lt hc'
                    have hout : ¬ (o' + off * s ≤ o' + j * s + q ∧ o' + j * s + q < o' + off * s + min xs.length n * s) := by
                      rintro ⟨x2, x3⟩
                      rcases Nat.lt_or_ge j off with hlt2 | hge2
                      · have := Nat.mul_le_mul_right s (show j + 1 ≤ off from hlt2)
                        rw [Nat.succ_mul] at this
                        omega
                      · have := Nat.mul_le_mul_right s (show off + min xs.length n ≤ j by omega)
                        rw [Nat.add_mul] at this
                        omega
                    rw [if_neg hout] at hpq
                    obtain ⟨y1, y2⟩ := hk j x q c p hx hc' hpq
                    exact ⟨y1.mono hGsame (fun _ y => y), y2⟩)
              exact ⟨.value _, _, _, G, ρ, by rw [exec, hrun]; rfl, .inl rfl, s1, e1, .p _ _ (.int _ _)⟩
          | det => simp only [OwnOk, hl] at hok; omega
          | dead => exact hblk.elim
          | hole => exact hblk.elim
      · cases h
    · cases h
  · rename_i xs hd hc
    cases h
    rw [hd] at r1
    have := rep_nils r1
    subst this
    obtain ⟨m, hm⟩ := content_len hc
    obtain ⟨bd, bcap, rfl, _⟩ := slice_spec hm r2
    have hmin : Nat.min m 0 = 0 := Nat.min_zero m
    have hf : (Builtin.firstCells sz 0 (.slice bd m bcap)).run P w = .ok #[] w := by
      cases bd with
      | none => simp [Builtin.firstCells]
      | some A => exact run_firstCells_some (P := P) w sz 0 A m bcap [] (by simp) (by simp)
    refine SimOp.quiet (v := .int .i64 0) hs ?_ (.p _ _ (.int _ _))
    rw [exec]
    simp [Builtin.copy_, run_underlying ht, run_sizeOf hz, Builtin.lenOf, hmin, hf, goInt]
  · cases h
end
end Go.Proofs.Ytdpdnplljonppaa.Vpi

namespace Go.Proofs.Ytdpdnplljonppaa.Vpi
open Go
set_option linter.unusedVariables false
set_option linter.unusedSimpArgs false
section
variable {P : Program} {w : World} {G : Nat → Prop} {ρ : List Loc} {σ : Store} {e : Env} {a : Act} {base : Nat} {sl : Option Nat} {o : Oper}
theorem cellL_rep : ∀ {cs ds : List CV} {vs : List Value}, cellL cs = some ds → cs.length = vs.length → (∀ (k : Nat) c v, cs[k]? = some c → vs[k]? = some v → RepC w G ρ c v) →
    ds.length = vs.length ∧ ∀ (k : Nat) d v, ds[k]? = some d → vs[k]? = some v → v.cells.size = 1 ∧ ∀ u, v.cells[0]? = some u → RepC w G ρ d u ∧ u.oneCell' = true
  | [], ds, vs, h, hl, _ => by simp [cellL] at h; subst h; exact ⟨hl, by simp⟩
  | c :: cs, ds, [], _, hl, _ => by simp at hl
  | c :: cs, ds, v :: vs, h, hl, hk => by
    simp only [cellL] at h
    split at h
    · rename_i x hx
      simp only [Option.map_eq_some_iff] at h
      obtain ⟨ys, hys, rfl⟩ := h
      obtain ⟨h1, h2⟩ := cellL_rep hys (by simpa using hl) (fun k c v a b => hk (k + 1) c v (by simpa using a) (by simpa using b))
      have hr := rep_cells (hk 0 c v rfl rfl) hx
      refine ⟨by simp [h1], fun k d u hd hu => ?_⟩
      cases k with
      | succ k => exact h2 k d u (by simpa using hd) (by simpa using hu)
      | zero =>
        simp at hd hu
        subst hd hu
        refine ⟨by rw [← hr.len]; rfl, fun u hu => ⟨hr.rep 0 _ u rfl hu, hr.one u (Array.mem_of_getElem? hu)⟩⟩
    · cases h
theorem push_k1 {cs : List CV} {n cap : Nat} {arr : Array Value} {el : TypeId} {σ' : Store} {k : Nat} {w' : World} (hs : St w G ρ σ) (hp : push base sl σ (.kblk 1 cs) = some (k, σ')) (hw : w'.heap = w.heap.push (.cells arr el (0, 0)))
    (hn : n ≤ cap) (hcap : cap ≤ arr.size) (hfit : cs.length ≤ arr.size)
    (hk : ∀ (i : Nat) c u, cs[i]? = some c → arr[i]? = some u → RepC w G ρ c u ∧ u.oneCell' = true) (hsame : Same w w' := by first | assumption | exact ⟨rfl, rfl, rfl⟩) :
    ∃ ρ', St w' G ρ' σ' ∧ Ext w G ρ w' G ρ' ∧ RepC w' G ρ' (.own k 0 n) (.slice (some ⟨w.heap.size, 0, none⟩) n cap) := by
  obtain ⟨ρ', h1, h2, h3⟩ := hs.push hp arr el 1 hw (by
    intro ρ' hρ
    refine ⟨rfl, fun hg => Nat.lt_irrefl _ (hs.g _ hg), arr, el, by rw [hw]; simp, rfl, by omega, ?_⟩
    intro i c u h1 h2
    rw [Nat.zero_add] at h2
    obtain ⟨a1, a2⟩ := hk i c u h1 h2
    exact ⟨a1.mono (heap_push_same hs hw) (fun _ x => x) hρ, a2⟩)
  exact ⟨ρ', h1, h2, .own _ _ _ _ _ hn (by simp only [OwnOk, h3]; right; exact ⟨by simp, by simp; exact hcap⟩)⟩
theorem sim_bslk {t el : TypeId} {n : Nat} {ps : Array (Nat × Operand)} {xs : List Opd} {zv : Value} {i : TypeInfo} {r : CV × Store} (hs : St w G ρ σ) (he : RepE w G ρ e a.tmps) (ho : o.op = .buildSlice t n ps)
    (ht : P.underlying t = some (.slice el)) (hi : P.info? el = some i) (hsz : i.size = 1) (hz : i.zero = some zv) (hzs : zv.cells.size = 1) (hn : n = xs.length) (hbig : n * 1 ≤ 16777216) (hp : okEach 0 ps.toList xs = true)
    (h : ev base sl (.bslk xs) e σ = some r) : SimOp P o a w G ρ r.1 r.2 := by
  simp only [ev] at h
  split at h
  · rename_i cs hcs
    simp only [Option.map_eq_some_iff] at h
    obtain ⟨⟨k, σ'⟩, hpush, rfl⟩ := h
    obtain ⟨vs, h1, h2, h3⟩ := okEach_eval 0 ps.toList xs hp he
    obtain ⟨h4, h5⟩ := cellL_rep hcs (by simp [h2]) h3
    have hsize : ∀ v ∈ vs, v.cells.size = 1 := by
      intro v hv
      obtain ⟨j, hj⟩ := List.getElem?_of_mem hv
      have hj' := get_lt hj
      exact (h5 j (cs[j]'(by omega)) v (by simp) hj).1
    have hsz2 : szP P el = some 1 := by simp [szP, hi, hsz]
    obtain ⟨us, u1, u2, u3, _⟩ := fill_each (sz := 1) vs 0 ((Array.range (n * 1)).map ((if n * 1 = 0 then #[] else zv.cells)[· % (if n * 1 = 0 then #[] else zv.cells).size]!)) hsize (by simp [h2, hn])
    have hus : us.size = n := by rw [u2]; simp
    have hlen : cs.length = n := by rw [h4, h2, hn]
    obtain ⟨ρ2, s2, e2, r2⟩ := push_k1 (n := cs.length) (cap := n) (w' := { w with heap := w.heap.push (.cells us el (0, 0)) }) hs hpush rfl (by rw [hlen]; exact Nat.le_refl _) (by rw [hus]; exact Nat.le_refl _) (by rw [hus, hlen]; exact Nat.le_refl _)
      (by
        intro j c u hc hu
        have hj : j < vs.length := by rw [← h4]; exact get_lt hc
        have hvj : vs[j]? = some vs[j] := by simp
        obtain ⟨c1, c2⟩ := h5 j c _ hc hvj
        have h0 : vs[j].cells[0]? = some vs[j].cells[0] := by simp
        have := u3 j vs[j] 0 vs[j].cells[0] hvj h0
        rw [Nat.zero_add, Nat.mul_one, Nat.add_zero] at this
        rw [this] at hu
        cases hu
        exact c2 _ h0)
    rw [hlen] at r2
    refine ⟨.value _, _, _, G, ρ2, ?_, .inl rfl, s2, e2, by rw [hlen]; exact r2⟩
    have hps : (ps.map fun (i, x) => (i, a.eval x)).toList = ps.toList.map fun x => (x.1, a.eval x.2) := by simp
    rw [← h1] at u1
    simp only [execOp, ho, Instr.buildSlice, Sem.run_bind, run_underlying ht, Result.andThen_ok, run_sizeOf hsz2]
    rw [if_neg (by omega)]
    by_cases h0 : n * 1 = 0
    · simp only [if_pos h0] at u1
      rw [if_pos h0]
      simp only [Sem.run_bind, Sem.run_pure, Result.andThen_ok, hps, u1, newRow, run_newObj]
    · simp only [if_neg h0] at u1
      rw [if_neg h0]
      have hzv : (zeroValue el).run P w = .ok zv w := by simp [zeroValue, typeInfo, hi, hz]
      simp only [Sem.run_bind, Sem.run_pure, Result.andThen_ok, hzv, hps, u1, newRow, run_newObj]
  · cases h
theorem contentK_rep {c : CV} {xs : List CV} {v : Value} (hs : St w G ρ σ) (h : contentK σ c = some xs) (hr : RepC w G ρ c v) :
    ∃ (ad : Option Addr) (cap : Nat) (us : List Value), v = .slice ad xs.length cap ∧ xs.length ≤ cap ∧ us.length = xs.length ∧ (∀ A, ad = some A → ∀ (j : Nat) u, us[j]? = some u → w.cell? (A.add j) = some u) ∧ (ad = none → xs = []) ∧
      (∀ (i : Nat) x u, xs[i]? = some x → us[i]? = some u → RepC w G ρ x u) ∧ ∀ u ∈ us, u.oneCell' = true := by
  have empty : xs = [] → ∀ (ad : Option Addr) (cap : Nat), v = .slice ad xs.length cap → ∃ (ad : Option Addr) (cap : Nat) (us : List Value), v = .slice ad xs.length cap ∧ xs.length ≤ cap ∧ us.length = xs.length ∧ (∀ A, ad = some A → ∀ (j : Nat) u, us[j]? = some u → w.cell? (A.add j) = some u) ∧ (ad = none → xs = []) ∧
      (∀ (i : Nat) x u, xs[i]? = some x → us[i]? = some u → RepC w G ρ x u) ∧ ∀ u ∈ us, u.oneCell' = true := by
    intro h0 ad cap hv
    exact ⟨ad, cap, [], hv, by rw [h0]; simp, by rw [h0]; simp, by simp, fun _ => h0, by simp, by simp⟩
  unfold contentK at h
  split at h
  · cases h
    have := rep_nils hr
    exact empty rfl none 0 this
  · rename_i b off n
    split at h
    · rename_i cs hb
      split at h
      · rename_i hle
        cases h
        obtain ⟨ad, cap, rfl, hcap, hok⟩ := rep_own hr
        have hlen : ((cs.drop off).take n).length = n := by simp; omega
        by_cases h0 : (cs.drop off).take n = []
        · exact empty h0 ad cap (by rw [hlen])
        · have hn : n ≠ 0 := by rintro rfl; exact h0 (by simp)
          obtain ⟨l, hl, hblk⟩ := hs.get hb
          simp only [OwnOk, hl] at hok
          cases l with
          | lv blk o' t s' =>
            obtain ⟨rfl, hng, arr, el, hh, rfl, hfit, hk⟩ := hblk
            simp only [Nat.mul_one] at hok
            rcases hok with rfl | ⟨rfl, hf2⟩
            · omega
            · have hget : ∀ j : Nat, j < n → ((arr.toList.drop (o' + off)).take n)[j]? = arr[o' + off + j]? := by
                intro j hj
                rw [List.getElem?_take, if_pos hj, List.getElem?_drop]
                simp
              refine ⟨_, cap, (arr.toList.drop (o' + off)).take n, by rw [hlen], by rw [hlen]; exact hcap, by rw [hlen]; simp; omega, ?_, (by intro x; cases x), ?_, ?_⟩
              · intro A hA j u hu
                cases hA
                have hj := get_lt hu
                rw [hget j (by simp at hj; omega)] at hu
                rw [add_at, cell_at hh]
                exact hu
              · intro i x u hx hu
                have hi := get_lt hx
                rw [hlen] at hi
                rw [hget i hi] at hu
                rw [List.getElem?_take, if_pos hi, List.getElem?_drop] at hx
                exact (hk (off + i) x u hx (by rw [← Nat.add_assoc]; exact hu)).1
              · intro u hu
                obtain ⟨j, hj⟩ := List.getElem?_of_mem hu
                have hjl := get_lt hj
                simp at hjl
                rw [hget j (by omega)] at hj
                have hx : cs[off + j]? = some (cs[off + j]'(by omega)) := by simp
                exact (hk (off + j) _ u hx (by rw [← Nat.add_assoc]; exact hj)).2
          | det => exact hblk.elim
          | dead => exact hblk.elim
          | hole => exact hblk.elim
      · cases h
    · cases h
  · cases h
theorem sim_appk {bytes : Nat} {t el : TypeId} {x y : Operand} {x' y' : Opd} {i : TypeInfo} {z : Value} {r : CV × Store} (hs : St w G ρ σ) (he : RepE w G ρ e a.tmps) (ho : ∃ c : Call, o.op = .call c ∧ c.callee = .builtin .append ∧ c.args = #[x, y] ∧ c.argTypes = #[t, t])
    (hx : okOpd x x' = true) (hy : okOpd y y' = true) (ht : P.underlying t = some (.slice el)) (hi : P.info? el = some i) (hsz : i.size = 1) (hby : i.bytes = bytes) (hz : i.zero = some z) (hzs : z.cells.size = 1) (hb0 : bytes ≠ 0)
    (h : ev base sl (.appk bytes x' y') e σ = some r) : SimOp P o a w G ρ r.1 r.2 := by
  have r1 := okOpd_rep hx he
  have r2 := okOpd_rep hy he
  obtain ⟨c, ho, hc1, hc2, hc3⟩ := ho
  have exec := exec_append (P := P) (w := w) (a := a) ho hc1 hc2 hc3
  generalize hu : a.eval x = u at r1
  generalize hv : a.eval y = v at r2
  rw [hu, hv] at exec
  simp only [ev] at h
  split at h
  · rename_i A B hA hB
    split at h
    · rename_i hcond
      obtain ⟨hbytes, hBpos⟩ := hcond
      obtain ⟨bd, bcap, us, rfl, hbcap, hul, hucell, hunone, hurep, hu1⟩ := contentK_rep hs hB r2
      subst hby
      have hul1 : us.length = B.length * i.size := by rw [hsz, Nat.mul_one]; exact hul
      have hbn : bd = none → B.length = 0 := fun x => by rw [hunone x]; rfl
      have h63 : ((A.length + B.length : Nat) : Int) ≤ 9223372036854775807 := by
        have : (A.length + B.length) * 1 ≤ (A.length + B.length) * i.bytes := Nat.mul_le_mul_left _ (by omega)
        omega
      -- a new block
      have fresh : ∀ {G1 : Nat → Prop} {ρ1 : List Loc} {σ1 σ' : Store} {k : Nat} {ad : Option Addr} {cap : Nat} {os : List Value}, St w G1 ρ1 σ1 → Ext w G ρ w G1 ρ1 → Vpi.push base sl σ1 (.kblk 1 (A ++ B)) = some (k, σ') → r = (.own k 0 (A.length + B.length), σ') → u = .slice ad A.length cap → os.length = A.length →
          (∀ A', ad = some A' → ∀ (j : Nat) u, os[j]? = some u → w.cell? (A'.add j) = some u) → (ad = none → A.length = 0 ∧ cap = 0) → cap < A.length + B.length → A.length ≤ cap →
          (∀ (j : Nat) x q, A[j]? = some x → os[j]? = some q → RepC w G ρ x q) → (∀ q ∈ os, q.oneCell' = true) → SimOp P o a w G ρ r.1 r.2 := by
        intro G1 ρ1 σ1 σ' k ad cap os s1 e1 hp hr hua hol hoc hon hg hnc horep ho1
        subst hr hua
        have hrun := run_app_grows (P := P) (w := w) (ty := o.type) (bcap := bcap) ht hi hz (by rw [hsz, Nat.mul_one]; exact hol) hul1 hoc hon hucell hbn hg hnc hbytes h63
        have hge := grownCap_ge w (A.length + B.length) cap el
        have harr : (os.toArray ++ us.toArray ++ Builtin.zeroCells z.cells (grownCap w (A.length + B.length) cap el - (A.length + B.length))).size = grownCap w (A.length + B.length) cap el := by
          simp only [Array.size_append, List.size_toArray, hol, hul, size_zeroCells, hzs, Nat.mul_one]
          omega
        obtain ⟨ρ2, s2, e2, rep2⟩ := push_k1 (n := A.length + B.length) (w' := w.drew.alloc (.cells (os.toArray ++ us.toArray ++ Builtin.zeroCells z.cells (grownCap w (A.length + B.length) cap el - (A.length + B.length))) el)) s1 hp rfl hge (by rw [harr]; exact Nat.le_refl _)
          (by rw [harr, List.length_append]; exact hge)
          (by
            intro j x p hx hp'
            have hget : (os ++ us ++ (Builtin.zeroCells z.cells (grownCap w (A.length + B.length) cap el - (A.length + B.length))).toList)[j]? = some p := by
              have : (os.toArray ++ us.toArray ++ Builtin.zeroCells z.cells (grownCap w (A.length + B.length) cap el - (A.length + B.length))).toList = os ++ us ++ (Builtin.zeroCells z.cells (grownCap w (A.length + B.length) cap el - (A.length + B.length))).toList := by simp
              rw [← this, Array.getElem?_toList]
              exact hp'
            have hj := get_lt hx
            rw [List.length_append] at hj
            rw [List.append_assoc] at hget
            rcases Nat.lt_or_ge j A.length with h1 | h1
            · rw [List.getElem?_append_left h1] at hx
              rw [List.getElem?_append_left (by omega)] at hget
              exact ⟨(horep j x p hx hget).mono (fun _ _ => rfl) e1.grow e1.loc, ho1 p (List.mem_of_getElem? hget)⟩
            · rw [List.getElem?_append_right h1] at hx
              rw [List.getElem?_append_right (by omega), List.getElem?_append_left (by omega)] at hget
              rw [hol] at hget
              exact ⟨(hurep _ x p hx hget).mono (fun _ _ => rfl) e1.grow e1.loc, hu1 p (List.mem_of_getElem? hget)⟩)
        refine ⟨.value _, _, _, G1, ρ2, ?_, .inl rfl, s2, e1.trans e2, rep2⟩
        rw [exec, hrun]; rfl
      split at h
      · -- nil
        rename_i hnil
        rw [hnil] at r1 hA
        have hu0 := rep_nils r1
        subst hu0
        simp only [contentK, Option.some.injEq] at hA
        subst hA
        simp only [Option.map_eq_some_iff] at h
        obtain ⟨⟨k, σ'⟩, hp, hr⟩ := h
        exact fresh (os := []) hs Ext.refl hp hr.symm rfl (by simp) (by simp) (fun _ => ⟨rfl, rfl⟩) (by simp; omega) (by simp) (by simp) (by simp)
      · -- a block of our own
        rename_i b off n hown
        simp only [Option.map_eq_some_iff] at h
        obtain ⟨⟨k, σ'⟩, hp, hr⟩ := h
        rw [hown] at r1 hA
        have r1' := r1
        obtain ⟨ad, cap, rfl, hcap, hok⟩ := rep_own r1
        have hA' := hA
        simp only [contentK] at hA'
        split at hA'
        · rename_i es hb
          obtain ⟨l, hl, hblk⟩ := hs.get hb
          split at hA'
          · rename_i hle
            cases hA'
            have hlen : ((es.drop off).take n).length = n := by simp; omega
            obtain ⟨ad2, cap2, os, he2, _, hol, hocell, honone, horep, ho1⟩ := contentK_rep hs hA r1'
            simp only [Value.slice.injEq] at he2
            obtain ⟨rfl, _, rfl⟩ := he2
            rw [hlen] at hol h63 hbytes
            cases l with
            | lv blk o' t s' =>
              obtain ⟨rfl, hng, arr, el', hh, rfl, hfit, hk2⟩ := hblk
              simp only [OwnOk, hl] at hok
              rcases Nat.lt_or_ge cap (n + B.length) with hroom | hroom
              · obtain ⟨s1, e1⟩ := hs.give hl
                refine fresh (os := os) (cap := cap) (ad := ad) s1 e1 hp hr.symm (by rw [hlen]) (by rw [hlen]; exact hol) hocell ?_ (by rw [hlen]; exact hroom) (by rw [hlen]; exact hcap) horep ho1
                intro hnone
                have := honone hnone
                refine ⟨by rw [this]; rfl, ?_⟩
                rcases hok with h | ⟨h, _⟩
                · exact h
                · rw [hnone] at h; cases h
              · rcases hok with hc0 | ⟨rfl, hf2⟩
                · omega
                · simp only [Nat.mul_one] at hf2 hfit exec
                  have hW : o' + off + n + us.length ≤ arr.size := by rw [hul]; omega
                  have hst := run_storeCells_at P blk (o' + off + n) el' us 0 arr w hh (by omega) hu1
                  simp only [Nat.add_zero] at hst
                  have hrun := run_app_fits (P := P) (w := w) (ty := o.type) (n := n) (cap := cap) (ad := some ⟨blk, o' + off, none⟩) (bcap := bcap) (w' := w.setRow blk (wrote arr (o' + off + n) us)) ht hi hul1 hucell hbn hroom
                    (by simp only [add_at, hsz, Nat.mul_one]; exact hst)
                  have hGsame : ∀ k, G k → (w.setRow blk (wrote arr (o' + off + n) us)).heap[k]? = w.heap[k]? := by
                    intro q hq
                    rw [setRow_eq hh, Array.getElem?_setIfInBounds_ne]
                    rintro rfl; exact hng hq
                  have hnew : (w.setRow blk (wrote arr (o' + off + n) us)).heap[blk]? = some (.cells (wrote arr (o' + off + n) us) el' (0, 0)) := by
                    rw [setRow_eq hh, Array.getElem?_setIfInBounds_self_of_lt (aget_lt hh)]
                  obtain ⟨s1, e1⟩ := hs.write (w' := w.setRow blk (wrote arr (o' + off + n) us)) hl (aget_lt hh) (setRow_eq hh) (b := .prow 1 [])
                    ⟨rfl, hng, _, el', hnew, wrote_size hW, by simp; omega, by simp, by simp⟩
                  have hp' : Vpi.push base sl ((σ.set b (.prow 1 [])).set b .dead) (.kblk 1 (List.take n (List.drop off es) ++ B)) = some (k, σ') := by rw [List.set_set]; exact hp
                  obtain ⟨ρ', s2, e2, hk⟩ := s1.repl hl hp' (l := .lv blk (o' + off) arr.size 1) (by rintro blk' o2 t2 s2 h2; cases h2; exact ⟨_, _, _, rfl⟩) (by
                    intro ρ' hρ
                    refine ⟨rfl, hng, _, el', hnew, wrote_size hW, ?_, ?_⟩
                    · rw [List.length_append, hlen]; omega
                    · intro j x p hx hpq
                      rw [wrote_get hW] at hpq
                      rcases Nat.lt_or_ge j n with h1 | h1
                      · rw [List.getElem?_append_left (by rw [hlen]; exact h1), List.getElem?_take, if_pos h1, List.getElem?_drop] at hx
                        rw [if_neg (by omega)] at hpq
                        obtain ⟨y1, y2⟩ := hk2 (off + j) x p hx (by rw [← Nat.add_assoc]; exact hpq)
                        exact ⟨y1.mono hGsame (fun _ y => y) hρ, y2⟩
                      · rw [List.getElem?_append_right (by rw [hlen]; exact h1), hlen] at hx
                        have hjB := get_lt hx
                        rw [if_pos (by omega), show o' + off + j - (o' + off + n) = j - n by omega] at hpq
                        exact ⟨(hurep _ x p hx hpq).mono hGsame (fun _ y => y) hρ, hu1 p (List.mem_of_getElem? hpq)⟩)
                  subst hr
                  have hrep : RepC (w.setRow blk (wrote arr (o' + off + n) us)) G ρ' (.own k 0 (n + B.length)) (.slice (some ⟨blk, o' + off, none⟩) (n + B.length) cap) := by
                    refine .own _ _ _ _ _ hroom ?_
                    simp only [OwnOk, hk]
                    right
                    exact ⟨by simp, by simp; omega⟩
                  exact ⟨.value _, _, _, G, ρ', by rw [exec, hrun]; rfl, .inl rfl, s2, e1.trans e2, by simpa [hlen] using hrep⟩
            | det => exact hblk.elim
            | dead => exact hblk.elim
            | hole => exact hblk.elim
          · cases hA'
        · cases hA'
      · cases h
    · cases h
  · cases h
end
end Go.Proofs.Ytdpdnplljonppaa.Vpi
