/- The verified interpreter, part 1: values, the small store, the resolved code, and the evaluator. Nothing here is about one program; The verified interpreter, part 2: how its values and its store stand for the model's values and memory; The verified interpreter, part 3: what a new block, a store, and a block that is given up do to the relation; The verified interpreter, part 4: the look that holds resolved code against the model's code; The verified interpreter, part 5: each operation of the model does what the evaluator says (reads and sums); The verified interpreter, part 6: the operations that only read and reckon; The verified interpreter, part 7: reads, places, lengths, slices; The verified interpreter, part 8: literals and new memory; The verified interpreter, part 9: blocks given up, stores, copies, appends; The verified interpreter, part 10: slice literals, stores, copies, appends; The verified interpreter, part 11: append and copy; The verified interpreter, part 11b: lists whose elements are blocks of their own; The verified interpreter, part 11c: append, for any list of new elements; The verified interpreter, part 12: every operation that is no call. No condition. -/
import Derived.Orders
import Derived.Laws.Sem
import Derived.Laws.AppendOwn
import Derived.Laws.CopyRow
import Derived.Laws.MakeOwn
import Derived.Laws.Strings
import Derived.IntWalk
set_option linter.unusedSimpArgs false
set_option linter.unusedVariables false
open Array renaming getD_eq_getD_getElem? → eJ, length_toList → fK, mem_of_getElem? → gk, getElem?_setIfInBounds_self_of_lt → gu
open Bool renaming and_eq_true → aA, false_eq_true → aR
open List renaming replicate → aw, getElem?_append_left → aB, getElem?_append_right → aC, getElem?_set_ne → aE, mem_append → aF, getElem?_eq_none → aG, getElem?_take → aN, getElem?_set_self → aO, append_assoc → aP, length_take → aS, all_eq_true → aU, mem_of_getElem? → bf, getElem?_drop → bF, getElem?_eq_getElem → bG, length_append → bX, getElem?_map → cd, flatMap_cons → cu, append_nil → c8, ext_getElem? → dv, length_cons → dZ, length_replicate → eK
open Nat renaming le_refl → av, lt_or_ge → ax, mul_le_mul_right → az, zero_le → aD, mod_eq_of_lt → a6, mul_comm → a7, add_mul → a8, le_trans → a9, add_zero → bw, mul_le_mul_left → bH, lt_of_lt_of_le → bP, add_assoc → dh, mul_one → dq, succ_mul → dX, zero_add → d8, mod_lt → ep, eq_zero_or_pos → eu
open Option renaming map_eq_some_iff → au, map_some → aH, isSome_iff_exists → cw
namespace Go.Proofs.YtdieenbfdeaffabGreat.Vpi
open Go
inductive PV where
 | int (k : IntKind) (n : Int)
 | bool (b : Bool)
 | str (s : ByteArray)
 | agg (cs : List PV)
 | sl (es : List PV)
 deriving Inhabited
inductive CV where
 | any
 | p (v : PV)
 | nils
 | own (b off n : Nat)
 | ptr (b i off : Nat)
 | rp (e : PV) (off : Nat)
 | agg (cs : List CV)
 | tup (vs : List CV)
 | fn (f : Nat) (cap : List CV)
 deriving Inhabited
inductive Blk where
 | dead
 | hole
 | prow (sz : Nat) (es : List PV)
 | kblk (sz : Nat) (cs : List CV)
 deriving Inhabited
abbrev ar := List Blk
abbrev Env := List (Nat × CV)
inductive Opd where
 | t (n : Nat)
 | c (v : CV)
inductive CK where
 | pu | fz | full | ct | cell | peek
inductive ROp where
 | mv (x : Opd)
 | pick (c a b : Opd)
 | alloc (zs : List CV)
 | box (x : Opd)
 | build (zs : List CV) (parts : List (Nat × Nat × Opd))
 | bslice (sz : Nat) (xs : List Opd)
 | bslk (xs : List Opd)
 | load (agg : Bool) (sz : Nat) (a : Opd)
 | store (sz : Nat) (a x : Opd)
 | nilc (x : Opd)
 | bin (op : BinOp) (x y : Opd)
 | beq (ne : Bool) (x y : Opd)
 | un (op : UnOp) (x : Opd)
 | conv (k : IntKind) (x : Opd)
 | mkfn (f : Nat) (cap : List Opd)
 | mks (deep : Bool) (sz bytes : Nat) (z : PV) (l c : Opd)
 | slice (sz : Nat) (x : Opd) (lo hi mx : Option Opd)
 | fieldA (off : Nat) (x : Opd)
 | field (agg : Bool) (off sz : Nat) (x : Opd)
 | indexA (sz : Nat) (x i : Opd)
 | extract (x : Opd) (i : Nat)
 | idx (tab : List Nat) (x : Opd)
 | len (x : Opd)
 | append (sz bytes : Nat) (s x : Opd)
 | appk (bytes : Nat) (s x : Opd)
 | appz (sz bytes : Nat) (z : PV) (s x : Opd)
 | copy (sz : Nat) (d s : Opd)
 | mx (x y : Opd)
 | mn (x y : Opd)
 | call (k : CK) (f : Nat) (args : List Opd)
 | callv (k : CK) (x : Opd) (args : List Opd)
 | madec (f : Nat) (args : List Opd)
structure LOp where
 d : Option Nat
 g : Option (Nat × Bool)
 sl : Option Nat
 op : ROp
inductive RCode where
 | skip
 | reg (ops : List LOp) (draw : Option (Nat × List (Nat × Nat)))
 | seq (a b : RCode)
 | cond (c : Opd) (a b : RCode)
 | block (id : Nat) (c : RCode)
 | scope (c : RCode)
 | loop (c : RCode)
 | exit (id : Nat)
 | ret
 | fg (ct : List Nat) (c : RCode)
 | rng (b : Bool) (ps : List Nat) (x : Opd) (asg body : RCode)
 | iter (c : RCode)
 | yld (y : Nat) (pre : List LOp) (d : Nat) (args : List Opd) (post : List LOp)
 | bret
 | bexit (id : Nat)
 | jV (t : Nat) (c : RCode)
inductive KI where
 | code (c : RCode)
 | blk (id : Nat)
 | lp (c : RCode)
 | sc
 | fin
inductive dH where
 | t (n : Nat)
 | cell (n : Nat) (agg : Bool) (sz : Nat)
structure RFun where
 code : RCode
 res : List dH
abbrev cg := Nat → Option RFun
def PV.cells : PV → List PV
 | .agg cs => cs
 | v => [v]
def gt : Env → Nat → CV
 | [], _ => .any
 | (k, v) :: l, n => if k = n then v else gt l n
def st (d : Nat) (v : CV) : Env → Env
 | [] => [(d, v)]
 | (k, u) :: l => if d < k then (d, v) :: (k, u) :: l else if k = d then (d, v) :: l else (k, u) :: st d v l
def sto (d : Option Nat) (v : CV) (e : Env) : Env :=
 match d with
 | some d => st d v e
 | none => e
def fgt (ct : List Nat) : Env → Env
 | [] => []
 | (k, v) :: l => if ct.elem k then (k, v) :: fgt ct l else fgt ct l
def vl (e : Env) : Opd → CV
 | .t n => gt e n
 | .c v => v
def i64 (n : Int) : CV := .p (.int .i64 n)
def fe : List CV → Option (List PV)
 | [] => some []
 | .p v :: l => (fe l).map (v :: ·)
 | _ :: _ => none
def iS (cs : List CV) : CV :=
 match fe cs with
 | some ps => .p (.agg ps)
 | none => .agg cs
def CV.cells : CV → Option (List CV)
 | .p v => some (v.cells.map .p)
 | .agg cs => some cs
 | .any | .tup _ | .rp _ _ => none
 | v => some [v]
def dD (σ : ar) : CV → Option PV
 | .p v => some v
 | .nils => some (.sl [])
 | .own b off n =>
   match σ[b]? with
   | some (.prow _ es) => if off + n ≤ es.length then some (.sl ((es.drop off).take n)) else none
   | _ => none
 | _ => none
def eU (σ : ar) : List CV → Option (List PV)
 | [] => some []
 | v :: l =>
   match dD σ v with
   | some x => (eU σ l).map (x :: ·)
   | none => none
def frz (σ : ar) : CV → Option PV
 | .agg cs => (eU σ cs).map .agg
 | v => dD σ v
def gi (σ : ar) : CV → ar
 | .own b _ _ => σ.set b .dead
 | _ => σ
def eE (σ : ar) (l : List CV) : ar := l.foldl gi σ
def kill (σ : ar) : CV → ar
 | .agg cs => eE σ cs
 | v => gi σ v
def content (σ : ar) : CV → Option (List PV)
 | .p (.sl es) => some es
 | .nils => some []
 | .own b off n =>
   match σ[b]? with
   | some (.prow _ es) => if off + n ≤ es.length then some ((es.drop off).take n) else none
   | _ => none
 | _ => none
def fc (σ : ar) : CV → Option (List CV)
 | .nils => some []
 | .own b off n =>
   match σ[b]? with
   | some (.kblk 1 cs) => if off + n ≤ cs.length then some ((cs.drop off).take n) else none
   | _ => none
 | _ => none
def ly : List CV → Option (List CV)
 | [] => some []
 | v :: l =>
   match v.cells with
   | some [c] => (ly l).map (c :: ·)
   | _ => none
def fp (agg : Bool) (sz : Nat) (e : PV) (off : Nat) : Option PV :=
 match agg with
 | true =>
   match e with
   | .agg cs => if off + sz ≤ cs.length then some (.agg ((cs.drop off).take sz)) else none
   | _ => none
 | false => e.cells[off]?
def gR (agg : Bool) (sz : Nat) (cs : List CV) (off : Nat) : Option CV :=
 match agg with
 | true => if off + sz ≤ cs.length then some (iS ((cs.drop off).take sz)) else none
 | false => cs[off]?
def setCells {α : Type} (cs : List α) (off : Nat) (xs : List α) : List α := cs.take off ++ xs ++ cs.drop (off + xs.length)
def ke (e : PV) (off sz : Nat) (x : PV) : Option PV :=
 match e with
 | .agg cs => if x.cells.length = sz ∧ off + sz ≤ cs.length then some (.agg (setCells cs off x.cells)) else none
 | .sl _ | .int _ _ | .bool _ | .str _ => if off = 0 ∧ sz = 1 then (match x with | .agg _ => none | x => some x) else none
def fw (op : BinOp) (x y : PV) : Option PV :=
 match op, x, y with
 | .shl, .int k a, .int _ b => if b < 0 then none else some (.int k (k.wrap (a * 2 ^ min b.toNat k.bits)))
 | .shr, .int k a, .int _ b => if b < 0 then none else some (.int k (a.fdiv (2 ^ min b.toNat k.bits)))
 | .add, .int k a, .int k' b => if k = k' then some (.int k (k.wrap (a + b))) else none
 | .sub, .int k a, .int k' b => if k = k' then some (.int k (k.wrap (a - b))) else none
 | .mul, .int k a, .int k' b => if k = k' then some (.int k (k.wrap (a * b))) else none
 | .quo, .int k a, .int k' b => if k = k' then (if b = 0 then none else some (.int k (k.wrap (a.tdiv b)))) else none
 | .rem, .int k a, .int k' b => if k = k' then (if b = 0 then none else some (.int k (a.tmod b))) else none
 | .and, .int k a, .int k' b => if k = k' then some (.int k (k.wrap (BitVec.ofInt k.bits a &&& BitVec.ofInt k.bits b).toNat)) else none
 | .or, .int k a, .int k' b => if k = k' then some (.int k (k.wrap (BitVec.ofInt k.bits a ||| BitVec.ofInt k.bits b).toNat)) else none
 | .xor, .int k a, .int k' b => if k = k' then some (.int k (k.wrap (BitVec.ofInt k.bits a ^^^ BitVec.ofInt k.bits b).toNat)) else none
 | .eql, .int k a, .int k' b => if k = k' then some (.bool (a == b)) else none
 | .neq, .int k a, .int k' b => if k = k' then some (.bool (a != b)) else none
 | .lss, .int k a, .int k' b => if k = k' then some (.bool (decide (a < b))) else none
 | .leq, .int k a, .int k' b => if k = k' then some (.bool (decide (a ≤ b))) else none
 | .gtr, .int k a, .int k' b => if k = k' then some (.bool (decide (a > b))) else none
 | .geq, .int k a, .int k' b => if k = k' then some (.bool (decide (a ≥ b))) else none
 | _, _, _ => none
def unV (op : UnOp) (x : PV) : Option PV :=
 match op, x with
 | .neg, .int k n => some (.int k (k.wrap (0 - n)))
 | .not, .bool b => some (.bool !b)
 | _, _ => none
def CV.num : CV → Option Int
 | .p (.int _ n) => some n
 | _ => none
def push (base : Nat) (sl : Option Nat) (σ : ar) (b : Blk) : Option (Nat × ar) :=
 match sl with
 | none => some (σ.length, σ ++ [b])
 | some j =>
   match σ[base + j]? with
   | some .hole => some (base + j, σ.set (base + j) b)
   | _ => none
def bsz (σ : ar) (b : Nat) : Option Nat :=
 match σ[b]? with
 | some (.prow s _) => some s
 | some (.kblk s _) => some s
 | _ => none
def dE (sz : Nat) (es : List PV) : Bool := es.all fun e => e.cells.length == sz
def dw (σ : ar) (sz : Nat) (x : CV) (l h : Nat) : Option CV :=
 if l ≤ h then
  match x with
  | .p (.sl es) => if h ≤ es.length ∧ (l = 0 ∨ dE sz es = true) then some (.p (.sl ((es.drop l).take (h - l)))) else none
  | .own b off n => if h ≤ n ∧ bsz σ b = some sz then some (.own b (off + l) (h - l)) else none
  | .nils => if h = 0 then some .nils else none
  | _ => none
 else none
def jR : CV → Option Nat
 | .p (.sl es) => some es.length
 | .own _ _ n => some n
 | .nils => some 0
 | _ => none
def bnd (e : Env) (x : Option Opd) (d : Nat) : Option Nat :=
 match x with
 | none => some d
 | some x =>
   match (vl e x).num with
   | some n => if 0 ≤ n then some n.toNat else none
   | none => none
def fill (zs : List CV) (e : Env) : List (Nat × Nat × Opd) → Option (List CV)
 | [] => some zs
 | (off, sz, x) :: l =>
   match (vl e x).cells with
   | some cs => if cs.length = sz ∧ off + sz ≤ zs.length then fill (setCells zs off cs) e l else none
   | none => none
def eP : CV → Option PV
 | .p v => some v
 | .nils => some (.sl [])
 | _ => none
def iP : List CV → Option (List PV)
 | [] => some []
 | v :: l =>
   match eP v with
   | some x => (iP l).map (x :: ·)
   | none => none
def toP : CV → Option PV
 | .agg cs => (iP cs).map .agg
 | v => eP v
def ig : List CV → Option (List PV)
 | [] => some []
 | v :: l =>
   match toP v with
   | some x => (ig l).map (x :: ·)
   | none => none
def eG (σ : ar) : List CV → Option (List PV)
 | [] => some []
 | v :: l =>
   match frz σ v with
   | some x => (eG σ l).map (x :: ·)
   | none => none
def eC (σ : ar) (l : List CV) : ar := l.foldl kill σ
def dL (base : Nat) (σ : ar) (v : CV) : Option CV :=
 match v with
 | .any => some .any
 | .own b off n => if b < base then some (.own b off n) else (dD σ v).map .p
 | .ptr b i off => if b < base then some (.ptr b i off) else none
 | .agg cs => if (cs.all fun | .own b _ _ => base ≤ b | _ => true) = true then (frz σ (.agg cs)).map .p else none
 | v => (frz σ v).map .p
def j2 (base : Nat) (σ : ar) : List CV → Option (List CV)
 | [] => some []
 | v :: l =>
   match dL base σ v with
   | some x => (j2 base σ l).map (x :: ·)
   | none => none
def back (base : Nat) (σ : ar) : CV → Option CV
 | .tup vs => (j2 base σ vs).map .tup
 | v => dL base σ v
def gK (base : Nat) : CV → Bool
 | .own b _ _ => b < base
 | .ptr b _ _ => b < base
 | .p _ | .nils | .any => true
 | .fn _ cap => cap.all fun | .own b _ _ => b < base | .ptr b _ _ => b < base | .p _ | .nils | .any => true | _ => false
 | _ => false
def dO (base : Nat) : Blk → Bool
 | .kblk _ cs => cs.all (gK base)
 | _ => true
def fq : CV → List Nat
 | .ptr b _ _ => [b]
 | _ => []
def cellArg (b : Nat) : CV → Option CV
 | .p v => some (.p v)
 | .ptr b' i o => if b' = b then some (.ptr 0 i o) else none
 | _ => none
def jc (b : Nat) : List CV → Option (List CV)
 | [] => some []
 | v :: l =>
   match cellArg b v with
   | some x => (jc b l).map (x :: ·)
   | none => none
def BN : Option CV → Option CV
 | some (.p (.int k n)) => some (.p (.int k n))
 | some (.p (.bool b)) => some (.p (.bool b))
 | _ => none
abbrev dx := Nat → List CV → ar → Option (CV × ar)
def de (run : dx) (k : CK) (f : Nat) (args : List CV) (σ : ar) : Option (CV × ar) :=
 match k with
 | .pu =>
   match ig args with
   | some ps =>
     match run f (ps.map .p) [] with
     | some (r, τ) => (back 0 τ r).map fun r => (r, σ)
     | none => none
   | none => none
 | .fz =>
   match eG σ args with
   | some ps =>
     match run f (ps.map .p) [] with
     | some (r, τ) => (back 0 τ r).map fun r => (r, eC σ args)
     | none => none
   | none => none
 | .full =>
   match run f args σ with
   | some (r, τ) => if (τ.take σ.length).all (dO σ.length) = true then (back σ.length τ r).map fun r => (r, τ.take σ.length) else none
   | none => none
 | .ct => run f args σ
 | .peek =>
   match eG σ args with
   | some ps =>
     match run f (ps.map .p) [] with
     | some (r, τ) => (BN (back 0 τ r)).map fun r => (r, σ)
     | none => none
   | none => none
 | .cell =>
   match args.flatMap fq with
   | [] =>
     match ig args with
     | some ps =>
       match run f (ps.map .p) [] with
       | some (r, τ) => (back 0 τ r).map fun r => (r, σ)
       | none => none
     | none => none
   | [b] =>
     match σ[b]? with
     | some (.kblk s cs) =>
       match jc b args, fe cs with
       | some as, some _ =>
         match run f as [.kblk s cs] with
         | some (.p v, τ) =>
           match τ[(0 : Nat)]? with
           | some (.kblk s' cs') => if s' = s ∧ (fe cs').isSome = true then some (.p v, σ.set b (.kblk s' cs')) else none
           | _ => none
         | _ => none
       | _, _ => none
     | _ => none
   | _ => none
def ev (base : Nat) (sl : Option Nat) (op : ROp) (e : Env) (σ : ar) : Option (CV × ar) :=
 match op with
 | .mv x => some (vl e x, σ)
 | .pick c a b =>
   match vl e c with
   | .p (.bool t) => some (if t = true then vl e a else vl e b, σ)
   | _ => none
 | .alloc zs => (push base sl σ (.kblk zs.length zs)).map fun (b, σ) => (.ptr b 0 0, σ)
 | .box x =>
   match (vl e x).cells with
   | some cs => (push base sl σ (.kblk cs.length cs)).map fun (b, σ) => (.ptr b 0 0, σ)
   | none => none
 | .build zs parts => (fill zs e parts).map fun cs => (iS cs, σ)
 | .bslice sz xs =>
   match eG σ (xs.map (vl e)) with
   | some ps =>
     if dE sz ps = true then (push base sl (eC σ (xs.map (vl e))) (.prow sz ps)).map fun (b, σ) => (.own b 0 ps.length, σ) else none
   | none => none
 | .bslk xs =>
   match ly (xs.map (vl e)) with
   | some cs => (push base sl σ (.kblk 1 cs)).map fun (b, σ) => (.own b 0 cs.length, σ)
   | none => none
 | .appk bytes s x =>
   match fc σ (vl e s), fc σ (vl e x) with
   | some a, some b =>
     if (a.length + b.length) * bytes ≤ 140737488355328 ∧ 0 < b.length then
      match vl e s with
      | .nils => (push base sl σ (.kblk 1 (a ++ b))).map fun (k, σ) => (.own k 0 (a.length + b.length), σ)
      | .own k' _ _ => (push base sl (σ.set k' .dead) (.kblk 1 (a ++ b))).map fun (k, σ) => (.own k 0 (a.length + b.length), σ)
      | _ => none
     else none
   | _, _ => none
 | .load agg sz a =>
   match vl e a with
   | .ptr b i off =>
     match σ[b]? with
     | some (.prow _ es) =>
       match es[i]? with
       | some x => (fp agg sz x off).map fun v => (.p v, σ)
       | none => none
     | some (.kblk s cs) => (gR agg sz cs (i * s + off)).map fun v => (v, σ)
     | _ => none
   | .rp x off => (fp agg sz x off).map fun v => (.p v, σ)
   | _ => none
 | .store sz a x =>
   match vl e a with
   | .ptr b i off =>
     match σ[b]? with
     | some (.prow _ _) =>
       match frz σ (vl e x) with
       | some v =>
         match (kill σ (vl e x))[b]? with
         | some (.prow s es) =>
           match es[i]? with
           | some u => (ke u off sz v).map fun u => (.any, (kill σ (vl e x)).set b (.prow s (es.set i u)))
           | none => none
         | _ => none
       | none => none
     | some (.kblk s cs) =>
       match (vl e x).cells with
       | some xs => if xs.length = sz ∧ i * s + off + sz ≤ cs.length then some (.any, σ.set b (.kblk s (setCells cs (i * s + off) xs))) else none
       | none => none
     | _ => none
   | _ => none
 | .nilc x =>
   match vl e x with
   | .fn f cap => some (.fn f cap, σ)
   | .ptr b i off => some (.ptr b i off, σ)
   | .rp v off => some (.rp v off, σ)
   | _ => none
 | .bin op x y =>
   match vl e x, vl e y with
   | .p a, .p b => (fw op a b).map fun v => (.p v, σ)
   | _, _ => none
 | .beq ne x y =>
   match vl e x, vl e y with
   | .p (.bool a), .p (.bool b) => some (.p (.bool (if ne = true then !(a == b) else a == b)), σ)
   | _, _ => none
 | .un op x =>
   match vl e x with
   | .p a => (unV op a).map fun v => (.p v, σ)
   | _ => none
 | .conv k x =>
   match (vl e x).num with
   | some n => some (.p (.int k (k.wrap n)), σ)
   | none => none
 | .mkfn f cap => some (.fn f (cap.map (vl e)), σ)
 | .mks deep sz bytes z l c =>
   match (vl e l).num, (vl e c).num with
   | some l, some c =>
     if 0 ≤ l ∧ l ≤ c ∧ (bytes : Int) * c ≤ 281474976710656 ∧ c ≤ 9223372036854775807 ∧ z.cells.length = sz then
      match deep with
      | false => (push base sl σ (.prow sz (aw l.toNat z))).map fun (b, σ) => (.own b 0 l.toNat, σ)
      | true => if sz = 1 then (push base sl σ (.kblk sz (aw l.toNat .nils))).map fun (b, σ) => (.own b 0 l.toNat, σ) else none
     else none
   | _, _ => none
 | .slice sz x lo hi mx =>
   match jR (vl e x) with
   | some n =>
     match bnd e lo 0, bnd e hi n with
     | some l, some h =>
       match mx with
       | none => (dw σ sz (vl e x) l h).map fun v => (v, σ)
       | some m =>
         match (vl e m).num with
         | some m => if 0 ≤ m ∧ h ≤ m.toNat ∧ m.toNat ≤ n then (dw σ sz (vl e x) l h).map fun v => (v, σ) else none
         | none => none
     | _, _ => none
   | none => none
 | .fieldA off x =>
   match vl e x with
   | .ptr b i o => some (.ptr b i (o + off), σ)
   | .rp v o => some (.rp v (o + off), σ)
   | _ => none
 | .field agg off sz x =>
   match vl e x with
   | .p (.agg cs) => (fp agg sz (.agg cs) off).map fun v => (.p v, σ)
   | .agg cs => (gR agg sz cs off).map fun v => (v, σ)
   | _ => none
 | .indexA sz x i =>
   match (vl e i).num with
   | some i =>
     if 0 ≤ i then
      match vl e x with
      | .p (.sl es) =>
        match es[i.toNat]? with
        | some v => if v.cells.length = sz then some (.rp v 0, σ) else none
        | none => none
      | .own b off n => if i.toNat < n ∧ bsz σ b = some sz then some (.ptr b (off + i.toNat) 0, σ) else none
      | _ => none
     else none
   | none => none
 | .extract x i =>
   match vl e x with
   | .tup vs => (vs[i]?).map fun v => (v, σ)
   | _ => none
 | .idx tab x =>
   match (vl e x).num with
   | some i =>
     if 0 ≤ i then
      match tab[i.toNat]? with
      | some v => some (.p (.int .u8 v), σ)
      | none => none
     else none
   | none => none
 | .len x => (jR (vl e x)).map fun (n : Nat) => (i64 (n : Int), σ)
 | .append sz bytes s x =>
   match content σ (vl e s), content σ (vl e x) with
   | some a, some b =>
     if (a.length + b.length) * bytes ≤ 140737488355328 ∧ dE sz b = true then
      match vl e s with
      | .nils => (push base sl σ (.prow sz (a ++ b))).map fun (k, σ) => (.own k 0 (a.length + b.length), σ)
      | .own k' _ _ =>
        match σ[k']? with
        | some (.prow sz' _) => if sz' = sz then (push base sl (σ.set k' .dead) (.prow sz (a ++ b))).map fun (k, σ) => (.own k 0 (a.length + b.length), σ) else none
        | _ => none
      | _ => none
     else none
   | _, _ => none
 | .appz sz bytes z s x =>
   match content σ (vl e s), (vl e x).num with
   | some a, some m =>
     if 0 ≤ m ∧ m ≤ 9223372036854775807 ∧ (a.length + m.toNat) * bytes ≤ 140737488355328 ∧ z.cells.length = sz then
      match vl e s with
      | .nils => (push base sl σ (.prow sz (a ++ aw m.toNat z))).map fun (k, σ) => (.own k 0 (a.length + m.toNat), σ)
      | .own k' _ _ =>
        match σ[k']? with
        | some (.prow sz' _) => if sz' = sz then (push base sl (σ.set k' .dead) (.prow sz (a ++ aw m.toNat z))).map fun (k, σ) => (.own k 0 (a.length + m.toNat), σ) else none
        | _ => none
      | _ => none
     else none
   | _, _ => none
 | .copy sz d s =>
   match vl e d, content σ (vl e s) with
   | .own b off n, some xs =>
     match σ[b]? with
     | some (.prow s es) =>
       if off + n ≤ es.length ∧ s = sz ∧ dE sz xs = true then some (i64 (min xs.length n : Nat), σ.set b (.prow s (setCells es off (xs.take n)))) else none
     | _ => none
   | .nils, some _ => some (i64 0, σ)
   | _, _ => none
 | .mx x y =>
   match vl e x, vl e y with
   | .p (.int k a), .p (.int _ b) => some (.p (.int k (if b > a then b else a)), σ)
   | _, _ => none
 | .mn x y =>
   match vl e x, vl e y with
   | .p (.int k a), .p (.int _ b) => some (.p (.int k (if b < a then b else a)), σ)
   | _, _ => none
 | .call .. | .callv .. | .madec .. => none
def mH (run : dx) (f : Nat) (args : List CV) : Option (Nat × List PV) :=
 match ig args with
 | some ps =>
   match run f (ps.map .p) [] with
   | some (.own b 0 n, τ) =>
     match τ[b]? with
     | some (.prow s es) => if n = es.length then some (s, es) else none
     | _ => none
   | _ => none
 | none => none
def ev1 (run : dx) (base : Nat) (sl : Option Nat) (op : ROp) (e : Env) (σ : ar) : Option (CV × ar) :=
 match op with
 | .madec f args =>
   match mH run f (args.map (vl e)) with
   | some x => (push base sl σ (.prow x.1 x.2)).map fun (k, σ) => (.own k 0 x.2.length, σ)
   | none => none
 | .call k f args => de run k f (args.map (vl e)) σ
 | .callv k x args =>
   match vl e x with
   | .fn f cap => de run k f (args.map (vl e) ++ cap) σ
   | _ => none
 | op => ev base sl op e σ
def evL (run : dx) (base : Nat) (o : LOp) (e : Env) (σ : ar) : Option (Env × ar) :=
 match o.g with
 | none => (ev1 run base o.sl o.op e σ).map fun (v, σ) => (sto o.d v e, σ)
 | some (t, want) =>
   match gt e t with
   | .p (.bool b) => if b = want then (ev1 run base o.sl o.op e σ).map fun (v, σ) => (sto o.d v e, σ) else some (sto o.d (.tup []) e, σ)
   | .tup [] => some (sto o.d (.tup []) e, σ)
   | _ => none
def du (run : dx) (base : Nat) : List LOp → Env → ar → Option (Env × ar)
 | [], e, σ => some (e, σ)
 | o :: l, e, σ =>
   match evL run base o e σ with
   | some (e, σ) => du run base l e σ
   | none => none
def lH (e : Env) (σ : ar) : dH → Option CV
 | .t n => some (gt e n)
 | .cell n agg sz =>
   match gt e n with
   | .ptr b i off =>
     match σ[b]? with
     | some (.kblk s cs) => gR agg sz cs (i * s + off)
     | _ => none
   | _ => none
def kj (e : Env) (σ : ar) : List dH → Option (List CV)
 | [] => some []
 | r :: l =>
   match lH e σ r with
   | some v => (kj e σ l).map (v :: ·)
   | none => none
def cW (rs : List dH) (e : Env) (σ : ar) : Option CV :=
 match kj e σ rs with
 | some [v] => some v
 | some vs => some (.tup vs)
 | none => none
def gx (id : Nat) : List KI → Option (List KI)
 | .blk id' :: k => if id' = id then some k else gx id k
 | _ :: k => gx id k
 | [] => none
def aJ : Nat → List CV → Env
 | _, [] => []
 | k, v :: l => (k, v) :: aJ (k + 1) l
def eA : CV → List Nat
 | .own b _ _ => [b]
 | _ => []
def aV : CV → List Nat
 | .agg cs => cs.flatMap eA
 | c => eA c
structure lh where
 rd : List Nat
 sz : List Nat
 wr : List Nat
 kl : List Nat
def kG : CV → List CV
 | .fn _ cap => cap
 | _ => []
def cR (e : Env) : ROp → lh
 | .load _ _ a => ⟨fq (vl e a), [], [], []⟩
 | .store _ a x => ⟨fq (vl e a) ++ aV (vl e x), [], fq (vl e a) ++ aV (vl e x), aV (vl e x)⟩
 | .bslice _ xs => ⟨(xs.map (vl e)).flatMap aV, [], (xs.map (vl e)).flatMap aV, (xs.map (vl e)).flatMap aV⟩
 | .append _ _ s x => ⟨aV (vl e s) ++ aV (vl e x), [], aV (vl e s), aV (vl e s)⟩
 | .appz _ _ _ s _ => ⟨aV (vl e s), [], aV (vl e s), aV (vl e s)⟩
 | .appk _ s x => ⟨aV (vl e s) ++ aV (vl e x), [], aV (vl e s), aV (vl e s)⟩
 | .copy _ d s => ⟨aV (vl e d) ++ aV (vl e s), [], aV (vl e d), []⟩
 | .slice _ x _ _ _ => ⟨[], aV (vl e x), [], []⟩
 | .indexA _ x _ => ⟨[], aV (vl e x), [], []⟩
 | .call .cell _ args => ⟨(args.map (vl e)).flatMap fq, [], (args.map (vl e)).flatMap fq, []⟩
 | .call .peek _ args => ⟨(args.map (vl e)).flatMap aV, [], [], []⟩
 | .call .fz _ args => ⟨(args.map (vl e)).flatMap aV, [], (args.map (vl e)).flatMap aV, (args.map (vl e)).flatMap aV⟩
 | .callv .fz x args => ⟨(args.map (vl e) ++ kG (vl e x)).flatMap aV, [], (args.map (vl e) ++ kG (vl e x)).flatMap aV, (args.map (vl e) ++ kG (vl e x)).flatMap aV⟩
 | _ => ⟨[], [], [], []⟩
def lR (F H : lh) : Bool :=
 F.rd.all (fun b => !H.wr.elem b) && F.sz.all (fun b => !H.kl.elem b) && H.rd.all (fun b => !F.wr.elem b) && H.sz.all (fun b => !F.kl.elem b) && F.wr.all (fun b => !H.wr.elem b)
def fZ (e : Env) (ops : List LOp) (ij : Nat × Nat) : Bool :=
 match ops[ij.1]?, ops[ij.2]? with
 | some x, some y => lR (cR e x.op) (cR e y.op)
 | _, _ => false
def uv : PV → Bool
 | .sl _ => true
 | _ => false
def isT : CV → Bool
 | .p (.bool b) => b
 | _ => false
def stL : List Nat → List CV → Env → Env
 | p :: ps, v :: vs, e => stL ps vs (st p v e)
 | _, _, e => e
def gv (call : dx) : RCode → Env → ar → Option (Env × ar)
 | .skip, e, σ => some (e, σ)
 | .reg ops none, e, σ => du call σ.length ops e σ
 | .seq a b, e, σ =>
   match gv call a e σ with
   | some (e, σ) => gv call b e σ
   | none => none
 | _, _, _ => none
def b8 (call : dx) (Y : List CV → ar → Option (CV × ar)) : Nat → Option CV → RCode → List KI → Env → ar → Option (Option CV × ar)
 | 0, _, _, _, _, _ => none
 | n + 1, pd, c, ks, e, σ =>
   match c with
   | .skip =>
     match ks with
     | [] => some (pd, σ)
     | .code c :: ks => b8 call Y n pd c ks e σ
     | .blk _ :: ks => b8 call Y n pd .skip ks e σ
     | .sc :: ks => b8 call Y n pd .skip ks e σ
     | .lp c :: ks => b8 call Y n pd c (.lp c :: ks) e σ
     | .fin :: _ => none
   | .reg ops none =>
     match du call σ.length ops e σ with
     | some (e, σ) => b8 call Y n pd .skip ks e σ
     | none => none
   | .yld y pre d args post =>
     match pd with
     | some _ => none
     | none =>
       match du call σ.length pre (st y .any e) σ with
       | none => none
       | some (e, σ) =>
         match Y (args.map (vl e)) σ with
         | none => none
         | some (out, σ) =>
           match du call σ.length post (st d (.p (.bool (isT out))) e) σ with
           | none => none
           | some (e, σ) => b8 call Y n (if isT out = true then none else some out) .skip ks e σ
   | .seq a b => b8 call Y n pd a (.code b :: ks) e σ
   | .cond c a b =>
     match vl e c with
     | .p (.bool t) => if t = true then b8 call Y n pd a ks e σ else b8 call Y n pd b ks e σ
     | _ => none
   | .block id c => b8 call Y n pd c (.blk id :: ks) e σ
   | .scope c => b8 call Y n pd c (.sc :: ks) e σ
   | .loop c => b8 call Y n pd c (.lp c :: ks) e σ
   | .exit id =>
     match gx id ks with
     | some ks => b8 call Y n pd .skip ks e σ
     | none => none
   | .ret => some (pd, σ)
   | .fg ct c => b8 call Y n pd c ks (fgt ct e) σ
   | _ => none
def runK (rp : cg) : Nat → List dH → RCode → List KI → Env → ar → Option (CV × ar)
 | 0, _, _, _, _, _ => none
 | n + 1, rs, c, ks, e, σ =>
   match c with
   | .skip =>
     match ks with
     | [] => (cW rs e σ).map fun v => (v, σ)
     | .code c :: ks => runK rp n rs c ks e σ
     | .blk _ :: ks => runK rp n rs .skip ks e σ
     | .sc :: ks => runK rp n rs .skip ks e σ
     | .lp c :: ks => runK rp n rs c (.lp c :: ks) e σ
     | .fin :: _ => some (.p (.bool true), σ)
   | .reg ops none =>
     match du (fun f args σ => match rp f with | some rf => runK rp n rf.res rf.code [] (aJ 0 args) σ | none => none) σ.length ops e σ with
     | some (e, σ) => runK rp n rs .skip ks e σ
     | none => none
   | .reg ops (some (h, xp)) =>
     match du (fun f args σ => match rp f with | some rf => runK rp n rf.res rf.code [] (aJ 0 args) σ | none => none) σ.length ops e (σ ++ aw h .hole) with
     | some (e, σ) => if xp.all (fZ e ops) then runK rp n rs .skip ks e σ else none
     | none => none
   | .seq a b => runK rp n rs a (.code b :: ks) e σ
   | .cond c a b =>
     match vl e c with
     | .p (.bool t) => if t = true then runK rp n rs a ks e σ else runK rp n rs b ks e σ
     | _ => none
   | .block id c => runK rp n rs c (.blk id :: ks) e σ
   | .scope c => runK rp n rs c (.sc :: ks) e σ
   | .loop c => runK rp n rs c (.lp c :: ks) e σ
   | .exit id =>
     match gx id ks with
     | some ks => runK rp n rs .skip ks e σ
     | none => none
   | .ret => (cW rs e σ).map fun v => (v, σ)
   | .fg ct c => runK rp n rs c ks (fgt ct e) σ
   | .bret => some (.p (.bool false), σ)
   | .bexit id =>
     match gx id ks with
     | some _ => none
     | none => some (.p (.int .i64 id), σ)
   | .rng b ps x asg body =>
     match vl e x with
     | .fn f cap =>
       match rp f with
       | some ⟨.iter c, []⟩ =>
         match b8 (fun f args σ => match rp f with | some rf => runK rp n rf.res rf.code [] (aJ 0 args) σ | none => none) (fun args σ => if args.length = ps.length then (match gv (fun f args σ => match rp f with | some rf => runK rp n rf.res rf.code [] (aJ 0 args) σ | none => none) asg (stL ps args e) σ with | some (e, σ) => runK rp n [] body [.fin] e σ | none => none) else none) n none c [] (aJ 0 (.any :: cap)) σ with
         | some (none, σ) => runK rp n rs .skip ks e σ
         | some (some (.p (.bool _)), σ) => runK rp n rs (if b = true then .bret else .ret) ks e σ
         | some (some (.p (.int _ z)), σ) =>
           match gx z.toNat ks with
           | some _ => runK rp n rs (.exit z.toNat) ks e σ
           | none => if b = true then runK rp n rs (.bexit z.toNat) ks e σ else none
         | _ => none
       | _ => none
     | _ => none
   | .iter _ => none
   | .yld _ _ _ _ _ => none
   | .jV t c =>
     match gt e t with
     | .own b _ _ =>
       match σ[b]? with
       | some (.kblk s cs) =>
         match eU σ cs with
         | some ps => if s = 1 ∧ ps.all uv = true ∧ (cs.flatMap eA).elem b = false then runK rp n rs c ks e ((eE σ cs).set b (.prow 1 ps)) else none
         | none => none
       | _ => runK rp n rs c ks e σ
     | _ => runK rp n rs c ks e σ
def fJ (rp : cg) (n : Nat) : dx := fun f args σ =>
 match rp f with
 | some rf => runK rp n rf.res rf.code [] (aJ 0 args) σ
 | none => none
abbrev lq (d : Nat) (op : ROp) : LOp := ⟨some d, none, none, op⟩
inductive Loc where
 | lv (blk off tot sz : Nat)
 | det
 | dead
 | hole
inductive dG (w : World) (G : Nat → Prop) : PV → Value → Prop
 | int (k : IntKind) (n : Int) : dG w G (.int k n) (.int k n)
 | bool (b : Bool) : dG w G (.bool b) (.bool b)
 | str (s : ByteArray) : dG w G (.str s) (.string s)
 | agg (cs : List PV) (vs : List Value) (hl : cs.length = vs.length) (hk : ∀ (k : Nat) c v, cs[k]? = some c → vs[k]? = some v → dG w G c v) (h1 : ∀ v ∈ vs, v.oneCell' = true) : dG w G (.agg cs) (.agg vs.toArray)
 | nil (a : Option Addr) (cap : Nat) : dG w G (.sl []) (.slice a 0 cap)
 | sl (es : List PV) (blk off : Nat) (arr : Array Value) (el : TypeId) (fr : Nat × Nat) (cap sz : Nat) (hg : G blk) (hb : w.heap[blk]? = some (.cells arr el fr))
  (hc : es.length ≤ cap) (hs : off + es.length * sz ≤ arr.size) (he : ∀ (i : Nat) e, es[i]? = some e → e.cells.length = sz)
  (hk : ∀ (i : Nat) e (k : Nat) c u, es[i]? = some e → e.cells[k]? = some c → arr[off + i * sz + k]? = some u → dG w G c u)
  (h1 : ∀ (i : Nat) e (k : Nat) u, es[i]? = some e → k < sz → arr[off + i * sz + k]? = some u → u.oneCell' = true) :
  dG w G (.sl es) (.slice (some ⟨blk, off, none⟩) es.length cap)
theorem dG.mono {w w' : World} {G G' : Nat → Prop} (hw : ∀ k, G k → w'.heap[k]? = w.heap[k]?) (hG : ∀ k, G k → G' k) {x : PV} {v : Value} (h : dG w G x v) : dG w' G' x v := by
 induction h with
 | int k n => exact .int k n
 | bool b => exact .bool b
 | str s => exact .str s
 | agg cs vs hl _ h1 ih => exact .agg cs vs hl ih h1
 | nil a cap => exact .nil a cap
 | sl es blk off arr el fr cap sz hg hb hc hs he _ h1 ih => exact .sl es blk off arr el fr cap sz (hG _ hg) ((hw _ hg).trans hb) hc hs he ih h1
def dJ (ρ : List Loc) (b off : Nat) (a : Option Addr) (cap : Nat) : Prop :=
 match ρ[b]? with
 | some (.lv blk o tot sz) => cap = 0 ∨ (a = some ⟨blk, o + off * sz, none⟩ ∧ o + (off + cap) * sz ≤ tot)
 | some .det => cap = 0
 | some .dead => True
 | _ => False
def ie (ρ : List Loc) (b i off : Nat) (a : Addr) : Prop :=
 match ρ[b]? with
 | some (.lv blk o _ sz) => a = ⟨blk, o + i * sz + off, none⟩
 | some .det => True
 | some .dead => True
 | _ => False
inductive bT (w : World) (G : Nat → Prop) (ρ : List Loc) : CV → Value → Prop
 | any (v : Value) : bT w G ρ .any v
 | p (x : PV) (v : Value) (h : dG w G x v) : bT w G ρ (.p x) v
 | nils : bT w G ρ .nils (.slice none 0 0)
 | own (b off n : Nat) (a : Option Addr) (cap : Nat) (hc : n ≤ cap) (h : dJ ρ b off a cap) : bT w G ρ (.own b off n) (.slice a n cap)
 | ptr (b i off : Nat) (a : Addr) (h : ie ρ b i off a) : bT w G ρ (.ptr b i off) (.pointer (some a))
 | rp (e : PV) (off blk o : Nat) (arr : Array Value) (el : TypeId) (fr : Nat × Nat) (hg : G blk) (hb : w.heap[blk]? = some (.cells arr el fr)) (hs : o + e.cells.length ≤ arr.size)
  (hk : ∀ (k : Nat) c u, e.cells[k]? = some c → arr[o + k]? = some u → dG w G c u ∧ u.oneCell' = true) : bT w G ρ (.rp e off) (.pointer (some ⟨blk, o + off, none⟩))
 | agg (cs : List CV) (vs : List Value) (hl : cs.length = vs.length) (hk : ∀ (k : Nat) c v, cs[k]? = some c → vs[k]? = some v → bT w G ρ c v) (h1 : ∀ v ∈ vs, v.oneCell' = true) : bT w G ρ (.agg cs) (.agg vs.toArray)
 | tup (cs : List CV) (vs : List Value) (hl : cs.length = vs.length) (hk : ∀ (k : Nat) c v, cs[k]? = some c → vs[k]? = some v → bT w G ρ c v) : bT w G ρ (.tup cs) (.tuple vs.toArray)
 | fn (f : Nat) (cap : List CV) (vs : List Value) (hl : cap.length = vs.length) (hk : ∀ (k : Nat) c v, cap[k]? = some c → vs[k]? = some v → bT w G ρ c v) : bT w G ρ (.fn f cap) (.func (.func f) #[] vs.toArray)
def cx (ρ ρ' : List Loc) : Prop := ∀ (i : Nat) l, ρ[i]? = some l → ρ'[i]? = some l ∨ ρ'[i]? = some .dead ∨ l = .hole
theorem cx.refl (ρ : List Loc) : cx ρ ρ := fun _ _ h => .inl h
theorem cx.trans {ρ ρ₁ ρ₂ : List Loc} (h : cx ρ ρ₁) (h' : cx ρ₁ ρ₂) : cx ρ ρ₂ := by
 intro i l hl
 rcases h i l hl with h1 | h1 | h1
 ·exact h' i l h1
 ·rcases h' i _ h1 with h2 | h2 | h2
  ·exact .inr (.inl h2)
  ·exact .inr (.inl h2)
  ·cases h2
 ·exact .inr (.inr h1)
theorem dJ.mono {ρ ρ' : List Loc} (h : cx ρ ρ') {b off : Nat} {a : Option Addr} {cap : Nat} (ho : dJ ρ b off a cap) : dJ ρ' b off a cap := by
 unfold dJ at *
 cases hb : ρ[b]? with
 | none => rw [hb] at ho; exact ho.elim
 | some l =>
   rw [hb] at ho
   rcases h b l hb with h1 | h1 | h1
   ·rw [h1]; exact ho
   ·rw [h1]; trivial
   ·subst h1; exact ho.elim
theorem ie.mono {ρ ρ' : List Loc} (h : cx ρ ρ') {b i off : Nat} {a : Addr} (ho : ie ρ b i off a) : ie ρ' b i off a := by
 unfold ie at *
 cases hb : ρ[b]? with
 | none => rw [hb] at ho; exact ho.elim
 | some l =>
   rw [hb] at ho
   rcases h b l hb with h1 | h1 | h1
   ·rw [h1]; exact ho
   ·rw [h1]; trivial
   ·subst h1; exact ho.elim
theorem bT.mono {w w' : World} {G G' : Nat → Prop} {ρ ρ' : List Loc} (hw : ∀ k, G k → w'.heap[k]? = w.heap[k]?) (hG : ∀ k, G k → G' k) (hρ : cx ρ ρ') {x : CV} {v : Value}
 (h : bT w G ρ x v) : bT w' G' ρ' x v := by
 induction h with
 | any v => exact .any v
 | p x v h => exact .p x v (h.mono hw hG)
 | nils => exact .nils
 | own b off n a cap hc h => exact .own b off n a cap hc (h.mono hρ)
 | ptr b i off a h => exact .ptr b i off a (h.mono hρ)
 | rp e off blk o arr el fr hg hb hs hk => exact .rp e off blk o arr el fr (hG _ hg) ((hw _ hg).trans hb) hs fun k c u h1 h2 => ⟨(hk k c u h1 h2).1.mono hw hG, (hk k c u h1 h2).2⟩
 | agg cs vs hl _ h1 ih => exact .agg cs vs hl ih h1
 | tup cs vs hl _ ih => exact .tup cs vs hl ih
 | fn f cap vs hl _ ih => exact .fn f cap vs hl ih
def ej (w : World) (G : Nat → Prop) (ρ : List Loc) (l : Loc) (b : Blk) : Prop :=
 match b, l with
 | .dead, .dead => True
 | .hole, .hole => True
 | .prow sz es, .lv blk o tot sz' => sz = sz' ∧ ¬ G blk ∧ ∃ arr el, w.heap[blk]? = some (.cells arr el (0, 0)) ∧ arr.size = tot ∧ o + es.length * sz ≤ tot ∧
  (∀ (i : Nat) e, es[i]? = some e → e.cells.length = sz) ∧ (∀ (i : Nat) e (k : Nat) c u, es[i]? = some e → e.cells[k]? = some c → arr[o + i * sz + k]? = some u → dG w G c u ∧ u.oneCell' = true)
 | .prow _ es, .det => es = []
 | .kblk sz cs, .lv blk o tot sz' => sz = sz' ∧ ¬ G blk ∧ ∃ arr el, w.heap[blk]? = some (.cells arr el (0, 0)) ∧ arr.size = tot ∧ o + cs.length ≤ tot ∧
  (∀ (k : Nat) c u, cs[k]? = some c → arr[o + k]? = some u → bT w G ρ c u ∧ u.oneCell' = true)
 | _, _ => False
def Live (ρ : List Loc) (k : Nat) : Prop := ∃ (i o t s : Nat), ρ[i]? = some (.lv k o t s)
structure St (w : World) (G : Nat → Prop) (ρ : List Loc) (σ : ar) : Prop where
 g : ∀ k, G k → k < w.heap.size
 len : ρ.length = σ.length
 inj : ∀ (i j k o t s o' t' s' : Nat), ρ[i]? = some (.lv k o t s) → ρ[j]? = some (.lv k o' t' s') → i = j
 ok : ∀ (i : Nat) l b, ρ[i]? = some l → σ[i]? = some b → ej w G ρ l b
def ld (w w' : World) : Prop := w'.os = w.os ∧ w'.tape = w.tape ∧ w'.output = w.output
theorem ld.trans {a b c : World} (h : ld a b) (k : ld b c) : ld a c := ⟨k.1.trans h.1, k.2.1.trans h.2.1, k.2.2.trans h.2.2⟩
structure Ext (w : World) (G : Nat → Prop) (ρ : List Loc) (w' : World) (G' : Nat → Prop) (ρ' : List Loc) : Prop where
 wld : ld w w'
 loc : cx ρ ρ'
 heap : w.heap.size ≤ w'.heap.size
 grow : ∀ k, G k → G' k
 only : ∀ k, G' k → G k ∨ w.heap.size ≤ k ∨ Live ρ k
 below : ∀ k, k < w.heap.size → ¬ Live ρ k → w'.heap[k]? = w.heap[k]?
 lives : ∀ k, Live ρ' k → Live ρ k ∨ w.heap.size ≤ k
theorem St.z7 {w : World} {G : Nat → Prop} {ρ : List Loc} {σ : ar} (h : St w G ρ σ) {k : Nat} (hk : Live ρ k) : ¬ G k := by
 obtain ⟨i, o, t, s, hi⟩ := hk
 have hlt : i < ρ.length := by
  rcases ax i ρ.length with h1 | h1
  ·exact h1
  ·simp [aG h1] at hi
 have hs : σ[i]? = some σ[i]! := by
  have : i < σ.length := h.len ▸ hlt
  simp [this]
 have := h.ok i _ _ hi hs
 unfold ej at this
 split at this
 ·simp_all
 ·simp_all
 ·rename_i heq; cases heq; exact this.2.1
 ·simp_all
 ·rename_i heq; cases heq; exact this.2.1
 ·exact this.elim
theorem St.ji {w : World} {G : Nat → Prop} {ρ : List Loc} {σ : ar} (h : St w G ρ σ) {k : Nat} (hk : Live ρ k) : k < w.heap.size := by
 obtain ⟨i, o, t, s, hi⟩ := hk
 have hlt : i < ρ.length := by
  rcases ax i ρ.length with h1 | h1
  ·exact h1
  ·simp [aG h1] at hi
 have hs : σ[i]? = some σ[i]! := by
  have : i < σ.length := h.len ▸ hlt
  simp [this]
 have := h.ok i _ _ hi hs
 have key : ∀ arr el, w.heap[k]? = some (.cells arr el (0, 0)) → k < w.heap.size := by
  intro arr el he
  rcases ax k w.heap.size with h1 | h1
  ·exact h1
  ·simp [Array.getElem?_eq_none h1] at he
 unfold ej at this
 split at this
 ·simp_all
 ·simp_all
 ·rename_i heq; cases heq; obtain ⟨_, _, arr, el, hh, _⟩ := this; exact key _ _ hh
 ·simp_all
 ·rename_i heq; cases heq; obtain ⟨_, _, arr, el, hh, _⟩ := this; exact key _ _ hh
 ·exact this.elim
theorem Ext.same {w w' : World} {G G' : Nat → Prop} {ρ ρ' : List Loc} {σ : ar} (h : Ext w G ρ w' G' ρ') (hs : St w G ρ σ) : ∀ k, G k → w'.heap[k]? = w.heap[k]? :=
 fun k hk => h.below k (hs.g k hk) fun hl => hs.z7 hl hk
theorem Ext.refl {w : World} {G : Nat → Prop} {ρ : List Loc} : Ext w G ρ w G ρ :=
 ⟨⟨rfl, rfl, rfl⟩, cx.refl _, av _, fun _ h => h, fun _ h => .inl h, fun _ _ _ => rfl, fun _ h => .inl h⟩
theorem Ext.trans {w w₁ w₂ : World} {G G₁ G₂ : Nat → Prop} {ρ ρ₁ ρ₂ : List Loc} (h : Ext w G ρ w₁ G₁ ρ₁) (h' : Ext w₁ G₁ ρ₁ w₂ G₂ ρ₂) : Ext w G ρ w₂ G₂ ρ₂ where
 wld := h.wld.trans h'.wld
 loc := h.loc.trans h'.loc
 heap := a9 h.heap h'.heap
 grow := fun k hk => h'.grow k (h.grow k hk)
 only := by
  intro k hk
  rcases h'.only k hk with h1 | h1 | h1
  ·exact h.only k h1
  ·exact .inr (.inl (a9 h.heap h1))
  ·rcases h.lives k h1 with h2 | h2
   ·exact .inr (.inr h2)
   ·exact .inr (.inl h2)
 below := by
  intro k hk hn
  rw [h'.below k (bP hk h.heap) fun hl => ?_, h.below k hk hn]
  rcases h.lives k hl with h2 | h2
  ·exact hn h2
  ·omega
 lives := by
  intro k hk
  rcases h'.lives k hk with h1 | h1
  ·exact h.lives k h1
  ·exact .inr (a9 h.heap h1)
theorem bT.ext {w w' : World} {G G' : Nat → Prop} {ρ ρ' : List Loc} {σ : ar} (h : Ext w G ρ w' G' ρ') (hs : St w G ρ σ) {x : CV} {v : Value} (hr : bT w G ρ x v) : bT w' G' ρ' x v :=
 hr.mono (h.same hs) h.grow h.loc
def cX (w : World) (G : Nat → Prop) (ρ : List Loc) (e : Env) (ts : Array Value) : Prop := ∀ k, bT w G ρ (gt e k) (ts.getD k undef)
theorem cX.ext {w w' : World} {G G' : Nat → Prop} {ρ ρ' : List Loc} {σ : ar} (h : Ext w G ρ w' G' ρ') (hs : St w G ρ σ) {e : Env} {ts : Array Value} (hr : cX w G ρ e ts) : cX w' G' ρ' e ts :=
 fun k => (hr k).ext h hs
theorem gj (d k : Nat) (v : CV) : ∀ e : Env, gt (st d v e) k = if k = d then v else gt e k := by
 intro e
 induction e with
 | nil =>
   simp only [st, gt]
   by_cases h : k = d
   ·rw [if_pos h, if_pos h.symm]
   ·rw [if_neg h, if_neg fun x => h x.symm]
 | cons a l ih =>
   obtain ⟨j, u⟩ := a
   simp only [st]
   by_cases h1 : d < j
   ·rw [if_pos h1]
    simp only [gt]
    by_cases h : k = d
    ·rw [if_pos h, if_pos h.symm]
    ·rw [if_neg h, if_neg fun x => h x.symm]
   ·rw [if_neg h1]
    by_cases h2 : j = d
    ·rw [if_pos h2]
     subst h2
     simp only [gt]
     by_cases h : k = j
     ·rw [if_pos h, if_pos h.symm]
     ·rw [if_neg h, if_neg fun x => h x.symm, if_neg fun x => h x.symm]
    ·rw [if_neg h2]
     simp only [gt]
     by_cases h3 : j = k
     ·rw [if_pos h3, if_pos h3, if_neg (by omega)]
     ·rw [if_neg h3, if_neg h3, ih]
theorem Cd (ct : List Nat) (k : Nat) : ∀ e : Env, gt (fgt ct e) k = gt e k ∨ gt (fgt ct e) k = .any := by
 intro e
 induction e with
 | nil => exact .inl rfl
 | cons a l ih =>
   obtain ⟨j, u⟩ := a
   simp only [fgt]
   by_cases h : ct.elem j = true
   ·rw [if_pos h]
    simp only [gt]
    by_cases h2 : j = k
    ·rw [if_pos h2, if_pos h2]; exact .inl rfl
    ·rw [if_neg h2, if_neg h2]; exact ih
   ·rw [if_neg h]
    by_cases h2 : j = k
    ·subst h2
     right
     clear ih
     induction l with
     | nil => rfl
     | cons b l ih =>
       obtain ⟨i, x⟩ := b
       simp only [fgt]
       by_cases h3 : ct.elem i = true
       ·rw [if_pos h3]
        simp only [gt]
        rw [if_neg (by rintro rfl; exact h h3)]
        exact ih
       ·rw [if_neg h3]; exact ih
    ·simp only [gt]; rw [if_neg h2]; exact ih
theorem cX.fgt {w : World} {G : Nat → Prop} {ρ : List Loc} {e : Env} {ts : Array Value} (h : cX w G ρ e ts) (ct : List Nat) : cX w G ρ (fgt ct e) ts := by
 intro k
 rcases Cd ct k e with h1 | h1
 ·rw [h1]; exact h k
 ·rw [h1]; exact .any _
theorem cX.sto {w : World} {G : Nat → Prop} {ρ : List Loc} {e : Env} {a : Act} (h : cX w G ρ e a.tmps) (d : Option Nat) {v : CV} {u : Value} (hd : ∀ t, d = some t → t < a.tmps.size) (hv : bT w G ρ v u) :
 cX w G ρ (sto d v e) (a.put d u).tmps := by
 cases d with
 | none => exact h
 | some d =>
   intro k
   have hlt := hd d rfl
   simp only [Vpi.sto, Act.put]
   rw [gj]
   by_cases hk : k = d
   ·subst hk
    rw [if_pos rfl]
    simp [Array.getD, hlt]
    exact hv
   ·rw [if_neg hk]
    have := h k
    simp only [eJ, Array.getElem?_setIfInBounds_ne (fun x => hk x.symm)] at this ⊢
    exact this
theorem i6 (a : Act) (d : Option Nat) (u : Value) : (a.put d u).tmps.size = a.tmps.size := by
 cases d <;> simp [Act.put]
theorem put_defers (a : Act) (d : Option Nat) (u : Value) : (a.put d u).defers = a.defers := by
 cases d <;> rfl
theorem ej.mono {w w' : World} {G G' : Nat → Prop} {ρ ρ' : List Loc} {l : Loc} {b : Blk} (hw : ∀ k, G k → w'.heap[k]? = w.heap[k]?) (hG : ∀ k, G k → G' k) (hρ : cx ρ ρ')
 (hl : ∀ (k o t s : Nat), l = .lv k o t s → w'.heap[k]? = w.heap[k]? ∧ (¬ G k → ¬ G' k)) (h : ej w G ρ l b) : ej w' G' ρ' l b := by
 unfold ej at *
 split at h
 ·trivial
 ·trivial
 ·obtain ⟨h1, h2, arr, el, h3, h4, h5, h6, h7⟩ := h
  obtain ⟨a1, a2⟩ := hl _ _ _ _ rfl
  exact ⟨h1, a2 h2, arr, el, a1.trans h3, h4, h5, h6, fun i e k c u x y z => ⟨(h7 i e k c u x y z).1.mono hw hG, (h7 i e k c u x y z).2⟩⟩
 ·exact h
 ·obtain ⟨h1, h2, arr, el, h3, h4, h5, h6⟩ := h
  obtain ⟨a1, a2⟩ := hl _ _ _ _ rfl
  exact ⟨h1, a2 h2, arr, el, a1.trans h3, h4, h5, fun k c u x y => ⟨(h6 k c u x y).1.mono hw hG hρ, (h6 k c u x y).2⟩⟩
 ·exact h.elim
theorem St.oq {w w' : World} {G : Nat → Prop} {ρ : List Loc} {σ : ar} (h : St w G ρ σ) (hw : w'.heap = w.heap) : St w' G ρ σ where
 g := by rw [hw]; exact h.g
 len := h.len
 inj := h.inj
 ok := fun i l b h1 h2 => (h.ok i l b h1 h2).mono (fun k _ => by rw [hw]) (fun _ x => x) (cx.refl _) fun k o t s _ => ⟨by rw [hw], id⟩
theorem Ext.oq {w w' : World} {G : Nat → Prop} {ρ : List Loc} (hw : w'.heap = w.heap) (hsame : ld w w' := by first | assumption | exact ⟨rfl, rfl, rfl⟩) : Ext w G ρ w' G ρ :=
 ⟨hsame, cx.refl _, by rw [hw]; exact av _, fun _ h => h, fun _ h => .inl h, fun _ _ _ => by rw [hw], fun _ h => .inl h⟩
theorem m8 {base : Nat} {sl : Option Nat} {σ σ' : ar} {b : Blk} {k : Nat} (h : push base sl σ b = some (k, σ')) :
 (k = σ.length ∧ σ' = σ ++ [b]) ∨ (σ[k]? = some .hole ∧ σ' = σ.set k b) := by
 unfold push at h
 split at h
 ·simp only [Option.some.injEq, Prod.mk.injEq] at h
  exact .inl ⟨h.1.symm, h.2.symm⟩
 ·split at h
  ·rename_i hh
   simp only [Option.some.injEq, Prod.mk.injEq] at h
   obtain ⟨rfl, rfl⟩ := h
   exact .inr ⟨hh, rfl⟩
  ·cases h
theorem ba {α : Type} {l : List α} {i : Nat} {x : α} (h : l[i]? = some x) : i < l.length := by
 rcases ax i l.length with h1 | h1
 ·exact h1
 ·simp [aG h1] at h
theorem c6 {α : Type} {l : Array α} {i : Nat} {x : α} (h : l[i]? = some x) : i < l.size := by
 rcases ax i l.size with h1 | h1
 ·exact h1
 ·simp [Array.getElem?_eq_none h1] at h
theorem St.push {w w' : World} {G : Nat → Prop} {ρ : List Loc} {σ σ' : ar} {base : Nat} {sl : Option Nat} {b : Blk} {k : Nat} (h : St w G ρ σ) (hp : push base sl σ b = some (k, σ'))
 (arr : Array Value) (el : TypeId) (sz : Nat) (hw : w'.heap = w.heap.push (.cells arr el (0, 0)))
 (hb : ∀ ρ', cx ρ ρ' → ej w' G ρ' (.lv w.heap.size 0 arr.size sz) b) (hsame : ld w w' := by first | assumption | exact ⟨rfl, rfl, rfl⟩) :
 ∃ ρ', St w' G ρ' σ' ∧ Ext w G ρ w' G ρ' ∧ ρ'[k]? = some (.lv w.heap.size 0 arr.size sz) := by
 have hold : ∀ j, j < w.heap.size → w'.heap[j]? = w.heap[j]? := by
  intro j hj
  rw [hw, Array.getElem?_push]
  simp [Nat.ne_of_lt hj]
 have hsz : w'.heap.size = w.heap.size + 1 := by rw [hw]; simp
 have hlive : ∀ j, Live ρ j → j < w.heap.size := fun j hj => h.ji hj
 have hGl : ∀ j, G j → w'.heap[j]? = w.heap[j]? := fun j hj => hold j (h.g j hj)
 rcases m8 hp with ⟨rfl, rfl⟩ | ⟨hk, rfl⟩
 ·have hloc : cx ρ (ρ ++ [.lv w.heap.size 0 arr.size sz]) := by
   intro i l hi
   exact .inl (by rw [aB (ba hi)]; exact hi)
  have hnew : (ρ ++ [Loc.lv w.heap.size 0 arr.size sz])[σ.length]? = some (.lv w.heap.size 0 arr.size sz) := by
   rw [← h.len]; simp
  have hcase : ∀ (i : Nat) l, (ρ ++ [Loc.lv w.heap.size 0 arr.size sz])[i]? = some l → ρ[i]? = some l ∨ (i = ρ.length ∧ l = .lv w.heap.size 0 arr.size sz) := by
   intro i l hi
   rcases ax i ρ.length with h1 | h1
   ·rw [aB h1] at hi; exact .inl hi
   ·rw [aC h1] at hi
    have : i - ρ.length = 0 := by
     have := ba hi
     simp at this
     omega
    rw [this] at hi
    simp at hi
    exact .inr ⟨by omega, hi.symm⟩
  refine ⟨ρ ++ [.lv w.heap.size 0 arr.size sz], ?_, ?_, hnew⟩
  ·constructor
   ·intro j hj; rw [hsz]; exact Nat.lt_succ_of_lt (h.g j hj)
   ·simp [h.len]
   ·intro i j k o t s o' t' s' hi hj
    rcases hcase i _ hi with h1 | ⟨h1, h2⟩ <;> rcases hcase j _ hj with h3 | ⟨h3, h4⟩
    ·exact h.inj i j k o t s o' t' s' h1 h3
    ·cases h4
     have := hlive _ ⟨i, o, t, s, h1⟩
     omega
    ·cases h2
     have := hlive _ ⟨j, o', t', s', h3⟩
     omega
    ·omega
   ·intro i l x hi hx
    rcases hcase i _ hi with h1 | ⟨h1, h2⟩
    ·rw [aB (by rw [← h.len]; exact ba h1)] at hx
     refine (h.ok i l x h1 hx).mono hGl (fun _ y => y) hloc ?_
     rintro j o t s rfl
     exact ⟨hold j (hlive j ⟨i, o, t, s, h1⟩), id⟩
    ·subst h1 h2
     rw [aC (by rw [h.len]; exact av _), h.len] at hx
     simp at hx
     subst hx
     exact hb _ hloc
  ·constructor
   ·exact hsame
   ·exact hloc
   ·omega
   ·exact fun _ x => x
   ·exact fun _ x => .inl x
   ·exact fun j hj _ => hold j hj
   ·rintro j ⟨i, o, t, s, hi⟩
    rcases hcase i _ hi with h1 | ⟨_, h2⟩
    ·exact .inl ⟨i, o, t, s, h1⟩
    ·cases h2; exact .inr (av _)
 ·have hklt : k < ρ.length := by rw [h.len]; exact ba hk
  have hρk : ρ[k]? = some .hole := by
   have := h.ok k ρ[k] .hole (by simp [hklt]) hk
   unfold ej at this
   split at this <;> simp_all
  have hloc : cx ρ (ρ.set k (.lv w.heap.size 0 arr.size sz)) := by
   intro i l hi
   by_cases hik : k = i
   ·subst hik; rw [hρk] at hi; cases hi; exact .inr (.inr rfl)
   ·exact .inl (by rw [aE hik]; exact hi)
  have hcase : ∀ (i : Nat) l, (ρ.set k (Loc.lv w.heap.size 0 arr.size sz))[i]? = some l → (i ≠ k ∧ ρ[i]? = some l) ∨ (i = k ∧ l = .lv w.heap.size 0 arr.size sz) := by
   intro i l hi
   by_cases hik : k = i
   ·subst hik; rw [aO hklt] at hi; exact .inr ⟨rfl, by cases hi; rfl⟩
   ·rw [aE hik] at hi; exact .inl ⟨fun x => hik x.symm, hi⟩
  refine ⟨ρ.set k (.lv w.heap.size 0 arr.size sz), ?_, ?_, by rw [aO hklt]⟩
  ·constructor
   ·intro j hj; rw [hsz]; exact Nat.lt_succ_of_lt (h.g j hj)
   ·simp [h.len]
   ·intro i j k o t s o' t' s' hi hj
    rcases hcase i _ hi with ⟨_, h1⟩ | ⟨h1, h2⟩ <;> rcases hcase j _ hj with ⟨_, h3⟩ | ⟨h3, h4⟩
    ·exact h.inj i j k o t s o' t' s' h1 h3
    ·cases h4
     have := hlive _ ⟨i, o, t, s, h1⟩
     omega
    ·cases h2
     have := hlive _ ⟨j, o', t', s', h3⟩
     omega
    ·omega
   ·intro i l x hi hx
    rcases hcase i _ hi with ⟨h0, h1⟩ | ⟨h1, h2⟩
    ·rw [aE (fun y => h0 y.symm)] at hx
     refine (h.ok i l x h1 hx).mono hGl (fun _ y => y) hloc ?_
     rintro j o t s rfl
     exact ⟨hold j (hlive j ⟨i, o, t, s, h1⟩), id⟩
    ·subst h1 h2
     rw [aO (by rw [← h.len]; exact hklt)] at hx
     cases hx
     exact hb _ hloc
  ·constructor
   ·exact hsame
   ·exact hloc
   ·omega
   ·exact fun _ x => x
   ·exact fun _ x => .inl x
   ·exact fun j hj _ => hold j hj
   ·rintro j ⟨i, o, t, s, hi⟩
    rcases hcase i _ hi with ⟨_, h1⟩ | ⟨_, h2⟩
    ·exact .inl ⟨i, o, t, s, h1⟩
    ·cases h2; exact .inr (av _)
theorem St.write {w w' : World} {G : Nat → Prop} {ρ : List Loc} {σ : ar} {i k o t s : Nat} {b : Blk} {x : Obj} (h : St w G ρ σ) (hi : ρ[i]? = some (.lv k o t s)) (hlt : k < w.heap.size)
 (hw : w'.heap = w.heap.setIfInBounds k x) (hb : ej w' G ρ (.lv k o t s) b) (hsame : ld w w' := by first | assumption | exact ⟨rfl, rfl, rfl⟩) : St w' G ρ (σ.set i b) ∧ Ext w G ρ w' G ρ := by
 have hother : ∀ j, j ≠ k → w'.heap[j]? = w.heap[j]? := by
  intro j hj
  rw [hw, Array.getElem?_setIfInBounds_ne (fun y => hj y.symm)]
 have hGl : ∀ j, G j → w'.heap[j]? = w.heap[j]? := fun j hj => hother j (fun y => h.z7 ⟨i, o, t, s, hi⟩ (y ▸ hj))
 have hsz : w'.heap.size = w.heap.size := by rw [hw]; simp
 constructor
 ·constructor
  ·intro j hj; rw [hsz]; exact h.g j hj
  ·simp [h.len]
  ·exact h.inj
  ·intro j l y hj hy
   by_cases hji : i = j
   ·subst hji
    rw [hi] at hj
    cases hj
    rw [aO (by rw [← h.len]; exact ba hi)] at hy
    cases hy
    exact hb
   ·rw [aE hji] at hy
    refine (h.ok j l y hj hy).mono hGl (fun _ z => z) (cx.refl _) ?_
    rintro j' o' t' s' rfl
    refine ⟨hother j' ?_, id⟩
    rintro rfl
    exact hji (h.inj i j j' o t s o' t' s' hi hj)
 ·exact ⟨hsame, cx.refl _, by omega, fun _ y => y, fun _ y => .inl y, fun j hj hn => hother j (fun y => hn (y ▸ ⟨i, o, t, s, hi⟩)), fun _ y => .inl y⟩
theorem St.Ae {w : World} {G : Nat → Prop} {ρ : List Loc} {σ : ar} {i k o t s : Nat} (h : St w G ρ σ) (hi : ρ[i]? = some (.lv k o t s)) :
 St w (fun j => G j ∨ j = k) (ρ.set i .dead) (σ.set i .dead) ∧ Ext w G ρ w (fun j => G j ∨ j = k) (ρ.set i .dead) := by
 have hloc : cx ρ (ρ.set i .dead) := by
  intro j l hj
  by_cases hji : i = j
  ·subst hji; exact .inr (.inl (by rw [aO (ba hi)]))
  ·exact .inl (by rw [aE hji]; exact hj)
 have hcase : ∀ (j : Nat) l, (ρ.set i Loc.dead)[j]? = some l → (j ≠ i ∧ ρ[j]? = some l) ∨ (j = i ∧ l = .dead) := by
  intro j l hj
  by_cases hji : i = j
  ·subst hji; rw [aO (ba hi)] at hj; exact .inr ⟨rfl, by cases hj; rfl⟩
  ·rw [aE hji] at hj; exact .inl ⟨fun x => hji x.symm, hj⟩
 constructor
 ·constructor
  ·rintro j (hj | rfl)
   ·exact h.g j hj
   ·exact h.ji ⟨i, o, t, s, hi⟩
  ·simp [h.len]
  ·intro a b k' o1 t1 s1 o2 t2 s2 h1 h2
   rcases hcase a _ h1 with ⟨_, h1⟩ | ⟨_, h1⟩
   ·rcases hcase b _ h2 with ⟨_, h2⟩ | ⟨_, h2⟩
    ·exact h.inj a b k' o1 t1 s1 o2 t2 s2 h1 h2
    ·cases h2
   ·cases h1
  ·intro j l y hj hy
   rcases hcase j _ hj with ⟨h0, h1⟩ | ⟨h0, h1⟩
   ·rw [aE (fun y => h0 y.symm)] at hy
    refine (h.ok j l y h1 hy).mono (fun _ _ => rfl) (fun _ z => .inl z) hloc ?_
    rintro j' o' t' s' rfl
    refine ⟨rfl, ?_⟩
    rintro hn (hx | rfl)
    ·exact hn hx
    ·exact h0 (h.inj j i j' o' t' s' o t s h1 hi)
   ·subst h0 h1
    rw [aO (by rw [← h.len]; exact ba hi)] at hy
    cases hy
    trivial
 ·constructor
  ·exact ⟨rfl, rfl, rfl⟩
  ·exact hloc
  ·exact av _
  ·exact fun _ x => .inl x
  ·rintro j (hj | rfl)
   ·exact .inl hj
   ·exact .inr (.inr ⟨i, o, t, s, hi⟩)
  ·exact fun _ _ _ => rfl
  ·rintro j ⟨a, o', t', s', ha⟩
   rcases hcase a _ ha with ⟨_, h1⟩ | ⟨_, h1⟩
   ·exact .inl ⟨a, o', t', s', h1⟩
   ·cases h1
theorem St.mL {w : World} {G : Nat → Prop} {ρ : List Loc} {σ : ar} {i : Nat} {l : Loc} (h : St w G ρ σ) (hi : ρ[i]? = some l) :
 (¬ ∃ k o t s, l = .lv k o t s) → St w G (ρ.set i .dead) (σ.set i .dead) ∧ Ext w G ρ w G (ρ.set i .dead) := by
 intro hn
 have hloc : cx ρ (ρ.set i .dead) := by
  intro j l hj
  by_cases hji : i = j
  ·subst hji; exact .inr (.inl (by rw [aO (ba hi)]))
  ·exact .inl (by rw [aE hji]; exact hj)
 have hcase : ∀ (j : Nat) l, (ρ.set i Loc.dead)[j]? = some l → (j ≠ i ∧ ρ[j]? = some l) ∨ (j = i ∧ l = .dead) := by
  intro j l hj
  by_cases hji : i = j
  ·subst hji; rw [aO (ba hi)] at hj; exact .inr ⟨rfl, by cases hj; rfl⟩
  ·rw [aE hji] at hj; exact .inl ⟨fun x => hji x.symm, hj⟩
 constructor
 ·constructor
  ·exact h.g
  ·simp [h.len]
  ·intro a b k' o1 t1 s1 o2 t2 s2 h1 h2
   rcases hcase a _ h1 with ⟨_, h1⟩ | ⟨_, h1⟩
   ·rcases hcase b _ h2 with ⟨_, h2⟩ | ⟨_, h2⟩
    ·exact h.inj a b k' o1 t1 s1 o2 t2 s2 h1 h2
    ·cases h2
   ·cases h1
  ·intro j l y hj hy
   rcases hcase j _ hj with ⟨h0, h1⟩ | ⟨h0, h1⟩
   ·rw [aE (fun y => h0 y.symm)] at hy
    exact (h.ok j l y h1 hy).mono (fun _ _ => rfl) (fun _ z => z) hloc fun _ _ _ _ _ => ⟨rfl, id⟩
   ·subst h0 h1
    rw [aO (by rw [← h.len]; exact ba hi)] at hy
    cases hy
    trivial
 ·constructor
  ·exact ⟨rfl, rfl, rfl⟩
  ·exact hloc
  ·exact av _
  ·exact fun _ x => x
  ·exact fun _ x => .inl x
  ·exact fun _ _ _ => rfl
  ·rintro j ⟨a, o', t', s', ha⟩
   rcases hcase a _ ha with ⟨_, h1⟩ | ⟨_, h1⟩
   ·exact .inl ⟨a, o', t', s', h1⟩
   ·cases h1
def lJ (vs : List Value) : Bool := vs.all (·.oneCell')
def z6 : Value → CV → Bool
 | _, .any => true
 | .int k n, .p (.int k' n') => k == k' && n == n'
 | .bool b, .p (.bool b') => b == b'
 | .slice none 0 0, .nils => true
 | .slice none 0 0, .p (.sl []) => true
 | .func (.func f) x y, .fn f' [] => f == f' && x.isEmpty && y.isEmpty
 | _, _ => false
def oE : List Value → List CV → Bool
 | [], [] => true
 | v :: vs, c :: cs => z6 v c && oE vs cs
 | _, _ => false
def wm : Value → PV → Bool
 | .int k n, .int k' n' => k == k' && n == n'
 | .bool b, .bool b' => b == b'
 | .slice none 0 0, .sl [] => true
 | _, _ => false
def na : List Value → List PV → Bool
 | [], [] => true
 | v :: vs, c :: cs => wm v c && na vs cs
 | _, _ => false
def okC : Value → CV → Bool
 | .agg vs, .agg cs => oE vs.toList cs
 | .agg vs, .p (.agg ps) => na vs.toList ps
 | v, c => z6 v c
def bN : Operand → Opd → Bool
 | .tmp t, .t n => t == n
 | .const v, .c c => okC v c && lJ v.cells.toList
 | .func f, .c (.fn f' []) => f == f'
 | _, _ => false
def gI : List Operand → List Opd → Bool
 | [], [] => true
 | x :: xs, y :: ys => bN x y && gI xs ys
 | _, _ => false
def lu : Option Operand → Option Opd → Bool
 | none, none => true
 | some x, some y => bN x y
 | _, _ => false
def szP (P : Program) (t : TypeId) : Option Nat := (P.info? t).map (·.size)
def DB : TypeDesc → Bool
 | .struct _ | .array _ _ => true
 | _ => false
def ns (P : Program) (t : TypeId) : Option Bool := (P.underlying t).map DB
def jN (P : Program) (fs : Array Field) : List (Nat × Operand) → List (Nat × Nat × Opd) → Bool
 | [], [] => true
 | (i, x) :: l, (off, sz, y) :: r => (match fs[i]? with | some f => f.offset == off && szP P f.type == some sz | none => false) && bN x y && jN P fs l r
 | _, _ => false
def jO : Nat → List (Nat × Operand) → List Opd → Bool
 | _, [], [] => true
 | k, (i, x) :: l, y :: r => i == k && bN x y && jO (k + 1) l r
 | _, _, _ => false
def isSlice (P : Program) (t e : TypeId) : Bool :=
 match P.underlying t with
 | some (.slice e') => e' == e
 | _ => false
def dQ (P : Program) (t : TypeId) : Option TypeId :=
 match P.underlying t with
 | some (.slice e) => some e
 | _ => none
def Cb (P : Program) (t : TypeId) : Bool :=
 match P.underlying t with
 | some (.int _) => true
 | _ => false
def nS (P : Program) (t : TypeId) : Bool :=
 match P.underlying t with
 | some .bool => true
 | _ => false
def uu (P : Program) (t : TypeId) : Bool :=
 match P.underlying t with
 | some .string => true
 | _ => false
def wW (c : Operand) (tab : List Nat) : Bool :=
 match c with
 | .const (.string s) => s.data.toList.map (·.toNat) == tab
 | _ => false
def mK (P : Program) (t : TypeId) : Option IntKind :=
 match P.underlying t with
 | some (.int k) => some k
 | _ => none
def Bj : BinOp → Bool → Bool
 | .eql, ne => !ne
 | .neq, ne => ne
 | _, _ => false
def nJ (P : Program) (f : FuncId) : Bool :=
 match P.funcs[f]? with
 | some fn => fn.name != "runtime.NumGoroutine" && fn.body.isSome
 | none => false
def oF (P : Program) (c : Call) : ROp → Bool
 | .len y => (match c.callee, c.args.toList, c.argTypes.toList with | .builtin .len, [x], [t] => (dQ P t).isSome && bN x y | _, _, _ => false)
 | .append sz bytes s x =>
   (match c.callee, c.args.toList, c.argTypes.toList with
    | .builtin .append, [a, b], [t, u] => t == u && bN a s && bN b x &&
      (match dQ P t with
       | some e => (match P.info? e with | some i => i.size == sz && i.bytes == bytes && sz != 0 && bytes != 0 && (match i.zero with | some zv => zv.cells.size == sz | none => false) | none => false)
       | none => false)
    | _, _, _ => false)
 | .appk bytes s x =>
   (match c.callee, c.args.toList, c.argTypes.toList with
    | .builtin .append, [a, b], [t, u] => t == u && bN a s && bN b x &&
      (match dQ P t with
       | some e => (match P.info? e with | some i => i.size == 1 && i.bytes == bytes && bytes != 0 && (match i.zero with | some zv => zv.cells.size == 1 | none => false) | none => false)
       | none => false)
    | _, _, _ => false)
 | .appz sz bytes z s x =>
   (match c.callee, c.args.toList, c.argTypes.toList with
    | .builtin .append, [a, b], [t, u] => bN a s && bN b x && (match P.underlying u with | some (.int _) => true | _ => false) &&
      (match dQ P t with
       | some e => (match P.info? e with | some i => i.size == sz && i.bytes == bytes && sz != 0 && bytes != 0 && (match i.zero with | some zv => zv.cells.size == sz && na zv.cells.toList z.cells | none => false) | none => false)
       | none => false)
    | _, _, _ => false)
 | .copy sz d s =>
   (match c.callee, c.args.toList, c.argTypes.toList with
    | .builtin .copy, [a, b], [t, _] => bN a d && bN b s && (match dQ P t with | some e => szP P e == some sz | none => false)
    | _, _, _ => false)
 | .mx x y => (match c.callee, c.args.toList with | .builtin .max, [a, b] => bN a x && bN b y | _, _ => false)
 | .mn x y => (match c.callee, c.args.toList with | .builtin .min, [a, b] => bN a x && bN b y | _, _ => false)
 | .call _ f args => (match c.callee with | .value (.func g) => g == f && gI c.args.toList args | _ => false)
 | .madec f args => (match c.callee with | .value (.func g) => g == f && gI c.args.toList args | _ => false)
 | .callv _ x args => (match c.callee with | .value y => bN y x && gI c.args.toList args | _ => false)
 | _ => false
def oC (P : Program) : Op → ROp → Bool
 | .move x, .mv y => bN x y
 | .assign x, .mv y => bN x y
 | .pick c a b, .pick c' a' b' => bN c c' && bN a a' && bN b b'
 | .alloc t, .alloc zs => match (P.info? t).bind (·.zero) with | some z => oE z.cells.toList zs && lJ z.cells.toList | none => false
 | .box _ x, .box y => bN x y
 | .build t ps, .build zs qs =>
   (match (P.info? t).bind (·.zero) with | some z => oE z.cells.toList zs && lJ z.cells.toList | none => false) &&
   (match P.underlying t with | some (.struct fs) => fs.all (fun f => (szP P f.type).isSome) && jN P fs ps.toList qs | _ => false)
 | .buildSlice t n ps, .bslice sz xs =>
   (match dQ P t with | some e => szP P e == some sz && n == xs.length && n * sz ≤ 16777216 && jO 0 ps.toList xs && (match (P.info? e).bind (·.zero) with | some z => z.cells.size == sz | none => false) | none => false)
 | .buildSlice t n ps, .bslk xs =>
   (match dQ P t with | some e => (match P.info? e with | some i => i.size == 1 && n == xs.length && n * 1 ≤ 16777216 && jO 0 ps.toList xs && (match i.zero with | some z => z.cells.size == 1 | none => false) | none => false) | none => false)
 | .load t a, .load agg sz b => ns P t == some agg && szP P t == some sz && bN a b
 | .store t a x, .store sz b y => szP P t == some sz && bN a b && bN x y
 | .nilCheck x, .nilc y => bN x y
 | .binOp op t x y _, .bin op' x' y' => op == op' && bN x x' && bN y y' && (match op with | .eql | .neq => Cb P t | _ => true)
 | .binOp op t x y _, .beq ne x' y' => bN x x' && bN y y' && nS P t && Bj op ne
 | .unOp op _ x, .un op' y => op == op' && bN x y
 | .convert s d x, .conv k y => (P.underlying s).isSome && mK P d == some k && bN x y
 | .makeFunc (.func f) fi cap, .mkfn g cs => f == g && fi.size == 0 && gI cap.toList cs
 | .makeSlice t l c, .mks deep sz bytes z l' c' =>
   bN l l' && bN c c' &&
   (match dQ P t with
    | some e => (match P.info? e with
     | some i => i.size == sz && i.bytes == bytes && (match i.zero with | some zv => (if deep then na zv.cells.toList [.sl []] else na zv.cells.toList z.cells) | none => false)
     | none => false)
    | none => false)
 | .slice t x lo hi mx, .slice sz x' lo' hi' mx' => (match dQ P t with | some e => szP P e == some sz | none => false) && bN x x' && lu lo lo' && lu hi hi' && lu mx mx' && (mx.isNone || hi.isSome)
 | .fieldAddr t x f, .fieldA off y =>
   (match P.underlying t with | some (.struct fs) => (match fs[f]? with | some fd => fd.offset == off && (match szP P fd.type with | some n => n != 0 | none => false) | none => false) | _ => false) && bN x y
 | .field t x f, .field agg off sz y =>
   (match P.underlying t with | some (.struct fs) => (match fs[f]? with | some fd => fd.offset == off && szP P fd.type == some sz && ns P fd.type == some agg | none => false) | _ => false) && bN x y
 | .indexAddr t x i, .indexA sz x' i' => (match dQ P t with | some e => szP P e == some sz | none => false) && bN x x' && bN i i'
 | .extract x i, .extract y j => i == j && bN x y
 | .index t c x, .idx tab y => bN x y && uu P t && wW c tab
 | .call c, r => oF P c r
 | _, _ => false
def vu : Op → Bool
 | .store .. => true
 | _ => false
def sE (P : Program) (ops : Array Oper) (n : Nat) (o : Oper) (l : LOp) : Bool :=
 oC P o.op l.op && (match o.dst, l.d with | none, none => true | some a, some b => a == b && a < n && !vu o.op | _, _ => false) &&
 (match o.guard, l.g with | none, none => true | some (j, w), some (t, w') => w == w' && ((ops[j]?).bind (·.dst)) == some t | _, _ => false)
def okL (P : Program) (ops : Array Oper) (n : Nat) : List Oper → List LOp → Bool
 | [], [] => true
 | o :: os, l :: ls => sE P ops n o l && okL P ops n os ls
 | _, _ => false
section words
variable {w : World} {G : Nat → Prop} {ρ : List Loc}
theorem sF {v : Value} {c : CV} (h : z6 v c = true) : bT w G ρ c v := by
 unfold z6 at h
 split at h
 ·exact .any _
 ·simp at h; obtain ⟨rfl, rfl⟩ := h; exact .p _ _ (.int _ _)
 ·simp at h; subst h; exact .p _ _ (.bool _)
 ·exact .nils
 ·exact .p _ _ (.nil _ _)
 ·simp at h; obtain ⟨⟨rfl, rfl⟩, rfl⟩ := h; exact .fn _ [] [] rfl (by simp)
 ·cases h
theorem xW {v : Value} {c : PV} (h : wm v c = true) : dG w G c v := by
 unfold wm at h
 split at h
 ·simp at h; obtain ⟨rfl, rfl⟩ := h; exact .int _ _
 ·simp at h; subst h; exact .bool _
 ·exact .nil _ _
 ·cases h
theorem xX {v : Value} {c : PV} (h : wm v c = true) : v.oneCell' = true := by
 unfold wm at h
 split at h <;> first | rfl | cases h
theorem ko : ∀ {vs : List Value} {cs : List PV}, na vs cs = true → cs.length = vs.length ∧ (∀ (k : Nat) c v, cs[k]? = some c → vs[k]? = some v → dG w G c v) ∧ ∀ v ∈ vs, v.oneCell' = true
 | [], [], _ => ⟨rfl, by simp, by simp⟩
 | v :: vs, c :: cs, h => by
   simp only [na, aA] at h
   obtain ⟨h1, h2, h3⟩ := ko h.2
   refine ⟨by simp [h1], ?_, ?_⟩
   ·intro k c' v' hc hv
    cases k with
    | zero => simp at hc hv; subst hc hv; exact xW h.1
    | succ k => exact h2 k c' v' (by simpa using hc) (by simpa using hv)
   ·intro u hu
    rcases List.mem_cons.1 hu with rfl | hu
    ·exact xX h.1
    ·exact h3 u hu
 | [], _ :: _, h => by simp [na] at h
 | _ :: _, [], h => by simp [na] at h
theorem oD : ∀ {vs : List Value} {cs : List CV}, oE vs cs = true → cs.length = vs.length ∧ (∀ (k : Nat) c v, cs[k]? = some c → vs[k]? = some v → bT w G ρ c v)
 | [], [], _ => ⟨rfl, by simp⟩
 | v :: vs, c :: cs, h => by
   simp only [oE, aA] at h
   obtain ⟨h1, h2⟩ := oD h.2
   refine ⟨by simp [h1], ?_⟩
   intro k c' v' hc hv
   cases k with
   | zero => simp at hc hv; subst hc hv; exact sF h.1
   | succ k => exact h2 k c' v' (by simpa using hc) (by simpa using hv)
 | [], _ :: _, h => by simp [oE] at h
 | _ :: _, [], h => by simp [oE] at h
theorem z5 {v : Value} {c : CV} (h : okC v c = true) (hv : lJ v.cells.toList = true) : bT w G ρ c v := by
 unfold okC at h
 split at h
 ·rename_i vs cs
  obtain ⟨h1, h2⟩ := oD (w := w) (G := G) (ρ := ρ) h
  exact .agg cs vs.toList h1 h2 fun v hv' => aU.1 hv v hv'
 ·rename_i vs cs
  obtain ⟨h1, h2, h3⟩ := ko (w := w) (G := G) h
  exact .p _ _ (.agg cs vs.toList h1 h2 h3)
 ·exact sF h
theorem dG.cells {x : PV} {v : Value} (h : dG w G x v) : x.cells.length = v.cells.size ∧ (∀ (k : Nat) c u, x.cells[k]? = some c → v.cells[k]? = some u → dG w G c u) ∧ ∀ u ∈ v.cells, u.oneCell' = true := by
 have one : ∀ {x : PV} {v : Value}, dG w G x v → x.cells = [x] → v.cells = #[v] → v.oneCell' = true → x.cells.length = v.cells.size ∧ (∀ (k : Nat) c u, x.cells[k]? = some c → v.cells[k]? = some u → dG w G c u) ∧ ∀ u ∈ v.cells, u.oneCell' = true := by
  intro x v h h1 h2 h3
  rw [h1, h2]
  refine ⟨rfl, ?_, ?_⟩
  ·intro k c u hc hu
   cases k with
   | zero => simp at hc hu; subst hc hu; exact h
   | succ k => simp at hc
  ·intro u hu; simp at hu; subst hu; exact h3
 cases h with
 | int k n => exact one (.int k n) rfl rfl rfl
 | bool b => exact one (.bool b) rfl rfl rfl
 | str s => exact one (.str s) rfl rfl rfl
 | nil a cap => exact one (.nil a cap) rfl rfl rfl
 | sl es blk off arr el fr cap sz hg hb hc hs he hk h1 => exact one (.sl es blk off arr el fr cap sz hg hb hc hs he hk h1) rfl rfl rfl
 | agg cs vs hl hk h1 => exact ⟨by simpa [PV.cells, Value.cells] using hl, by simpa [PV.cells, Value.cells] using hk, by simpa [Value.cells] using h1⟩
theorem bT.cells {c : CV} {v : Value} {cs : List CV} (h : bT w G ρ c v) (hc : c.cells = some cs) :
 cs.length = v.cells.size ∧ (∀ (k : Nat) x u, cs[k]? = some x → v.cells[k]? = some u → bT w G ρ x u) ∧ ∀ u ∈ v.cells, u.oneCell' = true := by
 have one : ∀ {x : CV} {v : Value}, bT w G ρ x v → x.cells = some [x] → v.cells = #[v] → v.oneCell' = true → x.cells = some cs → cs.length = v.cells.size ∧ (∀ (k : Nat) c u, cs[k]? = some c → v.cells[k]? = some u → bT w G ρ c u) ∧ ∀ u ∈ v.cells, u.oneCell' = true := by
  intro x v h h1 h2 h3 h4
  rw [h1] at h4
  cases h4
  rw [h2]
  refine ⟨rfl, ?_, ?_⟩
  ·intro k c u hc hu
   cases k with
   | zero => simp at hc hu; subst hc hu; exact h
   | succ k => simp at hc
  ·intro u hu; simp at hu; subst hu; exact h3
 cases h with
 | any v => cases hc
 | tup => cases hc
 | rp => cases hc
 | nils => exact one .nils rfl rfl rfl hc
 | own b off n a cap h1 h2 => exact one (.own b off n a cap h1 h2) rfl rfl rfl hc
 | ptr b i off a h1 => exact one (.ptr b i off a h1) rfl rfl rfl hc
 | fn f cap vs hl hk => exact one (.fn f cap vs hl hk) rfl rfl rfl hc
 | agg cs' vs hl hk h1 =>
   cases hc
   exact ⟨by simpa [Value.cells] using hl, by simpa [Value.cells] using hk, by simpa [Value.cells] using h1⟩
 | p x v h =>
   cases hc
   obtain ⟨h1, h2, h3⟩ := h.cells
   refine ⟨by simpa using h1, ?_, h3⟩
   intro k c u hc hu
   simp only [cd, au] at hc
   obtain ⟨y, hy, rfl⟩ := hc
   exact .p _ _ (h2 k y u hy hu)
theorem qg : ∀ {cs : List CV} {ps : List PV}, fe cs = some ps → cs = ps.map .p
 | [], ps, h => by simp [fe] at h; subst h; rfl
 | .p v :: l, ps, h => by
   simp only [fe, au] at h
   obtain ⟨a, ha, rfl⟩ := h
   rw [qg ha]; rfl
 | .any :: _, _, h => by simp [fe] at h
 | .nils :: _, _, h => by simp [fe] at h
 | .own .. :: _, _, h => by simp [fe] at h
 | .ptr .. :: _, _, h => by simp [fe] at h
 | .rp .. :: _, _, h => by simp [fe] at h
 | .agg .. :: _, _, h => by simp [fe] at h
 | .tup .. :: _, _, h => by simp [fe] at h
 | .fn .. :: _, _, h => by simp [fe] at h
theorem gX {x : PV} {v : Value} (h : bT w G ρ (.p x) v) : dG w G x v := by cases h; assumption
theorem nc {cs : List CV} {vs : List Value} (hl : cs.length = vs.length) (hk : ∀ (k : Nat) c v, cs[k]? = some c → vs[k]? = some v → bT w G ρ c v) (h1 : ∀ v ∈ vs, v.oneCell' = true) :
 bT w G ρ (iS cs) (.agg vs.toArray) := by
 unfold iS
 split
 ·rename_i ps hps
  have := qg hps
  subst this
  refine .p _ _ (.agg ps vs (by simpa using hl) ?_ h1)
  intro k c v hc hv
  exact gX (hk k (.p c) v (by simp [hc]) hv)
 ·exact .agg cs vs hl hk h1
end words
section ops
variable {P : Program} {w : World} {G : Nat → Prop} {ρ : List Loc} {σ : ar} {e : Env} {a : Act}
theorem bk {x : Operand} {y : Opd} (h : bN x y = true) (he : cX w G ρ e a.tmps) : bT w G ρ (vl e y) (a.eval x) := by
 unfold bN at h
 split at h
 ·simp at h; subst h; exact he _
 ·simp only [aA] at h; exact z5 h.1 h.2
 ·simp at h; subst h; exact .fn _ [] [] rfl (by simp)
 ·cases h
theorem nX {blk o : Nat} {arr : Array Value} {el : TypeId} {fr : Nat × Nat} (hb : w.heap[blk]? = some (.cells arr el fr)) : w.cell? ⟨blk, o, none⟩ = arr[o]? := by
 simp [World.cell?, hb]
theorem iN (blk o n : Nat) : (⟨blk, o, none⟩ : Addr).add n = ⟨blk, o + n, none⟩ := by
 unfold Addr.add; split <;> simp_all
theorem kT {t : TypeId} {b : Bool} (h : ns P t = some b) : (isAgg t).run P w = .ok b w := by
 unfold ns at h
 cases hu : P.underlying t with
 | none => rw [hu] at h; cases h
 | some d =>
   rw [hu] at h
   simp only [aH, Option.some.injEq] at h
   unfold isAgg
   simp only [Sem.run_bind, run_underlying hu, Result.andThen_ok]
   subst h
   cases d <;> rfl
theorem run_sizeOf {t : TypeId} {n : Nat} (h : szP P t = some n) : (sizeOf t).run P w = .ok n w := by
 unfold szP at h
 cases hi : P.info? t with
 | none => rw [hi] at h; cases h
 | some i =>
   rw [hi] at h
   simp only [aH, Option.some.injEq] at h
   simp [sizeOf, typeInfo, hi, h]
theorem j0 {t : TypeId} {sz blk o : Nat} {arr : Array Value} {el : TypeId} {fr : Nat × Nat} (ha : ns P t = some true) (hs : szP P t = some sz) (hb : w.heap[blk]? = some (.cells arr el fr)) (hf : o + sz ≤ arr.size) :
 (loadVar t ⟨blk, o, none⟩).run P w = .ok (.agg ((arr.toList.drop o).take sz).toArray) w := by
 have hl := run_loadCells_list (P := P) w ⟨blk, o, none⟩ ((arr.toList.drop o).take sz) (by
  intro j v hj
  rw [iN, nX hb]
  rw [aN] at hj
  split at hj
  ·simpa using hj
  ·cases hj)
 rw [show ((arr.toList.drop o).take sz).length = sz by simp; omega] at hl
 simp [loadVar, kT ha, run_sizeOf hs, hl]
theorem jZ {t : TypeId} {blk o : Nat} {arr : Array Value} {el : TypeId} {fr : Nat × Nat} {v : Value} (ha : ns P t = some false) (hb : w.heap[blk]? = some (.cells arr el fr)) (hv : arr[o]? = some v) :
 (loadVar t ⟨blk, o, none⟩).run P w = .ok v w := by
 simp [loadVar, kT ha, nX hb, hv]
theorem sP {t : TypeId} {agg : Bool} {sz blk B off : Nat} {arr : Array Value} {el : TypeId} {fr : Nat × Nat} {x y : PV} (ha : ns P t = some agg) (hs : szP P t = some sz) (hb : w.heap[blk]? = some (.cells arr el fr))
 (hfit : B + x.cells.length ≤ arr.size) (hk : ∀ (k : Nat) c u, x.cells[k]? = some c → arr[B + k]? = some u → dG w G c u ∧ u.oneCell' = true) (h : fp agg sz x off = some y) :
 ∃ v, (loadVar t ⟨blk, B + off, none⟩).run P w = .ok v w ∧ dG w G y v := by
 unfold fp at h
 split at h
 ·split at h
  ·rename_i cs
   split at h
   ·rename_i hle
    cases h
    simp only [PV.cells] at hfit hk
    refine ⟨_, j0 ha hs hb (by omega), .agg _ _ (by simp; omega) ?_ ?_⟩
    ·intro k c v hc hv
     rw [aN] at hc hv
     by_cases hks : k < sz
     ·rw [if_pos hks, bF] at hc hv
      exact (hk (off + k) c v hc (by simpa [dh] using hv)).1
     ·rw [if_neg hks] at hc; cases hc
    ·intro v hv
     obtain ⟨k, hk1⟩ := List.getElem?_of_mem hv
     rw [aN] at hk1
     split at hk1
     ·rename_i hlt
      rw [bF] at hk1
      refine (hk (off + k) cs[off + k] v (by simp) (by simpa [dh] using hk1)).2
     ·cases hk1
   ·cases h
  ·cases h
 ·rename_i b
  have hlt : off < x.cells.length := ba h
  refine ⟨arr[B + off]'(by omega), jZ ha hb (by simp), ?_⟩
  exact (hk off y _ h (by simp)).1
theorem pR {t : TypeId} {agg : Bool} {sz blk B off : Nat} {arr : Array Value} {el : TypeId} {fr : Nat × Nat} {cs : List CV} {y : CV} (ha : ns P t = some agg) (hs : szP P t = some sz) (hb : w.heap[blk]? = some (.cells arr el fr))
 (hfit : B + cs.length ≤ arr.size) (hk : ∀ (k : Nat) c u, cs[k]? = some c → arr[B + k]? = some u → bT w G ρ c u ∧ u.oneCell' = true) (h : gR agg sz cs off = some y) :
 ∃ v, (loadVar t ⟨blk, B + off, none⟩).run P w = .ok v w ∧ bT w G ρ y v := by
 unfold gR at h
 split at h
 ·split at h
  ·rename_i hle
   cases h
   refine ⟨_, j0 ha hs hb (by omega), nc (by simp; omega) ?_ ?_⟩
   ·intro k c v hc hv
    rw [aN] at hc hv
    by_cases hks : k < sz
    ·rw [if_pos hks, bF] at hc hv
     exact (hk (off + k) c v hc (by simpa [dh] using hv)).1
    ·rw [if_neg hks] at hc; cases hc
   ·intro v hv
    obtain ⟨k, hk1⟩ := List.getElem?_of_mem hv
    rw [aN] at hk1
    split at hk1
    ·rename_i hlt
     rw [bF] at hk1
     refine (hk (off + k) cs[off + k] v (by simp) (by simpa [dh] using hk1)).2
    ·cases hk1
  ·cases h
 ·have hlt : off < cs.length := ba h
  refine ⟨arr[B + off]'(by omega), jZ ha hb (by simp), ?_⟩
  exact (hk off y _ h (by simp)).1
end ops
def b9 (P : Program) (o : Oper) (a : Act) (w : World) (G : Nat → Prop) (ρ : List Loc) (c : CV) (σ' : ar) : Prop :=
 ∃ nx v w' G' ρ', (execOp a.eval o).run P w = .ok nx w' ∧ (nx = .value v ∨ (nx = .skip ∧ v = undef)) ∧ St w' G' ρ' σ' ∧ Ext w G ρ w' G' ρ' ∧ bT w' G' ρ' c v
section
variable {P : Program} {o : Oper} {w : World} {G : Nat → Prop} {ρ : List Loc} {σ : ar} {e : Env} {a : Act} {base : Nat} {sl : Option Nat}
theorem b9.quiet {c : CV} {v : Value} (hs : St w G ρ σ) (hr : (execOp a.eval o).run P w = .ok (.value v) w) (hc : bT w G ρ c v) : b9 P o a w G ρ c σ :=
 ⟨.value v, v, w, G, ρ, hr, .inl rfl, hs, Ext.refl, hc⟩
theorem jg {c : CV} {n : Int} {v : Value} (hn : c.num = some n) (h : bT w G ρ c v) : ∃ k, v = .int k n ∧ c = .p (.int k n) := by
 unfold CV.num at hn
 split at hn
 ·cases hn; cases h with | p x v h => cases h; exact ⟨_, rfl, rfl⟩
 ·cases hn
theorem iJ {b : Bool} {v : Value} (h : bT w G ρ (.p (.bool b)) v) : v = .bool b := by cases h with | p x v h => cases h; rfl
theorem dC {t : TypeId} {q : TypeId → Bool} (h : (match dQ P t with | some e => q e | none => false) = true) : ∃ e, P.underlying t = some (.slice e) ∧ q e = true := by
 cases hs : dQ P t with
 | none => rw [hs] at h; cases h
 | some e =>
   rw [hs] at h
   unfold dQ at hs
   split at hs
   ·rename_i hu; cases hs; exact ⟨_, hu, h⟩
   ·cases hs
theorem sS {t : TypeId} (h : nS P t = true) : P.underlying t = some .bool := by
 unfold nS at h; split at h
 ·assumption
 ·cases h
theorem qW {t : TypeId} {k : IntKind} (h : (mK P t == some k) = true) : P.underlying t = some (.int k) := by
 unfold mK at h; split at h
 ·rename_i hu; simp at h; subst h; exact hu
 ·simp at h
theorem zK {op : BinOp} {t : TypeId} {x y : PV} {z : PV} {u v : Value} (h : fw op x y = some z) (hx : dG w G x u) (hy : dG w G y v) : ∃ r, (binOp op t u v).run P w = .ok r w ∧ dG w G z r := by
 unfold fw at h
 split at h <;> first
  | (cases h; done)
  | (cases hx; cases hy
     first
      | (split at h
         ·cases h
         ·rename_i hn; cases h; exact ⟨_, by simp only [binOp, Op.shift, if_neg hn]; rfl, .int _ _⟩)
      | (split at h
         ·rename_i hk
          subst hk
          first
           | (cases h; exact ⟨_, by simp [binOp, Op.intArith]; rfl, .int _ _⟩)
           | (cases h; exact ⟨_, by simp [binOp, Op.intBits]; rfl, .int _ _⟩)
           | (cases h; exact ⟨_, by simp only [binOp, Op.intCmp, ne_eq, not_true_eq_false, if_false]; rfl, .bool _⟩)
           | (split at h
              ·cases h
              ·rename_i hz; cases h; exact ⟨_, by simp only [binOp, Op.intDiv, ne_eq, not_true_eq_false, if_false, if_neg hz]; rfl, .int _ _⟩)
         ·cases h))
theorem rZ {op : BinOp} {t : TypeId} {x y : Operand} {k k' : IntKind} {m n : Int} : (eqGuard op t x y (.int k m) (.int k' n)).run P w = .ok () w := by
 unfold eqGuard; cases op <;> rfl
theorem qD {op : BinOp} {t : TypeId} {x y : Operand} {m n : Bool} : (eqGuard op t x y (.bool m) (.bool n)).run P w = .ok () w := by
 unfold eqGuard; cases op <;> rfl
theorem wD {op : BinOp} {x y z : PV} (h : fw op x y = some z) : (∃ k n, x = .int k n) ∧ ∃ k n, y = .int k n := by
 unfold fw at h
 split at h <;> first | cases h; done | exact ⟨⟨_, _, rfl⟩, _, _, rfl⟩
theorem xb {x : Operand} {y : Opd} (hs : St w G ρ σ) (he : cX w G ρ e a.tmps) (ho : o.op = .move x ∨ o.op = .assign x) (hx : bN x y = true) : b9 P o a w G ρ (vl e y) σ := by
 refine b9.quiet (v := a.eval x) hs ?_ (bk hx he)
 rcases ho with ho | ho <;> simp [execOp, ho]
theorem w9 {c x y : Operand} {c' x' y' : Opd} {b : Bool} (hs : St w G ρ σ) (he : cX w G ρ e a.tmps) (ho : o.op = .pick c x y) (hc : bN c c' = true) (hx : bN x x' = true) (hy : bN y y' = true)
 (hb : vl e c' = .p (.bool b)) : b9 P o a w G ρ (if b = true then vl e x' else vl e y') σ := by
 have h1 := bk hc he
 rw [hb] at h1
 have h2 := iJ h1
 refine b9.quiet (v := if b = true then a.eval x else a.eval y) hs ?_ ?_
 ·simp [execOp, ho, h2, asBool]
 ·cases b
  ·exact bk hy he
  ·exact bk hx he
theorem qJ {f : Nat} {cap : List CV} {v : Value} (h : bT w G ρ (.fn f cap) v) : ∃ vs : List Value, v = .func (.func f) #[] vs.toArray ∧ cap.length = vs.length ∧ ∀ (k : Nat) c v, cap[k]? = some c → vs[k]? = some v → bT w G ρ c v := by
 cases h with | fn f cap vs hl hk => exact ⟨vs, rfl, hl, hk⟩
theorem kU {b i off : Nat} {v : Value} (h : bT w G ρ (.ptr b i off) v) : ∃ ad, v = .pointer (some ad) ∧ ie ρ b i off ad := by
 cases h with | ptr b i off ad h => exact ⟨ad, rfl, h⟩
theorem uc {x : PV} {off : Nat} {v : Value} (h : bT w G ρ (.rp x off) v) : ∃ (blk o : Nat) (arr : Array Value) (el : TypeId) (fr : Nat × Nat), v = .pointer (some ⟨blk, o + off, none⟩) ∧ G blk ∧ w.heap[blk]? = some (.cells arr el fr) ∧ o + x.cells.length ≤ arr.size ∧
 ∀ (k : Nat) c u, x.cells[k]? = some c → arr[o + k]? = some u → dG w G c u ∧ u.oneCell' = true := by
 cases h with | rp x off blk o arr el fr hg hb hs hk => exact ⟨blk, o, arr, el, fr, rfl, hg, hb, hs, hk⟩
theorem fV {b off n : Nat} {v : Value} (h : bT w G ρ (.own b off n) v) : ∃ (ad : Option Addr) (cap : Nat), v = .slice ad n cap ∧ n ≤ cap ∧ dJ ρ b off ad cap := by
 cases h with | own b off n ad cap hc h => exact ⟨ad, cap, rfl, hc, h⟩
theorem gw {v : Value} (h : bT w G ρ .nils v) : v = .slice none 0 0 := by cases h; rfl
theorem qH {cs : List CV} {v : Value} (h : bT w G ρ (.tup cs) v) : ∃ vs : List Value, v = .tuple vs.toArray ∧ cs.length = vs.length ∧ ∀ (k : Nat) c v, cs[k]? = some c → vs[k]? = some v → bT w G ρ c v := by
 cases h with | tup cs vs hl hk => exact ⟨vs, rfl, hl, hk⟩
theorem nO {cs : List CV} {v : Value} (h : bT w G ρ (.agg cs) v) : ∃ vs : List Value, v = .agg vs.toArray ∧ cs.length = vs.length ∧ (∀ (k : Nat) c v, cs[k]? = some c → vs[k]? = some v → bT w G ρ c v) ∧ ∀ v ∈ vs, v.oneCell' = true := by
 cases h with | agg cs vs hl hk h1 => exact ⟨vs, rfl, hl, hk, h1⟩
theorem xE {cs : List PV} {v : Value} (h : dG w G (.agg cs) v) : ∃ vs : List Value, v = .agg vs.toArray ∧ cs.length = vs.length ∧ (∀ (k : Nat) c v, cs[k]? = some c → vs[k]? = some v → dG w G c v) ∧ ∀ v ∈ vs, v.oneCell' = true := by
 cases h with | agg cs vs hl hk h1 => exact ⟨vs, rfl, hl, hk, h1⟩
theorem qI {es : List PV} {v : Value} (h : dG w G (.sl es) v) : ∃ (ad : Option Addr) (cap : Nat), v = .slice ad es.length cap ∧ es.length ≤ cap ∧
 (es = [] ∨ ∃ (blk off : Nat) (arr : Array Value) (el : TypeId) (fr : Nat × Nat) (sz : Nat), ad = some ⟨blk, off, none⟩ ∧ G blk ∧ w.heap[blk]? = some (.cells arr el fr) ∧ off + es.length * sz ≤ arr.size ∧
   (∀ (i : Nat) e, es[i]? = some e → e.cells.length = sz) ∧ (∀ (i : Nat) e (k : Nat) c u, es[i]? = some e → e.cells[k]? = some c → arr[off + i * sz + k]? = some u → dG w G c u ∧ u.oneCell' = true)) := by
 cases h with
 | nil ad cap => exact ⟨ad, cap, rfl, aD _, .inl rfl⟩
 | sl es blk off arr el fr cap sz hg hb hc hs he hk h1 =>
   exact ⟨_, cap, rfl, hc, .inr ⟨blk, off, arr, el, fr, sz, rfl, hg, hb, hs, he, fun i e k c u a b d => ⟨hk i e k c u a b d, h1 i e k u a (by rw [← he i e a]; exact ba b) d⟩⟩⟩
theorem xa {x : Operand} {y : Opd} {r : CV × ar} (hs : St w G ρ σ) (he : cX w G ρ e a.tmps) (ho : o.op = .nilCheck x) (hx : bN x y = true) (h : ev base sl (.nilc y) e σ = some r) : b9 P o a w G ρ r.1 r.2 := by
 have h1 := bk hx he
 generalize hu : a.eval x = u at h1
 simp only [ev] at h
 split at h
 ·rename_i f cap hv
  cases h
  rw [hv] at h1
  obtain ⟨vs, rfl, _⟩ := qJ h1
  exact b9.quiet hs (by simp [execOp, ho, hu]) h1
 ·rename_i hv
  cases h
  rw [hv] at h1
  obtain ⟨ad, rfl, _⟩ := kU h1
  exact b9.quiet hs (by simp [execOp, ho, hu]) h1
 ·rename_i hv
  cases h
  rw [hv] at h1
  obtain ⟨blk, o', arr, el, fr, rfl, _⟩ := uc h1
  exact b9.quiet hs (by simp [execOp, ho, hu]) h1
 ·cases h
theorem zH {op : BinOp} {t t' : TypeId} {x y : Operand} {x' y' : Opd} {r : CV × ar} (hs : St w G ρ σ) (he : cX w G ρ e a.tmps) (ho : o.op = .binOp op t x y t') (hx : bN x x' = true) (hy : bN y y' = true)
 (h : ev base sl (.bin op x' y') e σ = some r) : b9 P o a w G ρ r.1 r.2 := by
 have h1 := bk hx he
 have h2 := bk hy he
 generalize hu : a.eval x = u at h1
 generalize hv : a.eval y = v at h2
 simp only [ev] at h
 split at h
 ·rename_i p q hp hq
  simp only [au] at h
  obtain ⟨z, hz, rfl⟩ := h
  rw [hp] at h1
  rw [hq] at h2
  obtain ⟨⟨k, n, rfl⟩, k', m, rfl⟩ := wD hz
  have r1 := gX h1
  have r2 := gX h2
  obtain ⟨r, hr, hr2⟩ := zK (P := P) (w := w) (t := t) hz r1 r2
  cases r1
  cases r2
  refine b9.quiet hs ?_ (.p _ _ hr2)
  simp only [execOp, ho, hu, hv, Sem.run_bind, rZ, Result.andThen_ok, hr, Sem.run_pure]
 ·cases h
theorem ub {t : TypeId} {p q : Bool} (hu : P.underlying t = some .bool) : (Op.equal t (.bool p) (.bool q)).run P w = .ok (p == q) w := by
 rw [Op.equal, show Op.maxDepth = 9999 + 1 from rfl, Op.equalIn, Sem.run_bind, run_underlying hu, Result.andThen_ok]
 rfl
theorem zI {op : BinOp} {ne : Bool} {t t' : TypeId} {x y : Operand} {x' y' : Opd} {r : CV × ar} (hs : St w G ρ σ) (he : cX w G ρ e a.tmps) (ho : o.op = .binOp op t x y t') (hx : bN x x' = true) (hy : bN y y' = true)
 (ht : nS P t = true) (hop : Bj op ne = true) (h : ev base sl (.beq ne x' y') e σ = some r) : b9 P o a w G ρ r.1 r.2 := by
 have h1 := bk hx he
 have h2 := bk hy he
 generalize hu : a.eval x = u at h1
 generalize hv : a.eval y = v at h2
 simp only [ev] at h
 split at h
 ·rename_i p q hp hq
  cases h
  rw [hp] at h1
  rw [hq] at h2
  have r1 := iJ h1
  have r2 := iJ h2
  subst r1 r2
  have hu' := sS ht
  refine b9.quiet (v := .bool (if ne = true then !(p == q) else p == q)) hs ?_ (.p _ _ (.bool _))
  simp only [execOp, ho, hu, hv, Sem.run_bind, qD, Result.andThen_ok, Sem.run_pure]
  cases op <;> cases ne <;> first
   | (cases hop; done)
   | (unfold binOp; simp only [Sem.run_bind, ub hu', Result.andThen_ok, Sem.run_pure]; rfl)
 ·cases h
theorem BI {op : UnOp} {t : TypeId} {x : Operand} {x' : Opd} {r : CV × ar} (hs : St w G ρ σ) (he : cX w G ρ e a.tmps) (ho : o.op = .unOp op t x) (hx : bN x x' = true)
 (h : ev base sl (.un op x') e σ = some r) : b9 P o a w G ρ r.1 r.2 := by
 have h1 := bk hx he
 generalize hu : a.eval x = u at h1
 simp only [ev] at h
 split at h
 ·rename_i p hp
  simp only [au] at h
  obtain ⟨z, hz, rfl⟩ := h
  rw [hp] at h1
  have r1 := gX h1
  unfold unV at hz
  split at hz
  ·cases hz
   cases r1
   exact b9.quiet hs (by simp [execOp, ho, hu, Op.unary, Op.intArith]) (.p _ _ (.int _ _))
  ·cases hz
   cases r1
   exact b9.quiet hs (by simp [execOp, ho, hu, Op.unary]) (.p _ _ (.bool _))
  ·cases hz
 ·cases h
theorem xi {s d : TypeId} {k : IntKind} {x : Operand} {x' : Opd} {r : CV × ar} (hs : St w G ρ σ) (he : cX w G ρ e a.tmps) (ho : o.op = .convert s d x) (hx : bN x x' = true)
 (hsu : (P.underlying s).isSome = true) (hd : (mK P d == some k) = true) (h : ev base sl (.conv k x') e σ = some r) : b9 P o a w G ρ r.1 r.2 := by
 have h1 := bk hx he
 generalize hu : a.eval x = u at h1
 simp only [ev] at h
 split at h
 ·rename_i n hn
  cases h
  obtain ⟨k', rfl, h2⟩ := jg hn h1
  obtain ⟨ds, hds⟩ := cw.1 hsu
  exact b9.quiet hs (by simp [execOp, ho, hu, convert, run_underlying hds, run_underlying (qW hd), Conv.intToInt]) (.p _ _ (.int _ _))
 ·cases h
end
end Go.Proofs.YtdieenbfdeaffabGreat.Vpi
namespace Go.Proofs.YtdieenbfdeaffabGreat.Vpi
open Go
set_option maxRecDepth 4000
section
variable {P : Program} {o : Oper} {w : World} {G : Nat → Prop} {ρ : List Loc} {σ : ar} {e : Env} {a : Act} {base : Nat} {sl : Option Nat}
theorem St.get {b : Nat} {x : Blk} (hs : St w G ρ σ) (h : σ[b]? = some x) : ∃ l, ρ[b]? = some l ∧ ej w G ρ l x := by
 have hlt : b < ρ.length := by rw [hs.len]; exact ba h
 exact ⟨ρ[b], by simp, hs.ok b _ x (by simp) h⟩
theorem xf {agg : Bool} {sz : Nat} {t : TypeId} {x : Operand} {x' : Opd} {r : CV × ar} (hs : St w G ρ σ) (he : cX w G ρ e a.tmps) (ho : o.op = .load t x) (hx : bN x x' = true)
 (ha : ns P t = some agg) (hz : szP P t = some sz) (h : ev base sl (.load agg sz x') e σ = some r) : b9 P o a w G ρ r.1 r.2 := by
 have h1 := bk hx he
 generalize hu : a.eval x = u at h1
 have fin : ∀ {ad : Addr} {c : CV}, u = .pointer (some ad) → r = (c, σ) → (∃ v, (loadVar t ad).run P w = .ok v w ∧ bT w G ρ c v) → b9 P o a w G ρ r.1 r.2 := by
  rintro ad c rfl rfl ⟨v, hv, hc⟩
  exact b9.quiet hs (by simp [execOp, ho, hu, Instr.loadAt, Instr.sureAddr, hv]) hc
 simp only [ev] at h
 split at h
 ·rename_i b i off hv
  rw [hv] at h1
  obtain ⟨ad, hue, hp⟩ := kU h1
  split at h
  ·rename_i s es hb
   obtain ⟨l, hl, hok⟩ := hs.get hb
   split at h
   ·rename_i x hxi
    simp only [au] at h
    obtain ⟨y, hy, rfl⟩ := h
    cases l with
    | lv blk o' tot s' =>
      obtain ⟨rfl, _, arr, el, hh, rfl, hfit, hlen, hk⟩ := hok
      simp only [ie, hl] at hp
      subst hp
      have hlt := ba hxi
      have hm : (i + 1) * s ≤ es.length * s := az _ hlt
      rw [dX] at hm
      have := sP (P := P) (w := w) (G := G) ha hz hh (B := o' + i * s) (by rw [hlen i x hxi]; omega) (fun k c u hc hu => hk i x k c u hxi hc hu) hy
      obtain ⟨v, hv1, hv2⟩ := this
      exact fin hue rfl ⟨v, hv1, .p _ _ hv2⟩
    | det => simp only [ej] at hok; subst hok; simp at hxi
    | dead => exact hok.elim
    | hole => exact hok.elim
   ·cases h
  ·rename_i s cs hb
   obtain ⟨l, hl, hok⟩ := hs.get hb
   simp only [au] at h
   obtain ⟨y, hy, rfl⟩ := h
   cases l with
   | lv blk o' tot s' =>
     obtain ⟨rfl, _, arr, el, hh, rfl, hfit, hk⟩ := hok
     simp only [ie, hl] at hp
     subst hp
     have := pR (P := P) (w := w) (G := G) (ρ := ρ) ha hz hh (B := o') hfit hk hy
     rw [← dh] at this
     exact fin hue rfl this
   | det => exact hok.elim
   | dead => exact hok.elim
   | hole => exact hok.elim
  ·cases h
 ·rename_i x off hv
  rw [hv] at h1
  obtain ⟨blk, o', arr, el, fr, hue, hg, hh, hfit, hk⟩ := uc h1
  simp only [au] at h
  obtain ⟨y, hy, rfl⟩ := h
  obtain ⟨v, hv1, hv2⟩ := sP (P := P) (w := w) (G := G) ha hz hh hfit hk hy
  exact fin hue rfl ⟨v, hv1, .p _ _ hv2⟩
 ·cases h
theorem t6 {off f : Nat} {t : TypeId} {x : Operand} {x' : Opd} {r : CV × ar} (hs : St w G ρ σ) (he : cX w G ρ e a.tmps) (ho : o.op = .fieldAddr t x f) (hx : bN x x' = true)
 {fs : Array Field} {fd : Field} {n : Nat} (ht : P.underlying t = some (.struct fs)) (hf : fs[f]? = some fd) (hoff : fd.offset = off) (hn : szP P fd.type = some n) (hn0 : n ≠ 0)
 (h : ev base sl (.fieldA off x') e σ = some r) : b9 P o a w G ρ r.1 r.2 := by
 have h1 := bk hx he
 generalize hu : a.eval x = u at h1
 have run : ∀ ad : Addr, u = .pointer (some ad) → (execOp a.eval o).run P w = .ok (.value (.pointer (some (ad.add off)))) w := by
  rintro ad rfl
  simp [execOp, ho, hu, Instr.fieldAt, run_underlying ht, hf, Instr.sureAddr, fieldPlace, run_sizeOf hn, hn0, hoff]
 simp only [ev] at h
 split at h
 ·rename_i b i o' hv
  cases h
  rw [hv] at h1
  obtain ⟨ad, rfl, hp⟩ := kU h1
  refine b9.quiet hs (run ad rfl) (.ptr _ _ _ _ ?_)
  unfold ie at hp ⊢
  split at hp
  ·subst hp; rw [iN]; simp [dh]
  ·trivial
  ·trivial
  ·exact hp.elim
 ·rename_i y o' hv
  cases h
  rw [hv] at h1
  obtain ⟨blk, o2, arr, el, fr, rfl, hg, hh, hfit, hk⟩ := uc h1
  refine b9.quiet hs (run _ rfl) ?_
  rw [iN, dh]
  exact .rp y (o' + off) blk o2 arr el fr hg hh hfit hk
 ·cases h
theorem mA {agg : Bool} {t : TypeId} {sz off : Nat} {vs : Array Value} {v : Value} (ha : ns P t = some agg) (hz : szP P t = some sz)
 (h : (agg = true ∧ v = .agg (vs.extract off (off + sz))) ∨ (agg = false ∧ vs[off]? = some v)) : (part t vs off).run P w = .ok v w := by
 rcases h with ⟨rfl, rfl⟩ | ⟨rfl, h⟩
 ·simp [part, kT ha, run_sizeOf hz]
 ·simp [part, kT ha, h]
theorem vY {agg : Bool} {off sz f : Nat} {t : TypeId} {x : Operand} {x' : Opd} {r : CV × ar} (hs : St w G ρ σ) (he : cX w G ρ e a.tmps) (ho : o.op = .field t x f) (hx : bN x x' = true)
 {fs : Array Field} {fd : Field} (ht : P.underlying t = some (.struct fs)) (hf : fs[f]? = some fd) (hoff : fd.offset = off) (hz : szP P fd.type = some sz) (ha : ns P fd.type = some agg)
 (h : ev base sl (.field agg off sz x') e σ = some r) : b9 P o a w G ρ r.1 r.2 := by
 have h1 := bk hx he
 generalize hu : a.eval x = u at h1
 have run : ∀ (vs : Array Value) (v : Value), u = .agg vs → (part fd.type vs off).run P w = .ok v w → (execOp a.eval o).run P w = .ok (.value v) w := by
  rintro vs v rfl hp
  simp [execOp, ho, hu, Instr.field, run_underlying ht, hf, asAgg, hoff, hp]
 simp only [ev] at h
 split at h
 ·rename_i cs hv
  rw [hv] at h1
  obtain ⟨vs, rfl, hl, hk, h1c⟩ := xE (gX h1)
  simp only [au] at h
  obtain ⟨y, hy, rfl⟩ := h
  cases agg with
  | true =>
    simp only [fp] at hy
    split at hy
    ·rename_i hle
     cases hy
     refine b9.quiet hs (run _ _ rfl (mA ha hz (.inl ⟨rfl, rfl⟩))) ?_
     rw [show vs.toArray.extract off (off + sz) = ((vs.drop off).take sz).toArray by simp]
     refine .p _ _ (.agg _ _ (by simp; omega) ?_ fun v hv' => h1c v (List.mem_of_mem_drop (List.mem_of_mem_take hv')))
     intro k c v hc hv'
     rw [aN] at hc hv'
     by_cases hks : k < sz
     ·rw [if_pos hks, bF] at hc hv'
      exact hk (off + k) c v hc hv'
     ·rw [if_neg hks] at hc; cases hc
    ·cases hy
  | false =>
    simp only [fp, PV.cells] at hy
    have hlt := ba hy
    refine b9.quiet (v := vs[off]'(by omega)) hs (run _ _ rfl (mA ha hz (.inr ⟨rfl, by simp⟩))) ?_
    exact .p _ _ (hk off y _ hy (by simp))
 ·rename_i cs hv
  rw [hv] at h1
  obtain ⟨vs, rfl, hl, hk, h1c⟩ := nO h1
  simp only [au] at h
  obtain ⟨y, hy, rfl⟩ := h
  unfold gR at hy
  split at hy
  ·split at hy
   ·rename_i hle
    cases hy
    refine b9.quiet hs (run _ _ rfl (mA ha hz (.inl ⟨rfl, rfl⟩))) ?_
    rw [show vs.toArray.extract off (off + sz) = ((vs.drop off).take sz).toArray by simp]
    refine nc (by simp; omega) ?_ fun v hv' => h1c v (List.mem_of_mem_drop (List.mem_of_mem_take hv'))
    intro k c v hc hv'
    rw [aN] at hc hv'
    by_cases hks : k < sz
    ·rw [if_pos hks, bF] at hc hv'
     exact hk (off + k) c v hc hv'
    ·rw [if_neg hks] at hc; cases hc
   ·cases hy
  ·have hlt := ba hy
   refine b9.quiet (v := vs[off]'(by omega)) hs (run _ _ rfl (mA ha hz (.inr ⟨rfl, by simp⟩))) ?_
   exact hk off y _ hy (by simp)
 ·cases h
theorem tm {b s : Nat} (hs : St w G ρ σ) (h : bsz σ b = some s) : ∃ l, ρ[b]? = some l ∧ ((∃ blk o tot, l = .lv blk o tot s) ∨ l = .det) := by
 unfold bsz at h
 split at h
 ·rename_i s' es hb
  cases h
  obtain ⟨l, hl, hok⟩ := hs.get hb
  cases l with
  | lv blk o' tot s' => obtain ⟨rfl, _⟩ := hok; exact ⟨_, hl, .inl ⟨blk, o', tot, rfl⟩⟩
  | det => exact ⟨_, hl, .inr rfl⟩
  | dead => exact hok.elim
  | hole => exact hok.elim
 ·rename_i s' es hb
  cases h
  obtain ⟨l, hl, hok⟩ := hs.get hb
  cases l with
  | lv blk o' tot s' => obtain ⟨rfl, _⟩ := hok; exact ⟨_, hl, .inl ⟨blk, o', tot, rfl⟩⟩
  | det => exact hok.elim
  | dead => exact hok.elim
  | hole => exact hok.elim
 ·cases h
theorem tZ {sz : Nat} {t el : TypeId} {x i : Operand} {x' i' : Opd} {r : CV × ar} (hs : St w G ρ σ) (he : cX w G ρ e a.tmps) (ho : o.op = .indexAddr t x i) (hx : bN x x' = true) (hi : bN i i' = true)
 (ht : P.underlying t = some (.slice el)) (hz : szP P el = some sz) (h : ev base sl (.indexA sz x' i') e σ = some r) : b9 P o a w G ρ r.1 r.2 := by
 have h1 := bk hx he
 have h2 := bk hi he
 generalize hu : a.eval x = u at h1
 generalize hv : a.eval i = v at h2
 have run : ∀ (ad : Addr) (n c : Nat) (k : IntKind) (j : Int), u = .slice (some ad) n c → v = .int k j → 0 ≤ j → j.toNat < n → (execOp a.eval o).run P w = .ok (.value (.pointer (some (ad.add (j.toNat * sz))))) w := by
  rintro ad n c k j rfl rfl h0 hlt
  have hc : 0 ≤ j ∧ j < (n : Int) := ⟨h0, by omega⟩
  simp [execOp, ho, hu, hv, Instr.indexAt, run_underlying ht, asIntOf, hc, run_sizeOf hz]
 simp only [ev] at h
 split at h
 ·rename_i j hj
  obtain ⟨k, rfl, _⟩ := jg hj h2
  split at h
  ·rename_i h0
   split at h
   ·rename_i es hv'
    split at h
    ·rename_i y hy
     split at h
     ·rename_i hcell
      cases h
      rw [hv'] at h1
      obtain ⟨ad, cap, rfl, hc, hcase⟩ := qI (gX h1)
      have hlt := ba hy
      rcases hcase with rfl | ⟨blk, off, arr, el', fr, s, rfl, hg, hh, hfit, hlen, hk⟩
      ·simp at hlt
      have hsz : s = sz := by rw [← hlen _ y hy, hcell]
      subst hsz
      refine b9.quiet hs (run _ _ _ _ _ rfl rfl h0 hlt) ?_
      rw [iN]
      have hm : (j.toNat + 1) * s ≤ es.length * s := az _ hlt
      rw [dX] at hm
      exact .rp y 0 blk (off + j.toNat * s) arr el' fr hg hh (by rw [hcell]; omega) fun k c u hc hu => hk j.toNat y k c u hy hc hu
     ·cases h
    ·cases h
   ·rename_i b off n hv'
    split at h
    ·rename_i hlt
     cases h
     rw [hv'] at h1
     obtain ⟨ad, cap, rfl, hc, hok⟩ := fV h1
     obtain ⟨l, hl, hcase⟩ := tm hs hlt.2
     simp only [dJ, hl] at hok
     rcases hcase with ⟨blk, o', tot, rfl⟩ | rfl
     ·rcases hok with rfl | ⟨rfl, hfit⟩
      ·omega
      ·refine b9.quiet hs (run _ _ _ _ _ rfl rfl h0 hlt.1) (.ptr _ _ _ _ ?_)
       simp only [ie, hl]
       rw [iN]
       simp [a8, dh]
     ·simp only at hok; omega
    ·cases h
   ·cases h
  ·cases h
 ·cases h
theorem lD {c : CV} {n : Nat} {v : Value} (h : jR c = some n) (hr : bT w G ρ c v) : ∃ ad cap, v = .slice ad n cap ∧ n ≤ cap := by
 unfold jR at h
 split at h
 ·cases h; obtain ⟨ad, cap, he, hc, _⟩ := qI (gX hr); exact ⟨ad, cap, he, hc⟩
 ·cases h; obtain ⟨ad, cap, he, hc, _⟩ := fV hr; exact ⟨ad, cap, he, hc⟩
 ·cases h; have := gw hr; exact ⟨none, 0, this, av _⟩
 ·cases h
theorem zD {t : TypeId} {x : Operand} {x' : Opd} {r : CV × ar} (hs : St w G ρ σ) (he : cX w G ρ e a.tmps) (ho : ∃ c : Call, o.op = .call c ∧ c.callee = .builtin .len ∧ c.args = #[x] ∧ c.argTypes = #[t]) (hx : bN x x' = true)
 (ht : (dQ P t).isSome = true) (h : ev base sl (.len x') e σ = some r) : b9 P o a w G ρ r.1 r.2 := by
 obtain ⟨el, hel⟩ := cw.1 ht
 have hu' : P.underlying t = some (.slice el) := by
  unfold dQ at hel; split at hel
  ·rename_i h2; cases hel; exact h2
  ·cases hel
 have h1 := bk hx he
 generalize hu : a.eval x = u at h1
 obtain ⟨c, ho, hc1, hc2, hc3⟩ := ho
 simp only [ev, au] at h
 obtain ⟨n, hn, rfl⟩ := h
 obtain ⟨ad, cap, rfl, hcap⟩ := lD hn h1
 refine b9.quiet (v := .int .i64 n) hs ?_ (.p _ _ (.int _ _))
 simp [execOp, ho, resolve, hc1, hc2, hc3, hu, invoke, builtin, Builtin.len_, run_underlying hu', goInt]
theorem BJ {x y : Operand} {x' y' : Opd} {r : CV × ar} (hs : St w G ρ σ) (he : cX w G ρ e a.tmps) (ho : ∃ c : Call, o.op = .call c ∧ c.callee = .builtin .max ∧ c.args = #[x, y]) (hx : bN x x' = true) (hy : bN y y' = true)
 (h : ev base sl (.mx x' y') e σ = some r) : b9 P o a w G ρ r.1 r.2 := by
 have h1 := bk hx he
 have h2 := bk hy he
 generalize hu : a.eval x = u at h1
 generalize hv : a.eval y = v at h2
 obtain ⟨c, ho, hc1, hc2⟩ := ho
 simp only [ev] at h
 split at h
 ·rename_i k p k' q hp hq
  cases h
  rw [hp] at h1
  rw [hq] at h2
  have r1 := gX h1
  have r2 := gX h2
  cases r1
  cases r2
  refine b9.quiet hs (by simp [execOp, ho, resolve, hc1, hc2, hu, hv, invoke, builtin, Builtin.max_, Builtin.max2]) (.p _ _ (.int _ _))
 ·cases h
theorem BK {x y : Operand} {x' y' : Opd} {r : CV × ar} (hs : St w G ρ σ) (he : cX w G ρ e a.tmps) (ho : ∃ c : Call, o.op = .call c ∧ c.callee = .builtin .min ∧ c.args = #[x, y]) (hx : bN x x' = true) (hy : bN y y' = true)
 (h : ev base sl (.mn x' y') e σ = some r) : b9 P o a w G ρ r.1 r.2 := by
 have h1 := bk hx he
 have h2 := bk hy he
 generalize hu : a.eval x = u at h1
 generalize hv : a.eval y = v at h2
 obtain ⟨c, ho, hc1, hc2⟩ := ho
 simp only [ev] at h
 split at h
 ·rename_i k p k' q hp hq
  cases h
  rw [hp] at h1
  rw [hq] at h2
  have r1 := gX h1
  have r2 := gX h2
  cases r1
  cases r2
  refine b9.quiet hs (by simp [execOp, ho, resolve, hc1, hc2, hu, hv, invoke, builtin, Builtin.min_, Builtin.min2]) (.p _ _ (.int _ _))
 ·cases h
theorem rW {i : Nat} {x : Operand} {x' : Opd} {r : CV × ar} (hs : St w G ρ σ) (he : cX w G ρ e a.tmps) (ho : o.op = .extract x i) (hx : bN x x' = true) (h : ev base sl (.extract x' i) e σ = some r) : b9 P o a w G ρ r.1 r.2 := by
 have h1 := bk hx he
 generalize hu : a.eval x = u at h1
 simp only [ev] at h
 split at h
 ·rename_i cs hv
  rw [hv] at h1
  obtain ⟨vs, rfl, hl, hk⟩ := qH h1
  simp only [au] at h
  obtain ⟨y, hy, rfl⟩ := h
  have hlt := ba hy
  have hvi : vs[i]? = some (vs[i]'(by omega)) := by simp
  exact b9.quiet hs (by simp [execOp, ho, hu, Instr.extract, hvi]) (hk i y _ hy hvi)
 ·cases h
theorem zE {tab : List Nat} {t : TypeId} {s : ByteArray} {x : Operand} {x' : Opd} {r : CV × ar} (hs : St w G ρ σ) (he : cX w G ρ e a.tmps) (ho : o.op = .index t (.const (.string s)) x) (hx : bN x x' = true) (ht : uu P t = true)
 (htab : s.data.toList.map (·.toNat) = tab) (h : ev base sl (.idx tab x') e σ = some r) : b9 P o a w G ρ r.1 r.2 := by
 have h1 := bk hx he
 have hu : P.underlying t = some .string := by
  unfold uu at ht; split at ht
  ·assumption
  ·cases ht
 simp only [ev] at h
 split at h
 ·rename_i i hi
  obtain ⟨k, hk, _⟩ := jg hi h1
  split at h
  ·rename_i h0
   split at h
   ·rename_i v hv
    cases h
    have hlt : i.toNat < s.size := by
     have := ba hv
     rw [← htab] at this
     rw [List.length_map, fK] at this
     exact this
    have hval : (s[i.toNat]'hlt).toNat = v := by
     rw [← htab, cd] at hv
     have h2 : s.data.toList[i.toNat]? = some (s[i.toNat]'hlt) := by
      rw [bG (by rw [fK]; exact hlt)]; rfl
     rw [h2] at hv
     simpa using hv
    refine b9.quiet (v := .int .u8 v) hs ?_ (.p _ _ (.int _ _))
    have hcond : 0 ≤ i ∧ i < s.size := ⟨h0, by omega⟩
    have := run_index_string w t s k i hu
    rw [dif_pos hcond, hval] at this
    have hc : a.eval (.const (.string s)) = .string s := rfl
    simp only [execOp, ho, hc, hk, Sem.run_bind, this, Result.andThen_ok, Sem.run_pure]
   ·cases h
  ·cases h
 ·cases h
theorem iw : ∀ {xs : List Operand} {ys : List Opd}, gI xs ys = true → cX w G ρ e a.tmps → ys.length = xs.length ∧ ∀ (k : Nat) c v, (ys.map (vl e))[k]? = some c → (xs.map a.eval)[k]? = some v → bT w G ρ c v
 | [], [], _, _ => ⟨rfl, by simp⟩
 | x :: xs, y :: ys, h, he => by
   simp only [gI, aA] at h
   obtain ⟨h1, h2⟩ := iw h.2 he
   refine ⟨by simp [h1], ?_⟩
   intro k c v hc hv
   cases k with
   | zero => simp at hc hv; subst hc hv; exact bk h.1 he
   | succ k => exact h2 k c v (by simpa using hc) (by simpa using hv)
 | [], _ :: _, h, _ => by simp [gI] at h
 | _ :: _, [], h, _ => by simp [gI] at h
theorem xc {f : Nat} {fi cap : Array Operand} {cs : List Opd} {r : CV × ar} (hs : St w G ρ σ) (he : cX w G ρ e a.tmps) (ho : o.op = .makeFunc (.func f) fi cap) (hfi : fi.size = 0) (hc : gI cap.toList cs = true)
 (h : ev base sl (.mkfn f cs) e σ = some r) : b9 P o a w G ρ r.1 r.2 := by
 simp only [ev] at h
 cases h
 obtain ⟨h1, h2⟩ := iw hc he
 have hfi' : fi = #[] := by simpa using hfi
 refine b9.quiet (v := .func (.func f) #[] (cap.toList.map a.eval).toArray) hs ?_ (.fn f _ _ (by simp [h1]) h2)
 have hcap : cap.map a.eval = (cap.toList.map a.eval).toArray := by cases cap; simp
 simp [execOp, ho, Instr.makeFunc, hfi', hcap]
theorem run_slice_all {t el : TypeId} {sz : Nat} (hu : P.underlying t = some (.slice el)) (hz : szP P el = some sz) (ad : Option Addr) (n cap : Nat) (lo hi mx : Option Value) (l h m : Nat)
 (hlo : lo = none ∧ l = 0 ∨ ∃ k i, lo = some (.int k i) ∧ 0 ≤ i ∧ i.toNat = l) (hhi : hi = none ∧ h = n ∧ mx = none ∨ ∃ k i, hi = some (.int k i) ∧ 0 ≤ i ∧ i.toNat = h)
 (hmx : mx = none ∧ m = cap ∨ ∃ k i, mx = some (.int k i) ∧ 0 ≤ i ∧ i.toNat = m) (h1 : l ≤ h) (h2 : h ≤ m) (h3 : m ≤ cap) :
 (Instr.sliceAt t (.slice ad n cap) lo hi mx).run P w = .ok (.slice (if m = l then ad else ad.map (·.add (l * sz))) (h - l) (m - l)) w := by
 have b : ∀ (k : IntKind) (i : Int) (y x : Nat) (code : BoundsCode), 0 ≤ i → i.toNat = x → x ≤ y → (Instr.sliceBound (.int k i) y code).run P w = .ok x w := by
  rintro k i y x code h0 rfl hle
  have hc : 0 ≤ i ∧ i ≤ (y : Int) := ⟨h0, by omega⟩
  simp [Instr.sliceBound, asIntOf, hc]
 rcases hmx with ⟨rfl, rfl⟩ | ⟨k3, i3, rfl, hi3, hm⟩
 ·rcases hhi with ⟨rfl, rfl, _⟩ | ⟨k2, i2, rfl, hi2, hh⟩
  ·rcases hlo with ⟨rfl, rfl⟩ | ⟨k1, i1, rfl, hi1, hl⟩
   ·simp [Instr.sliceAt, Instr.slice, Instr.sliceBounds, run_underlying hu, run_sizeOf hz]
   ·simp [Instr.sliceAt, Instr.slice, Instr.sliceBounds, run_underlying hu, run_sizeOf hz, b _ _ _ _ _ hi1 hl h1]
  ·rcases hlo with ⟨rfl, rfl⟩ | ⟨k1, i1, rfl, hi1, hl⟩
   ·simp [Instr.sliceAt, Instr.slice, Instr.sliceBounds, run_underlying hu, run_sizeOf hz, b _ _ _ _ _ hi2 hh h2]
   ·simp [Instr.sliceAt, Instr.slice, Instr.sliceBounds, run_underlying hu, run_sizeOf hz, b _ _ _ _ _ hi2 hh h2, b _ _ _ _ _ hi1 hl h1]
 ·rcases hhi with ⟨_, _, hx⟩ | ⟨k2, i2, rfl, hi2, hh⟩
  ·cases hx
  ·rcases hlo with ⟨rfl, rfl⟩ | ⟨k1, i1, rfl, hi1, hl⟩
   ·simp [Instr.sliceAt, Instr.slice, Instr.sliceBounds, run_underlying hu, run_sizeOf hz, b _ _ _ _ _ hi3 hm h3, b _ _ _ _ _ hi2 hh h2]
   ·simp [Instr.sliceAt, Instr.slice, Instr.sliceBounds, run_underlying hu, run_sizeOf hz, b _ _ _ _ _ hi3 hm h3, b _ _ _ _ _ hi2 hh h2, b _ _ _ _ _ hi1 hl h1]
theorem tY {c d : CV} {sz n l h m : Nat} {ad : Option Addr} {cap : Nat} (hs : St w G ρ σ) (hv : dw σ sz c l h = some d) (hr : bT w G ρ c (.slice ad n cap)) (hm1 : h ≤ m) (hm2 : m ≤ cap) (_hn : n ≤ cap) :
 bT w G ρ d (.slice (if m = l then ad else ad.map (·.add (l * sz))) (h - l) (m - l)) := by
 unfold dw at hv
 split at hv
 ·rename_i hlh
  split at hv
  ·rename_i es
   split at hv
   ·rename_i hc
    cases hv
    obtain ⟨ad', cap', he, hcap, hcase⟩ := qI (gX hr)
    cases he
    by_cases hz : h - l = 0
    ·have : (es.drop l).take (h - l) = [] := by rw [hz]; rfl
     rw [this, hz]
     exact .p _ _ (.nil _ _)
    ·rcases hcase with rfl | ⟨blk, off, arr, el, fr, s, rfl, hg, hh, hfit, hlen, hk⟩
     ·simp at hc; omega
     ·have hml : ¬ m = l := by omega
      rw [if_neg hml]
      simp only [aH]
      rw [iN]
      have hoff : l * sz = l * s := by
       rcases hc.2 with rfl | hall
       ·simp
       ·have h0 : es[0]? = some (es[0]'(by omega)) := by simp
        have e1 := hlen 0 _ h0
        have e2 : (es[0]'(by omega)).cells.length = sz := by simpa using aU.1 hall _ (List.getElem_mem (by omega))
        rw [← e1, e2]
      rw [hoff]
      have hlen2 : ((es.drop l).take (h - l)).length = h - l := by simp; omega
      have hmul : l * s + (h - l) * s ≤ es.length * s := by rw [← a8]; exact az _ (by omega)
      have := dG.sl (w := w) (G := G) ((es.drop l).take (h - l)) blk (off + l * s) arr el fr (m - l) s hg hh (by rw [hlen2]; omega) (by rw [hlen2]; omega)
       (by
         intro i e he
         rw [aN] at he
         split at he
         ·rw [bF] at he; exact hlen _ _ he
         ·cases he)
       (by
         intro i e k c u he hc hu
         rw [aN] at he
         split at he
         ·rw [bF] at he
          exact (hk (l + i) e k c u he hc (by rw [a8]; rw [show off + (l * s + i * s) + k = off + l * s + i * s + k by omega]; exact hu)).1
         ·cases he)
       (by
         intro i e k u he hks hu
         rw [aN] at he
         split at he
         ·rw [bF] at he
          have hcl := hlen _ _ he
          exact (hk (l + i) e k (e.cells[k]'(by omega)) u he (by simp) (by rw [a8]; rw [show off + (l * s + i * s) + k = off + l * s + i * s + k by omega]; exact hu)).2
         ·cases he)
      rw [hlen2] at this
      exact .p _ _ this
   ·cases hv
  ·rename_i b off n'
   split at hv
   ·rename_i hc
    cases hv
    obtain ⟨ad', cap', he, hcap, hok⟩ := fV hr
    cases he
    obtain ⟨loc, hloc, hcase⟩ := tm hs hc.2
    refine .own _ _ _ _ _ (by omega) ?_
    simp only [dJ, hloc] at hok ⊢
    rcases hcase with ⟨blk, o', tot, rfl⟩ | rfl
    ·simp only at hok ⊢
     by_cases hml : m = l
     ·left; omega
     ·right
      rcases hok with rfl | ⟨rfl, hfit⟩
      ·omega
      ·rw [if_neg hml]
       simp only [aH]
       rw [iN]
       refine ⟨by simp [a8, dh], ?_⟩
       have : (off + l + (m - l)) * sz ≤ (off + cap) * sz := az _ (by omega)
       omega
    ·simp only at hok ⊢; omega
   ·cases hv
  ·split at hv
   ·rename_i hc
    cases hv
    have := gw hr
    cases this
    have : m = l := by omega
    subst this
    have : h = 0 := by omega
    subst this
    simp only [if_true]
    have h2 : m = 0 := by omega
    subst h2
    exact .nils
   ·cases hv
  ·cases hv
 ·cases hv
theorem vU {c d : CV} {sz n l h : Nat} (hv : dw σ sz c l h = some d) (hn : jR c = some n) : h ≤ n := by
 unfold dw at hv
 unfold jR at hn
 split at hv
 ·split at hv
  ·simp only at hn
   cases hn
   split at hv
   ·omega
   ·cases hv
  ·simp only at hn
   cases hn
   split at hv
   ·omega
   ·cases hv
  ·split at hv
   ·omega
   ·cases hv
  ·cases hv
 ·cases hv
theorem tp {x : Option Operand} {x' : Option Opd} {d n : Nat} (he : cX w G ρ e a.tmps) (hx : lu x x' = true) (h : bnd e x' d = some n) :
 (x.map a.eval = none ∧ x' = none ∧ n = d) ∨ ∃ k i, x.map a.eval = some (.int k i) ∧ 0 ≤ i ∧ i.toNat = n := by
 unfold lu at hx
 split at hx
 ·simp only [bnd] at h; cases h; exact .inl ⟨rfl, rfl, rfl⟩
 ·rename_i x y
  simp only [bnd] at h
  split at h
  ·rename_i i hi
   split at h
   ·rename_i h0
    cases h
    obtain ⟨k, hk, _⟩ := jg hi (bk hx he)
    exact .inr ⟨k, i, by simp [hk], h0, rfl⟩
   ·cases h
  ·cases h
 ·cases hx
theorem vX {sz : Nat} {t el : TypeId} {x : Operand} {lo hi mx : Option Operand} {x' : Opd} {lo' hi' mx' : Option Opd} {r : CV × ar} (hs : St w G ρ σ) (he : cX w G ρ e a.tmps) (ho : o.op = .slice t x lo hi mx)
 (hx : bN x x' = true) (hlo : lu lo lo' = true) (hhi : lu hi hi' = true) (hmx : lu mx mx' = true) (hmh : (mx.isNone || hi.isSome) = true)
 (ht : P.underlying t = some (.slice el)) (hz : szP P el = some sz) (h : ev base sl (.slice sz x' lo' hi' mx') e σ = some r) : b9 P o a w G ρ r.1 r.2 := by
 have h1 := bk hx he
 generalize hu : a.eval x = u at h1
 simp only [ev] at h
 split at h
 ·rename_i n hn
  obtain ⟨ad, cap, rfl, hcap⟩ := lD hn h1
  split at h
  ·rename_i l hh hl' hh'
   have bl := tp he hlo hl'
   have bh := tp he hhi hh'
   have hlo2 : lo.map a.eval = none ∧ l = 0 ∨ ∃ k i, lo.map a.eval = some (.int k i) ∧ 0 ≤ i ∧ i.toNat = l := by
    rcases bl with ⟨x1, _, x2⟩ | x1
    ·exact .inl ⟨x1, x2⟩
    ·exact .inr x1
   have fin : ∀ (m : Nat) (d : CV), dw σ sz (vl e x') l hh = some d → r = (d, σ) → hh ≤ m → m ≤ cap → (mx.map a.eval = none ∧ m = cap ∨ ∃ k i, mx.map a.eval = some (.int k i) ∧ 0 ≤ i ∧ i.toNat = m) → b9 P o a w G ρ r.1 r.2 := by
    rintro m d hd rfl hm1 hm2 hmm
    have hlh : l ≤ hh := by
     unfold dw at hd
     split at hd
     ·assumption
     ·cases hd
    have hhi2 : hi.map a.eval = none ∧ hh = n ∧ mx.map a.eval = none ∨ ∃ k i, hi.map a.eval = some (.int k i) ∧ 0 ≤ i ∧ i.toNat = hh := by
     rcases bh with ⟨x1, _, x2⟩ | x1
     ·refine .inl ⟨x1, x2, ?_⟩
      cases mx with
      | none => rfl
      | some y => cases hi with
        | none => simp at hmh
        | some z => simp at x1
     ·exact .inr x1
    have hrun := run_slice_all (P := P) (w := w) ht hz ad n cap (lo.map a.eval) (hi.map a.eval) (mx.map a.eval) l hh m hlo2 hhi2 hmm hlh hm1 hm2
    refine b9.quiet hs ?_ (tY hs hd h1 hm1 hm2 hcap)
    simp only [execOp, ho, hu, Sem.run_bind, hrun, Result.andThen_ok, Sem.run_pure]
   cases hmx0 : mx' with
   | none =>
     rw [hmx0] at h
     simp only [au] at h
     obtain ⟨d, hd, rfl⟩ := h
     have hle : hh ≤ cap := a9 (vU hd hn) hcap
     refine fin cap d hd rfl hle (av _) (.inl ⟨?_, rfl⟩)
     rw [hmx0] at hmx
     cases mx with
     | none => rfl
     | some y => simp [lu] at hmx
   | some y =>
     rw [hmx0] at h
     simp only at h
     split at h
     ·rename_i m hm
      split at h
      ·rename_i hc
       simp only [au] at h
       obtain ⟨d, hd, rfl⟩ := h
       refine fin m.toNat d hd rfl hc.2.1 (by omega) (.inr ?_)
       rw [hmx0] at hmx
       cases mx with
       | none => simp [lu] at hmx
       | some z =>
         obtain ⟨k, hk, _⟩ := jg hm (bk hmx he)
         exact ⟨k, m, by simp [hk], hc.1, rfl⟩
      ·cases h
     ·cases h
  ·cases h
 ·cases h
end
end Go.Proofs.YtdieenbfdeaffabGreat.Vpi
namespace Go.Proofs.YtdieenbfdeaffabGreat.Vpi
open Go
section
variable {P : Program} {o : Oper} {w : World} {G : Nat → Prop} {ρ : List Loc} {σ : ar} {e : Env} {a : Act} {base : Nat} {sl : Option Nat}
theorem run_places : ∀ (fs : List Field), (∀ f ∈ fs, (szP P f.type).isSome = true) →
 (fs.mapM fun f => (do pure (f.offset, ← sizeOf f.type) : Sem (Nat × Nat))).run P w = .ok (fs.map fun f => (f.offset, (szP P f.type).getD 0)) w
 | [], _ => by simp
 | f :: fs, h => by
   obtain ⟨n, hn⟩ := cw.1 (h f (by simp))
   have ih := run_places fs fun g hg => h g (by simp [hg])
   rw [List.mapM_cons]
   simp only [Sem.run_bind, run_sizeOf hn, Result.andThen_ok, Sem.run_pure, ih, List.map_cons, hn, Option.getD_some]
theorem nj : ∀ (vs : List Value) (k off : Nat) (arr : Array Value) (i : Nat),
 ((vs.zipIdx k).foldl (fun cs (x : Value × Nat) => cs.setIfInBounds (off + x.2) x.1) arr)[i]? = if off + k ≤ i ∧ i < off + k + vs.length ∧ i < arr.size then vs[i - (off + k)]? else arr[i]?
 | [], k, off, arr, i => by
   rw [if_neg (by simp; omega)]; rfl
 | v :: vs, k, off, arr, i => by
   rw [List.zipIdx_cons, List.foldl_cons, nj vs (k + 1) off (arr.setIfInBounds (off + k) v) i]
   simp only [Array.size_setIfInBounds, dZ]
   by_cases h1 : i = off + k
   ·subst h1
    rw [if_neg (by omega)]
    by_cases h2 : off + k < arr.size
    ·rw [if_pos (by omega)]; simp [h2]
    ·rw [if_neg (by omega)]; simp [h2]
   ·rw [Array.getElem?_setIfInBounds_ne (fun x => h1 x.symm)]
    by_cases h2 : off + k ≤ i ∧ i < off + k + (vs.length + 1) ∧ i < arr.size
    ·rw [if_pos h2, if_pos (by omega)]
     rw [show i - (off + k) = (i - (off + (k + 1))) + 1 by omega, List.getElem?_cons_succ]
    ·rw [if_neg h2, if_neg (by omega)]
structure fh (w : World) (G : Nat → Prop) (ρ : List Loc) (cs : List CV) (vs : Array Value) : Prop where
 len : cs.length = vs.size
 rep : ∀ (k : Nat) c v, cs[k]? = some c → vs[k]? = some v → bT w G ρ c v
 one : ∀ v ∈ vs, v.oneCell' = true
theorem fU {α : Type} (cs xs : List α) (off i : Nat) (h : off + xs.length ≤ cs.length) : (setCells cs off xs)[i]? = if off ≤ i ∧ i < off + xs.length then xs[i - off]? else cs[i]? := by
 unfold setCells
 rcases ax i off with h1 | h1
 ·rw [if_neg (by omega), aP, aB (by simp; omega), aN, if_pos h1]
 ·rcases ax i (off + xs.length) with h2 | h2
  ·rw [if_pos ⟨h1, h2⟩, aB (by simp; omega), aC (by simp; omega)]
   congr 1; simp; omega
  ·rw [if_neg (by omega), aC (by simp; omega), bF]
   congr 1; simp; omega
theorem mf {α : Type} (cs xs : List α) (off : Nat) (h : off + xs.length ≤ cs.length) : (setCells cs off xs).length = cs.length := by
 unfold setCells; simp; omega
theorem fh.set {cs xs : List CV} {vs us : Array Value} {off : Nat} (h : fh w G ρ cs vs) (hx : fh w G ρ xs us) (hf : off + xs.length ≤ cs.length) :
 fh w G ρ (setCells cs off xs) (us.zipIdx.foldl (fun cs (x : Value × Nat) => cs.setIfInBounds (off + x.2) x.1) vs) := by
 have hg : ∀ i : Nat, (us.zipIdx.foldl (fun cs (x : Value × Nat) => cs.setIfInBounds (off + x.2) x.1) vs)[i]? = if off ≤ i ∧ i < off + xs.length then us[i - off]? else vs[i]? := by
  intro i
  have := nj us.toList 0 off vs i
  rw [← Array.foldl_toList]
  simp only [Array.toList_zipIdx]
  rw [this]
  have h1 := h.len
  have h2 := hx.len
  simp only [bw, fK]
  by_cases hc : off ≤ i ∧ i < off + xs.length
  ·rw [if_pos hc, if_pos (by omega)]; simp
  ·rw [if_neg hc, if_neg (by omega)]
 have hsz : (us.zipIdx.foldl (fun cs (x : Value × Nat) => cs.setIfInBounds (off + x.2) x.1) vs).size = vs.size := by
  have h1 := h.len
  have h2 := hx.len
  rcases Nat.lt_trichotomy (us.zipIdx.foldl (fun cs (x : Value × Nat) => cs.setIfInBounds (off + x.2) x.1) vs).size vs.size with h3 | h3 | h3
  ·have := hg (us.zipIdx.foldl (fun cs (x : Value × Nat) => cs.setIfInBounds (off + x.2) x.1) vs).size
   rw [Array.getElem?_eq_none (av _)] at this
   split at this
   ·rw [Array.getElem?_eq_getElem (by omega)] at this; cases this
   ·rw [Array.getElem?_eq_getElem h3] at this; cases this
  ·exact h3
  ·have := hg vs.size
   rw [Array.getElem?_eq_getElem h3] at this
   split at this
   ·omega
   ·rw [Array.getElem?_eq_none (av _)] at this; cases this
 constructor
 ·rw [mf _ _ _ hf, hsz]; exact h.len
 ·intro k c v hc hv
  rw [fU _ _ _ _ hf] at hc
  rw [hg] at hv
  by_cases hcase : off ≤ k ∧ k < off + xs.length
  ·rw [if_pos hcase] at hc hv; exact hx.rep _ c v hc hv
  ·rw [if_neg hcase] at hc hv; exact h.rep _ c v hc hv
 ·intro v hv
  obtain ⟨i, hi⟩ := Array.getElem?_of_mem hv
  rw [hg] at hi
  split at hi
  ·exact hx.one v (gk hi)
  ·exact h.one v (gk hi)
theorem kV {c : CV} {v : Value} {cs : List CV} (h : bT w G ρ c v) (hc : c.cells = some cs) : fh w G ρ cs v.cells :=
 let ⟨h1, h2, h3⟩ := h.cells hc; ⟨h1, h2, h3⟩
theorem sZ {fs : Array Field} (he : cX w G ρ e a.tmps) : ∀ (ps : List (Nat × Operand)) (qs : List (Nat × Nat × Opd)) (zs cs : List CV) (vs : Array Value), jN P fs ps qs = true → fill zs e qs = some cs → fh w G ρ zs vs →
 ∃ us, Instr.fill (fun i => (fs[i]?).map fun f => (f.offset, (szP P f.type).getD 0)) vs (ps.map fun x => (x.1, a.eval x.2)) = some us ∧ fh w G ρ cs us
 | [], [], zs, cs, vs, _, h, hr => by
   simp only [fill] at h; cases h; exact ⟨vs, rfl, hr⟩
 | (i, x) :: ps, (off, sz, y) :: qs, zs, cs, vs, hok, h, hr => by
   simp only [jN, aA] at hok
   obtain ⟨⟨h1, h2⟩, h3⟩ := hok
   simp only [fill] at h
   split at h
   ·rename_i xs hxs
    split at h
    ·rename_i hc
     have hx := kV (bk h2 he) hxs
     cases hfi : fs[i]? with
     | none => rw [hfi] at h1; cases h1
     | some f =>
       rw [hfi] at h1
       simp only [aA, beq_iff_eq] at h1
       obtain ⟨us, hus, hrep⟩ := sZ he ps qs _ cs _ h3 h (hr.set hx (by rw [hc.1]; exact hc.2))
       refine ⟨us, ?_, hrep⟩
       simp only [List.map_cons, Instr.fill, hfi, aH, h1.1, h1.2, Option.getD_some]
       have e1 : (a.eval x).cells.size = sz := by rw [← hx.len, hc.1]
       rw [if_neg (by simp [e1]; have := hr.len; omega)]
       exact hus
    ·cases h
   ·cases h
 | [], _ :: _, _, _, _, h, _, _ => by simp [jN] at h
 | _ :: _, [], _, _, _, h, _, _ => by simp [jN] at h
theorem rF {t : TypeId} {zs : List CV} (h : (match (P.info? t).bind (·.zero) with | some z => oE z.cells.toList zs && lJ z.cells.toList | none => false) = true) :
 ∃ z, (zeroValue t).run P w = .ok z w ∧ fh w G ρ zs z.cells := by
 split at h
 ·rename_i z hz
  simp only [aA] at h
  obtain ⟨h1, h2⟩ := oD (w := w) (G := G) (ρ := ρ) h.1
  refine ⟨z, ?_, ⟨by simpa using h1, by simpa using h2, fun v hv => aU.1 h.2 v (by simpa using hv)⟩⟩
  cases hi : P.info? t with
  | none => rw [hi] at hz; cases hz
  | some i => rw [hi] at hz; simp only [Option.bind_some] at hz; simp [zeroValue, typeInfo, hi, hz]
 ·cases h
theorem sH {cs : List CV} {vs : Array Value} (h : fh w G ρ cs vs) : bT w G ρ (iS cs) (.agg vs) := by
 have := nc (vs := vs.toList) (by simpa using h.len) (by simpa using h.rep) (fun v hv => h.one v (by simpa using hv))
 simpa using this
theorem vZ {t : TypeId} {ps : Array (Nat × Operand)} {zs : List CV} {qs : List (Nat × Nat × Opd)} {fs : Array Field} {r : CV × ar} (hs : St w G ρ σ) (he : cX w G ρ e a.tmps) (ho : o.op = .build t ps)
 (hz : (match (P.info? t).bind (·.zero) with | some z => oE z.cells.toList zs && lJ z.cells.toList | none => false) = true) (ht : P.underlying t = some (.struct fs)) (hfs : fs.all (fun f => (szP P f.type).isSome) = true)
 (hp : jN P fs ps.toList qs = true) (h : ev base sl (.build zs qs) e σ = some r) : b9 P o a w G ρ r.1 r.2 := by
 simp only [ev, au] at h
 obtain ⟨cs, hcs, rfl⟩ := h
 obtain ⟨z, hz1, hz2⟩ := rF (w := w) (G := G) (ρ := ρ) hz
 obtain ⟨us, hus, hrep⟩ := sZ he ps.toList qs zs cs z.cells hp hcs hz2
 have hpl := run_places (P := P) (w := w) fs.toList (by
  intro f hf
  obtain ⟨i, hi, he⟩ := List.getElem_of_mem hf
  have := Array.all_eq_true.1 hfs i (by simpa using hi)
  simpa [← he] using this)
 have hpl' : (fs.mapM fun f => (do pure (f.offset, ← sizeOf f.type) : Sem (Nat × Nat))).run P w = .ok (fs.map fun f => (f.offset, (szP P f.type).getD 0)) w := by
  rw [Array.mapM_eq_mapM_toList, Sem.run_map, hpl]
  cases fs; simp
 have hps : (ps.map fun (i, x) => (i, a.eval x)).toList = ps.toList.map fun x => (x.1, a.eval x.2) := by simp
 have hpf : (fun i : Nat => (fs.map fun f => (f.offset, (szP P f.type).getD 0))[i]?) = fun i => (fs[i]?).map fun f => (f.offset, (szP P f.type).getD 0) := by funext i; simp
 refine b9.quiet (v := .agg us) hs ?_ (sH hrep)
 simp only [execOp, ho, Instr.build, Sem.run_bind, hz1, Result.andThen_ok, run_underlying ht, hpl', hps, hpf, hus, Sem.run_pure]
theorem fh.mono {w' : World} {G' : Nat → Prop} {ρ' : List Loc} {cs : List CV} {vs : Array Value} (hw : ∀ k, G k → w'.heap[k]? = w.heap[k]?) (hG : ∀ k, G k → G' k) (hρ : cx ρ ρ') (h : fh w G ρ cs vs) : fh w' G' ρ' cs vs :=
 ⟨h.len, fun k c v h1 h2 => (h.rep k c v h1 h2).mono hw hG hρ, h.one⟩
theorem ja {x : Obj} {w' : World} (hs : St w G ρ σ) (hw : w'.heap = w.heap.push x) : ∀ k, G k → w'.heap[k]? = w.heap[k]? := by
 intro k hk
 have := hs.g k hk
 rw [hw, Array.getElem?_push]
 simp [Nat.ne_of_lt this]
theorem su {cs : List CV} {arr : Array Value} {el : TypeId} {σ' : ar} {k : Nat} {w' : World} (hs : St w G ρ σ) (hp : push base sl σ (.kblk cs.length cs) = some (k, σ')) (hc : fh w G ρ cs arr) (hw : w'.heap = w.heap.push (.cells arr el (0, 0))) (hsame : ld w w' := by first | assumption | exact ⟨rfl, rfl, rfl⟩) :
 ∃ ρ', St w' G ρ' σ' ∧ Ext w G ρ w' G ρ' ∧ bT w' G ρ' (.ptr k 0 0) (.pointer (some ⟨w.heap.size, 0, none⟩)) := by
 obtain ⟨ρ', h1, h2, h3⟩ := hs.push hp arr el cs.length hw (by
  intro ρ' hρ
  have hc' := hc.mono (ja hs hw) (fun _ x => x) hρ
  refine ⟨rfl, fun hg => Nat.lt_irrefl _ (hs.g _ hg), arr, el, by rw [hw]; simp, rfl, by rw [hc.len]; omega, ?_⟩
  intro k c u hck hu
  simp only [d8] at hu
  exact ⟨hc'.rep k c u hck hu, hc'.one u (gk hu)⟩)
 exact ⟨ρ', h1, h2, .ptr _ _ _ _ (by simp [ie, h3])⟩
theorem mz {es : List PV} {sz n cap : Nat} {arr : Array Value} {el : TypeId} {σ' : ar} {k : Nat} {w' : World} (hs : St w G ρ σ) (hp : push base sl σ (.prow sz es) = some (k, σ')) (hw : w'.heap = w.heap.push (.cells arr el (0, 0)))
 (hn : n ≤ cap) (hcap : cap * sz ≤ arr.size) (hfit : es.length * sz ≤ arr.size) (hlen : ∀ (i : Nat) e, es[i]? = some e → e.cells.length = sz)
 (hk : ∀ (i : Nat) e (k : Nat) c u, es[i]? = some e → e.cells[k]? = some c → arr[i * sz + k]? = some u → dG w G c u ∧ u.oneCell' = true) (hsame : ld w w' := by first | assumption | exact ⟨rfl, rfl, rfl⟩) :
 ∃ ρ', St w' G ρ' σ' ∧ Ext w G ρ w' G ρ' ∧ bT w' G ρ' (.own k 0 n) (.slice (some ⟨w.heap.size, 0, none⟩) n cap) := by
 obtain ⟨ρ', h1, h2, h3⟩ := hs.push hp arr el sz hw (by
  intro ρ' hρ
  refine ⟨rfl, fun hg => Nat.lt_irrefl _ (hs.g _ hg), arr, el, by rw [hw]; simp, rfl, by omega, hlen, ?_⟩
  intro i e k c u h1 h2 h3
  rw [d8] at h3
  obtain ⟨a1, a2⟩ := hk i e k c u h1 h2 h3
  exact ⟨a1.mono (ja hs hw) (fun _ x => x), a2⟩)
 exact ⟨ρ', h1, h2, .own _ _ _ _ _ hn (by simp only [dJ, h3]; right; exact ⟨by simp, by simp; exact hcap⟩)⟩
theorem v5 {t : TypeId} {zs : List CV} {r : CV × ar} (hs : St w G ρ σ) (ho : o.op = .alloc t)
 (hz : (match (P.info? t).bind (·.zero) with | some z => oE z.cells.toList zs && lJ z.cells.toList | none => false) = true) (h : ev base sl (.alloc zs) e σ = some r) : b9 P o a w G ρ r.1 r.2 := by
 simp only [ev, au] at h
 obtain ⟨⟨k, σ'⟩, hp, rfl⟩ := h
 obtain ⟨z, hz1, hz2⟩ := rF (w := w) (G := G) (ρ := ρ) hz
 obtain ⟨ρ', h1, h2, h3⟩ := su (w' := { w with heap := w.heap.push (.cells z.cells t (0, 0)) }) hs hp hz2 rfl
 refine ⟨.value _, _, _, G, ρ', ?_, .inl rfl, h1, h2, h3⟩
 simp only [execOp, ho, Instr.alloc, Sem.run_bind, hz1, Result.andThen_ok, newVar, newRow, run_newObj, Sem.run_pure]
theorem zG {t : TypeId} {x : Operand} {x' : Opd} {r : CV × ar} (hs : St w G ρ σ) (he : cX w G ρ e a.tmps) (ho : o.op = .box t x) (hx : bN x x' = true) (h : ev base sl (.box x') e σ = some r) : b9 P o a w G ρ r.1 r.2 := by
 simp only [ev] at h
 split at h
 ·rename_i cs hcs
  simp only [au] at h
  obtain ⟨⟨k, σ'⟩, hp, rfl⟩ := h
  have hc := kV (bk hx he) hcs
  obtain ⟨ρ', h1, h2, h3⟩ := su (w' := { w with heap := w.heap.push (.cells (a.eval x).cells t (0, 0)) }) hs hp hc rfl
  refine ⟨.value _, _, _, G, ρ', ?_, .inl rfl, h1, h2, h3⟩
  simp only [execOp, ho, Instr.box, Sem.run_bind, Result.andThen_ok, newVar, newRow, run_newObj, Sem.run_pure]
 ·cases h
theorem iC {z : Array Value} {n i : Nat} (h : i < n) (hz : 0 < z.size) : (madeCells z n)[i]? = z[i % z.size]? := by
 have : i % z.size < z.size := ep _ hz
 simp [madeCells, h, this]
theorem zB {deep : Bool} {sz bytes : Nat} {z : PV} {t el : TypeId} {l c : Operand} {l' c' : Opd} {i : TypeInfo} {zv : Value} {r : CV × ar} (hs : St w G ρ σ) (he : cX w G ρ e a.tmps) (ho : o.op = .makeSlice t l c) (hl : bN l l' = true) (hc : bN c c' = true)
 (ht : P.underlying t = some (.slice el)) (hi : P.info? el = some i) (hsz : i.size = sz) (hby : i.bytes = bytes) (hz : i.zero = some zv) (hzz : (if deep then na zv.cells.toList [.sl []] else na zv.cells.toList z.cells) = true)
 (h : ev base sl (.mks deep sz bytes z l' c') e σ = some r) : b9 P o a w G ρ r.1 r.2 := by
 have r1 := bk hl he
 have r2 := bk hc he
 generalize hu : a.eval l = u at r1
 generalize hv : a.eval c = v at r2
 simp only [ev] at h
 split at h
 ·rename_i ln cn hln hcn
  obtain ⟨kl, rfl, _⟩ := jg hln r1
  obtain ⟨kc, rfl, _⟩ := jg hcn r2
  split at h
  ·rename_i hcond
   obtain ⟨c1, c2, c3, c4, c5⟩ := hcond
   have hrun := run_make (P := P) w t el i zv ht hi hz kl kc ln cn c1 c2 (by rw [hby]; exact c3) c4
   have exec : (execOp a.eval o).run P w = .ok (.value (.slice (some ⟨w.heap.size, 0, none⟩) ln.toNat cn.toNat)) (w.alloc (.cells (madeCells zv.cells (cn.toNat * i.size)) el)) := by
    simp only [execOp, ho, hu, hv, Sem.run_bind, hrun, Result.andThen_ok, Sem.run_pure]
   have hle : ln.toNat ≤ cn.toNat := by omega
   have hmul : ln.toNat * sz ≤ cn.toNat * sz := az _ hle
   split at h
   ·simp only [if_false, aR] at hzz
    obtain ⟨z1, z2, z3⟩ := ko (w := w) (G := G) hzz
    simp only [au] at h
    obtain ⟨⟨k, σ'⟩, hp, rfl⟩ := h
    have hzsz : zv.cells.size = sz := by rw [← c5, z1]; simp
    obtain ⟨ρ', h1, h2, h3⟩ := mz (w' := w.alloc (.cells (madeCells zv.cells (cn.toNat * i.size)) el)) hs hp rfl hle (by rw [size_madeCells, hsz]; exact av _) (by rw [size_madeCells, hsz]; simpa using hmul)
     (by intro i e he; rw [List.getElem?_replicate] at he; split at he <;> simp_all)
     (by
       intro j e k c u he hck hu
       rw [List.getElem?_replicate] at he
       split at he
       ·rename_i hj
        cases he
        have hk : k < sz := by rw [← c5]; exact ba hck
        have hidx : j * sz + k < cn.toNat * i.size := by
         have : (j + 1) * sz ≤ cn.toNat * sz := az _ (by omega)
         rw [dX] at this
         rw [hsz]; omega
        rw [iC hidx (by omega), hzsz, Nat.add_comm (j * sz), Nat.add_mul_mod_self_right, a6 hk] at hu
        exact ⟨z2 k c u hck (by simpa using hu), z3 u (by simpa using gk hu)⟩
       ·cases he)
    exact ⟨.value _, _, _, G, ρ', exec, .inl rfl, h1, h2, h3⟩
   ·simp only [if_true] at hzz
    split at h
    ·rename_i hone
     obtain ⟨z1, z2, z3⟩ := ko (w := w) (G := G) hzz
     simp only [au] at h
     obtain ⟨⟨k, σ'⟩, hp, rfl⟩ := h
     have hz0 : zv.cells.toList = [.slice none 0 0] := by
      have hz1 : zv.cells.toList.length = 1 := by simpa using z1.symm
      obtain ⟨y, hy⟩ : ∃ y, zv.cells.toList = [y] := by
       match hm : zv.cells.toList, hz1 with
       | [y], _ => exact ⟨y, rfl⟩
      rw [hy] at hzz ⊢
      simp only [na, Bool.and_true] at hzz
      unfold wm at hzz
      split at hzz <;> first | rfl | cases hzz | simp_all
     have hzsz : zv.cells.size = 1 := by have := congrArg List.length hz0; simpa using this
     subst hone
     rw [← hsz] at hp
     obtain ⟨ρ', h1, h2, h3⟩ := hs.push (w' := w.alloc (.cells (madeCells zv.cells (cn.toNat * i.size)) el)) hp (madeCells zv.cells (cn.toNat * i.size)) el i.size rfl (by
      intro ρ' hρ
      refine ⟨rfl, fun hg => Nat.lt_irrefl _ (hs.g _ hg), _, el, by show (w.heap.push _)[w.heap.size]? = _; simp, rfl, by rw [size_madeCells, hsz]; simp; omega, ?_⟩
      intro k c u hck hu
      rw [List.getElem?_replicate] at hck
      split at hck
      ·cases hck
       rw [d8, iC (by rw [hsz]; omega) (by omega), hzsz, Nat.mod_one] at hu
       have : u = .slice none 0 0 := by
        have h0 : zv.cells.toList[0]? = some u := by simpa using hu
        rw [hz0] at h0
        simpa using h0.symm
       subst this
       exact ⟨.nils, rfl⟩
      ·cases hck)
     exact ⟨.value _, _, _, G, ρ', exec, .inl rfl, h1, h2, .own _ _ _ _ _ hle (by simp only [dJ, h3]; right; exact ⟨by simp, by simp [size_madeCells]⟩)⟩
    ·cases h
  ·cases h
 ·cases h
end
section
variable {P : Program} {o : Oper} {w : World} {G : Nat → Prop} {ρ : List Loc} {σ : ar} {e : Env} {a : Act} {base : Nat} {sl : Option Nat}
def fa (σ : ar) (bs : List Nat) : ar := bs.foldl (fun σ b => σ.set b .dead) σ
theorem sR (σ : ar) (c : CV) : gi σ c = fa σ (eA c) := by
 cases c <;> rfl
theorem lx (σ : ar) (x y : List Nat) : fa σ (x ++ y) = fa (fa σ x) y := by
 simp [fa, List.foldl_append]
theorem oK : ∀ (l : List CV) (σ : ar), eE σ l = fa σ (l.flatMap eA)
 | [], _ => rfl
 | c :: l, σ => by
   rw [cu, lx, ← sR, ← oK l]
   rfl
theorem jS (σ : ar) (c : CV) : kill σ c = fa σ (aV c) := by
 cases c <;> simp only [kill, aV] <;> first | exact oK _ _ | exact sR _ _
theorem jB : ∀ (l : List CV) (σ : ar), eC σ l = fa σ (l.flatMap aV)
 | [], _ => rfl
 | c :: l, σ => by
   rw [cu, lx, ← jS, ← jB l]
   rfl
def Bm (ρ : List Loc) (G' : Nat → Prop) (ρ' : List Loc) : Prop := ∀ (i blk o t s : Nat), ρ[i]? = some (.lv blk o t s) → ρ'[i]? = some (.lv blk o t s) ∨ G' blk
theorem jE : ∀ (bs : List Nat) (G : Nat → Prop) (ρ : List Loc) (σ : ar), St w G ρ σ → (∀ b ∈ bs, b < σ.length) →
 ∃ G' ρ', St w G' ρ' (fa σ bs) ∧ Ext w G ρ w G' ρ' ∧ Bm ρ G' ρ' ∧ ∀ b ∈ bs, ρ'[b]? = some .dead
 | [], G, ρ, σ, hs, _ => ⟨G, ρ, hs, Ext.refl, fun _ _ _ _ _ h => .inl h, by simp⟩
 | b :: bs, G, ρ, σ, hs, hb => by
   have hlt : b < ρ.length := by rw [hs.len]; exact hb b (by simp)
   have hl : ρ[b]? = some ρ[b] := by simp
   have one : ∃ G1, St w G1 (ρ.set b .dead) (σ.set b .dead) ∧ Ext w G ρ w G1 (ρ.set b .dead) ∧ Bm ρ G1 (ρ.set b .dead) := by
    cases hc : ρ[b] with
    | lv blk o t s =>
      rw [hc] at hl
      obtain ⟨h1, h2⟩ := hs.Ae hl
      refine ⟨_, h1, h2, ?_⟩
      intro i blk' o' t' s' hi
      by_cases hbi : b = i
      ·subst hbi; rw [hl] at hi; cases hi; exact .inr (.inr rfl)
      ·exact .inl (by rw [aE hbi]; exact hi)
    | det =>
      rw [hc] at hl
      obtain ⟨h1, h2⟩ := hs.mL hl (by rintro ⟨k, o, t, s, h⟩; cases h)
      refine ⟨G, h1, h2, ?_⟩
      intro i blk' o' t' s' hi
      by_cases hbi : b = i
      ·subst hbi; rw [hl] at hi; cases hi
      ·exact .inl (by rw [aE hbi]; exact hi)
    | dead =>
      rw [hc] at hl
      obtain ⟨h1, h2⟩ := hs.mL hl (by rintro ⟨k, o, t, s, h⟩; cases h)
      refine ⟨G, h1, h2, ?_⟩
      intro i blk' o' t' s' hi
      by_cases hbi : b = i
      ·subst hbi; rw [hl] at hi; cases hi
      ·exact .inl (by rw [aE hbi]; exact hi)
    | hole =>
      rw [hc] at hl
      obtain ⟨h1, h2⟩ := hs.mL hl (by rintro ⟨k, o, t, s, h⟩; cases h)
      refine ⟨G, h1, h2, ?_⟩
      intro i blk' o' t' s' hi
      by_cases hbi : b = i
      ·subst hbi; rw [hl] at hi; cases hi
      ·exact .inl (by rw [aE hbi]; exact hi)
   obtain ⟨G1, s1, e1, t1⟩ := one
   obtain ⟨G2, ρ2, s2, e2, t2, d2⟩ := jE bs G1 _ _ s1 (fun c hc => by simpa using hb c (by simp [hc]))
   refine ⟨G2, ρ2, s2, e1.trans e2, ?_, ?_⟩
   ·intro i blk o t s hi
    rcases t1 i blk o t s hi with h | h
    ·exact t2 i blk o t s h
    ·exact .inr (e2.grow _ h)
   ·intro c hc
    by_cases hm : c ∈ bs
    ·exact d2 c hm
    ·have : c = b := by simpa [hm] using hc
     subst this
     have h0 : (ρ.set c Loc.dead)[c]? = some .dead := by rw [aO hlt]
     rcases e2.loc c _ h0 with h | h | h
     ·exact h
     ·exact h
     ·cases h
theorem oR {c : CV} {x : PV} {v : Value} {G' : Nat → Prop} (hs : St w G ρ σ) (h : dD σ c = some x) (hr : bT w G ρ c v) (hG : ∀ k, G k → G' k) (hO : ∀ b ∈ eA c, ∀ (blk o t s : Nat), ρ[b]? = some (.lv blk o t s) → G' blk) :
 dG w G' x v := by
 unfold dD at h
 split at h
 ·cases h; exact (gX hr).mono (fun _ _ => rfl) hG
 ·cases h; rw [gw hr]; exact .nil _ _
 ·rename_i b off n
  split at h
  ·rename_i s es hb
   split at h
   ·rename_i hle
    cases h
    obtain ⟨ad, cap, rfl, hcap, hok⟩ := fV hr
    obtain ⟨l, hl, hblk⟩ := hs.get hb
    have hlen : ((es.drop off).take n).length = n := by simp; omega
    by_cases hn : n = 0
    ·subst hn
     simp only [List.take_zero]
     exact .nil _ _
    ·simp only [dJ, hl] at hok
     cases l with
     | lv blk o t s' =>
       obtain ⟨rfl, hng, arr, el, hh, rfl, hfit, hcl, hk⟩ := hblk
       simp only at hok
       rcases hok with rfl | ⟨rfl, hf2⟩
       ·omega
       ·have hg' := hO b (by simp [eA]) _ _ _ _ hl
        have hmul : (off + n) * s ≤ es.length * s := az _ hle
        rw [a8] at hmul
        have := dG.sl (w := w) (G := G') ((es.drop off).take n) blk (o + off * s) arr el (0, 0) cap s hg' hh (by rw [hlen]; exact hcap) (by rw [hlen]; omega)
         (by
           intro i e he
           rw [aN] at he
           split at he
           ·rw [bF] at he; exact hcl _ _ he
           ·cases he)
         (by
           intro i e k c u he hc hu
           rw [aN] at he
           split at he
           ·rw [bF] at he
            exact (hk (off + i) e k c u he hc (by rw [a8]; rw [show o + (off * s + i * s) + k = o + off * s + i * s + k by omega]; exact hu)).1.mono (fun _ _ => rfl) hG
           ·cases he)
         (by
           intro i e k u he hks hu
           rw [aN] at he
           split at he
           ·rw [bF] at he
            have hcl' := hcl _ _ he
            exact (hk (off + i) e k (e.cells[k]'(by omega)) u he (by simp) (by rw [a8]; rw [show o + (off * s + i * s) + k = o + off * s + i * s + k by omega]; exact hu)).2
           ·cases he)
        rw [hlen] at this
        exact this
     | det => simp only at hok; omega
     | dead => exact hblk.elim
     | hole => exact hblk.elim
   ·cases h
  ·cases h
 ·cases h
theorem oP {G' : Nat → Prop} (hs : St w G ρ σ) (hG : ∀ k, G k → G' k) : ∀ {cs : List CV} {xs : List PV} {vs : List Value}, eU σ cs = some xs → cs.length = vs.length → (∀ (k : Nat) c v, cs[k]? = some c → vs[k]? = some v → bT w G ρ c v) →
 (∀ b ∈ cs.flatMap eA, ∀ (blk o t s : Nat), ρ[b]? = some (.lv blk o t s) → G' blk) → xs.length = vs.length ∧ ∀ (k : Nat) x v, xs[k]? = some x → vs[k]? = some v → dG w G' x v
 | [], xs, vs, h, hl, _, _ => by simp [eU] at h; subst h; exact ⟨hl, by simp⟩
 | c :: cs, xs, [], _, hl, _, _ => by simp at hl
 | c :: cs, xs, v :: vs, h, hl, hk, hO => by
   simp only [eU] at h
   split at h
   ·rename_i x hx
    simp only [au] at h
    obtain ⟨ys, hys, rfl⟩ := h
    obtain ⟨h1, h2⟩ := oP hs hG hys (by simpa using hl) (fun k c v hc hv => hk (k + 1) c v (by simpa using hc) (by simpa using hv)) (fun b hb => hO b (by simp only [cu, aF]; exact .inr hb))
    refine ⟨by simp [h1], ?_⟩
    intro k y u hy hu
    cases k with
    | zero =>
      simp at hy hu; subst hy hu
      exact oR hs hx (hk 0 c _ rfl rfl) hG fun b hb => hO b (by simp only [cu, aF]; exact .inl hb)
    | succ k => exact h2 k y u (by simpa using hy) (by simpa using hu)
   ·cases h
theorem nT {c : CV} {x : PV} {v : Value} {G' : Nat → Prop} (hs : St w G ρ σ) (h : frz σ c = some x) (hr : bT w G ρ c v) (hG : ∀ k, G k → G' k) (hO : ∀ b ∈ aV c, ∀ (blk o t s : Nat), ρ[b]? = some (.lv blk o t s) → G' blk) :
 dG w G' x v := by
 cases c with
 | agg cs =>
   simp only [frz, au] at h
   obtain ⟨xs, hxs, rfl⟩ := h
   obtain ⟨vs, rfl, hl, hk, h1⟩ := nO hr
   obtain ⟨h2, h3⟩ := oP hs hG hxs hl hk hO
   exact .agg xs vs h2 h3 h1
 | _ => simp only [frz] at h; simp only [aV] at hO; exact oR hs h hr hG hO
theorem vy {c : CV} {x : PV} (h : dD σ c = some x) : ∀ b ∈ eA c, b < σ.length := by
 cases c with
 | own b off n =>
   simp only [dD] at h
   split at h
   ·rename_i hb
    intro b' hb'
    simp [eA] at hb'
    subst hb'
    exact ba hb
   ·cases h
 | _ => intro b hb; simp [eA] at hb
theorem qX : ∀ {cs : List CV} {xs : List PV}, eU σ cs = some xs → ∀ b ∈ cs.flatMap eA, b < σ.length
 | [], _, _ => by simp
 | c :: cs, xs, h => by
   simp only [eU] at h
   split at h
   ·rename_i x hx
    simp only [au] at h
    obtain ⟨ys, hys, rfl⟩ := h
    intro b hb
    simp only [cu, aF] at hb
    rcases hb with hb | hb
    ·exact vy hx b hb
    ·exact qX hys b hb
   ·cases h
theorem ux {c : CV} {x : PV} (h : frz σ c = some x) : ∀ b ∈ aV c, b < σ.length := by
 cases c with
 | agg cs =>
   simp only [frz, au] at h
   obtain ⟨xs, hxs, rfl⟩ := h
   exact qX hxs
 | _ => simp only [frz] at h; simp only [aV]; exact vy h
theorem vx : ∀ {cs : List CV} {xs : List PV}, eG σ cs = some xs → ∀ b ∈ cs.flatMap aV, b < σ.length
 | [], _, _ => by simp
 | c :: cs, xs, h => by
   simp only [eG] at h
   split at h
   ·rename_i x hx
    simp only [au] at h
    obtain ⟨ys, hys, rfl⟩ := h
    intro b hb
    simp only [cu, aF] at hb
    rcases hb with hb | hb
    ·exact ux hx b hb
    ·exact vx hys b hb
   ·cases h
theorem sT {G' : Nat → Prop} (hs : St w G ρ σ) (hG : ∀ k, G k → G' k) : ∀ {cs : List CV} {xs : List PV} {vs : List Value}, eG σ cs = some xs → cs.length = vs.length → (∀ (k : Nat) c v, cs[k]? = some c → vs[k]? = some v → bT w G ρ c v) →
 (∀ b ∈ cs.flatMap aV, ∀ (blk o t s : Nat), ρ[b]? = some (.lv blk o t s) → G' blk) → xs.length = vs.length ∧ ∀ (k : Nat) x v, xs[k]? = some x → vs[k]? = some v → dG w G' x v
 | [], xs, vs, h, hl, _, _ => by simp [eG] at h; subst h; exact ⟨hl, by simp⟩
 | c :: cs, xs, [], _, hl, _, _ => by simp at hl
 | c :: cs, xs, v :: vs, h, hl, hk, hO => by
   simp only [eG] at h
   split at h
   ·rename_i x hx
    simp only [au] at h
    obtain ⟨ys, hys, rfl⟩ := h
    obtain ⟨h1, h2⟩ := sT hs hG hys (by simpa using hl) (fun k c v hc hv => hk (k + 1) c v (by simpa using hc) (by simpa using hv)) (fun b hb => hO b (by simp only [cu, aF]; exact .inr hb))
    refine ⟨by simp [h1], ?_⟩
    intro k y u hy hu
    cases k with
    | zero =>
      simp at hy hu; subst hy hu
      exact nT hs hx (hk 0 c _ rfl rfl) hG fun b hb => hO b (by simp only [cu, aF]; exact .inl hb)
    | succ k => exact h2 k y u (by simpa using hy) (by simpa using hu)
   ·cases h
theorem oN {cs : List CV} {xs : List PV} {vs : List Value} (hs : St w G ρ σ) (h : eG σ cs = some xs) (hl : cs.length = vs.length) (hk : ∀ (k : Nat) c v, cs[k]? = some c → vs[k]? = some v → bT w G ρ c v) :
 ∃ G' ρ', St w G' ρ' (eC σ cs) ∧ Ext w G ρ w G' ρ' ∧ xs.length = vs.length ∧ ∀ (k : Nat) x v, xs[k]? = some x → vs[k]? = some v → dG w G' x v := by
 obtain ⟨G', ρ', s1, e1, t1, d1⟩ := jE (cs.flatMap aV) G ρ σ hs (vx h)
 rw [← jB] at s1
 obtain ⟨h1, h2⟩ := sT hs e1.grow h hl hk (by
  intro b hb blk o t s hloc
  rcases t1 b blk o t s hloc with h | h
  ·rw [d1 b hb] at h; cases h
  ·exact h)
 exact ⟨G', ρ', s1, e1, h1, h2⟩
theorem yt {c : CV} {x : PV} {v : Value} (hs : St w G ρ σ) (h : frz σ c = some x) (hr : bT w G ρ c v) :
 ∃ G' ρ', St w G' ρ' (kill σ c) ∧ Ext w G ρ w G' ρ' ∧ dG w G' x v := by
 obtain ⟨G', ρ', s1, e1, t1, d1⟩ := jE (aV c) G ρ σ hs (ux h)
 rw [← jS] at s1
 refine ⟨G', ρ', s1, e1, nT hs h hr e1.grow ?_⟩
 intro b hb blk o t s hloc
 rcases t1 b blk o t s hloc with h | h
 ·rw [d1 b hb] at h; cases h
 ·exact h
end
section
variable {P : Program} {o : Oper} {w : World} {G : Nat → Prop} {ρ : List Loc} {σ : ar} {e : Env} {a : Act} {base : Nat} {sl : Option Nat}
theorem sY (vs us : Array Value) (off i : Nat) (h : off + us.size ≤ vs.size) :
 (us.zipIdx.foldl (fun cs (x : Value × Nat) => cs.setIfInBounds (off + x.2) x.1) vs)[i]? = if off ≤ i ∧ i < off + us.size then us[i - off]? else vs[i]? := by
 have := nj us.toList 0 off vs i
 rw [← Array.foldl_toList]
 simp only [Array.toList_zipIdx]
 rw [this]
 simp only [bw, fK]
 by_cases hc : off ≤ i ∧ i < off + us.size
 ·rw [if_pos hc, if_pos (by omega)]; simp
 ·rw [if_neg hc, if_neg (by omega)]
theorem pU (vs us : Array Value) (off : Nat) : (us.zipIdx.foldl (fun cs (x : Value × Nat) => cs.setIfInBounds (off + x.2) x.1) vs).size = vs.size := by
 rw [← Array.foldl_toList]
 generalize us.zipIdx.toList = l
 induction l generalizing vs with
 | nil => rfl
 | cons x l ih => rw [List.foldl_cons, ih]; simp
theorem nk {sz : Nat} : ∀ (l : List Value) (k : Nat) (vs : Array Value), (∀ v ∈ l, v.cells.size = sz) → (k + l.length) * sz ≤ vs.size →
 ∃ us, Instr.fill (fun i => some (i * sz, sz)) vs ((l.zipIdx k).map fun x => (x.2, x.1)) = some us ∧ us.size = vs.size ∧
  (∀ (i : Nat) v (j : Nat) u, l[i]? = some v → v.cells[j]? = some u → us[(k + i) * sz + j]? = some u) ∧ (∀ idx : Nat, idx < k * sz → us[idx]? = vs[idx]?)
 | [], k, vs, _, _ => ⟨vs, rfl, rfl, by simp, fun _ _ => rfl⟩
 | v :: l, k, vs, h, hf => by
   have hv := h v (by simp)
   have hf' : (k + 1 + l.length) * sz ≤ vs.size := by rw [show k + 1 + l.length = k + (v :: l).length by simp; omega]; exact hf
   have hk1 : (k + 1) * sz ≤ (k + 1 + l.length) * sz := az _ (by omega)
   rw [dX] at hk1
   obtain ⟨us, h1, h2, h3, h4⟩ := nk l (k + 1) (v.cells.zipIdx.foldl (fun cs (x : Value × Nat) => cs.setIfInBounds (k * sz + x.2) x.1) vs) (fun u hu => h u (by simp [hu])) (by rw [pU]; exact hf')
   refine ⟨us, ?_, by rw [h2, pU], ?_, ?_⟩
   ·simp only [List.zipIdx_cons, List.map_cons, Instr.fill]
    rw [if_neg (by simp [hv]; omega)]
    exact h1
   ·intro i x j u hi hj
    cases i with
    | zero =>
      simp at hi
      subst hi
      have hj' := c6 hj
      rw [bw, h4 _ (by rw [dX]; omega), sY _ _ _ _ (by omega), if_pos (by omega)]
      rw [show k * sz + j - k * sz = j by omega]
      exact hj
    | succ i =>
      have := h3 i x j u (by simpa using hi) hj
      rw [show k + (i + 1) = k + 1 + i by omega]
      exact this
   ·intro idx hidx
    rw [h4 idx (by rw [dX]; omega), sY _ _ _ _ (by omega), if_neg (by omega)]
theorem kt : ∀ (k : Nat) (ps : List (Nat × Operand)) (xs : List Opd), jO k ps xs = true → cX w G ρ e a.tmps →
 ∃ vs : List Value, (ps.map fun x => (x.1, a.eval x.2)) = (vs.zipIdx k).map (fun x => (x.2, x.1)) ∧ vs.length = xs.length ∧ ∀ (i : Nat) c v, (xs.map (vl e))[i]? = some c → vs[i]? = some v → bT w G ρ c v
 | _, [], [], _, _ => ⟨[], rfl, rfl, by simp⟩
 | k, (i, x) :: ps, y :: xs, h, he => by
   simp only [jO, aA, beq_iff_eq] at h
   obtain ⟨⟨rfl, h1⟩, h2⟩ := h
   obtain ⟨vs, e1, e2, e3⟩ := kt (i + 1) ps xs h2 he
   refine ⟨a.eval x :: vs, by simp [e1], by simp [e2], ?_⟩
   intro j c v hc hv
   cases j with
   | zero => simp at hc hv; subst hc hv; exact bk h1 he
   | succ j => exact e3 j c v (by simpa using hc) (by simpa using hv)
 | _, [], _ :: _, h, _ => by simp [jO] at h
 | _, _ :: _, [], h, _ => by simp [jO] at h
theorem t7 {t el : TypeId} {n sz : Nat} {ps : Array (Nat × Operand)} {xs : List Opd} {zv : Value} {i : TypeInfo} {r : CV × ar} (hs : St w G ρ σ) (he : cX w G ρ e a.tmps) (ho : o.op = .buildSlice t n ps)
 (ht : P.underlying t = some (.slice el)) (hi : P.info? el = some i) (hsz : i.size = sz) (hz : i.zero = some zv) (hzs : zv.cells.size = sz) (hn : n = xs.length) (hbig : n * sz ≤ 16777216) (hp : jO 0 ps.toList xs = true)
 (h : ev base sl (.bslice sz xs) e σ = some r) : b9 P o a w G ρ r.1 r.2 := by
 simp only [ev] at h
 split at h
 ·rename_i es hes
  split at h
  ·rename_i hall
   simp only [au] at h
   obtain ⟨⟨k, σ'⟩, hpush, rfl⟩ := h
   obtain ⟨vs, h1, h2, h3⟩ := kt 0 ps.toList xs hp he
   obtain ⟨G1, ρ1, s1, e1, h4, h5⟩ := oN hs hes (by simp [h2]) h3
   have hsize : ∀ v ∈ vs, v.cells.size = sz := by
    intro v hv
    obtain ⟨j, hj⟩ := List.getElem?_of_mem hv
    have hj' := ba hj
    have hx : es[j]? = some (es[j]'(by omega)) := by simp
    rw [← (h5 j _ _ hx hj).cells.1]
    simpa using aU.1 hall _ (List.getElem_mem (by omega))
   have hsz2 : szP P el = some sz := by simp [szP, hi, hsz]
   obtain ⟨us, u1, u2, u3, _⟩ := nk (sz := sz) vs 0 ((Array.range (n * sz)).map ((if n * sz = 0 then #[] else zv.cells)[·% (if n * sz = 0 then #[] else zv.cells).size]!)) hsize (by simp [h2, hn])
   have hus : us.size = n * sz := by rw [u2]; simp
   obtain ⟨ρ2, s2, e2, r2⟩ := mz (n := es.length) (cap := n) (w' := { w with heap := w.heap.push (.cells us el (0, 0)) }) s1 hpush rfl (by rw [h4, h2, hn]; exact av _) (by rw [hus]; exact av _) (by rw [hus, h4, h2, hn]; exact av _)
    (by intro j x hx; simpa using aU.1 hall x (bf hx))
    (by
      intro j x q c u hx hc hu
      have hj : j < vs.length := by rw [← h4]; exact ba hx
      have hvj : vs[j]? = some vs[j] := by simp
      have hrep := h5 j x _ hx hvj
      obtain ⟨c1, c2, c3⟩ := hrep.cells
      have hq : q < vs[j].cells.size := by rw [← c1]; exact ba hc
      have := u3 j vs[j] q vs[j].cells[q] hvj (by simp)
      rw [d8] at this
      rw [this] at hu
      cases hu
      exact ⟨c2 q c _ hc (by simp), c3 _ (by simp)⟩)
   have hlen : es.length = n := by rw [h4, h2, hn]
   rw [hlen] at r2
   refine ⟨.value _, _, _, G1, ρ2, ?_, .inl rfl, s2, e1.trans e2, by rw [hlen]; exact r2⟩
   have hps : (ps.map fun (i, x) => (i, a.eval x)).toList = ps.toList.map fun x => (x.1, a.eval x.2) := by simp
   rw [← h1] at u1
   simp only [execOp, ho, Instr.buildSlice, Sem.run_bind, run_underlying ht, Result.andThen_ok, run_sizeOf hsz2]
   rw [if_neg (by omega)]
   by_cases h0 : n * sz = 0
   ·simp only [if_pos h0] at u1
    rw [if_pos h0]
    simp only [Sem.run_bind, Sem.run_pure, Result.andThen_ok, hps, u1, newRow, run_newObj]
   ·simp only [if_neg h0] at u1
    rw [if_neg h0]
    have hzv : (zeroValue el).run P w = .ok zv w := by simp [zeroValue, typeInfo, hi, hz]
    simp only [Sem.run_bind, Sem.run_pure, Result.andThen_ok, hzv, hps, u1, newRow, run_newObj]
  ·cases h
 ·cases h
theorem dk {g : Nat} {old new : Array Value} {t : TypeId} {fr : Nat × Nat} (h : w.heap[g]? = some (.cells old t fr)) : (w.setRow g new).heap = w.heap.setIfInBounds g (.cells new t fr) := by
 have hlt := c6 h
 apply Array.ext'
 simp only [World.setRow, Array.toList_modify, Array.toList_setIfInBounds]
 apply dv
 intro i
 rw [List.getElem?_modify]
 by_cases hi : g = i
 ·subst hi
  have h' : w.heap.toList[g]? = some (.cells old t fr) := by simpa using h
  rw [aO (by simpa using hlt), h']
  simp
 ·rw [aE hi]
  cases w.heap.toList[i]? <;> simp [hi]
def wrote (arr : Array Value) (A : Nat) (vs : List Value) : Array Value := (arr.toList.take A ++ vs ++ arr.toList.drop (A + vs.length)).toArray
theorem iW {arr : Array Value} {A : Nat} {vs : List Value} (h : A + vs.length ≤ arr.size) (i : Nat) : (wrote arr A vs)[i]? = if A ≤ i ∧ i < A + vs.length then vs[i - A]? else arr[i]? := by
 have := fU arr.toList vs A i (by simpa using h)
 unfold wrote
 unfold setCells at this
 simpa using this
theorem ft {arr : Array Value} {A : Nat} {vs : List Value} (h : A + vs.length ≤ arr.size) : (wrote arr A vs).size = arr.size := by
 unfold wrote; simp; omega
theorem ny {t el : TypeId} {blk A sz : Nat} {arr : Array Value} {v : Value} (hz : szP P t = some sz) (hh : w.heap[blk]? = some (.cells arr el (0, 0))) (hv : v.cells.size = sz) (hf : A + sz ≤ arr.size) (h1 : ∀ u ∈ v.cells, u.oneCell' = true) :
 (Instr.storeAt t (.pointer (some ⟨blk, A, none⟩)) v).run P w = .ok () (w.setRow blk (wrote arr A v.cells.toList)) := by
 have hst := run_storeCells_at P blk A el v.cells.toList 0 arr w hh (by simp [hv]; omega) (by simpa using h1)
 simp only [bw] at hst
 simp only [Instr.storeAt, Instr.sureAddr, Sem.run_bind, Sem.run_pure, Result.andThen_ok, storeVar, run_sizeOf hz]
 rw [if_neg (by simp [hv])]
 exact hst
theorem jL {x y u : PV} {off sz : Nat} (hx : x.cells = [x]) (h : (if off = 0 ∧ sz = 1 then (match y with | .agg _ => none | y => some y) else none) = some u) :
 u.cells = setCells x.cells off y.cells ∧ off + y.cells.length ≤ x.cells.length ∧ y.cells.length = sz := by
 split at h
 ·rename_i hc
  obtain ⟨rfl, rfl⟩ := hc
  rw [hx]
  cases y <;> cases h <;> simp [PV.cells, setCells]
 ·cases h
theorem rN {x y u : PV} {off sz : Nat} (h : ke x off sz y = some u) : u.cells = setCells x.cells off y.cells ∧ off + y.cells.length ≤ x.cells.length ∧ y.cells.length = sz := by
 cases x with
 | agg cs =>
   simp only [ke] at h
   split at h
   ·rename_i hc
    cases h
    exact ⟨rfl, by simp only [PV.cells] at *; omega, hc.1⟩
   ·cases h
 | sl es => exact jL rfl h
 | int k n => exact jL rfl h
 | bool b => exact jL rfl h
 | str s => exact jL rfl h
theorem jq {α : Type} {cs xs : List α} {off : Nat} (h : off + xs.length ≤ cs.length) : (setCells cs off xs).length = cs.length := mf cs xs off h
theorem vW {sz : Nat} {t : TypeId} {p x : Operand} {p' x' : Opd} {r : CV × ar} (hs : St w G ρ σ) (he : cX w G ρ e a.tmps) (ho : o.op = .store t p x) (hp : bN p p' = true) (hx : bN x x' = true) (hz : szP P t = some sz)
 (h : ev base sl (.store sz p' x') e σ = some r) : b9 P o a w G ρ r.1 r.2 := by
 have h1 := bk hp he
 have h2 := bk hx he
 generalize hu : a.eval p = u at h1
 generalize hv : a.eval x = v at h2
 simp only [ev] at h
 split at h
 ·rename_i b i off hpv
  rw [hpv] at h1
  obtain ⟨ad, rfl, hptr⟩ := kU h1
  split at h
  ·rename_i s0 es0 hb0
   split at h
   ·rename_i pv hfrz
    obtain ⟨G1, ρ1, s1, e1, hrep⟩ := yt hs hfrz h2
    split at h
    ·rename_i s es hb
     split at h
     ·rename_i x0 hx0
      simp only [au] at h
      obtain ⟨x1, hx1, rfl⟩ := h
      obtain ⟨u1, u2, u3⟩ := rN hx1
      obtain ⟨l, hl, hblk⟩ := s1.get hb
      have hlt := ba hx0
      have hptr1 := hptr.mono e1.loc
      cases l with
      | lv blk o' tot s' =>
        have hblk' := hblk
        obtain ⟨rfl, hng, arr, el, hh, rfl, hfit, hcl, hk⟩ := hblk'
        simp only [ie, hl] at hptr1
        subst hptr1
        have hx0c := hcl i x0 hx0
        have hm : (i + 1) * s ≤ es.length * s := az _ hlt
        rw [dX] at hm
        obtain ⟨v1, v2, v3⟩ := hrep.cells
        have hvsz : v.cells.size = sz := by rw [← v1, u3]
        have hA : o' + i * s + off + sz ≤ arr.size := by omega
        have hrun := ny (P := P) hz hh hvsz hA v3
        have hlen : v.cells.toList.length = sz := by simpa using hvsz
        obtain ⟨s2, e2⟩ := s1.write (w' := w.setRow blk (wrote arr (o' + i * s + off) v.cells.toList)) hl (c6 hh) (dk hh) (b := .prow s (es.set i x1)) (by
         have hGsame : ∀ k, G1 k → (w.setRow blk (wrote arr (o' + i * s + off) v.cells.toList)).heap[k]? = w.heap[k]? := by
          intro k hk'
          rw [dk hh, Array.getElem?_setIfInBounds_ne]
          rintro rfl; exact hng hk'
         refine ⟨rfl, hng, wrote arr (o' + i * s + off) v.cells.toList, el, ?_, ft (by rw [hlen]; omega), by simpa using hfit, ?_, ?_⟩
         ·rw [dk hh, gu (c6 hh)]
         ·intro j y hy
          by_cases hji : i = j
          ·subst hji
           rw [aO hlt] at hy
           cases hy
           rw [u1, jq u2, hx0c]
          ·rw [aE hji] at hy; exact hcl j y hy
         ·intro j y k c q hy hc hq
          rw [iW (by rw [hlen]; omega), hlen] at hq
          by_cases hji : i = j
          ·subst hji
           rw [aO hlt] at hy
           cases hy
           rw [u1, fU _ _ _ _ u2, u3] at hc
           by_cases hin : off ≤ k ∧ k < off + sz
           ·rw [if_pos hin] at hc
            rw [if_pos (by omega), show o' + i * s + k - (o' + i * s + off) = k - off by omega] at hq
            have hq' : v.cells[k - off]? = some q := by simpa using hq
            exact ⟨(v2 _ c q hc hq').mono hGsame (fun _ y => y), v3 q (gk hq')⟩
           ·rw [if_neg hin] at hc
            rw [if_neg (by omega)] at hq
            obtain ⟨y1, y2⟩ := hk i x0 k c q hx0 hc hq
            exact ⟨y1.mono hGsame (fun _ y => y), y2⟩
          ·rw [aE hji] at hy
           have hks : k < s := by rw [← hcl j y hy]; exact ba hc
           have hout : ¬ (o' + i * s + off ≤ o' + j * s + k ∧ o' + j * s + k < o' + i * s + off + sz) := by
            rintro ⟨x2, x3⟩
            rcases Nat.lt_or_gt_of_ne hji with hlt2 | hlt2
            ·have := az s (show i + 1 ≤ j from hlt2)
             rw [dX] at this
             omega
            ·have := az s (show j + 1 ≤ i from hlt2)
             rw [dX] at this
             omega
           rw [if_neg hout] at hq
           obtain ⟨y1, y2⟩ := hk j y k c q hy hc hq
           exact ⟨y1.mono hGsame (fun _ y => y), y2⟩)
        refine ⟨.skip, undef, _, G1, ρ1, ?_, .inr ⟨rfl, rfl⟩, s2, e1.trans e2, .any _⟩
        simp only [execOp, ho, hu, hv, Sem.run_bind, hrun, Result.andThen_ok, Sem.run_pure]
      | det => simp only [ej] at hblk; subst hblk; simp at hlt
      | dead => exact hblk.elim
      | hole => exact hblk.elim
     ·cases h
    ·cases h
   ·cases h
  ·rename_i s cs hb
   split at h
   ·rename_i xs hxs
    split at h
    ·rename_i hc
     cases h
     have hcr := kV h2 hxs
     obtain ⟨l, hl, hblk⟩ := hs.get hb
     cases l with
     | lv blk o' tot s' =>
       obtain ⟨rfl, hng, arr, el, hh, rfl, hfit, hk⟩ := hblk
       simp only [ie, hl] at hptr
       subst hptr
       have hvsz : v.cells.size = sz := by rw [← hcr.len, hc.1]
       have hlen : v.cells.toList.length = sz := by simpa using hvsz
       have hA : o' + i * s + off + sz ≤ arr.size := by omega
       have hrun := ny (P := P) hz hh hvsz hA hcr.one
       have hsc : i * s + off + xs.length ≤ cs.length := by omega
       obtain ⟨s2, e2⟩ := hs.write (w' := w.setRow blk (wrote arr (o' + i * s + off) v.cells.toList)) hl (c6 hh) (dk hh) (b := .kblk s (setCells cs (i * s + off) xs)) (by
        have hGsame : ∀ k, G k → (w.setRow blk (wrote arr (o' + i * s + off) v.cells.toList)).heap[k]? = w.heap[k]? := by
         intro k hk'
         rw [dk hh, Array.getElem?_setIfInBounds_ne]
         rintro rfl; exact hng hk'
        refine ⟨rfl, hng, wrote arr (o' + i * s + off) v.cells.toList, el, ?_, ft (by rw [hlen]; omega), by rw [jq hsc]; exact hfit, ?_⟩
        ·rw [dk hh, gu (c6 hh)]
        ·intro k c q hck hq
         rw [fU _ _ _ _ hsc, hc.1] at hck
         rw [iW (by rw [hlen]; omega), hlen] at hq
         by_cases hin : i * s + off ≤ k ∧ k < i * s + off + sz
         ·rw [if_pos hin] at hck
          rw [if_pos (by omega), show o' + k - (o' + i * s + off) = k - (i * s + off) by omega] at hq
          have hq' : v.cells[k - (i * s + off)]? = some q := by simpa using hq
          exact ⟨(hcr.rep _ c q hck hq').mono hGsame (fun _ y => y) (cx.refl _), hcr.one q (gk hq')⟩
         ·rw [if_neg hin] at hck
          rw [if_neg (by omega)] at hq
          obtain ⟨y1, y2⟩ := hk k c q hck hq
          exact ⟨y1.mono hGsame (fun _ y => y) (cx.refl _), y2⟩)
       refine ⟨.skip, undef, _, G, ρ, ?_, .inr ⟨rfl, rfl⟩, s2, e2, .any _⟩
       simp only [execOp, ho, hu, hv, Sem.run_bind, hrun, Result.andThen_ok, Sem.run_pure]
     | det => exact hblk.elim
     | dead => exact hblk.elim
     | hole => exact hblk.elim
    ·cases h
   ·cases h
  ·cases h
 ·cases h
end
section
variable {P : Program} {o : Oper} {w : World} {G : Nat → Prop} {ρ : List Loc} {σ : ar} {e : Env} {a : Act} {base : Nat} {sl : Option Nat}
theorem ss {σ' : ar} {b : Blk} {k : Nat} {ρ : List Loc} (l : Loc) (hp : Vpi.push base sl σ b = some (k, σ')) (hlen : ρ.length = σ.length) :
 ∃ ρ' : List Loc, ρ'.length = σ'.length ∧ ρ'[k]? = some l ∧ σ'[k]? = some b ∧ (∀ (j : Nat) x, ρ'[j]? = some x → (j ≠ k ∧ ρ[j]? = some x ∧ σ'[j]? = σ[j]?) ∨ (j = k ∧ x = l)) ∧
  (∀ (j : Nat) x, ρ[j]? = some x → (j ≠ k ∧ ρ'[j]? = some x) ∨ (j = k ∧ σ[k]? = some .hole)) := by
 rcases m8 hp with ⟨rfl, rfl⟩ | ⟨hk, rfl⟩
 ·refine ⟨ρ ++ [l], by simp [hlen], by rw [← hlen]; simp, by simp, ?_, ?_⟩
  ·intro j x hj
   rcases ax j ρ.length with h1 | h1
   ·rw [aB h1] at hj
    exact .inl ⟨by omega, hj, by rw [aB (by omega)]⟩
   ·rw [aC h1] at hj
    have : j - ρ.length = 0 := by
     have := ba hj
     simp at this
     omega
    rw [this] at hj
    simp at hj
    exact .inr ⟨by omega, hj.symm⟩
  ·intro j x hj
   have := ba hj
   exact .inl ⟨by omega, by rw [aB this]; exact hj⟩
 ·have hlt : k < ρ.length := by rw [hlen]; exact ba hk
  refine ⟨ρ.set k l, by simp [hlen], by rw [aO hlt], by rw [aO (by omega)], ?_, ?_⟩
  ·intro j x hj
   by_cases hjk : k = j
   ·subst hjk; rw [aO hlt] at hj; cases hj; exact .inr ⟨rfl, rfl⟩
   ·rw [aE hjk] at hj
    exact .inl ⟨fun x => hjk x.symm, hj, by rw [aE hjk]⟩
  ·intro j x hj
   by_cases hjk : k = j
   ·subst hjk; exact .inr ⟨rfl, hk⟩
   ·exact .inl ⟨fun x => hjk x.symm, by rw [aE hjk]; exact hj⟩
theorem St.vj {σ' : ar} {k sz : Nat} (hs : St w G ρ σ) (hp : Vpi.push base sl σ (.prow sz []) = some (k, σ')) :
 ∃ ρ', St w G ρ' σ' ∧ Ext w G ρ w G ρ' ∧ ρ'[k]? = some .det := by
 obtain ⟨ρ', h1, h2, h3, h4, h5⟩ := ss .det hp hs.len
 have hloc : cx ρ ρ' := by
  intro j x hj
  rcases h5 j x hj with ⟨_, h⟩ | ⟨rfl, h⟩
  ·exact .inl h
  ·have := hs.ok _ _ _ hj h
   unfold ej at this
   split at this <;> simp_all
 refine ⟨ρ', ⟨hs.g, h1, ?_, ?_⟩, ⟨⟨rfl, rfl, rfl⟩, hloc, av _, fun _ x => x, fun _ x => .inl x, fun _ _ _ => rfl, ?_⟩, h2⟩
 ·intro i j q o1 t1 s1 o2 t2 s2 hi hj
  rcases h4 i _ hi with ⟨_, hi, _⟩ | ⟨_, hi⟩
  ·rcases h4 j _ hj with ⟨_, hj, _⟩ | ⟨_, hj⟩
   ·exact hs.inj i j q o1 t1 s1 o2 t2 s2 hi hj
   ·cases hj
  ·cases hi
 ·intro i l b hi hb
  rcases h4 i _ hi with ⟨hne, hi, he⟩ | ⟨rfl, rfl⟩
  ·rw [he] at hb
   exact (hs.ok i l b hi hb).mono (fun _ _ => rfl) (fun _ x => x) hloc fun _ _ _ _ _ => ⟨rfl, id⟩
  ·rw [h3] at hb; cases hb; rfl
 ·rintro q ⟨i, o1, t1, s1, hi⟩
  rcases h4 i _ hi with ⟨_, hi, _⟩ | ⟨_, hi⟩
  ·exact .inl ⟨i, o1, t1, s1, hi⟩
  ·cases hi
theorem St.xD {σ' : ar} {i k : Nat} {li l : Loc} {b : Blk} (hs : St w G ρ σ) (hi : ρ[i]? = some li) (hp : Vpi.push base sl (σ.set i .dead) b = some (k, σ'))
 (hl : ∀ (blk o t s : Nat), l = .lv blk o t s → ∃ o' t' s', li = .lv blk o' t' s') (hb : ∀ ρ', cx ρ ρ' → ej w G ρ' l b) :
 ∃ ρ', St w G ρ' σ' ∧ Ext w G ρ w G ρ' ∧ ρ'[k]? = some l := by
 have hilt := ba hi
 obtain ⟨ρ', h1, h2, h3, h4, h5⟩ := ss (ρ := ρ.set i .dead) l hp (by simp [hs.len])
 have hset : ∀ (j : Nat) x, (ρ.set i Loc.dead)[j]? = some x → (j ≠ i ∧ ρ[j]? = some x) ∨ (j = i ∧ x = .dead) := by
  intro j x hj
  by_cases hji : i = j
  ·subst hji; rw [aO hilt] at hj; cases hj; exact .inr ⟨rfl, rfl⟩
  ·rw [aE hji] at hj; exact .inl ⟨fun x => hji x.symm, hj⟩
 have hloc : cx ρ ρ' := by
  intro j x hj
  by_cases hji : i = j
  ·subst hji
   have h0 : (ρ.set i Loc.dead)[i]? = some .dead := by rw [aO hilt]
   rcases h5 i _ h0 with ⟨_, h⟩ | ⟨hk, h⟩
   ·exact .inr (.inl h)
   ·subst hk; rw [aO (by rw [← hs.len]; exact hilt)] at h; cases h
  ·have h0 : (ρ.set i Loc.dead)[j]? = some x := by rw [aE hji]; exact hj
   rcases h5 j _ h0 with ⟨_, h⟩ | ⟨hk, h⟩
   ·exact .inl h
   ·subst hk
    rw [aE hji] at h
    have := hs.ok _ _ _ hj h
    unfold ej at this
    split at this <;> simp_all
 refine ⟨ρ', ⟨hs.g, h1, ?_, ?_⟩, ⟨⟨rfl, rfl, rfl⟩, hloc, av _, fun _ x => x, fun _ x => .inl x, fun _ _ _ => rfl, ?_⟩, h2⟩
 ·intro x y q o1 t1 s1 o2 t2 s2 hx hy
  rcases h4 x _ hx with ⟨hxk, hx, _⟩ | ⟨hxk, hx⟩ <;> rcases h4 y _ hy with ⟨hyk, hy, _⟩ | ⟨hyk, hy⟩
  ·rcases hset x _ hx with ⟨_, hx⟩ | ⟨_, hx⟩
   ·rcases hset y _ hy with ⟨_, hy⟩ | ⟨_, hy⟩
    ·exact hs.inj x y q o1 t1 s1 o2 t2 s2 hx hy
    ·cases hy
   ·cases hx
  ·rcases hset x _ hx with ⟨hxi, hx⟩ | ⟨_, hx⟩
   ·obtain ⟨o', t', s', rfl⟩ := hl _ _ _ _ hy.symm
    exact absurd (hs.inj x i q o1 t1 s1 o' t' s' hx hi) hxi
   ·cases hx
  ·rcases hset y _ hy with ⟨hyi, hy⟩ | ⟨_, hy⟩
   ·obtain ⟨o', t', s', rfl⟩ := hl _ _ _ _ hx.symm
    exact absurd (hs.inj y i q o2 t2 s2 o' t' s' hy hi) hyi
   ·cases hy
  ·omega
 ·intro j x y hj hy
  rcases h4 j _ hj with ⟨hne, hj, he⟩ | ⟨rfl, rfl⟩
  ·rw [he] at hy
   rcases hset j _ hj with ⟨hji, hj⟩ | ⟨rfl, rfl⟩
   ·rw [aE (fun z => hji z.symm)] at hy
    exact (hs.ok j x y hj hy).mono (fun _ _ => rfl) (fun _ x => x) hloc fun _ _ _ _ _ => ⟨rfl, id⟩
   ·rw [aO (by rw [← hs.len]; exact hilt)] at hy
    cases hy
    trivial
  ·rw [h3] at hy; cases hy; exact hb _ hloc
 ·rintro q ⟨x, o1, t1, s1, hx⟩
  rcases h4 x _ hx with ⟨_, hx, _⟩ | ⟨_, hx⟩
  ·rcases hset x _ hx with ⟨_, hx⟩ | ⟨_, hx⟩
   ·exact .inl ⟨x, o1, t1, s1, hx⟩
   ·cases hx
  ·obtain ⟨o', t', s', rfl⟩ := hl _ _ _ _ hx.symm
   exact .inl ⟨i, o', t', s', hi⟩
theorem jk {c : CV} {xs : List PV} {v : Value} {sz : Nat} (hs : St w G ρ σ) (h : content σ c = some xs) (hr : bT w G ρ c v) (hall : dE sz xs = true) :
 ∃ (ad : Option Addr) (cap : Nat) (us : List Value), v = .slice ad xs.length cap ∧ xs.length ≤ cap ∧ us.length = xs.length * sz ∧ (∀ A, ad = some A → ∀ (j : Nat) u, us[j]? = some u → w.cell? (A.add j) = some u) ∧ (ad = none → xs = []) ∧
  (∀ (i : Nat) x (k : Nat) c u, xs[i]? = some x → x.cells[k]? = some c → us[i * sz + k]? = some u → dG w G c u) ∧ ∀ u ∈ us, u.oneCell' = true := by
 have hall' : ∀ (i : Nat) x, xs[i]? = some x → x.cells.length = sz := fun i x hx => by simpa using aU.1 hall x (bf hx)
 have key : ∀ (ad : Option Addr) (cap blk B : Nat) (arr : Array Value) (el : TypeId) (fr : Nat × Nat), xs ≠ [] → v = .slice ad xs.length cap → xs.length ≤ cap → ad = some ⟨blk, B, none⟩ → w.heap[blk]? = some (.cells arr el fr) → B + xs.length * sz ≤ arr.size →
  (∀ (i : Nat) x (k : Nat) c u, xs[i]? = some x → x.cells[k]? = some c → arr[B + i * sz + k]? = some u → dG w G c u ∧ u.oneCell' = true) →
  ∃ (ad : Option Addr) (cap : Nat) (us : List Value), v = .slice ad xs.length cap ∧ xs.length ≤ cap ∧ us.length = xs.length * sz ∧ (∀ A, ad = some A → ∀ (j : Nat) u, us[j]? = some u → w.cell? (A.add j) = some u) ∧ (ad = none → xs = []) ∧
  (∀ (i : Nat) x (k : Nat) c u, xs[i]? = some x → x.cells[k]? = some c → us[i * sz + k]? = some u → dG w G c u) ∧ ∀ u ∈ us, u.oneCell' = true := by
  intro ad cap blk B arr el fr hne hv hcap had hh hfit hk
  have hget : ∀ j : Nat, j < xs.length * sz → ((arr.toList.drop B).take (xs.length * sz))[j]? = arr[B + j]? := by
   intro j hj
   rw [aN, if_pos hj, bF]
   simp
  refine ⟨ad, cap, (arr.toList.drop B).take (xs.length * sz), hv, hcap, by simp; omega, ?_, (by rw [had]; intro x; cases x), ?_, ?_⟩
  ·intro A hA j u hu
   rw [had] at hA
   cases hA
   have hj := ba hu
   rw [hget j (by simp at hj; omega)] at hu
   rw [iN, nX hh]
   exact hu
  ·intro i x k c u hx hc hu
   have hi := ba hx
   have hkk := ba hc
   rw [hall' i x hx] at hkk
   have : (i + 1) * sz ≤ xs.length * sz := az _ hi
   rw [dX] at this
   rw [hget _ (by omega), ← dh] at hu
   exact (hk i x k c u hx hc hu).1
  ·intro u hu
   obtain ⟨j, hj⟩ := List.getElem?_of_mem hu
   have hjl := ba hj
   simp at hjl
   have hj2 : j < xs.length * sz := by omega
   rw [hget j hj2] at hj
   rcases eu sz with h0 | h0
   ·subst h0; simp at hj2
   ·have hq : j / sz < xs.length := Nat.div_lt_of_lt_mul (by rw [a7]; exact hj2)
    have hx : xs[j / sz]? = some (xs[j / sz]) := by simp
    have hm : j % sz < (xs[j / sz]).cells.length := by rw [hall' _ _ hx]; exact ep _ h0
    have hj3 : arr[B + j / sz * sz + j % sz]? = some u := by
     rw [dh, Nat.div_add_mod' j sz]; exact hj
    exact (hk _ _ (j % sz) ((xs[j / sz]).cells[j % sz]'hm) u hx (bG hm) hj3).2
 have empty : xs = [] → ∀ (ad : Option Addr) (cap : Nat), v = .slice ad xs.length cap → ∃ (ad : Option Addr) (cap : Nat) (us : List Value), v = .slice ad xs.length cap ∧ xs.length ≤ cap ∧ us.length = xs.length * sz ∧ (∀ A, ad = some A → ∀ (j : Nat) u, us[j]? = some u → w.cell? (A.add j) = some u) ∧ (ad = none → xs = []) ∧
  (∀ (i : Nat) x (k : Nat) c u, xs[i]? = some x → x.cells[k]? = some c → us[i * sz + k]? = some u → dG w G c u) ∧ ∀ u ∈ us, u.oneCell' = true := by
  intro h0 ad cap hv
  exact ⟨ad, cap, [], hv, by rw [h0]; simp, by rw [h0]; simp, by simp, fun _ => h0, by simp, by simp⟩
 unfold content at h
 split at h
 ·cases h
  obtain ⟨ad, cap, rfl, hcap, hcase⟩ := qI (gX hr)
  rcases hcase with h0 | ⟨blk, off, arr, el, fr, s, rfl, hg, hh, hfit, hlen, hk⟩
  ·exact empty h0 ad cap rfl
  ·by_cases h0 : xs = []
   ·exact empty h0 _ cap rfl
   ·obtain ⟨x, hx⟩ : ∃ x, xs[0]? = some x := by
     cases xs with
     | nil => exact absurd rfl h0
     | cons x l => exact ⟨x, rfl⟩
    have hss : s = sz := by rw [← hlen 0 x hx, hall' 0 x hx]
    subst hss
    exact key _ cap blk off arr el fr h0 rfl hcap rfl hh hfit hk
 ·cases h
  have := gw hr
  exact empty rfl none 0 this
 ·rename_i b off n
  split at h
  ·rename_i s es hb
   split at h
   ·rename_i hle
    cases h
    obtain ⟨ad, cap, rfl, hcap, hok⟩ := fV hr
    have hlen : ((es.drop off).take n).length = n := by simp; omega
    by_cases h0 : (es.drop off).take n = []
    ·exact empty h0 ad cap (by rw [hlen])
    ·have hn : n ≠ 0 := by rintro rfl; exact h0 (by simp)
     obtain ⟨l, hl, hblk⟩ := hs.get hb
     simp only [dJ, hl] at hok
     cases l with
     | lv blk o' t s' =>
       obtain ⟨rfl, hng, arr, el, hh, rfl, hfit, hcl, hk⟩ := hblk
       simp only at hok
       rcases hok with rfl | ⟨rfl, hf2⟩
       ·omega
       ·have hx0 : (es.drop off)[0]? = some (es[off]'(by omega)) := by simp
        have hss : s = sz := by
         rw [← hcl off (es[off]'(by omega)) (by simp)]
         exact hall' 0 _ (by rw [aN, if_pos (by omega)]; exact hx0)
        subst hss
        have hmul : (off + n) * s ≤ es.length * s := az _ hle
        rw [a8] at hmul
        refine key _ cap blk (o' + off * s) arr el (0, 0) h0 (by rw [hlen]) (by rw [hlen]; exact hcap) rfl hh (by rw [hlen]; omega) ?_
        intro i x k c u hx hc hu
        rw [aN] at hx
        split at hx
        ·rw [bF] at hx
         exact hk (off + i) x k c u hx hc (by rw [a8, show o' + (off * s + i * s) + k = o' + off * s + i * s + k by omega]; exact hu)
        ·cases hx
     | det => simp only at hok; omega
     | dead => exact hblk.elim
     | hole => exact hblk.elim
   ·cases h
  ·cases h
 ·cases h
theorem pH {size n cap : Nat} {ad : Option Addr} {us : List Value} {w' : World} (hl : us.length = n * size) (h : ∀ A, ad = some A → ∀ (j : Nat) u, us[j]? = some u → w'.cell? (A.add j) = some u) (hn : ad = none → n = 0) :
 (Builtin.firstCells size n (.slice ad n cap)).run P w' = .ok us.toArray w' := by
 cases ad with
 | none =>
   have := hn rfl
   subst this
   have : us = [] := by simpa using hl
   subst this
   simp [Builtin.firstCells]
 | some A => exact run_firstCells_some (P := P) w' size n A n cap us hl (h A rfl)
theorem iT {t el ty : TypeId} {i : TypeInfo} {n cap m bcap : Nat} {ad bd : Option Addr} {us : List Value} {w' : World} (ht : P.underlying t = some (.slice el)) (hi : P.info? el = some i) (hl : us.length = m * i.size)
 (h : ∀ A, bd = some A → ∀ (j : Nat) u, us[j]? = some u → w.cell? (A.add j) = some u) (hn : bd = none → m = 0) (hroom : n + m ≤ cap)
 (hst : match ad with | some A => (storeCells (A.add (n * i.size)) us).run P w = .ok () w' | none => w' = w) :
 (Builtin.append_ #[t, t] ty #[.slice ad n cap, .slice bd m bcap]).run P w = .ok (.slice ad (n + m) cap) w' := by
 have hf := pH (P := P) (cap := bcap) (w' := w) hl h hn
 cases ad with
 | none => subst hst; simp [Builtin.append_, run_underlying ht, sizeOf, typeInfo, hi, Builtin.lenOf, hroom, hf]
 | some A => simp [Builtin.append_, run_underlying ht, sizeOf, typeInfo, hi, Builtin.lenOf, hroom, hf, hst]
theorem lj {t el ty : TypeId} {i : TypeInfo} {z : Value} {n cap m bcap : Nat} {ad bd : Option Addr} {os us : List Value} (ht : P.underlying t = some (.slice el)) (hi : P.info? el = some i) (hz : i.zero = some z) (hlo : os.length = n * i.size) (hl : us.length = m * i.size)
 (ho : ∀ A, ad = some A → ∀ (j : Nat) u, os[j]? = some u → w.cell? (A.add j) = some u) (hno : ad = none → n = 0 ∧ cap = 0)
 (h : ∀ A, bd = some A → ∀ (j : Nat) u, us[j]? = some u → w.cell? (A.add j) = some u) (hn : bd = none → m = 0) (hg : cap < n + m) (hncap : n ≤ cap) (hbytes : (n + m) * i.bytes ≤ 140737488355328) (h63 : ((n + m : Nat) : Int) ≤ 9223372036854775807) :
 (Builtin.append_ #[t, t] ty #[.slice ad n cap, .slice bd m bcap]).run P w =
  .ok (.slice (some ⟨w.heap.size, 0, none⟩) (n + m) (grownCap w (n + m) cap el)) (w.drew.alloc (.cells (os.toArray ++ us.toArray ++ Builtin.zeroCells z.cells (grownCap w (n + m) cap el - (n + m))) el)) := by
 cases bd with
 | none => have := hn rfl; omega
 | some B =>
   cases ad with
   | none =>
     obtain ⟨rfl, rfl⟩ := hno rfl
     have : os = [] := by simpa using hlo
     subst this
     have := run_append_nil (P := P) w t ty el i z ht hi hz B m bcap us hl (h B rfl) (by omega) (by omega) (by rw [d8] at hbytes; omega)
     simp only [d8]
     rw [this]
     simp
   | some A =>
     exact run_append_grow (P := P) w t ty el i z ht hi hz A n cap os hlo (ho A rfl) B m bcap us hl (h B rfl) hg h63 (growslice_fits hg hbytes)
theorem u5 {os us zs : List Value} {A B : List PV} {sz i k : Nat} {x : PV} (hlo : os.length = A.length * sz) (hl : us.length = B.length * sz) (hx : (A ++ B)[i]? = some x) (hk : k < sz) :
 (i < A.length ∧ A[i]? = some x ∧ (os ++ us ++ zs)[i * sz + k]? = os[i * sz + k]?) ∨ (A.length ≤ i ∧ B[i - A.length]? = some x ∧ (os ++ us ++ zs)[i * sz + k]? = us[(i - A.length) * sz + k]?) := by
 rcases ax i A.length with h | h
 ·rw [aB h] at hx
  have : (i + 1) * sz ≤ A.length * sz := az _ h
  rw [dX] at this
  exact .inl ⟨h, hx, by rw [aP, aB (by omega)]⟩
 ·rw [aC h] at hx
  have hb := ba hx
  have : (i - A.length + 1) * sz ≤ B.length * sz := az _ hb
  rw [dX] at this
  have hmul : i * sz = A.length * sz + (i - A.length) * sz := by rw [← a8]; congr 1; omega
  refine .inr ⟨h, hx, ?_⟩
  rw [aP, aC (by omega), aB (by omega)]
  congr 1; omega
theorem nE {c : Call} {x y : Operand} {t : TypeId} (ho : o.op = .call c) (hc1 : c.callee = .builtin .append) (hc2 : c.args = #[x, y]) (hc3 : c.argTypes = #[t, t]) :
 (execOp a.eval o).run P w = ((Builtin.append_ #[t, t] o.type #[a.eval x, a.eval y]).run P w).andThen fun v w => .ok (.value v) w := by
 simp [execOp, ho, resolve, hc1, hc2, hc3, invoke, builtin]
theorem t8 {sz bytes : Nat} {t el : TypeId} {x y : Operand} {x' y' : Opd} {i : TypeInfo} {z : Value} {r : CV × ar} (hs : St w G ρ σ) (he : cX w G ρ e a.tmps) (ho : ∃ c : Call, o.op = .call c ∧ c.callee = .builtin .append ∧ c.args = #[x, y] ∧ c.argTypes = #[t, t])
 (hx : bN x x' = true) (hy : bN y y' = true) (ht : P.underlying t = some (.slice el)) (hi : P.info? el = some i) (hsz : i.size = sz) (hby : i.bytes = bytes) (hz : i.zero = some z) (hzs : z.cells.size = sz) (h0 : sz ≠ 0) (hb0 : bytes ≠ 0)
 (h : ev base sl (.append sz bytes x' y') e σ = some r) : b9 P o a w G ρ r.1 r.2 := by
 have r1 := bk hx he
 have r2 := bk hy he
 obtain ⟨c, ho, hc1, hc2, hc3⟩ := ho
 have exec := nE (P := P) (w := w) (a := a) ho hc1 hc2 hc3
 generalize hu : a.eval x = u at r1
 generalize hv : a.eval y = v at r2
 rw [hu, hv] at exec
 simp only [ev] at h
 split at h
 ·rename_i A B hA hB
  split at h
  ·rename_i hcond
   obtain ⟨hbytes, hallB⟩ := hcond
   obtain ⟨bd, bcap, us, rfl, hbcap, hul, hucell, hunone, hurep, hu1⟩ := jk hs hB r2 hallB
   subst hsz hby
   have h63 : ((A.length + B.length : Nat) : Int) ≤ 9223372036854775807 := by
    have : (A.length + B.length) * 1 ≤ (A.length + B.length) * i.bytes := bH _ (by omega)
    omega
   have fresh : ∀ {G1 : Nat → Prop} {ρ1 : List Loc} {σ1 σ' : ar} {k : Nat} {ad : Option Addr} {cap : Nat} {os : List Value}, St w G1 ρ1 σ1 → Ext w G ρ w G1 ρ1 → Vpi.push base sl σ1 (.prow i.size (A ++ B)) = some (k, σ') → r = (.own k 0 (A.length + B.length), σ') → u = .slice ad A.length cap → os.length = A.length * i.size →
    (∀ A', ad = some A' → ∀ (j : Nat) u, os[j]? = some u → w.cell? (A'.add j) = some u) → (ad = none → A.length = 0 ∧ cap = 0) → cap < A.length + B.length → A.length ≤ cap → dE i.size A = true → ((A.length + B.length : Nat) : Int) ≤ 9223372036854775807 →
    (∀ (j : Nat) x (k : Nat) c q, A[j]? = some x → x.cells[k]? = some c → os[j * i.size + k]? = some q → dG w G1 c q) → (∀ q ∈ os, q.oneCell' = true) → b9 P o a w G ρ r.1 r.2 := by
    intro G1 ρ1 σ1 σ' k ad cap os s1 e1 hp hr hua hol hoc hon hg hnc hallA h63 horep ho1
    subst hr hua
    have hrun := lj (P := P) (w := w) (ty := o.type) (bcap := bcap) ht hi hz hol hul hoc hon hucell (fun x => by rw [hunone x]; rfl) hg hnc hbytes h63
    have hge := grownCap_ge w (A.length + B.length) cap el
    have hAc : ∀ (j : Nat) x, A[j]? = some x → x.cells.length = i.size := fun j x hx => by simpa using aU.1 hallA x (bf hx)
    have hBc : ∀ (j : Nat) x, B[j]? = some x → x.cells.length = i.size := fun j x hx => by simpa using aU.1 hallB x (bf hx)
    have hABc : ∀ (j : Nat) x, (A ++ B)[j]? = some x → x.cells.length = i.size := by
     intro j x hx
     rcases ax j A.length with h1 | h1
     ·rw [aB h1] at hx; exact hAc j x hx
     ·rw [aC h1] at hx; exact hBc _ x hx
    have harr : (os.toArray ++ us.toArray ++ Builtin.zeroCells z.cells (grownCap w (A.length + B.length) cap el - (A.length + B.length))).size = grownCap w (A.length + B.length) cap el * i.size := by
     simp only [Array.size_append, List.size_toArray, hol, hul, size_zeroCells, hzs]
     rw [← a8, ← a8]
     congr 1; omega
    obtain ⟨ρ2, s2, e2, rep2⟩ := mz (n := A.length + B.length) (w' := w.drew.alloc (.cells (os.toArray ++ us.toArray ++ Builtin.zeroCells z.cells (grownCap w (A.length + B.length) cap el - (A.length + B.length))) el)) s1 hp rfl hge (by rw [harr]; exact av _)
     (by rw [harr, bX]; exact az _ hge) hABc
     (by
       intro j x q c p hx hc hp'
       have hq : q < i.size := by rw [← hABc j x hx]; exact ba hc
       have hget : (os ++ us ++ (Builtin.zeroCells z.cells (grownCap w (A.length + B.length) cap el - (A.length + B.length))).toList)[j * i.size + q]? = some p := by
        have : (os.toArray ++ us.toArray ++ Builtin.zeroCells z.cells (grownCap w (A.length + B.length) cap el - (A.length + B.length))).toList = os ++ us ++ (Builtin.zeroCells z.cells (grownCap w (A.length + B.length) cap el - (A.length + B.length))).toList := by simp
        rw [← this, Array.getElem?_toList]
        exact hp'
       rcases u5 (zs := (Builtin.zeroCells z.cells (grownCap w (A.length + B.length) cap el - (A.length + B.length))).toList) hol hul hx hq with ⟨h1, h2, h3⟩ | ⟨h1, h2, h3⟩
       ·rw [h3] at hget
        exact ⟨horep j x q c p h2 hc hget, ho1 p (bf hget)⟩
       ·rw [h3] at hget
        exact ⟨(hurep _ x q c p h2 hc hget).mono (fun _ _ => rfl) e1.grow, hu1 p (bf hget)⟩)
    refine ⟨.value _, _, _, G1, ρ2, ?_, .inl rfl, s2, e1.trans e2, rep2⟩
    rw [exec, hrun]; rfl
   split at h
   ·-- nil
    rename_i hnil
    rw [hnil] at r1 hA
    have hu0 := gw r1
    subst hu0
    simp only [content, Option.some.injEq] at hA
    subst hA
    simp only [au] at h
    obtain ⟨⟨k, σ'⟩, hp, hr⟩ := h
    by_cases hm : B.length = 0
    ·have hB0 : B = [] := by simpa using hm
     subst hB0
     obtain ⟨ρ', s1, e1, hk⟩ := hs.vj hp
     subst hr
     have hrun := iT (P := P) (w := w) (ty := o.type) (n := 0) (cap := 0) (ad := none) (bcap := bcap) (w' := w) ht hi hul hucell (fun _ => rfl) (by simp) rfl
     refine ⟨.value _, _, w, G, ρ', by rw [exec, hrun]; rfl, .inl rfl, s1, e1, ?_⟩
     exact .own _ _ _ _ _ (by simp) (by simp [dJ, hk])
    ·exact fresh (os := []) hs Ext.refl hp hr.symm rfl (by simp) (by simp) (fun _ => ⟨rfl, rfl⟩) (by simp; omega) (by simp) (by simp [dE]) h63 (by simp) (by simp)
   ·-- a block of our own
    rename_i b off n hown
    split at h
    ·rename_i s es hb
     split at h
     ·rename_i hss
      subst hss
      simp only [au] at h
      obtain ⟨⟨k, σ'⟩, hp, hr⟩ := h
      rw [hown] at r1 hA
      have r1' := r1
      obtain ⟨ad, cap, rfl, hcap, hok⟩ := fV r1
      obtain ⟨l, hl, hblk⟩ := hs.get hb
      have hA' := hA
      simp only [content, hb] at hA'
      split at hA'
      ·rename_i hle
       cases hA'
       have hlen : ((es.drop off).take n).length = n := by simp; omega
       have hcl : ∀ (j : Nat) x, es[j]? = some x → x.cells.length = i.size := by
        cases l with
        | lv blk o' t s' => obtain ⟨rfl, _, _, _, _, _, _, hcl, _⟩ := hblk; exact hcl
        | det => simp only [ej] at hblk; subst hblk; simp
        | dead => exact hblk.elim
        | hole => exact hblk.elim
       have hallA : dE i.size ((es.drop off).take n) = true := by
        rw [dE, aU]
        intro x hx
        have := List.mem_of_mem_drop (List.mem_of_mem_take hx)
        obtain ⟨j, hj⟩ := List.getElem?_of_mem this
        simpa using hcl j x hj
       obtain ⟨ad2, cap2, os, he2, _, hol, hocell, honone, horep, ho1⟩ := jk hs hA r1' hallA
       simp only [Value.slice.injEq] at he2
       obtain ⟨rfl, _, rfl⟩ := he2
       rw [hlen] at hol h63 hbytes
       have hdie : ∃ G1 ρ1, St w G1 ρ1 (σ.set b .dead) ∧ Ext w G ρ w G1 ρ1 := by
        cases l with
        | lv blk o' t s' => obtain ⟨x1, x2⟩ := hs.Ae hl; exact ⟨_, _, x1, x2⟩
        | det => obtain ⟨x1, x2⟩ := hs.mL hl (by rintro ⟨_, _, _, _, x⟩; cases x); exact ⟨_, _, x1, x2⟩
        | dead => exact hblk.elim
        | hole => exact hblk.elim
       rcases ax cap (n + B.length) with hroom | hroom
       ·obtain ⟨G1, ρ1, s1, e1⟩ := hdie
        refine fresh (os := os) (cap := cap) (ad := ad) s1 e1 hp hr.symm (by rw [hlen]) (by rw [hlen]; exact hol) hocell ?_ (by rw [hlen]; exact hroom) (by rw [hlen]; exact hcap) hallA (by rw [hlen]; exact h63) ?_ ho1
        ·intro hnone
         have := honone hnone
         refine ⟨by rw [this]; rfl, ?_⟩
         simp only [dJ, hl] at hok
         cases l with
         | lv blk o' t s' =>
           simp only at hok
           rcases hok with h | ⟨h, _⟩
           ·exact h
           ·rw [hnone] at h; cases h
         | det => exact hok
         | dead => exact hblk.elim
         | hole => exact hblk.elim
        ·intro j x k c q h1 h2 h3
         exact (horep j x k c q h1 h2 h3).mono (fun _ _ => rfl) e1.grow
       ·-- there is room
        by_cases hm : B.length = 0
        ·have hB0 : B = [] := by simpa using hm
         subst hB0
         have hus : us = [] := by simpa using hul
         subst hus
         have hrun := iT (P := P) (w := w) (ty := o.type) (n := n) (cap := cap) (ad := ad) (bcap := bcap) (w' := w) ht hi hul hucell (fun x => rfl) (by simpa using hcap) (by cases ad <;> rfl)
         have hnewloc : ∃ l', (∀ (blk o t s : Nat), l' = .lv blk o t s → ∃ o' t' s', l = .lv blk o' t' s') ∧ (∀ ρ', cx ρ ρ' → ej w G ρ' l' (.prow i.size ((es.drop off).take n))) ∧
          (match l' with | .lv blk o tot sz => cap = 0 ∨ (ad = some ⟨blk, o + 0 * sz, none⟩ ∧ o + (0 + cap) * sz ≤ tot) | .det => cap = 0 | _ => False) := by
          cases l with
          | lv blk o' t s' =>
            obtain ⟨rfl, hng, arr, el', hh, rfl, hfit, hcl2, hk2⟩ := hblk
            simp only [dJ, hl] at hok
            rcases hok with hc0 | ⟨hada, hf2⟩
            ·refine ⟨.det, by simp, ?_, hc0⟩
             intro ρ' _
             have : n = 0 := by omega
             subst this
             simp [ej]
            ·have hmul : (off + n) * i.size ≤ es.length * i.size := az _ hle
             rw [a8] at hmul
             refine ⟨.lv blk (o' + off * i.size) arr.size i.size, ?_, ?_, .inr ⟨by simpa using hada, by rw [a8] at hf2; simpa [dh] using hf2⟩⟩
             ·rintro blk' o2 t2 s2 h2; cases h2; exact ⟨_, _, _, rfl⟩
             ·intro ρ' _
              refine ⟨rfl, hng, arr, el', hh, rfl, by rw [hlen]; omega, ?_, ?_⟩
              ·intro j x hx
               rw [aN] at hx
               split at hx
               ·rw [bF] at hx; exact hcl2 _ _ hx
               ·cases hx
              ·intro j x k c u hx hc hu
               rw [aN] at hx
               split at hx
               ·rw [bF] at hx
                exact hk2 (off + j) x k c u hx hc (by rw [a8, show o' + (off * i.size + j * i.size) + k = o' + off * i.size + j * i.size + k by omega]; exact hu)
               ·cases hx
          | det =>
            refine ⟨.det, by simp, ?_, by simpa [dJ, hl] using hok⟩
            intro ρ' _
            simp only [ej] at hblk ⊢
            subst hblk
            simp
          | dead => exact hblk.elim
          | hole => exact hblk.elim
         obtain ⟨l', hl'1, hl'2, hl'3⟩ := hnewloc
         simp only [c8] at hp
         obtain ⟨ρ', s1, e1, hk⟩ := hs.xD hl hp hl'1 hl'2
         subst hr
         refine ⟨.value _, _, w, G, ρ', by rw [exec, hrun]; rfl, .inl rfl, s1, e1, ?_⟩
         have hrep : bT w G ρ' (.own k 0 n) (.slice ad n cap) := by
          refine .own _ _ _ _ _ (by simpa using hcap) ?_
          simp only [dJ, hk]
          cases l' <;> first | exact hl'3 | exact hl'3.elim
         simpa [hlen] using hrep
        ·cases l with
         | lv blk o' t s' =>
           obtain ⟨rfl, hng, arr, el', hh, rfl, hfit, hcl2, hk2⟩ := hblk
           simp only [dJ, hl] at hok
           rcases hok with hc0 | ⟨rfl, hf2⟩
           ·omega
           ·have hmul : (off + n) * i.size ≤ es.length * i.size := az _ hle
            have hmul2 : (off + (n + B.length)) * i.size ≤ (off + cap) * i.size := az _ (by omega)
            have hx1 : (off + n) * i.size = off * i.size + n * i.size := a8 _ _ _
            have hx2 : (off + (n + B.length)) * i.size = off * i.size + n * i.size + B.length * i.size := by rw [a8, a8]; omega
            have hW : o' + off * i.size + n * i.size + us.length ≤ arr.size := by rw [hul]; omega
            have hst := run_storeCells_at P blk (o' + off * i.size + n * i.size) el' us 0 arr w hh (by omega) hu1
            simp only [bw] at hst
            have hrun := iT (P := P) (w := w) (ty := o.type) (n := n) (cap := cap) (ad := some ⟨blk, o' + off * i.size, none⟩) (bcap := bcap) (w' := w.setRow blk (wrote arr (o' + off * i.size + n * i.size) us)) ht hi hul hucell (fun x => by rw [hunone x]; rfl) hroom
             (by simp only [iN]; exact hst)
            have hGsame : ∀ k, G k → (w.setRow blk (wrote arr (o' + off * i.size + n * i.size) us)).heap[k]? = w.heap[k]? := by
             intro q hq
             rw [dk hh, Array.getElem?_setIfInBounds_ne]
             rintro rfl; exact hng hq
            have hnew : (w.setRow blk (wrote arr (o' + off * i.size + n * i.size) us)).heap[blk]? = some (.cells (wrote arr (o' + off * i.size + n * i.size) us) el' (0, 0)) := by
             rw [dk hh, gu (c6 hh)]
            obtain ⟨s1, e1⟩ := hs.write (w' := w.setRow blk (wrote arr (o' + off * i.size + n * i.size) us)) hl (c6 hh) (dk hh) (b := .prow i.size [])
             ⟨rfl, hng, _, el', hnew, ft hW, by simp; omega, by simp, by simp⟩
            have hp' : Vpi.push base sl ((σ.set b (.prow i.size [])).set b .dead) (.prow i.size (List.take n (List.drop off es) ++ B)) = some (k, σ') := by rw [List.set_set]; exact hp
            obtain ⟨ρ', s2, e2, hk⟩ := s1.xD hl hp' (l := .lv blk (o' + off * i.size) arr.size i.size) (by rintro blk' o2 t2 s2 h2; cases h2; exact ⟨_, _, _, rfl⟩) (by
             intro ρ' _
             refine ⟨rfl, hng, _, el', hnew, ft hW, ?_, ?_, ?_⟩
             ·rw [bX, hlen, a8]; omega
             ·intro j x hx
              rcases ax j n with h1 | h1
              ·rw [aB (by rw [hlen]; exact h1), aN, if_pos h1, bF] at hx; exact hcl2 _ _ hx
              ·rw [aC (by rw [hlen]; exact h1)] at hx
               simpa using aU.1 hallB x (bf hx)
             ·intro j x q c p hx hc hpq
              rw [iW hW] at hpq
              rcases ax j n with h1 | h1
              ·rw [aB (by rw [hlen]; exact h1), aN, if_pos h1, bF] at hx
               have hq : q < i.size := by rw [← hcl2 _ _ hx]; exact ba hc
               have h2 : (j + 1) * i.size ≤ n * i.size := az _ h1
               rw [dX] at h2
               rw [if_neg (by omega)] at hpq
               obtain ⟨y1, y2⟩ := hk2 (off + j) x q c p hx hc (by rw [a8, show o' + (off * i.size + j * i.size) + q = o' + off * i.size + j * i.size + q by omega]; exact hpq)
               exact ⟨y1.mono hGsame (fun _ y => y), y2⟩
              ·rw [aC (by rw [hlen]; exact h1), hlen] at hx
               have hq : q < i.size := by rw [← (by simpa using aU.1 hallB x (bf hx) : x.cells.length = i.size)]; exact ba hc
               have hjB := ba hx
               have h2 : (j - n + 1) * i.size ≤ B.length * i.size := az _ hjB
               rw [dX] at h2
               have h3 : j * i.size = n * i.size + (j - n) * i.size := by rw [← a8]; congr 1; omega
               rw [if_pos (by omega), show o' + off * i.size + j * i.size + q - (o' + off * i.size + n * i.size) = (j - n) * i.size + q by omega] at hpq
               exact ⟨(hurep _ x q c p hx hc hpq).mono hGsame (fun _ y => y), hu1 p (bf hpq)⟩)
            subst hr
            have hrep : bT (w.setRow blk (wrote arr (o' + off * i.size + n * i.size) us)) G ρ' (.own k 0 (n + B.length)) (.slice (some ⟨blk, o' + off * i.size, none⟩) (n + B.length) cap) := by
             refine .own _ _ _ _ _ hroom ?_
             simp only [dJ, hk]
             right
             rw [a8] at hf2
             exact ⟨by simp, by simp; omega⟩
            exact ⟨.value _, _, _, G, ρ', by rw [exec, hrun]; rfl, .inl rfl, s2, e1.trans e2, by simpa [hlen] using hrep⟩
         | det => simp only [dJ, hl] at hok; omega
         | dead => exact hblk.elim
         | hole => exact hblk.elim
      ·cases hA'
     ·cases h
    ·cases h
   ·cases h
  ·cases h
 ·cases h
theorem wv {c : Call} {x y : Operand} {t t2 : TypeId} (ho : o.op = .call c) (hc1 : c.callee = .builtin .copy) (hc2 : c.args = #[x, y]) (hc3 : c.argTypes = #[t, t2]) :
 (execOp a.eval o).run P w = ((Builtin.copy_ #[t, t2] o.type #[a.eval x, a.eval y]).run P w).andThen fun v w => .ok (.value v) w := by
 simp [execOp, ho, resolve, hc1, hc2, hc3, invoke, builtin]
theorem mg {t t2 el ty : TypeId} {sz n cap m bcap : Nat} {ad bd : Option Addr} {us : List Value} {w' : World} (ht : P.underlying t = some (.slice el)) (hz : szP P el = some sz) (hl : us.length = (min m n) * sz)
 (h : ∀ A, bd = some A → ∀ (j : Nat) u, us[j]? = some u → w.cell? (A.add j) = some u) (hn : bd = none → m = 0) (hst : match ad with | some A => (storeCells A us).run P w = .ok () w' | none => w' = w) :
 (Builtin.copy_ #[t, t2] ty #[.slice ad n cap, .slice bd m bcap]).run P w = .ok (.int .i64 ((min m n : Nat) : Int)) w' := by
 have hf : (Builtin.firstCells sz (min m n) (.slice bd m bcap)).run P w = .ok us.toArray w := by
  cases bd with
  | none =>
    have := hn rfl
    subst this
    have : us = [] := by simpa using hl
    subst this
    simp [Builtin.firstCells]
  | some A => exact run_firstCells_some (P := P) w sz (min m n) A m bcap us hl (h A rfl)
 have hmin : Nat.min m n = min m n := rfl
 cases ad with
 | none => subst hst; simp [Builtin.copy_, run_underlying ht, run_sizeOf hz, Builtin.lenOf, hmin, hf, goInt]
 | some A => simp [Builtin.copy_, run_underlying ht, run_sizeOf hz, Builtin.lenOf, hmin, hf, hst, goInt]
theorem th {c : CV} {xs : List PV} (h : content σ c = some xs) : ∃ m, jR c = some m := by
 cases c with
 | p v => cases v <;> first | exact ⟨_, rfl⟩ | cases h
 | nils => exact ⟨_, rfl⟩
 | own b off n => exact ⟨_, rfl⟩
 | _ => cases h
theorem xh {sz : Nat} {t t2 el : TypeId} {x y : Operand} {x' y' : Opd} {r : CV × ar} (hs : St w G ρ σ) (he : cX w G ρ e a.tmps) (ho : ∃ c : Call, o.op = .call c ∧ c.callee = .builtin .copy ∧ c.args = #[x, y] ∧ c.argTypes = #[t, t2])
 (hx : bN x x' = true) (hy : bN y y' = true) (ht : P.underlying t = some (.slice el)) (hz : szP P el = some sz) (h : ev base sl (.copy sz x' y') e σ = some r) : b9 P o a w G ρ r.1 r.2 := by
 have r1 := bk hx he
 have r2 := bk hy he
 obtain ⟨c, ho, hc1, hc2, hc3⟩ := ho
 have exec := wv (P := P) (w := w) (a := a) ho hc1 hc2 hc3
 generalize hu : a.eval x = u at r1
 generalize hv : a.eval y = v at r2
 rw [hu, hv] at exec
 simp only [ev] at h
 split at h
 ·rename_i b off n xs hd hc
  split at h
  ·rename_i s es hb
   split at h
   ·rename_i hcond
    obtain ⟨hle, rfl, hall⟩ := hcond
    cases h
    rw [hd] at r1
    obtain ⟨ad, cap, rfl, hcap, hok⟩ := fV r1
    obtain ⟨bd, bcap, us, rfl, hbcap, hul, hucell, hunone, hurep, hu1⟩ := jk hs hc r2 hall
    have hlt := ba hb
    by_cases hm : min xs.length n = 0
    ·have hxt : xs.take n = [] := by
      rw [← List.length_eq_zero_iff, aS, Nat.min_comm]; exact hm
     have hrun := mg (P := P) (w := w) (t2 := t2) (ty := o.type) (n := n) (cap := cap) (ad := ad) (bcap := bcap) (m := xs.length) (us := []) (w' := w) ht hz (by rw [hm]; simp) (by simp) (fun x => by rw [hunone x]; rfl) (by cases ad <;> rfl)
     have hset : σ.set b (.prow s (setCells es off (xs.take n))) = σ := by
      rw [hxt]
      simp only [setCells, c8, List.length_nil, bw, List.take_append_drop]
      have : σ[b] = .prow s es := by
       rw [bG hlt] at hb; simpa using hb
      rw [← this, List.set_getElem_self]
     rw [hset]
     exact b9.quiet hs (by rw [exec, hrun]; rfl) (.p _ _ (.int _ _))
    ·obtain ⟨l, hl, hblk⟩ := hs.get hb
     cases l with
     | lv blk o' t' s' =>
       obtain ⟨rfl, hng, arr, el', hh, rfl, hfit, hcl, hk⟩ := hblk
       simp only [dJ, hl] at hok
       rcases hok with hc0 | ⟨rfl, hf2⟩
       ·omega
       ·have hmn : min xs.length n ≤ n := Nat.min_le_right _ _
        have hmx : min xs.length n ≤ xs.length := Nat.min_le_left _ _
        have hmulA : (off + min xs.length n) * s ≤ es.length * s := az _ (by omega)
        rw [a8] at hmulA
        have hmulB : min xs.length n * s ≤ xs.length * s := az _ hmx
        have htl : (us.take (min xs.length n * s)).length = min xs.length n * s := by rw [aS, hul]; omega
        have htk : (xs.take n).length = min xs.length n := by rw [aS, Nat.min_comm]
        have hW : o' + off * s + (us.take (min xs.length n * s)).length ≤ arr.size := by rw [htl]; omega
        have hst := run_storeCells_at P blk (o' + off * s) el' (us.take (min xs.length n * s)) 0 arr w hh (by omega) (fun q hq => hu1 q (List.mem_of_mem_take hq))
        simp only [bw] at hst
        have hrun := mg (P := P) (w := w) (t2 := t2) (ty := o.type) (n := n) (cap := cap) (ad := some ⟨blk, o' + off * s, none⟩) (bcap := bcap) (m := xs.length) (us := us.take (min xs.length n * s)) (w' := w.setRow blk (wrote arr (o' + off * s) (us.take (min xs.length n * s)))) ht hz htl
         (by
           intro A hA j q hq
           rw [aN] at hq
           split at hq
           ·exact hucell A hA j q hq
           ·cases hq)
         (fun x => by rw [hunone x]; rfl) hst
        have hGsame : ∀ k, G k → (w.setRow blk (wrote arr (o' + off * s) (us.take (min xs.length n * s)))).heap[k]? = w.heap[k]? := by
         intro q hq
         rw [dk hh, Array.getElem?_setIfInBounds_ne]
         rintro rfl; exact hng hq
        have hnew : (w.setRow blk (wrote arr (o' + off * s) (us.take (min xs.length n * s)))).heap[blk]? = some (.cells (wrote arr (o' + off * s) (us.take (min xs.length n * s))) el' (0, 0)) := by
         rw [dk hh, gu (c6 hh)]
        have hsf : off + (xs.take n).length ≤ es.length := by rw [htk]; omega
        obtain ⟨s1, e1⟩ := hs.write (w' := w.setRow blk (wrote arr (o' + off * s) (us.take (min xs.length n * s)))) hl (c6 hh) (dk hh) (b := .prow s (setCells es off (xs.take n))) (by
         refine ⟨rfl, hng, _, el', hnew, ft hW, by rw [jq hsf]; exact hfit, ?_, ?_⟩
         ·intro j x hx
          rw [fU _ _ _ _ hsf] at hx
          split at hx
          ·rw [aN] at hx
           split at hx
           ·simpa using aU.1 hall x (bf hx)
           ·cases hx
          ·exact hcl j x hx
         ·intro j x q c p hx hc' hpq
          rw [fU _ _ _ _ hsf, htk] at hx
          rw [iW hW, htl] at hpq
          by_cases hin : off ≤ j ∧ j < off + min xs.length n
          ·rw [if_pos hin, aN, if_pos (by omega)] at hx
           have hq : q < s := by rw [← (by simpa using aU.1 hall x (bf hx) : x.cells.length = s)]; exact ba hc'
           have h2 : (j - off + 1) * s ≤ min xs.length n * s := az _ (by omega)
           rw [dX] at h2
           have h3 : j * s = off * s + (j - off) * s := by rw [← a8]; congr 1; omega
           rw [if_pos (by omega), aN, if_pos (by omega), show o' + j * s + q - (o' + off * s) = (j - off) * s + q by omega] at hpq
           exact ⟨(hurep _ x q c p hx hc' hpq).mono hGsame (fun _ y => y), hu1 p (bf hpq)⟩
          ·rw [if_neg hin] at hx
           have hq : q < s := by rw [← hcl j x hx]; exact ba hc'
           have hout : ¬ (o' + off * s ≤ o' + j * s + q ∧ o' + j * s + q < o' + off * s + min xs.length n * s) := by
            rintro ⟨x2, x3⟩
            rcases ax j off with hlt2 | hge2
            ·have := az s (show j + 1 ≤ off from hlt2)
             rw [dX] at this
             omega
            ·have := az s (show off + min xs.length n ≤ j by omega)
             rw [a8] at this
             omega
           rw [if_neg hout] at hpq
           obtain ⟨y1, y2⟩ := hk j x q c p hx hc' hpq
           exact ⟨y1.mono hGsame (fun _ y => y), y2⟩)
        exact ⟨.value _, _, _, G, ρ, by rw [exec, hrun]; rfl, .inl rfl, s1, e1, .p _ _ (.int _ _)⟩
     | det => simp only [dJ, hl] at hok; omega
     | dead => exact hblk.elim
     | hole => exact hblk.elim
   ·cases h
  ·cases h
 ·rename_i xs hd hc
  cases h
  rw [hd] at r1
  have := gw r1
  subst this
  obtain ⟨m, hm⟩ := th hc
  obtain ⟨bd, bcap, rfl, _⟩ := lD hm r2
  have hmin : Nat.min m 0 = 0 := Nat.min_zero m
  have hf : (Builtin.firstCells sz 0 (.slice bd m bcap)).run P w = .ok #[] w := by
   cases bd with
   | none => simp [Builtin.firstCells]
   | some A => exact run_firstCells_some (P := P) w sz 0 A m bcap [] (by simp) (by simp)
  refine b9.quiet (v := .int .i64 0) hs ?_ (.p _ _ (.int _ _))
  rw [exec]
  simp [Builtin.copy_, run_underlying ht, run_sizeOf hz, Builtin.lenOf, hmin, hf, goInt]
 ·cases h
end
section
variable {P : Program} {w : World} {G : Nat → Prop} {ρ : List Loc} {σ : ar} {e : Env} {a : Act} {base : Nat} {sl : Option Nat} {o : Oper}
theorem qb : ∀ {cs ds : List CV} {vs : List Value}, ly cs = some ds → cs.length = vs.length → (∀ (k : Nat) c v, cs[k]? = some c → vs[k]? = some v → bT w G ρ c v) →
 ds.length = vs.length ∧ ∀ (k : Nat) d v, ds[k]? = some d → vs[k]? = some v → v.cells.size = 1 ∧ ∀ u, v.cells[0]? = some u → bT w G ρ d u ∧ u.oneCell' = true
 | [], ds, vs, h, hl, _ => by simp [ly] at h; subst h; exact ⟨hl, by simp⟩
 | c :: cs, ds, [], _, hl, _ => by simp at hl
 | c :: cs, ds, v :: vs, h, hl, hk => by
   simp only [ly] at h
   split at h
   ·rename_i x hx
    simp only [au] at h
    obtain ⟨ys, hys, rfl⟩ := h
    obtain ⟨h1, h2⟩ := qb hys (by simpa using hl) (fun k c v a b => hk (k + 1) c v (by simpa using a) (by simpa using b))
    have hr := kV (hk 0 c v rfl rfl) hx
    refine ⟨by simp [h1], fun k d u hd hu => ?_⟩
    cases k with
    | succ k => exact h2 k d u (by simpa using hd) (by simpa using hu)
    | zero =>
      simp at hd hu
      subst hd hu
      refine ⟨by rw [← hr.len]; rfl, fun u hu => ⟨hr.rep 0 _ u rfl hu, hr.one u (gk hu)⟩⟩
   ·cases h
theorem vi {cs : List CV} {n cap : Nat} {arr : Array Value} {el : TypeId} {σ' : ar} {k : Nat} {w' : World} (hs : St w G ρ σ) (hp : push base sl σ (.kblk 1 cs) = some (k, σ')) (hw : w'.heap = w.heap.push (.cells arr el (0, 0)))
 (hn : n ≤ cap) (hcap : cap ≤ arr.size) (hfit : cs.length ≤ arr.size)
 (hk : ∀ (i : Nat) c u, cs[i]? = some c → arr[i]? = some u → bT w G ρ c u ∧ u.oneCell' = true) (hsame : ld w w' := by first | assumption | exact ⟨rfl, rfl, rfl⟩) :
 ∃ ρ', St w' G ρ' σ' ∧ Ext w G ρ w' G ρ' ∧ bT w' G ρ' (.own k 0 n) (.slice (some ⟨w.heap.size, 0, none⟩) n cap) := by
 obtain ⟨ρ', h1, h2, h3⟩ := hs.push hp arr el 1 hw (by
  intro ρ' hρ
  refine ⟨rfl, fun hg => Nat.lt_irrefl _ (hs.g _ hg), arr, el, by rw [hw]; simp, rfl, by omega, ?_⟩
  intro i c u h1 h2
  rw [d8] at h2
  obtain ⟨a1, a2⟩ := hk i c u h1 h2
  exact ⟨a1.mono (ja hs hw) (fun _ x => x) hρ, a2⟩)
 exact ⟨ρ', h1, h2, .own _ _ _ _ _ hn (by simp only [dJ, h3]; right; exact ⟨by simp, by simp; exact hcap⟩)⟩
theorem xk {t el : TypeId} {n : Nat} {ps : Array (Nat × Operand)} {xs : List Opd} {zv : Value} {i : TypeInfo} {r : CV × ar} (hs : St w G ρ σ) (he : cX w G ρ e a.tmps) (ho : o.op = .buildSlice t n ps)
 (ht : P.underlying t = some (.slice el)) (hi : P.info? el = some i) (hsz : i.size = 1) (hz : i.zero = some zv) (hzs : zv.cells.size = 1) (hn : n = xs.length) (hbig : n * 1 ≤ 16777216) (hp : jO 0 ps.toList xs = true)
 (h : ev base sl (.bslk xs) e σ = some r) : b9 P o a w G ρ r.1 r.2 := by
 simp only [ev] at h
 split at h
 ·rename_i cs hcs
  simp only [au] at h
  obtain ⟨⟨k, σ'⟩, hpush, rfl⟩ := h
  obtain ⟨vs, h1, h2, h3⟩ := kt 0 ps.toList xs hp he
  obtain ⟨h4, h5⟩ := qb hcs (by simp [h2]) h3
  have hsize : ∀ v ∈ vs, v.cells.size = 1 := by
   intro v hv
   obtain ⟨j, hj⟩ := List.getElem?_of_mem hv
   have hj' := ba hj
   exact (h5 j (cs[j]'(by omega)) v (by simp) hj).1
  have hsz2 : szP P el = some 1 := by simp [szP, hi, hsz]
  obtain ⟨us, u1, u2, u3, _⟩ := nk (sz := 1) vs 0 ((Array.range (n * 1)).map ((if n * 1 = 0 then #[] else zv.cells)[·% (if n * 1 = 0 then #[] else zv.cells).size]!)) hsize (by simp [h2, hn])
  have hus : us.size = n := by rw [u2]; simp
  have hlen : cs.length = n := by rw [h4, h2, hn]
  obtain ⟨ρ2, s2, e2, r2⟩ := vi (n := cs.length) (cap := n) (w' := { w with heap := w.heap.push (.cells us el (0, 0)) }) hs hpush rfl (by rw [hlen]; exact av _) (by rw [hus]; exact av _) (by rw [hus, hlen]; exact av _)
   (by
     intro j c u hc hu
     have hj : j < vs.length := by rw [← h4]; exact ba hc
     have hvj : vs[j]? = some vs[j] := by simp
     obtain ⟨c1, c2⟩ := h5 j c _ hc hvj
     have h0 : vs[j].cells[0]? = some vs[j].cells[0] := by simp
     have := u3 j vs[j] 0 vs[j].cells[0] hvj h0
     rw [d8, dq, bw] at this
     rw [this] at hu
     cases hu
     exact c2 _ h0)
  rw [hlen] at r2
  refine ⟨.value _, _, _, G, ρ2, ?_, .inl rfl, s2, e2, by rw [hlen]; exact r2⟩
  have hps : (ps.map fun (i, x) => (i, a.eval x)).toList = ps.toList.map fun x => (x.1, a.eval x.2) := by simp
  rw [← h1] at u1
  simp only [execOp, ho, Instr.buildSlice, Sem.run_bind, run_underlying ht, Result.andThen_ok, run_sizeOf hsz2]
  rw [if_neg (by omega)]
  by_cases h0 : n * 1 = 0
  ·simp only [if_pos h0] at u1
   rw [if_pos h0]
   simp only [Sem.run_bind, Sem.run_pure, Result.andThen_ok, hps, u1, newRow, run_newObj]
  ·simp only [if_neg h0] at u1
   rw [if_neg h0]
   have hzv : (zeroValue el).run P w = .ok zv w := by simp [zeroValue, typeInfo, hi, hz]
   simp only [Sem.run_bind, Sem.run_pure, Result.andThen_ok, hzv, hps, u1, newRow, run_newObj]
 ·cases h
theorem mQ {c : CV} {xs : List CV} {v : Value} (hs : St w G ρ σ) (h : fc σ c = some xs) (hr : bT w G ρ c v) :
 ∃ (ad : Option Addr) (cap : Nat) (us : List Value), v = .slice ad xs.length cap ∧ xs.length ≤ cap ∧ us.length = xs.length ∧ (∀ A, ad = some A → ∀ (j : Nat) u, us[j]? = some u → w.cell? (A.add j) = some u) ∧ (ad = none → xs = []) ∧
  (∀ (i : Nat) x u, xs[i]? = some x → us[i]? = some u → bT w G ρ x u) ∧ ∀ u ∈ us, u.oneCell' = true := by
 have empty : xs = [] → ∀ (ad : Option Addr) (cap : Nat), v = .slice ad xs.length cap → ∃ (ad : Option Addr) (cap : Nat) (us : List Value), v = .slice ad xs.length cap ∧ xs.length ≤ cap ∧ us.length = xs.length ∧ (∀ A, ad = some A → ∀ (j : Nat) u, us[j]? = some u → w.cell? (A.add j) = some u) ∧ (ad = none → xs = []) ∧
  (∀ (i : Nat) x u, xs[i]? = some x → us[i]? = some u → bT w G ρ x u) ∧ ∀ u ∈ us, u.oneCell' = true := by
  intro h0 ad cap hv
  exact ⟨ad, cap, [], hv, by rw [h0]; simp, by rw [h0]; simp, by simp, fun _ => h0, by simp, by simp⟩
 unfold fc at h
 split at h
 ·cases h
  have := gw hr
  exact empty rfl none 0 this
 ·rename_i b off n
  split at h
  ·rename_i cs hb
   split at h
   ·rename_i hle
    cases h
    obtain ⟨ad, cap, rfl, hcap, hok⟩ := fV hr
    have hlen : ((cs.drop off).take n).length = n := by simp; omega
    by_cases h0 : (cs.drop off).take n = []
    ·exact empty h0 ad cap (by rw [hlen])
    ·have hn : n ≠ 0 := by rintro rfl; exact h0 (by simp)
     obtain ⟨l, hl, hblk⟩ := hs.get hb
     simp only [dJ, hl] at hok
     cases l with
     | lv blk o' t s' =>
       obtain ⟨rfl, hng, arr, el, hh, rfl, hfit, hk⟩ := hblk
       simp only [dq] at hok
       rcases hok with rfl | ⟨rfl, hf2⟩
       ·omega
       ·have hget : ∀ j : Nat, j < n → ((arr.toList.drop (o' + off)).take n)[j]? = arr[o' + off + j]? := by
         intro j hj
         rw [aN, if_pos hj, bF]
         simp
        refine ⟨_, cap, (arr.toList.drop (o' + off)).take n, by rw [hlen], by rw [hlen]; exact hcap, by rw [hlen]; simp; omega, ?_, (by intro x; cases x), ?_, ?_⟩
        ·intro A hA j u hu
         cases hA
         have hj := ba hu
         rw [hget j (by simp at hj; omega)] at hu
         rw [iN, nX hh]
         exact hu
        ·intro i x u hx hu
         have hi := ba hx
         rw [hlen] at hi
         rw [hget i hi] at hu
         rw [aN, if_pos hi, bF] at hx
         exact (hk (off + i) x u hx (by rw [← dh]; exact hu)).1
        ·intro u hu
         obtain ⟨j, hj⟩ := List.getElem?_of_mem hu
         have hjl := ba hj
         simp at hjl
         rw [hget j (by omega)] at hj
         have hx : cs[off + j]? = some (cs[off + j]'(by omega)) := by simp
         exact (hk (off + j) _ u hx (by rw [← dh]; exact hj)).2
     | det => exact hblk.elim
     | dead => exact hblk.elim
     | hole => exact hblk.elim
   ·cases h
  ·cases h
 ·cases h
theorem xm {bytes : Nat} {t el : TypeId} {x y : Operand} {x' y' : Opd} {i : TypeInfo} {z : Value} {r : CV × ar} (hs : St w G ρ σ) (he : cX w G ρ e a.tmps) (ho : ∃ c : Call, o.op = .call c ∧ c.callee = .builtin .append ∧ c.args = #[x, y] ∧ c.argTypes = #[t, t])
 (hx : bN x x' = true) (hy : bN y y' = true) (ht : P.underlying t = some (.slice el)) (hi : P.info? el = some i) (hsz : i.size = 1) (hby : i.bytes = bytes) (hz : i.zero = some z) (hzs : z.cells.size = 1) (hb0 : bytes ≠ 0)
 (h : ev base sl (.appk bytes x' y') e σ = some r) : b9 P o a w G ρ r.1 r.2 := by
 have r1 := bk hx he
 have r2 := bk hy he
 obtain ⟨c, ho, hc1, hc2, hc3⟩ := ho
 have exec := nE (P := P) (w := w) (a := a) ho hc1 hc2 hc3
 generalize hu : a.eval x = u at r1
 generalize hv : a.eval y = v at r2
 rw [hu, hv] at exec
 simp only [ev] at h
 split at h
 ·rename_i A B hA hB
  split at h
  ·rename_i hcond
   obtain ⟨hbytes, hBpos⟩ := hcond
   obtain ⟨bd, bcap, us, rfl, hbcap, hul, hucell, hunone, hurep, hu1⟩ := mQ hs hB r2
   subst hby
   have hul1 : us.length = B.length * i.size := by rw [hsz, dq]; exact hul
   have hbn : bd = none → B.length = 0 := fun x => by rw [hunone x]; rfl
   have h63 : ((A.length + B.length : Nat) : Int) ≤ 9223372036854775807 := by
    have : (A.length + B.length) * 1 ≤ (A.length + B.length) * i.bytes := bH _ (by omega)
    omega
   have fresh : ∀ {G1 : Nat → Prop} {ρ1 : List Loc} {σ1 σ' : ar} {k : Nat} {ad : Option Addr} {cap : Nat} {os : List Value}, St w G1 ρ1 σ1 → Ext w G ρ w G1 ρ1 → Vpi.push base sl σ1 (.kblk 1 (A ++ B)) = some (k, σ') → r = (.own k 0 (A.length + B.length), σ') → u = .slice ad A.length cap → os.length = A.length →
    (∀ A', ad = some A' → ∀ (j : Nat) u, os[j]? = some u → w.cell? (A'.add j) = some u) → (ad = none → A.length = 0 ∧ cap = 0) → cap < A.length + B.length → A.length ≤ cap →
    (∀ (j : Nat) x q, A[j]? = some x → os[j]? = some q → bT w G ρ x q) → (∀ q ∈ os, q.oneCell' = true) → b9 P o a w G ρ r.1 r.2 := by
    intro G1 ρ1 σ1 σ' k ad cap os s1 e1 hp hr hua hol hoc hon hg hnc horep ho1
    subst hr hua
    have hrun := lj (P := P) (w := w) (ty := o.type) (bcap := bcap) ht hi hz (by rw [hsz, dq]; exact hol) hul1 hoc hon hucell hbn hg hnc hbytes h63
    have hge := grownCap_ge w (A.length + B.length) cap el
    have harr : (os.toArray ++ us.toArray ++ Builtin.zeroCells z.cells (grownCap w (A.length + B.length) cap el - (A.length + B.length))).size = grownCap w (A.length + B.length) cap el := by
     simp only [Array.size_append, List.size_toArray, hol, hul, size_zeroCells, hzs, dq]
     omega
    obtain ⟨ρ2, s2, e2, rep2⟩ := vi (n := A.length + B.length) (w' := w.drew.alloc (.cells (os.toArray ++ us.toArray ++ Builtin.zeroCells z.cells (grownCap w (A.length + B.length) cap el - (A.length + B.length))) el)) s1 hp rfl hge (by rw [harr]; exact av _)
     (by rw [harr, bX]; exact hge)
     (by
       intro j x p hx hp'
       have hget : (os ++ us ++ (Builtin.zeroCells z.cells (grownCap w (A.length + B.length) cap el - (A.length + B.length))).toList)[j]? = some p := by
        have : (os.toArray ++ us.toArray ++ Builtin.zeroCells z.cells (grownCap w (A.length + B.length) cap el - (A.length + B.length))).toList = os ++ us ++ (Builtin.zeroCells z.cells (grownCap w (A.length + B.length) cap el - (A.length + B.length))).toList := by simp
        rw [← this, Array.getElem?_toList]
        exact hp'
       have hj := ba hx
       rw [bX] at hj
       rw [aP] at hget
       rcases ax j A.length with h1 | h1
       ·rw [aB h1] at hx
        rw [aB (by omega)] at hget
        exact ⟨(horep j x p hx hget).mono (fun _ _ => rfl) e1.grow e1.loc, ho1 p (bf hget)⟩
       ·rw [aC h1] at hx
        rw [aC (by omega), aB (by omega)] at hget
        rw [hol] at hget
        exact ⟨(hurep _ x p hx hget).mono (fun _ _ => rfl) e1.grow e1.loc, hu1 p (bf hget)⟩)
    refine ⟨.value _, _, _, G1, ρ2, ?_, .inl rfl, s2, e1.trans e2, rep2⟩
    rw [exec, hrun]; rfl
   split at h
   ·-- nil
    rename_i hnil
    rw [hnil] at r1 hA
    have hu0 := gw r1
    subst hu0
    simp only [fc, Option.some.injEq] at hA
    subst hA
    simp only [au] at h
    obtain ⟨⟨k, σ'⟩, hp, hr⟩ := h
    exact fresh (os := []) hs Ext.refl hp hr.symm rfl (by simp) (by simp) (fun _ => ⟨rfl, rfl⟩) (by simp; omega) (by simp) (by simp) (by simp)
   ·-- a block of our own
    rename_i b off n hown
    simp only [au] at h
    obtain ⟨⟨k, σ'⟩, hp, hr⟩ := h
    rw [hown] at r1 hA
    have r1' := r1
    obtain ⟨ad, cap, rfl, hcap, hok⟩ := fV r1
    have hA' := hA
    simp only [fc] at hA'
    split at hA'
    ·rename_i es hb
     obtain ⟨l, hl, hblk⟩ := hs.get hb
     split at hA'
     ·rename_i hle
      cases hA'
      have hlen : ((es.drop off).take n).length = n := by simp; omega
      obtain ⟨ad2, cap2, os, he2, _, hol, hocell, honone, horep, ho1⟩ := mQ hs hA r1'
      simp only [Value.slice.injEq] at he2
      obtain ⟨rfl, _, rfl⟩ := he2
      rw [hlen] at hol h63 hbytes
      cases l with
      | lv blk o' t s' =>
        obtain ⟨rfl, hng, arr, el', hh, rfl, hfit, hk2⟩ := hblk
        simp only [dJ, hl] at hok
        rcases ax cap (n + B.length) with hroom | hroom
        ·obtain ⟨s1, e1⟩ := hs.Ae hl
         refine fresh (os := os) (cap := cap) (ad := ad) s1 e1 hp hr.symm (by rw [hlen]) (by rw [hlen]; exact hol) hocell ?_ (by rw [hlen]; exact hroom) (by rw [hlen]; exact hcap) horep ho1
         intro hnone
         have := honone hnone
         refine ⟨by rw [this]; rfl, ?_⟩
         rcases hok with h | ⟨h, _⟩
         ·exact h
         ·rw [hnone] at h; cases h
        ·rcases hok with hc0 | ⟨rfl, hf2⟩
         ·omega
         ·simp only [dq] at hf2 hfit exec
          have hW : o' + off + n + us.length ≤ arr.size := by rw [hul]; omega
          have hst := run_storeCells_at P blk (o' + off + n) el' us 0 arr w hh (by omega) hu1
          simp only [bw] at hst
          have hrun := iT (P := P) (w := w) (ty := o.type) (n := n) (cap := cap) (ad := some ⟨blk, o' + off, none⟩) (bcap := bcap) (w' := w.setRow blk (wrote arr (o' + off + n) us)) ht hi hul1 hucell hbn hroom
           (by simp only [iN, hsz, dq]; exact hst)
          have hGsame : ∀ k, G k → (w.setRow blk (wrote arr (o' + off + n) us)).heap[k]? = w.heap[k]? := by
           intro q hq
           rw [dk hh, Array.getElem?_setIfInBounds_ne]
           rintro rfl; exact hng hq
          have hnew : (w.setRow blk (wrote arr (o' + off + n) us)).heap[blk]? = some (.cells (wrote arr (o' + off + n) us) el' (0, 0)) := by
           rw [dk hh, gu (c6 hh)]
          obtain ⟨s1, e1⟩ := hs.write (w' := w.setRow blk (wrote arr (o' + off + n) us)) hl (c6 hh) (dk hh) (b := .prow 1 [])
           ⟨rfl, hng, _, el', hnew, ft hW, by simp; omega, by simp, by simp⟩
          have hp' : Vpi.push base sl ((σ.set b (.prow 1 [])).set b .dead) (.kblk 1 (List.take n (List.drop off es) ++ B)) = some (k, σ') := by rw [List.set_set]; exact hp
          obtain ⟨ρ', s2, e2, hk⟩ := s1.xD hl hp' (l := .lv blk (o' + off) arr.size 1) (by rintro blk' o2 t2 s2 h2; cases h2; exact ⟨_, _, _, rfl⟩) (by
           intro ρ' hρ
           refine ⟨rfl, hng, _, el', hnew, ft hW, ?_, ?_⟩
           ·rw [bX, hlen]; omega
           ·intro j x p hx hpq
            rw [iW hW] at hpq
            rcases ax j n with h1 | h1
            ·rw [aB (by rw [hlen]; exact h1), aN, if_pos h1, bF] at hx
             rw [if_neg (by omega)] at hpq
             obtain ⟨y1, y2⟩ := hk2 (off + j) x p hx (by rw [← dh]; exact hpq)
             exact ⟨y1.mono hGsame (fun _ y => y) hρ, y2⟩
            ·rw [aC (by rw [hlen]; exact h1), hlen] at hx
             have hjB := ba hx
             rw [if_pos (by omega), show o' + off + j - (o' + off + n) = j - n by omega] at hpq
             exact ⟨(hurep _ x p hx hpq).mono hGsame (fun _ y => y) hρ, hu1 p (bf hpq)⟩)
          subst hr
          have hrep : bT (w.setRow blk (wrote arr (o' + off + n) us)) G ρ' (.own k 0 (n + B.length)) (.slice (some ⟨blk, o' + off, none⟩) (n + B.length) cap) := by
           refine .own _ _ _ _ _ hroom ?_
           simp only [dJ, hk]
           right
           exact ⟨by simp, by simp; omega⟩
          exact ⟨.value _, _, _, G, ρ', by rw [exec, hrun]; rfl, .inl rfl, s2, e1.trans e2, by simpa [hlen] using hrep⟩
      | det => exact hblk.elim
      | dead => exact hblk.elim
      | hole => exact hblk.elim
     ·cases hA'
    ·cases hA'
   ·cases h
  ·cases h
 ·cases h
end
section
variable {P : Program} {w : World} {G : Nat → Prop} {ρ : List Loc} {σ : ar} {e : Env} {a : Act} {base : Nat} {sl : Option Nat} {o : Oper}
theorem qB {el : TypeId} {x' : Opd} {i : TypeInfo} {z : Value} {r : CV × ar} {u : Value} {A B : List PV} {us : List Value} (hs : St w G ρ σ) (r1 : bT w G ρ (vl e x') u) (hzs : z.cells.size = i.size)
 (hA : content σ (vl e x') = some A) (hul : us.length = B.length * i.size) (hurep : ∀ (j : Nat) x (k : Nat) c q, B[j]? = some x → x.cells[k]? = some c → us[j * i.size + k]? = some q → dG w G c q) (hu1 : ∀ q ∈ us, q.oneCell' = true) (hallB : dE i.size B = true)
 (hbytes : (A.length + B.length) * i.bytes ≤ 140737488355328) (h63 : ((A.length + B.length : Nat) : Int) ≤ 9223372036854775807)
 (hfits : ∀ {n cap : Nat} {ad : Option Addr} {w' : World}, u = .slice ad n cap → n + B.length ≤ cap → (match ad with | some A => (storeCells (A.add (n * i.size)) us).run P w = .ok () w' | none => w' = w) → (execOp a.eval o).run P w = .ok (.value (.slice ad (n + B.length) cap)) w')
 (hgrows : ∀ {n cap : Nat} {ad : Option Addr} {os : List Value}, u = .slice ad n cap → os.length = n * i.size → (∀ A', ad = some A' → ∀ (j : Nat) u, os[j]? = some u → w.cell? (A'.add j) = some u) → (ad = none → n = 0 ∧ cap = 0) → cap < n + B.length → n ≤ cap → (n + B.length) * i.bytes ≤ 140737488355328 → ((n + B.length : Nat) : Int) ≤ 9223372036854775807 →
   (execOp a.eval o).run P w = .ok (.value (.slice (some ⟨w.heap.size, 0, none⟩) (n + B.length) (grownCap w (n + B.length) cap el))) (w.drew.alloc (.cells (os.toArray ++ us.toArray ++ Builtin.zeroCells z.cells (grownCap w (n + B.length) cap el - (n + B.length))) el)))
 (h : (match vl e x' with
   | .nils => (push base sl σ (.prow i.size (A ++ B))).map fun (k, σ) => (CV.own k 0 (A.length + B.length), σ)
   | .own b _ _ =>
     match σ[b]? with
     | some (.prow s _) => if s = i.size then (push base sl (σ.set b .dead) (.prow i.size (A ++ B))).map fun (k, σ) => (CV.own k 0 (A.length + B.length), σ) else none
     | _ => none
   | _ => none) = some r) : b9 P o a w G ρ r.1 r.2 := by
 have fresh : ∀ {G1 : Nat → Prop} {ρ1 : List Loc} {σ1 σ' : ar} {k : Nat} {ad : Option Addr} {cap : Nat} {os : List Value}, St w G1 ρ1 σ1 → Ext w G ρ w G1 ρ1 → Vpi.push base sl σ1 (.prow i.size (A ++ B)) = some (k, σ') → r = (.own k 0 (A.length + B.length), σ') → u = .slice ad A.length cap → os.length = A.length * i.size →
  (∀ A', ad = some A' → ∀ (j : Nat) u, os[j]? = some u → w.cell? (A'.add j) = some u) → (ad = none → A.length = 0 ∧ cap = 0) → cap < A.length + B.length → A.length ≤ cap → dE i.size A = true → ((A.length + B.length : Nat) : Int) ≤ 9223372036854775807 →
  (∀ (j : Nat) x (k : Nat) c q, A[j]? = some x → x.cells[k]? = some c → os[j * i.size + k]? = some q → dG w G1 c q) → (∀ q ∈ os, q.oneCell' = true) → b9 P o a w G ρ r.1 r.2 := by
  intro G1 ρ1 σ1 σ' k ad cap os s1 e1 hp hr hua hol hoc hon hg hnc hallA h63 horep ho1
  subst hr hua
  have hrun := hgrows rfl hol hoc hon hg hnc hbytes h63
  have hge := grownCap_ge w (A.length + B.length) cap el
  have hAc : ∀ (j : Nat) x, A[j]? = some x → x.cells.length = i.size := fun j x hx => by simpa using aU.1 hallA x (bf hx)
  have hBc : ∀ (j : Nat) x, B[j]? = some x → x.cells.length = i.size := fun j x hx => by simpa using aU.1 hallB x (bf hx)
  have hABc : ∀ (j : Nat) x, (A ++ B)[j]? = some x → x.cells.length = i.size := by
   intro j x hx
   rcases ax j A.length with h1 | h1
   ·rw [aB h1] at hx; exact hAc j x hx
   ·rw [aC h1] at hx; exact hBc _ x hx
  have harr : (os.toArray ++ us.toArray ++ Builtin.zeroCells z.cells (grownCap w (A.length + B.length) cap el - (A.length + B.length))).size = grownCap w (A.length + B.length) cap el * i.size := by
   simp only [Array.size_append, List.size_toArray, hol, hul, size_zeroCells, hzs]
   rw [← a8, ← a8]
   congr 1; omega
  obtain ⟨ρ2, s2, e2, rep2⟩ := mz (n := A.length + B.length) (w' := w.drew.alloc (.cells (os.toArray ++ us.toArray ++ Builtin.zeroCells z.cells (grownCap w (A.length + B.length) cap el - (A.length + B.length))) el)) s1 hp rfl hge (by rw [harr]; exact av _)
   (by rw [harr, bX]; exact az _ hge) hABc
   (by
     intro j x q c p hx hc hp'
     have hq : q < i.size := by rw [← hABc j x hx]; exact ba hc
     have hget : (os ++ us ++ (Builtin.zeroCells z.cells (grownCap w (A.length + B.length) cap el - (A.length + B.length))).toList)[j * i.size + q]? = some p := by
      have : (os.toArray ++ us.toArray ++ Builtin.zeroCells z.cells (grownCap w (A.length + B.length) cap el - (A.length + B.length))).toList = os ++ us ++ (Builtin.zeroCells z.cells (grownCap w (A.length + B.length) cap el - (A.length + B.length))).toList := by simp
      rw [← this, Array.getElem?_toList]
      exact hp'
     rcases u5 (zs := (Builtin.zeroCells z.cells (grownCap w (A.length + B.length) cap el - (A.length + B.length))).toList) hol hul hx hq with ⟨h1, h2, h3⟩ | ⟨h1, h2, h3⟩
     ·rw [h3] at hget
      exact ⟨horep j x q c p h2 hc hget, ho1 p (bf hget)⟩
     ·rw [h3] at hget
      exact ⟨(hurep _ x q c p h2 hc hget).mono (fun _ _ => rfl) e1.grow, hu1 p (bf hget)⟩)
  refine ⟨.value _, _, _, G1, ρ2, ?_, .inl rfl, s2, e1.trans e2, rep2⟩
  exact hrun
 split at h
 ·-- nil
  rename_i hnil
  rw [hnil] at r1 hA
  have hu0 := gw r1
  subst hu0
  simp only [content, Option.some.injEq] at hA
  subst hA
  simp only [au] at h
  obtain ⟨⟨k, σ'⟩, hp, hr⟩ := h
  by_cases hm : B.length = 0
  ·have hB0 : B = [] := by simpa using hm
   subst hB0
   obtain ⟨ρ', s1, e1, hk⟩ := hs.vj hp
   subst hr
   have hrun := hfits (n := 0) (cap := 0) (ad := none) (w' := w) rfl (by simp) rfl
   refine ⟨.value _, _, w, G, ρ', by exact hrun, .inl rfl, s1, e1, ?_⟩
   exact .own _ _ _ _ _ (by simp) (by simp [dJ, hk])
  ·exact fresh (os := []) hs Ext.refl hp hr.symm rfl (by simp) (by simp) (fun _ => ⟨rfl, rfl⟩) (by simp; omega) (by simp) (by simp [dE]) h63 (by simp) (by simp)
 ·-- a block of our own
  rename_i b off n hown
  split at h
  ·rename_i s es hb
   split at h
   ·rename_i hss
    subst hss
    simp only [au] at h
    obtain ⟨⟨k, σ'⟩, hp, hr⟩ := h
    rw [hown] at r1 hA
    have r1' := r1
    obtain ⟨ad, cap, rfl, hcap, hok⟩ := fV r1
    obtain ⟨l, hl, hblk⟩ := hs.get hb
    have hA' := hA
    simp only [content, hb] at hA'
    split at hA'
    ·rename_i hle
     cases hA'
     have hlen : ((es.drop off).take n).length = n := by simp; omega
     have hcl : ∀ (j : Nat) x, es[j]? = some x → x.cells.length = i.size := by
      cases l with
      | lv blk o' t s' => obtain ⟨rfl, _, _, _, _, _, _, hcl, _⟩ := hblk; exact hcl
      | det => simp only [ej] at hblk; subst hblk; simp
      | dead => exact hblk.elim
      | hole => exact hblk.elim
     have hallA : dE i.size ((es.drop off).take n) = true := by
      rw [dE, aU]
      intro x hx
      have := List.mem_of_mem_drop (List.mem_of_mem_take hx)
      obtain ⟨j, hj⟩ := List.getElem?_of_mem this
      simpa using hcl j x hj
     obtain ⟨ad2, cap2, os, he2, _, hol, hocell, honone, horep, ho1⟩ := jk hs hA r1' hallA
     simp only [Value.slice.injEq] at he2
     obtain ⟨rfl, _, rfl⟩ := he2
     rw [hlen] at hol h63 hbytes
     have hdie : ∃ G1 ρ1, St w G1 ρ1 (σ.set b .dead) ∧ Ext w G ρ w G1 ρ1 := by
      cases l with
      | lv blk o' t s' => obtain ⟨x1, x2⟩ := hs.Ae hl; exact ⟨_, _, x1, x2⟩
      | det => obtain ⟨x1, x2⟩ := hs.mL hl (by rintro ⟨_, _, _, _, x⟩; cases x); exact ⟨_, _, x1, x2⟩
      | dead => exact hblk.elim
      | hole => exact hblk.elim
     rcases ax cap (n + B.length) with hroom | hroom
     ·obtain ⟨G1, ρ1, s1, e1⟩ := hdie
      refine fresh (os := os) (cap := cap) (ad := ad) s1 e1 hp hr.symm (by rw [hlen]) (by rw [hlen]; exact hol) hocell ?_ (by rw [hlen]; exact hroom) (by rw [hlen]; exact hcap) hallA (by rw [hlen]; exact h63) ?_ ho1
      ·intro hnone
       have := honone hnone
       refine ⟨by rw [this]; rfl, ?_⟩
       simp only [dJ, hl] at hok
       cases l with
       | lv blk o' t s' =>
         simp only at hok
         rcases hok with h | ⟨h, _⟩
         ·exact h
         ·rw [hnone] at h; cases h
       | det => exact hok
       | dead => exact hblk.elim
       | hole => exact hblk.elim
      ·intro j x k c q h1 h2 h3
       exact (horep j x k c q h1 h2 h3).mono (fun _ _ => rfl) e1.grow
     ·-- there is room
      by_cases hm : B.length = 0
      ·have hB0 : B = [] := by simpa using hm
       subst hB0
       have hus : us = [] := by simpa using hul
       subst hus
       have hrun := hfits (n := n) (cap := cap) (ad := ad) (w' := w) rfl (by simpa using hcap) (by cases ad <;> rfl)
       have hnewloc : ∃ l', (∀ (blk o t s : Nat), l' = .lv blk o t s → ∃ o' t' s', l = .lv blk o' t' s') ∧ (∀ ρ', cx ρ ρ' → ej w G ρ' l' (.prow i.size ((es.drop off).take n))) ∧
        (match l' with | .lv blk o tot sz => cap = 0 ∨ (ad = some ⟨blk, o + 0 * sz, none⟩ ∧ o + (0 + cap) * sz ≤ tot) | .det => cap = 0 | _ => False) := by
        cases l with
        | lv blk o' t s' =>
          obtain ⟨rfl, hng, arr, el', hh, rfl, hfit, hcl2, hk2⟩ := hblk
          simp only [dJ, hl] at hok
          rcases hok with hc0 | ⟨hada, hf2⟩
          ·refine ⟨.det, by simp, ?_, hc0⟩
           intro ρ' _
           have : n = 0 := by omega
           subst this
           simp [ej]
          ·have hmul : (off + n) * i.size ≤ es.length * i.size := az _ hle
           rw [a8] at hmul
           refine ⟨.lv blk (o' + off * i.size) arr.size i.size, ?_, ?_, .inr ⟨by simpa using hada, by rw [a8] at hf2; simpa [dh] using hf2⟩⟩
           ·rintro blk' o2 t2 s2 h2; cases h2; exact ⟨_, _, _, rfl⟩
           ·intro ρ' _
            refine ⟨rfl, hng, arr, el', hh, rfl, by rw [hlen]; omega, ?_, ?_⟩
            ·intro j x hx
             rw [aN] at hx
             split at hx
             ·rw [bF] at hx; exact hcl2 _ _ hx
             ·cases hx
            ·intro j x k c u hx hc hu
             rw [aN] at hx
             split at hx
             ·rw [bF] at hx
              exact hk2 (off + j) x k c u hx hc (by rw [a8, show o' + (off * i.size + j * i.size) + k = o' + off * i.size + j * i.size + k by omega]; exact hu)
             ·cases hx
        | det =>
          refine ⟨.det, by simp, ?_, by simpa [dJ, hl] using hok⟩
          intro ρ' _
          simp only [ej] at hblk ⊢
          subst hblk
          simp
        | dead => exact hblk.elim
        | hole => exact hblk.elim
       obtain ⟨l', hl'1, hl'2, hl'3⟩ := hnewloc
       simp only [c8] at hp
       obtain ⟨ρ', s1, e1, hk⟩ := hs.xD hl hp hl'1 hl'2
       subst hr
       refine ⟨.value _, _, w, G, ρ', by exact hrun, .inl rfl, s1, e1, ?_⟩
       have hrep : bT w G ρ' (.own k 0 n) (.slice ad n cap) := by
        refine .own _ _ _ _ _ (by simpa using hcap) ?_
        simp only [dJ, hk]
        cases l' <;> first | exact hl'3 | exact hl'3.elim
       simpa [hlen] using hrep
      ·cases l with
       | lv blk o' t s' =>
         obtain ⟨rfl, hng, arr, el', hh, rfl, hfit, hcl2, hk2⟩ := hblk
         simp only [dJ, hl] at hok
         rcases hok with hc0 | ⟨rfl, hf2⟩
         ·omega
         ·have hmul : (off + n) * i.size ≤ es.length * i.size := az _ hle
          have hmul2 : (off + (n + B.length)) * i.size ≤ (off + cap) * i.size := az _ (by omega)
          have hx1 : (off + n) * i.size = off * i.size + n * i.size := a8 _ _ _
          have hx2 : (off + (n + B.length)) * i.size = off * i.size + n * i.size + B.length * i.size := by rw [a8, a8]; omega
          have hW : o' + off * i.size + n * i.size + us.length ≤ arr.size := by rw [hul]; omega
          have hst := run_storeCells_at P blk (o' + off * i.size + n * i.size) el' us 0 arr w hh (by omega) hu1
          simp only [bw] at hst
          have hrun := hfits (n := n) (cap := cap) (ad := some ⟨blk, o' + off * i.size, none⟩) (w' := w.setRow blk (wrote arr (o' + off * i.size + n * i.size) us)) rfl hroom
           (by simp only [iN]; exact hst)
          have hGsame : ∀ k, G k → (w.setRow blk (wrote arr (o' + off * i.size + n * i.size) us)).heap[k]? = w.heap[k]? := by
           intro q hq
           rw [dk hh, Array.getElem?_setIfInBounds_ne]
           rintro rfl; exact hng hq
          have hnew : (w.setRow blk (wrote arr (o' + off * i.size + n * i.size) us)).heap[blk]? = some (.cells (wrote arr (o' + off * i.size + n * i.size) us) el' (0, 0)) := by
           rw [dk hh, gu (c6 hh)]
          obtain ⟨s1, e1⟩ := hs.write (w' := w.setRow blk (wrote arr (o' + off * i.size + n * i.size) us)) hl (c6 hh) (dk hh) (b := .prow i.size [])
           ⟨rfl, hng, _, el', hnew, ft hW, by simp; omega, by simp, by simp⟩
          have hp' : Vpi.push base sl ((σ.set b (.prow i.size [])).set b .dead) (.prow i.size (List.take n (List.drop off es) ++ B)) = some (k, σ') := by rw [List.set_set]; exact hp
          obtain ⟨ρ', s2, e2, hk⟩ := s1.xD hl hp' (l := .lv blk (o' + off * i.size) arr.size i.size) (by rintro blk' o2 t2 s2 h2; cases h2; exact ⟨_, _, _, rfl⟩) (by
           intro ρ' _
           refine ⟨rfl, hng, _, el', hnew, ft hW, ?_, ?_, ?_⟩
           ·rw [bX, hlen, a8]; omega
           ·intro j x hx
            rcases ax j n with h1 | h1
            ·rw [aB (by rw [hlen]; exact h1), aN, if_pos h1, bF] at hx; exact hcl2 _ _ hx
            ·rw [aC (by rw [hlen]; exact h1)] at hx
             simpa using aU.1 hallB x (bf hx)
           ·intro j x q c p hx hc hpq
            rw [iW hW] at hpq
            rcases ax j n with h1 | h1
            ·rw [aB (by rw [hlen]; exact h1), aN, if_pos h1, bF] at hx
             have hq : q < i.size := by rw [← hcl2 _ _ hx]; exact ba hc
             have h2 : (j + 1) * i.size ≤ n * i.size := az _ h1
             rw [dX] at h2
             rw [if_neg (by omega)] at hpq
             obtain ⟨y1, y2⟩ := hk2 (off + j) x q c p hx hc (by rw [a8, show o' + (off * i.size + j * i.size) + q = o' + off * i.size + j * i.size + q by omega]; exact hpq)
             exact ⟨y1.mono hGsame (fun _ y => y), y2⟩
            ·rw [aC (by rw [hlen]; exact h1), hlen] at hx
             have hq : q < i.size := by rw [← (by simpa using aU.1 hallB x (bf hx) : x.cells.length = i.size)]; exact ba hc
             have hjB := ba hx
             have h2 : (j - n + 1) * i.size ≤ B.length * i.size := az _ hjB
             rw [dX] at h2
             have h3 : j * i.size = n * i.size + (j - n) * i.size := by rw [← a8]; congr 1; omega
             rw [if_pos (by omega), show o' + off * i.size + j * i.size + q - (o' + off * i.size + n * i.size) = (j - n) * i.size + q by omega] at hpq
             exact ⟨(hurep _ x q c p hx hc hpq).mono hGsame (fun _ y => y), hu1 p (bf hpq)⟩)
          subst hr
          have hrep : bT (w.setRow blk (wrote arr (o' + off * i.size + n * i.size) us)) G ρ' (.own k 0 (n + B.length)) (.slice (some ⟨blk, o' + off * i.size, none⟩) (n + B.length) cap) := by
           refine .own _ _ _ _ _ hroom ?_
           simp only [dJ, hk]
           right
           rw [a8] at hf2
           exact ⟨by simp, by simp; omega⟩
          exact ⟨.value _, _, _, G, ρ', by exact hrun, .inl rfl, s2, e1.trans e2, by simpa [hlen] using hrep⟩
       | det => simp only [dJ, hl] at hok; omega
       | dead => exact hblk.elim
       | hole => exact hblk.elim
    ·cases hA'
   ·cases h
  ·cases h
 ·cases h
theorem j9 (z : Array Value) (n : Nat) : Builtin.zeroCells z n = madeCells z (n * z.size) := rfl
theorem pw {t t2 el ty : TypeId} {ik k : IntKind} {i : TypeInfo} {z : Value} {n cap : Nat} {m : Int} {ad : Option Addr} {w' : World} (ht : P.underlying t = some (.slice el)) (ht2 : P.underlying t2 = some (.int ik)) (hi : P.info? el = some i) (hz : i.zero = some z) (hzs : z.cells.size = i.size)
 (h0 : 0 ≤ m) (h63 : m ≤ 9223372036854775807) (hb : m.toNat * i.bytes ≤ 281474976710656) (hroom : n + m.toNat ≤ cap)
 (hst : match ad with | some A => (storeCells (A.add (n * i.size)) (Builtin.zeroCells z.cells m.toNat).toList).run P w = .ok () w' | none => w' = w) :
 (Builtin.append_ #[t, t2] ty #[.slice ad n cap, .int k m]).run P w = .ok (.slice ad (n + m.toNat) cap) w' := by
 have hw : IntKind.i64.wrap m = m := by rw [IntWalk.i64_in _ (by omega)]
 have hneg : ¬ m < 0 := by omega
 have hbig : ¬ (281474976710656 < m * (i.bytes : Int)) := by
  have : m * (i.bytes : Int) = ((m.toNat * i.bytes : Nat) : Int) := by rw [Int.natCast_mul, Int.toNat_of_nonneg h0]
  rw [this]; omega
 have he : m.toNat * i.size = 0 → Builtin.zeroCells z.cells m.toNat = #[] := by
  intro h; apply Array.eq_empty_of_size_eq_zero; rw [size_zeroCells, hzs, h]
 by_cases hz0 : m.toNat * i.size = 0
 ·have hemp := he hz0
  rw [hemp] at hst
  cases ad with
  | none => subst hst; simp [Builtin.append_, run_underlying ht, run_underlying ht2, sizeOf, typeInfo, zeroValue, hi, hz, hw, hneg, hbig, hroom, hz0, asInt, asIntOf]
  | some A =>
    have hst2 : (storeCells (A.add (n * i.size)) []).run P w = .ok () w' := hst
    simp [Builtin.append_, run_underlying ht, run_underlying ht2, sizeOf, typeInfo, zeroValue, hi, hz, hw, hneg, hbig, hroom, hz0, asInt, asIntOf, hst2]
 ·cases ad with
  | none => subst hst; simp [Builtin.append_, run_underlying ht, run_underlying ht2, sizeOf, typeInfo, zeroValue, hi, hz, hw, hneg, hbig, hroom, hz0, asInt, asIntOf]
  | some A => simp [Builtin.append_, run_underlying ht, run_underlying ht2, sizeOf, typeInfo, zeroValue, hi, hz, hw, hneg, hbig, hroom, hz0, asInt, asIntOf, hst]
theorem ov {t t2 el ty : TypeId} {ik k : IntKind} {i : TypeInfo} {z : Value} {n cap : Nat} {m : Int} {ad : Option Addr} {os : List Value} (ht : P.underlying t = some (.slice el)) (ht2 : P.underlying t2 = some (.int ik)) (hi : P.info? el = some i) (hz : i.zero = some z) (hzs : z.cells.size = i.size)
 (h0 : 0 ≤ m) (h63 : m ≤ 9223372036854775807) (hlo : os.length = n * i.size)
 (ho : ∀ A, ad = some A → ∀ (j : Nat) u, os[j]? = some u → w.cell? (A.add j) = some u) (hno : ad = none → n = 0 ∧ cap = 0)
 (hg : cap < n + m.toNat) (hbytes : (n + m.toNat) * i.bytes ≤ 140737488355328) (h63' : ((n + m.toNat : Nat) : Int) ≤ 9223372036854775807) :
 (Builtin.append_ #[t, t2] ty #[.slice ad n cap, .int k m]).run P w =
  .ok (.slice (some ⟨w.heap.size, 0, none⟩) (n + m.toNat) (grownCap w (n + m.toNat) cap el)) (w.drew.alloc (.cells (os.toArray ++ (Builtin.zeroCells z.cells m.toNat).toList.toArray ++ Builtin.zeroCells z.cells (grownCap w (n + m.toNat) cap el - (n + m.toNat))) el)) := by
 have hw : IntKind.i64.wrap m = m := by rw [IntWalk.i64_in _ (by omega)]
 have hneg : ¬ m < 0 := by omega
 have hmb : m.toNat * i.bytes ≤ (n + m.toNat) * i.bytes := az _ (by omega)
 have hbig : ¬ (281474976710656 < m * (i.bytes : Int)) := by
  have : m * (i.bytes : Int) = ((m.toNat * i.bytes : Nat) : Int) := by rw [Int.natCast_mul, Int.toNat_of_nonneg h0]
  rw [this]; omega
 have hroom : ¬ (n + m.toNat ≤ cap) := by omega
 have h63n : ¬ (9223372036854775807 < (n : Int) + max m 0) := by omega
 have h48 : ¬ (281474976710656 < Builtin.nextslicecap (n + m.toNat) cap * i.bytes) := by
  have := growslice_fits hg hbytes
  omega
 have hfo : (Builtin.firstCells i.size n (.slice ad n cap)).run P w.drew = .ok os.toArray w.drew := by
  refine pH hlo (fun A hA j u hu => by have := ho A hA j u hu; simpa using this) (fun x => (hno x).1)
 by_cases hz0 : m.toNat * i.size = 0
 ·have hemp : Builtin.zeroCells z.cells m.toNat = #[] := by apply Array.eq_empty_of_size_eq_zero; rw [size_zeroCells, hzs, hz0]
  simp [Builtin.append_, run_underlying ht, run_underlying ht2, sizeOf, typeInfo, zeroValue, hi, hz, hw, hneg, hbig, hroom, hz0, asInt, asIntOf, h63n, h48, hfo, Question.forced, newRow, grownCap, hemp]
 ·simp [Builtin.append_, run_underlying ht, run_underlying ht2, sizeOf, typeInfo, zeroValue, hi, hz, hw, hneg, hbig, hroom, hz0, asInt, asIntOf, h63n, h48, hfo, Question.forced, newRow, grownCap]
theorem qY {c : Call} {x y : Operand} {t t2 : TypeId} (ho : o.op = .call c) (hc1 : c.callee = .builtin .append) (hc2 : c.args = #[x, y]) (hc3 : c.argTypes = #[t, t2]) :
 (execOp a.eval o).run P w = ((Builtin.append_ #[t, t2] o.type #[a.eval x, a.eval y]).run P w).andThen fun v w => .ok (.value v) w := by
 simp [execOp, ho, resolve, hc1, hc2, hc3, invoke, builtin]
theorem xl {sz bytes : Nat} {zp : PV} {t t2 el : TypeId} {ik : IntKind} {x y : Operand} {x' y' : Opd} {i : TypeInfo} {z : Value} {r : CV × ar} (hs : St w G ρ σ) (he : cX w G ρ e a.tmps) (ho : ∃ c : Call, o.op = .call c ∧ c.callee = .builtin .append ∧ c.args = #[x, y] ∧ c.argTypes = #[t, t2])
 (hx : bN x x' = true) (hy : bN y y' = true) (ht : P.underlying t = some (.slice el)) (ht2 : P.underlying t2 = some (.int ik)) (hi : P.info? el = some i) (hsz : i.size = sz) (hby : i.bytes = bytes) (hz : i.zero = some z) (hzs : z.cells.size = sz) (hzz : na z.cells.toList zp.cells = true) (h0 : sz ≠ 0) (hb0 : bytes ≠ 0)
 (h : ev base sl (.appz sz bytes zp x' y') e σ = some r) : b9 P o a w G ρ r.1 r.2 := by
 have r1 := bk hx he
 have r2 := bk hy he
 obtain ⟨c, ho, hc1, hc2, hc3⟩ := ho
 have exec := qY (P := P) (w := w) (a := a) ho hc1 hc2 hc3
 generalize hu : a.eval x = u at r1
 generalize hv : a.eval y = v at r2
 rw [hu, hv] at exec
 simp only [ev] at h
 split at h
 ·rename_i A m hA hm
  obtain ⟨kk, rfl, _⟩ := jg hm r2
  split at h
  ·rename_i hcond
   obtain ⟨m0, m63, hbytes, hzl⟩ := hcond
   subst hsz hby
   obtain ⟨z1, z2, z3⟩ := ko (w := w) (G := G) hzz
   have hBl : (aw m.toNat zp).length = m.toNat := eK
   have h63 : ((A.length + m.toNat : Nat) : Int) ≤ 9223372036854775807 := by
    have : (A.length + m.toNat) * 1 ≤ (A.length + m.toNat) * i.bytes := bH _ (by omega)
    omega
   refine qB (el := el) (z := z) (A := A) (B := aw m.toNat zp) (us := (Builtin.zeroCells z.cells m.toNat).toList) hs r1 hzs hA (by rw [fK, size_zeroCells, hBl, hzs]) ?_ ?_ ?_ (by rw [hBl]; exact hbytes) (by rw [hBl]; exact h63) ?_ ?_ (by rw [hBl]; exact h)
   ·intro j e k c q he hck hq
    rw [List.getElem?_replicate] at he
    split at he
    ·rename_i hj
     cases he
     have hk : k < i.size := by rw [← hzl]; exact ba hck
     have hidx : j * i.size + k < m.toNat * z.cells.size := by
      have : (j + 1) * i.size ≤ m.toNat * i.size := az _ (by omega)
      rw [dX] at this
      rw [hzs]; omega
     rw [Array.getElem?_toList, j9, iC hidx (by omega), hzs, Nat.add_comm (j * i.size), Nat.add_mul_mod_self_right, a6 hk] at hq
     exact z2 k c q hck (by simpa using hq)
    ·cases he
   ·intro q hq
    obtain ⟨j, hj⟩ := List.getElem?_of_mem hq
    have hjl := ba hj
    rw [fK, size_zeroCells] at hjl
    rw [Array.getElem?_toList, j9, iC hjl (by omega)] at hj
    exact z3 q (by simpa using gk hj)
   ·rw [dE, aU]
    intro e he
    obtain ⟨_, rfl⟩ := List.mem_replicate.1 he
    simpa using hzl
   ·intro n cap ad w' hua hroom hst
    subst hua
    rw [hBl] at hroom ⊢
    have hb2 : m.toNat * i.bytes ≤ 281474976710656 := by
     have : m.toNat * i.bytes ≤ (A.length + m.toNat) * i.bytes := az _ (by omega)
     omega
    rw [exec, pw ht ht2 hi hz hzs m0 m63 hb2 hroom hst]; rfl
   ·intro n cap ad os hua hol hoc hon hg hnc hb3 h633
    subst hua
    rw [hBl] at hg hb3 h633 ⊢
    rw [exec, ov ht ht2 hi hz hzs m0 m63 hol hoc hon hg hb3 h633]; rfl
  ·cases h
 ·cases h
end
end Go.Proofs.YtdieenbfdeaffabGreat.Vpi
namespace Go.Proofs.YtdieenbfdeaffabGreat.Vpi
open Go
set_option maxRecDepth 4000
section
variable {P : Program} {o : Oper} {w : World} {G : Nat → Prop} {ρ : List Loc} {σ : ar} {e : Env} {a : Act} {base : Nat} {sl : Option Nat}
theorem uV {α : Type} {x : Array α} {a : α} (h : x.toList = [a]) : x = #[a] := by
 apply Array.ext'; simpa using h
theorem iz {α : Type} {x : Array α} {a b : α} (h : x.toList = [a, b]) : x = #[a, b] := by
 apply Array.ext'; simpa using h
set_option maxHeartbeats 1000000 in
theorem BL {r : ROp} {res : CV × ar} (hs : St w G ρ σ) (he : cX w G ρ e a.tmps) (hok : oC P o.op r = true) (h : ev base sl r e σ = some res) : b9 P o a w G ρ res.1 res.2 := by
 generalize ho : o.op = op at hok
 unfold oC at hok
 split at hok
 ·simp only [ev] at h; cases h; exact xb hs he (.inl ho) hok
 ·simp only [ev] at h; cases h; exact xb hs he (.inr ho) hok
 ·simp only [aA] at hok
  simp only [ev] at h
  split at h
  ·rename_i hb; cases h; exact w9 hs he ho hok.1.1 hok.1.2 hok.2 hb
  ·cases h
 ·exact v5 hs ho hok h
 ·exact zG hs he ho hok h
 ·simp only [aA] at hok
  obtain ⟨h1, h2⟩ := hok
  split at h2
  ·rename_i fs hfs
   simp only [aA] at h2
   exact vZ hs he ho h1 hfs h2.1 h2.2 h
  ·cases h2
 ·obtain ⟨el, hel, hq⟩ := dC (P := P) hok
  simp only [aA, beq_iff_eq, decide_eq_true_eq] at hq
  obtain ⟨⟨⟨⟨h1, h2⟩, h3⟩, h4⟩, h5⟩ := hq
  cases hi : P.info? el with
  | none => rw [hi] at h5; cases h5
  | some i =>
    rw [hi] at h5
    simp only [Option.bind_some] at h5
    cases hz : i.zero with
    | none => rw [hz] at h5; cases h5
    | some zv =>
      rw [hz] at h5
      simp only [szP, hi, aH, Option.some.injEq] at h1
      exact t7 hs he ho hel hi h1 hz (by simpa using h5) h2 h3 h4 h
 ·obtain ⟨el, hel, hq⟩ := dC (P := P) hok
  cases hi : P.info? el with
  | none => rw [hi] at hq; cases hq
  | some i =>
    rw [hi] at hq
    simp only [aA, beq_iff_eq, decide_eq_true_eq] at hq
    obtain ⟨⟨⟨⟨h1, h2⟩, h3⟩, h4⟩, h5⟩ := hq
    cases hz : i.zero with
    | none => rw [hz] at h5; cases h5
    | some zv =>
      rw [hz] at h5
      exact xk hs he ho hel hi h1 hz (by simpa using h5) h2 h3 h4 h
 ·simp only [aA, beq_iff_eq] at hok
  exact xf hs he ho hok.2 hok.1.1 hok.1.2 h
 ·simp only [aA, beq_iff_eq] at hok
  exact vW hs he ho hok.1.2 hok.2 hok.1.1 h
 ·exact xa hs he ho hok h
 ·simp only [aA, beq_iff_eq] at hok
  obtain ⟨⟨⟨rfl, h1⟩, h2⟩, h3⟩ := hok
  exact zH hs he ho h1 h2 h
 ·simp only [aA] at hok
  exact zI hs he ho hok.1.1.1 hok.1.1.2 hok.1.2 hok.2 h
 ·simp only [aA, beq_iff_eq] at hok
  obtain ⟨rfl, h1⟩ := hok
  exact BI hs he ho h1 h
 ·simp only [aA] at hok
  exact xi hs he ho hok.2 hok.1.1 hok.1.2 h
 ·simp only [aA, beq_iff_eq] at hok
  obtain ⟨⟨rfl, h1⟩, h2⟩ := hok
  exact xc hs he ho h1 h2 h
 ·simp only [aA] at hok
  obtain ⟨⟨h1, h2⟩, h3⟩ := hok
  obtain ⟨el, hel, hq⟩ := dC (P := P) h3
  cases hi : P.info? el with
  | none => rw [hi] at hq; cases hq
  | some i =>
    rw [hi] at hq
    simp only [aA, beq_iff_eq] at hq
    obtain ⟨⟨h4, h5⟩, h6⟩ := hq
    cases hz : i.zero with
    | none => rw [hz] at h6; cases h6
    | some zv =>
      rw [hz] at h6
      exact zB hs he ho h1 h2 hel hi h4 h5 hz h6 h
 ·simp only [aA] at hok
  obtain ⟨⟨⟨⟨⟨h1, h2⟩, h3⟩, h4⟩, h5⟩, h6⟩ := hok
  obtain ⟨el, hel, hq⟩ := dC (P := P) h1
  exact vX hs he ho h2 h3 h4 h5 h6 hel (by simpa using hq) h
 ·simp only [aA] at hok
  obtain ⟨h1, h2⟩ := hok
  split at h1
  ·rename_i fs hfs
   split at h1
   ·rename_i fd hfd
    simp only [aA, beq_iff_eq] at h1
    obtain ⟨h3, h4⟩ := h1
    split at h4
    ·rename_i n hn
     exact t6 hs he ho h2 hfs hfd h3 hn (by simpa using h4) h
    ·cases h4
   ·cases h1
  ·cases h1
 ·simp only [aA] at hok
  obtain ⟨h1, h2⟩ := hok
  split at h1
  ·rename_i fs hfs
   split at h1
   ·rename_i fd hfd
    simp only [aA, beq_iff_eq] at h1
    exact vY hs he ho h2 hfs hfd h1.1.1 h1.1.2 h1.2 h
   ·cases h1
  ·cases h1
 ·simp only [aA] at hok
  obtain ⟨⟨h1, h2⟩, h3⟩ := hok
  obtain ⟨el, hel, hq⟩ := dC (P := P) h1
  exact tZ hs he ho h2 h3 hel (by simpa using hq) h
 ·simp only [aA, beq_iff_eq] at hok
  obtain ⟨rfl, h1⟩ := hok
  exact rW hs he ho h1 h
 ·simp only [aA, beq_iff_eq] at hok
  obtain ⟨⟨h1, h2⟩, h3⟩ := hok
  unfold wW at h3
  split at h3
  ·exact zE hs he ho h1 h2 (by simpa using h3) h
  ·cases h3
 ·unfold oF at hok
  split at hok
  ·split at hok
   ·rename_i h1 h2 h3
    simp only [aA] at hok
    exact zD hs he ⟨_, ho, h1, uV h2, uV h3⟩ hok.2 hok.1 h
   ·cases hok
  ·split at hok
   ·rename_i h1 h2 h3
    simp only [aA, beq_iff_eq] at hok
    obtain ⟨⟨⟨rfl, h4⟩, h5⟩, h6⟩ := hok
    obtain ⟨el, hel, hq⟩ := dC (P := P) h6
    cases hi : P.info? el with
    | none => rw [hi] at hq; cases hq
    | some i =>
      rw [hi] at hq
      simp only [aA, beq_iff_eq, bne_iff_ne] at hq
      obtain ⟨⟨⟨⟨h7, h8⟩, h9⟩, h10⟩, h11⟩ := hq
      cases hz : i.zero with
      | none => rw [hz] at h11; cases h11
      | some zv =>
        rw [hz] at h11
        exact t8 hs he ⟨_, ho, h1, iz h2, iz h3⟩ h4 h5 hel hi h7 h8 hz (by simpa using h11) h9 h10 h
   ·cases hok
  ·split at hok
   ·rename_i h1 h2 h3
    simp only [aA, beq_iff_eq] at hok
    obtain ⟨⟨⟨rfl, h4⟩, h5⟩, h6⟩ := hok
    obtain ⟨el, hel, hq⟩ := dC (P := P) h6
    cases hi : P.info? el with
    | none => rw [hi] at hq; cases hq
    | some i =>
      rw [hi] at hq
      simp only [aA, beq_iff_eq, bne_iff_ne] at hq
      obtain ⟨⟨⟨h7, h8⟩, h10⟩, h11⟩ := hq
      cases hz : i.zero with
      | none => rw [hz] at h11; cases h11
      | some zv =>
        rw [hz] at h11
        exact xm hs he ⟨_, ho, h1, iz h2, iz h3⟩ h4 h5 hel hi h7 h8 hz (by simpa using h11) h10 h
   ·cases hok
  ·split at hok
   ·rename_i h1 h2 h3
    simp only [aA] at hok
    obtain ⟨⟨⟨h4, h5⟩, hu⟩, h6⟩ := hok
    split at hu
    ·rename_i ik hik
     obtain ⟨el, hel, hq⟩ := dC (P := P) h6
     cases hi : P.info? el with
     | none => rw [hi] at hq; cases hq
     | some i =>
       rw [hi] at hq
       simp only [aA, beq_iff_eq, bne_iff_ne] at hq
       obtain ⟨⟨⟨⟨h7, h8⟩, h9⟩, h10⟩, h11⟩ := hq
       cases hz : i.zero with
       | none => rw [hz] at h11; cases h11
       | some zv =>
         rw [hz] at h11
         simp only [aA, beq_iff_eq] at h11
         exact xl hs he ⟨_, ho, h1, iz h2, iz h3⟩ h4 h5 hel hik hi h7 h8 hz h11.1 h11.2 h9 h10 h
    ·cases hu
   ·cases hok
  ·split at hok
   ·rename_i h1 h2 h3
    simp only [aA] at hok
    obtain ⟨⟨h4, h5⟩, h6⟩ := hok
    obtain ⟨el, hel, hq⟩ := dC (P := P) h6
    exact xh hs he ⟨_, ho, h1, iz h2, iz h3⟩ h4 h5 hel (by simpa using hq) h
   ·cases hok
  ·split at hok
   ·rename_i h1 h2
    simp only [aA] at hok
    exact BJ hs he ⟨_, ho, h1, iz h2⟩ hok.1 hok.2 h
   ·cases hok
  ·split at hok
   ·rename_i h1 h2
    simp only [aA] at hok
    exact BK hs he ⟨_, ho, h1, iz h2⟩ hok.1 hok.2 h
   ·cases hok
  ·simp [ev] at h
  ·simp [ev] at h
  ·simp [ev] at h
  ·cases hok
 ·cases hok
end
end Go.Proofs.YtdieenbfdeaffabGreat.Vpi

