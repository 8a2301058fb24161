/- The verified interpreter, part 4: the look that holds resolved code against the model's code. -/
import Derived.Test.YtnbglampelmgoaaGreatVpiState
namespace Go.Proofs.YtnbglampelmgoaaGreat.Vpi
open Go
set_option linter.unusedVariables false
set_option linter.unusedSimpArgs false

/-- single cells all -/
def oneAll (vs : List Value) : Bool := vs.all (·.oneCell')

/-- one cell of a constant -/
def okC1 : Value → CV → Bool
  | _, .any => true
  | .int k n, .p (.int k' n') => k == k' && n == n'
  | .bool b, .p (.bool b') => b == b'
  | .slice none 0 0, .nils => true
  | .slice none 0 0, .p (.sl []) => true
  | .func (.func f) x y, .fn f' [] => f == f' && x.isEmpty && y.isEmpty
  | _, _ => false

def okCs : List Value → List CV → Bool
  | [], [] => true
  | v :: vs, c :: cs => okC1 v c && okCs vs cs
  | _, _ => false

def okP1 : Value → PV → Bool
  | .int k n, .int k' n' => k == k' && n == n'
  | .bool b, .bool b' => b == b'
  | .slice none 0 0, .sl [] => true
  | _, _ => false

def okPs : List Value → List PV → Bool
  | [], [] => true
  | v :: vs, c :: cs => okP1 v c && okPs vs cs
  | _, _ => false

def okC : Value → CV → Bool
  | .agg vs, .agg cs => okCs vs.toList cs
  | .agg vs, .p (.agg ps) => okPs vs.toList ps
  | v, c => okC1 v c

def okOpd : Operand → Opd → Bool
  | .tmp t, .t n => t == n
  | .const v, .c c => okC v c && oneAll v.cells.toList
  | .func f, .c (.fn f' []) => f == f'
  | _, _ => false

def okOpds : List Operand → List Opd → Bool
  | [], [] => true
  | x :: xs, y :: ys => okOpd x y && okOpds xs ys
  | _, _ => false

def okOpt : Option Operand → Option Opd → Bool
  | none, none => true
  | some x, some y => okOpd x y
  | _, _ => false

def szP (P : Program) (t : TypeId) : Option Nat := (P.info? t).map (·.size)

def aggD : TypeDesc → Bool
  | .struct _ | .array _ _ => true
  | _ => false

def aggP (P : Program) (t : TypeId) : Option Bool := (P.underlying t).map aggD

/-- the parts of a literal: places and sizes of the fields -/
def okParts (P : Program) (fs : Array Field) : List (Nat × Operand) → List (Nat × Nat × Opd) → Bool
  | [], [] => true
  | (i, x) :: l, (off, sz, y) :: r => (match fs[i]? with | some f => f.offset == off && szP P f.type == some sz | none => false) && okOpd x y && okParts P fs l r
  | _, _ => false

/-- a slice literal's parts, one by one -/
def okEach : Nat → List (Nat × Operand) → List Opd → Bool
  | _, [], [] => true
  | k, (i, x) :: l, y :: r => i == k && okOpd x y && okEach (k + 1) l r
  | _, _, _ => false

def isSlice (P : Program) (t e : TypeId) : Bool :=
  match P.underlying t with
  | some (.slice e') => e' == e
  | _ => false

def sliceElem (P : Program) (t : TypeId) : Option TypeId :=
  match P.underlying t with
  | some (.slice e) => some e
  | _ => none

def isIntT (P : Program) (t : TypeId) : Bool :=
  match P.underlying t with
  | some (.int _) => true
  | _ => false

def isBoolT (P : Program) (t : TypeId) : Bool :=
  match P.underlying t with
  | some .bool => true
  | _ => false

def isStrT (P : Program) (t : TypeId) : Bool :=
  match P.underlying t with
  | some .string => true
  | _ => false

def strTab (c : Operand) (tab : List Nat) : Bool :=
  match c with
  | .const (.string s) => s.data.toList.map (·.toNat) == tab
  | _ => false

def intKindT (P : Program) (t : TypeId) : Option IntKind :=
  match P.underlying t with
  | some (.int k) => some k
  | _ => none

def beqOk : BinOp → Bool → Bool
  | .eql, ne => !ne
  | .neq, ne => ne
  | _, _ => false

/-- a function that may be called -/
def okFn (P : Program) (f : FuncId) : Bool :=
  match P.funcs[f]? with
  | some fn => fn.name != "runtime.NumGoroutine" && fn.body.isSome
  | none => false

def okCall (P : Program) (c : Call) : ROp → Bool
  | .len y => (match c.callee, c.args.toList, c.argTypes.toList with | .builtin .len, [x], [t] => (sliceElem P t).isSome && okOpd x y | _, _, _ => false)
  | .append sz bytes s x =>
    (match c.callee, c.args.toList, c.argTypes.toList with
     | .builtin .append, [a, b], [t, u] => t == u && okOpd a s && okOpd b x &&
       (match sliceElem P t with
        | some e => (match P.info? e with | some i => i.size == sz && i.bytes == bytes && sz != 0 && bytes != 0 && (match i.zero with | some zv => zv.cells.size == sz | none => false) | none => false)
        | none => false)
     | _, _, _ => false)
  | .copy sz d s =>
    (match c.callee, c.args.toList, c.argTypes.toList with
     | .builtin .copy, [a, b], [t, _] => okOpd a d && okOpd b s && (match sliceElem P t with | some e => szP P e == some sz | none => false)
     | _, _, _ => false)
  | .mx x y => (match c.callee, c.args.toList with | .builtin .max, [a, b] => okOpd a x && okOpd b y | _, _ => false)
  | .mn x y => (match c.callee, c.args.toList with | .builtin .min, [a, b] => okOpd a x && okOpd b y | _, _ => false)
  | .call _ f args => (match c.callee with | .value (.func g) => g == f && okOpds c.args.toList args | _ => false)
  | .callv _ x args => (match c.callee with | .value y => okOpd y x && okOpds c.args.toList args | _ => false)
  | _ => false

def okOp (P : Program) : Op → ROp → Bool
  | .move x, .mv y => okOpd x y
  | .assign x, .mv y => okOpd x y
  | .pick c a b, .pick c' a' b' => okOpd c c' && okOpd a a' && okOpd b b'
  | .alloc t, .alloc zs => match (P.info? t).bind (·.zero) with | some z => okCs z.cells.toList zs && oneAll z.cells.toList | none => false
  | .box _ x, .box y => okOpd x y
  | .build t ps, .build zs qs =>
    (match (P.info? t).bind (·.zero) with | some z => okCs z.cells.toList zs && oneAll z.cells.toList | none => false) &&
    (match P.underlying t with | some (.struct fs) => fs.all (fun f => (szP P f.type).isSome) && okParts P fs ps.toList qs | _ => false)
  | .buildSlice t n ps, .bslice sz xs =>
    (match sliceElem P t with | some e => szP P e == some sz && n == xs.length && n * sz ≤ 16777216 && okEach 0 ps.toList xs && (match (P.info? e).bind (·.zero) with | some z => z.cells.size == sz | none => false) | none => false)
  | .load t a, .load agg sz b => aggP P t == some agg && szP P t == some sz && okOpd a b
  | .store t a x, .store sz b y => szP P t == some sz && okOpd a b && okOpd x y
  | .nilCheck x, .nilc y => okOpd x y
  | .binOp op t x y _, .bin op' x' y' => op == op' && okOpd x x' && okOpd y y' && (match op with | .eql | .neq => isIntT P t | _ => true)
  | .binOp op t x y _, .beq ne x' y' => okOpd x x' && okOpd y y' && isBoolT P t && beqOk op ne
  | .unOp op _ x, .un op' y => op == op' && okOpd x y
  | .convert s d x, .conv k y => (P.underlying s).isSome && intKindT P d == some k && okOpd x y
  | .makeFunc (.func f) fi cap, .mkfn g cs => f == g && fi.size == 0 && okOpds cap.toList cs
  | .makeSlice t l c, .mks deep sz bytes z l' c' =>
    okOpd l l' && okOpd c c' &&
    (match sliceElem P t with
     | some e => (match P.info? e with
        | some i => i.size == sz && i.bytes == bytes && (match i.zero with | some zv => (if deep then okPs zv.cells.toList [.sl []] else okPs zv.cells.toList z.cells) | none => false)
        | none => false)
     | none => false)
  | .slice t x lo hi mx, .slice sz x' lo' hi' mx' => (match sliceElem P t with | some e => szP P e == some sz | none => false) && okOpd x x' && okOpt lo lo' && okOpt hi hi' && okOpt mx mx' && (mx.isNone || hi.isSome)
  | .fieldAddr t x f, .fieldA off y =>
    (match P.underlying t with | some (.struct fs) => (match fs[f]? with | some fd => fd.offset == off && (match szP P fd.type with | some n => n != 0 | none => false) | none => false) | _ => false) && okOpd x y
  | .field t x f, .field agg off sz y =>
    (match P.underlying t with | some (.struct fs) => (match fs[f]? with | some fd => fd.offset == off && szP P fd.type == some sz && aggP P fd.type == some agg | none => false) | _ => false) && okOpd x y
  | .indexAddr t x i, .indexA sz x' i' => (match sliceElem P t with | some e => szP P e == some sz | none => false) && okOpd x x' && okOpd i i'
  | .extract x i, .extract y j => i == j && okOpd x y
  | .index t c x, .idx tab y => okOpd x y && isStrT P t && strTab c tab
  | .call c, r => okCall P c r
  | _, _ => false

def isStore : Op → Bool
  | .store .. => true
  | _ => false

def okLOp (P : Program) (ops : Array Oper) (n : Nat) (o : Oper) (l : LOp) : Bool :=
  okOp P o.op l.op && (match o.dst, l.d with | none, none => true | some a, some b => a == b && a < n && !isStore o.op | _, _ => false) &&
  (match o.guard, l.g with | none, none => true | some (j, w), some (t, w') => w == w' && ((ops[j]?).bind (·.dst)) == some t | _, _ => false)

def okL (P : Program) (ops : Array Oper) (n : Nat) : List Oper → List LOp → Bool
  | [], [] => true
  | o :: os, l :: ls => okLOp P ops n o l && okL P ops n os ls
  | _, _ => false

end Go.Proofs.YtnbglampelmgoaaGreat.Vpi
