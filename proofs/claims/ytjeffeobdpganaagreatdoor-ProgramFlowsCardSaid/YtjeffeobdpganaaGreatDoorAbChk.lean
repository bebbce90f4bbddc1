/- Which text of the abstract machine stands for which text of the model's. -/
import Derived.Test.YtjeffeobdpganaaGreatDoorAbRel
set_option linter.unusedSimpArgs false
set_option linter.unusedVariables false
namespace Go.Ab

/-- A constant without cells of its own. -/
def chkV0 : Value → AV → Bool
  | .bool a, .bool b => a == b
  | .int k n, .int k' m => k == k' && n == m
  | .string s, .str l => s.data.toList == l
  | .pointer none, .nilp => true
  | .slice none 0 0, .vs true [] => true
  | .map none, .nilm => true
  | .nilFunc, .nilf => true
  | .nilIface, .nili => true
  | _, _ => false
def chkVL : List Value → List AV → Bool
  | [], [] => true
  | v :: vs, x :: xs => chkV0 v x && chkVL vs xs
  | _, _ => false
def chkV : Value → AV → Bool
  | .agg cs, .agg xs => chkVL cs.toList xs
  | .func (.func f) a b, .fn f' [] => f == f' && a.isEmpty && b.isEmpty
  | v, x => chkV0 v x
def chkO : Operand → Opd → Bool
  | .tmp t, .t n => t == n
  | .const v, .c x => chkV v x
  | .func f, .c (.fn f' []) => f == f'
  | _, _ => false
def chkOO : Option Operand → Option Opd → Bool
  | none, none => true
  | some x, some y => chkO x y
  | _, _ => false
def chkOL : List Operand → List Opd → Bool
  | [], [] => true
  | x :: xs, y :: ys => chkO x y && chkOL xs ys
  | _, _ => false

section
variable (P : Program)
def szT (t : TypeId) : Option Nat := (P.info? t).map (·.size)
def zrT (t : TypeId) : Option Value := (P.info? t).bind (·.zero)
def unT (t : TypeId) : Option TypeDesc := P.underlying t

/-- A struct literal's parts: each field's place and size. -/
def chkS (fs : Array Field) : List (Nat × Operand) → List (Nat × Nat × Opd) → Bool
  | [], [] => true
  | (i, x) :: l, (o, s, y) :: l' => (match fs[i]? with
      | some f => f.offset == o && szT P f.type == some s
      | none => false) && chkO x y && chkS fs l l'
  | _, _ => false
/-- An array literal's. -/
def chkA (sz : Nat) : List (Nat × Operand) → List (Nat × Nat × Opd) → Bool
  | [], [] => true
  | (i, x) :: l, (o, s, y) :: l' => i * sz == o && s == sz && chkO x y && chkA sz l l'
  | _, _ => false
def chkE : List (Nat × Operand) → List (Nat × Opd) → Bool
  | [], [] => true
  | (i, x) :: l, (i', y) :: l' => i == i' && chkO x y && chkE l l'
  | _, _ => false

def intT (t : TypeId) : Bool := match P.underlying t with
  | some (.int _) => true
  | _ => false
def strT (t : TypeId) : Bool := match P.underlying t with
  | some .string => true
  | _ => false
/-- Compared cell by cell: whole numbers, bools, strings. -/
def flatF (fl : TypeId → Option (List FK)) : List Field → Nat → Option (List FK)
  | [], _ => some []
  | f :: fs, o => if f.name != "_" && f.offset == o then (fl f.type).bind fun ks =>
      if szT P f.type == some ks.length then (flatF fl fs (o + ks.length)).map fun r => ks ++ r else none
    else none
def flatK : Nat → TypeId → Option (List FK)
  | 0, _ => none
  | d + 1, t => match P.underlying t with
    | some (.int _) => some [.i]
    | some .bool => some [.b]
    | some .string => some [.s]
    | some (.struct fs) => if P.stoodInHeld t then none else flatF P (flatK d) fs.toList 0
    | some (.array n e) => (flatK d e).bind fun ks => if szT P e == some ks.length then some (List.replicate n ks).flatten else none
    | _ => none

def chkCall (f : Operand) (args : Array Operand) (f' : Opd) (args' : List Opd) : Bool := chkO f f' && chkOL args.toList args'

def chkM : Op → MOp → Bool
  | .move x, .mov y => chkO x y
  | .assign x, .mov y => chkO x y
  | .pick c a b, .pick c' a' b' => chkO c c' && chkO a a' && chkO b b'
  | .alloc t, .box t' _ (.c z) => t == t' && (match zrT P t with
      | some v => chkV v z
      | none => false)
  | .box t x, .box t' _ y => t == t' && chkO x y
  | .build t ps, .build z ps' => (match zrT P t with
      | some v => chkV v (.agg z)
      | none => false) && (match P.underlying t with
      | some (.struct fs) => (fs.all fun f => (P.info? f.type).isSome) && chkS P fs ps.toList ps'
      | some (.array _ e) => (match szT P e with
          | some s => chkA s ps.toList ps'
          | none => false)
      | _ => false)
  | .buildSlice t n ps, .bslice z n' ps' => n == n' && (match P.underlying t with
      | some (.slice e) => (match szT P e, zrT P e with
          | some s, some v => s == z.length && decide (0 < s) && decide (n * s ≤ 16777216) && decide (0 < n) && (match v with
              | .agg _ => chkV v (.agg z)
              | _ => (match z with
                  | [x] => chkV0 v x
                  | _ => false))
          | _, _ => false)
      | _ => false) && chkE ps.toList ps'
  | .load t x, .load n ag y => szT P t == some n && ((P.underlying t).map fun d => match d with
      | .struct _ | .array _ _ => true
      | _ => false) == some ag && (ag || n == 1) && chkO x y
  | .store t x v, .store n y u => szT P t == some n && chkO x y && chkO v u
  | .nilCheck x, .nilc y => chkO x y
  | .binOp op _ x y _, .int op' x' y' => op == op' && chkO x x' && chkO y y'
  | .binOp op _ x y _, .strb op' x' y' => op == op' && chkO x x' && chkO y y'
  | .binOp op t x y _, .boolb neg x' y' => (match P.underlying t with
      | some .bool => true
      | _ => false) && op == (if neg then .neq else .eql) && chkO x x' && chkO y y'
  | .binOp op t x y _, .aggb neg ks x' y' => (match P.underlying t with
      | some (.struct _) | some (.array _ _) => true
      | _ => false) && flatK P 8 t == some ks && op == (if neg then .neq else .eql) && !P.eqGuardType P.depth t && chkO x x' && chkO y y'
  | .binOp op t x y _, .nilb kd neg x' => op == (if neg then .neq else .eql) && chkO x x' && (match P.underlying t, y with
      | some (.pointer _), .const (.pointer none) => kd == 0
      | some (.interface _), .const .nilIface => kd == 1
      | some (.func _ _ _), .const .nilFunc => kd == 2
      | _, _ => false)
  | .unOp .not _ x, .not y => chkO x y
  | .unOp .neg _ x, .neg y => chkO x y
  | .unOp .xor _ x, .xor y => chkO x y
  | .convert s d x, .conv k y => intT P s && (match P.underlying d with
      | some (.int k') => k' == k
      | _ => false) && chkO x y
  | .convert s d x, .cvs y => strT P s && strT P d && chkO x y
  | .convert s d x, .bstr y => strT P d && (match P.underlying s with
      | some (.slice e) => (match P.underlying e with
          | some (.int .u8) => true
          | _ => false)
      | _ => false) && chkO x y
  | .convert s d x, .lit y => s == d && (match P.underlying s with
      | some (.slice e) => (match P.underlying e with
          | some (.int .u8) => true
          | _ => false)
      | _ => false) && chkO x y
  | .fieldAddr s x f, .fa off y => (match P.underlying s with
      | some (.struct fs) => (match fs[f]? with
          | some f => f.offset == off && (match szT P f.type with
              | some n => n != 0
              | none => false)
          | none => false)
      | _ => false) && chkO x y
  | .indexAddr t x i, .ia esz y j => (match P.underlying t with
      | some (.slice e) => szT P e == some esz
      | _ => false) && chkO x y && chkO i j
  | .indexAddr t x i, .iaa esz len y j => (match P.underlying t with
      | some (.array n e) => n == len && szT P e == some esz
      | _ => false) && chkO x y && chkO i j
  | .index t x i, .idx y j => strT P t && chkO x y && chkO i j
  | .slice t x lo hi none, .sstr y lo' hi' => strT P t && chkO x y && chkOO lo lo' && chkOO hi hi'
  | .slice t x lo hi none, .ssl esz y lo' hi' => (match P.underlying t with
      | some (.slice e) => szT P e == some esz
      | _ => false) && chkO x y && chkOO lo lo' && chkOO hi hi'
  | .extract x i, .ext y j => i == j && chkO x y
  | .makeFunc (.func f) a cap, .mkf f' cap' => f == f' && a.isEmpty && chkOL cap.toList cap'
  | .makeMap _ none, .mkm => true
  | .mapUpdate t m k v, .mset st m' k' v' => (match P.underlying t with
      | some (.map kt _) => if st then strT P kt else intT P kt
      | _ => false) && chkO m m' && chkO k k' && chkO v v'
  | .insert t m k v, .mset st m' k' v' => (match P.underlying t with
      | some (.map kt _) => if st then strT P kt else intT P kt
      | _ => false) && chkO m m' && chkO k k' && chkO v v'
  | .lookup t m k ok, .mget st z ok' m' k' => ok == ok' && (match P.underlying t with
      | some (.map kt et) => (if st then strT P kt else intT P kt) && (match zrT P et with
          | some v => chkV v z
          | none => false)
      | _ => false) && chkO m m' && chkO k k'
  | .makeSlice t l c, .mksl e' z by' n => chkO l n && chkO c n && (match P.underlying t with
      | some (.slice e) => e == e' && (match P.info? e with
          | some i => i.bytes == by' && i.size == z.length && decide (0 < i.size) && decide (0 < i.bytes) && (match i.zero with
              | some v => (match v with
                  | .agg _ => chkV v (.agg z)
                  | _ => (match z with
                      | [x] => chkV0 v x
                      | _ => false))
              | none => false)
          | none => false)
      | _ => false)
  | .makeInterface t x, .mki t' y => t == t' && (match P.underlying t with
      | some (.interface _) => false
      | some _ => true
      | none => false) && chkO x y
  | .typeAssert x _ t ok, .tas t' z y => t == t' && ok && (match P.underlying t with
      | some (.interface _) => false
      | some _ => true
      | none => false) && (match zrT P t with
      | some v => chkV v z
      | none => false) && chkO x y
  | .range t x, .rngs y => strT P t && chkO x y
  | .next x true, .nxts y => chkO x y
  | .field t x i, .fld off n ag y => (match P.underlying t with
      | some (.struct fs) => (match fs[i]? with
          | some f => f.offset == off && szT P f.type == some n && ((P.underlying f.type).map fun d => match d with
              | .struct _ | .array _ _ => true
              | _ => false) == some ag && (ag || n == 1)
          | none => false)
      | _ => false) && chkO x y
  | .binOp op t x y _, .psame neg x' y' => op == (if neg then .neq else .eql) && (match P.underlying t with
      | some (.pointer e) => (P.info? e).isSome
      | _ => false) && chkO x x' && chkO y y'
  | .convert s d x, .upc t n y => decide (0 < n) && chkO x y && (match P.underlying s, P.underlying d with
      | some (.pointer t'), some .unsafePointer => t == t' && (match P.info? t with
          | some j => j.size != 0
          | none => false)
      | some .unsafePointer, some (.pointer t') => t == t' && (P.info? t).isSome && liesAt P P.depth t (n / P.cellsOf t) 0 t 1
      | _, _ => false)
  | .panic x, .pan y => chkO x y
  | .call c, m => (match c.callee, m with
      | .value f, .call f' args' => chkCall f c.args f' args'
      | .builtin .len, .lenS y => (match c.args.toList, c.argTypes.toList with
          | [x], t :: _ => strT P t && chkO x y
          | _, _ => false)
      | .builtin .len, .lenL y => (match c.args.toList, c.argTypes.toList with
          | [x], t :: _ => (match P.underlying t with
              | some (.slice _) => true
              | _ => false) && chkO x y
          | _, _ => false)
      | .builtin .append, .app e' esz by' y z => (match c.args.toList, c.argTypes.toList with
          | [x, u], [t, t'] => t == t' && (match P.underlying t with
              | some (.slice e) => e == e' && (match P.info? e with
                  | some i => i.size == esz && i.bytes == by' && decide (0 < esz) && decide (0 < by') && (match i.zero with
                      | some v => v.cells.size == esz
                      | none => false)
                  | none => false)
              | _ => false) && chkO x y && chkO u z
          | _, _ => false)
      | .builtin .append, .apps e' by' y z => (match c.args.toList, c.argTypes.toList with
          | [x, u], [t, t'] => strT P t' && (match P.underlying t with
              | some (.slice e) => e == e' && (match P.info? e with
                  | some i => i.size == 1 && i.bytes == by' && decide (0 < by') && (match i.zero with
                      | some v => v.cells.size == 1
                      | none => false)
                  | none => false)
              | _ => false) && chkO x y && chkO u z
          | _, _ => false)
      | .builtin .max, .minmax true y z => (match c.args.toList with
          | [x, u] => chkO x y && chkO u z
          | _ => false)
      | .builtin .min, .minmax false y z => (match c.args.toList with
          | [x, u] => chkO x y && chkO u z
          | _ => false)
      | .builtin .clear, .clr z y => (match c.args.toList, c.argTypes.toList with
          | [x], t :: _ => (match P.underlying t with
              | some (.slice e) => (match zrT P e with
                  | some v => (match v with
                      | .agg _ => false
                      | _ => chkV0 v z)
                  | none => false)
              | _ => false) && chkO x y
          | _, _ => false)
      | .builtin .unsafeSliceData, .usd y => (match c.args.toList with
          | [x] => chkO x y
          | _ => false)
      | .builtin .unsafeString, .ust t y z => (match c.args.toList, c.argTypes.toList with
          | [x, u], [pt, _] => (match P.underlying pt with
              | some (.pointer e) => e == t && P.cellsOf t == 1
              | _ => false) && chkO x y && chkO u z
          | _, _ => false)
      | _, .bad => true
      | _, _ => false)
  | _, .bad => true
  | _, _ => false

def chkG (nt : Nat) (ops : Array Oper) : Option (Nat × Bool) → Option (Nat × Bool) → Bool
  | none, none => true
  | some (j, b), some (t, b') => decide (t < nt) && b == b' && ((ops[j]?).bind (·.dst)) == some t
  | _, _ => false
def chkI (nt : Nat) (ops : Array Oper) (o : Oper) (i : MI) : Bool :=
  o.dst == i.d && (match i.d with
    | some d => decide (d < nt)
    | none => true) && chkG nt ops o.guard i.g && chkM P o.op i.op
def chkIs (nt : Nat) (ops : Array Oper) : List Oper → List MI → Bool
  | [], [] => true
  | o :: os, i :: is => chkI P nt ops o i && chkIs nt ops os is
  | _, _ => false
/-- What an operand, an operation, an instruction looks at. -/
def Opd.reads : Opd → List Nat
  | .t n => [n]
  | .c _ => []
def oreads : Option Opd → List Nat
  | none => []
  | some x => x.reads
def lreads : List Opd → List Nat
  | [] => []
  | x :: l => x.reads ++ lreads l
def MOp.reads : MOp → List Nat
  | .mov x | .box _ _ x | .load _ _ x | .nilc x | .nilb _ _ x | .not x | .neg x | .xor x | .conv _ x | .cvs x | .bstr x | .lit x | .fa _ x | .lenS x | .lenL x | .ext x _ | .mksl _ _ _ x | .fld _ _ _ x | .clr _ x | .upc _ _ x | .usd x
  | .mki _ x | .tas _ _ x | .rngs x | .nxts x | .pan x => x.reads
  | .store _ x y | .int _ x y | .strb _ x y | .boolb _ x y | .aggb _ _ x y | .ia _ x y | .iaa _ _ x y | .idx x y | .app _ _ _ x y | .apps _ _ x y | .minmax _ x y | .mget _ _ _ x y | .psame _ x y | .ust _ x y => x.reads ++ y.reads
  | .pick x y z | .mset _ x y z => x.reads ++ (y.reads ++ z.reads)
  | .build _ ps => lreads (ps.map fun p => p.2.2)
  | .bslice _ _ ps => lreads (ps.map fun p => p.2)
  | .sstr x lo hi | .ssl _ x lo hi => x.reads ++ (oreads lo ++ oreads hi)
  | .mkf _ cap => lreads cap
  | .mkml _ ps => ps.map (·.2)
  | .mkm => []
  | .nop _ => []
  | .bad => []
  | .call f args => f.reads ++ lreads args
def MI.reads (i : MI) : List Nat := (match i.g with
  | some (t, _) => [t]
  | none => []) ++ i.op.reads
/-- It looks, and does nothing. -/
def MOp.light : MOp → Bool
  | .box _ _ _ | .store _ _ _ | .app _ _ _ _ _ | .apps _ _ _ _ | .mset _ _ _ _ | .mkm | .mksl _ _ _ _ | .rngs _ | .nxts _ | .pan _ | .call _ _ | .clr _ _ | .ust _ _ _ | .mkml _ _ => false
  | _ => true
/-- The bits of all that is ahead. -/
def lookL : List MD → Nat → Nat
  | [], _ => 0
  | x :: l, k => if x.k == k then x.m else lookL l k
def maskOf (l : List MD) : List Edge → Nat
  | [] => 0
  | e :: es => if Region.binds .any e then (1 <<< e.on) ||| lookL l e.on ||| maskOf l es else maskOf l es
def isNop (j : Nat) : MOp → Bool
  | .nop j' => j' == j
  | _ => false
/-- Of a map literal: at most one in a region, each entry once, its entries behind it, and what comes behind it behind all entries. -/
def pairM (l : List MD) (x y : MD) : Bool :=
  (x.kd != 3 || decide (2 ≤ y.kd) || l.all fun z => z.kd != 4 || y.m.testBit z.k) && !(x.kd == 4 && y.kd == 3) && !(x.kd == 3 && y.kd == 3) &&
  (x.kd != 4 || y.kd != 4 || (match x.i.op with
    | .nop j => !isNop j y.i.op
    | _ => false))
/-- x, which stands ahead of y in the one order, and y. -/
def pairD (ops : Array Oper) (l : List MD) (p : Nat) (x y : MD) : Bool :=
  (pairM l x y && ((ops[x.k]?).map fun o => o.after.all fun e => !Region.binds .any e || e.on != y.k).getD false) &&
  x.k != y.k &&
  (match x.i.d with
    | some d => (y.kd == 3 || !y.i.reads.contains d || y.m.testBit x.k) && y.i.d != some d
    | none => true) &&
  (match y.i.d with
    | some d => !x.i.reads.contains d || (y.kd == 1 && y.m.testBit x.k)
    | none => true) &&
  (x.kd == 0 || decide (2 ≤ y.kd) || y.m.testBit x.k) &&
  (y.kd == 0 || x.kd != 0 || y.m.testBit x.k || y.rc.contains p || y.kd == 4)
def pairsD (ops : Array Oper) (l0 : List MD) : Nat → List MD → Bool
  | _, [] => true
  | p, x :: l => l.all (pairD ops l0 p x) && pairsD ops l0 (p + 1) l
/-- A map literal: its making, an entry. -/
def mapD (nt : Nat) (ops : Array Oper) (l : List MD) (o : Oper) (x : MD) : Bool :=
  o.guard.isNone && x.i.g.isNone && (match o.op, x.i.op with
    | .makeMap t none, .mkml st ps => x.kd == 3 && (match P.underlying t with
        | some (.map kt _) => if st then strT P kt else intT P kt
        | _ => false) && (match x.i.d with
        | some d => o.dst == some d && decide (d < nt)
        | none => false) && keysOk st (ps.map (·.1)) && (List.range ps.length).all fun j => l.any fun y => y.kd == 4 && isNop j y.i.op
    | .insert t m k v, .nop j => x.kd == 4 && x.i.d.isNone && o.dst.isNone && (l.any fun y => y.kd == 3 && x.m.testBit y.k && (match ops[y.k]? with
        | some oy => (match oy.op, y.i.op, y.i.d with
            | .makeMap t' none, .mkml _ ps, some d => t == t' && (match m, v, ps[j]? with
                | .tmp d', .tmp tv, some (key, tv') => d' == d && tv' == tv && chkO k (.c key) && l.any fun z => decide (z.kd ≤ 1) && z.i.d == some tv && x.m.testBit z.k
                | _, _, _ => false)
            | _, _, _ => false)
        | none => false))
    | _, _ => false)
def oneD (nt : Nat) (ops : Array Oper) (l : List MD) (x : MD) : Bool :=
  (match ops[x.k]? with
    | some o => (if x.kd ≤ 2 then chkI P nt ops o x.i else mapD P nt ops l o x) && (o.after.all fun e => !Region.binds .any e || (decide (e.on < ops.size) && e.on != x.k)) && maskOf l o.after.toList == x.m && (if x.kd = 2 then (match o.op, x.i.op, x.i.d, x.i.g with
        | .alloc _, .box _ _ (.c _), some _, none => true
        | _, _, _, _ => false) else true)
    | none => false) && (match x.i.d with
    | some d => !x.i.reads.contains d
    | none => true) && (x.kd != 0 || x.i.op.light)
def chkD (nt : Nat) (ops : Array Oper) (l : List MD) : Bool := l.length == ops.size && l.all (oneD P nt ops l) && pairsD ops l 0 l && (List.range ops.size).all fun k => l.any fun x => x.k == k
def chkC (nt : Nat) : Code → MC → Bool
  | .skip, .skip => true
  | .region _ ops false, .reg l => chkIs P nt ops ops.toList l
  | .region _ ops true, .dreg l => chkD P nt ops l && P.follows .mixedOrders
  | .seq a b, .seq a' b' => chkC nt a a' && chkC nt b b'
  | .cond c a b, .cond c' a' b' => chkO c c' && chkC nt a a' && chkC nt b b'
  | .block i b, .block i' b' => i == i' && chkC nt b b'
  | .loop b, .loop b' => chkC nt b b'
  | .exit i, .exit i' => i == i'
  | .ret, .ret => true
  | _, .bad => true
  | _, _ => false
def chkR : List ResultVar → List RV → Bool
  | [], [] => true
  | .tmp t :: l, .tmp t' :: l' => t == t' && chkR l l'
  | .cell a t :: l, .cell a' n ag :: l' => a == a' && szT P t == some n && ((P.underlying t).map fun d => match d with
      | .struct _ | .array _ _ => true
      | _ => false) == some ag && (ag || n == 1) && chkR l l'
  | _, _ => false
def chkF (fn : Func) (m : MFn) : Bool :=
  m.nt == fn.ntmps && decide (m.np ≤ fn.ntmps) && chkR P fn.results.toList m.res && (fn.name != "runtime.NumGoroutine") && (match fn.body with
    | some c => chkC P m.nt c m.body
    | none => false)
/-- Where the results are read. -/
def rreads : List RV → List Nat
  | [] => []
  | .tmp t :: l => t :: rreads l
  | .cell a _ _ :: l => a :: rreads l
/-- The code writes none of these places. -/
def keeps (K : Nat → Bool) : MC → Bool
  | .reg l => l.all fun i => match i.d with
    | some d => !K d
    | none => true
  | .dreg l => l.all fun x => match x.i.d with
    | some d => !K d
    | none => true
  | .seq a b => keeps K a && keeps K b
  | .cond _ a b => keeps K a && keeps K b
  | .block _ b => keeps K b
  | .loop b => keeps K b
  | _ => true
def inRes (l : List RV) (t : Nat) : Bool := (rreads l).contains t
def chkH (hm : HFn) : Bool := match P.funcs[hm.f]? with
  | none => false
  | some fn => hm.nt == fn.ntmps && decide (hm.np ≤ fn.ntmps) && fn.results.isEmpty && (fn.name != "runtime.NumGoroutine") && (match fn.body with
    | some (.seq (.region _ ops false) c) => (match ops.toList with
      | o :: os => (match o.op with
        | .call q => (match q.callee with
          | .builtin .recover => true
          | _ => false)
        | _ => false) && o.guard.isNone && o.dst == some hm.rt && decide (hm.rt < hm.nt) && chkIs P hm.nt ops os hm.ops
      | [] => false) && chkC P hm.nt c hm.rest
    | _ => false)
def chkDf (fn : Func) (d : DFn) : Bool :=
  d.nt == fn.ntmps && decide (d.np ≤ fn.ntmps) && chkR P fn.results.toList d.res && (fn.name != "runtime.NumGoroutine") && chkH P d.h && decide (d.t < d.nt) && !inRes d.res d.t && keeps (inRes d.res) d.rest && (match fn.body with
    | some (.seq p1 (.seq p2 (.seq (.region _ ops false) rest))) => chkC P d.nt p1 d.pre1 && chkC P d.nt p2 d.pre2 && chkC P d.nt rest d.rest && (match ops.toList with
      | [o1, o2] => o1.guard.isNone && o2.guard.isNone && o1.dst == some d.t && o2.dst == none && (match o1.op, o2.op with
        | .makeFunc (.func f) a cap, .defer q => f == d.h.f && a.isEmpty && chkOL cap.toList d.cap && q.args.isEmpty && (match q.callee with
          | .value (.tmp t) => t == d.t
          | _ => false)
        | _, _ => false)
      | _ => false)
    | _ => false)
end
end Go.Ab
