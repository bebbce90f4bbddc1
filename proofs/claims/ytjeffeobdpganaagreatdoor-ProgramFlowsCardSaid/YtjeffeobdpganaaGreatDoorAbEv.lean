/- The abstract machine: translated Go code over plain data; strings as lists of bytes, slices that are only read as lists, what is written as boxes and arrays of a small heap. -/
import Derived.Recover
set_option linter.unusedSimpArgs false
set_option linter.unusedVariables false
namespace Go.Ab

/-- What a place of the abstract machine holds. -/
inductive AV where
  | bool (b : Bool)
  | int (k : IntKind) (n : Int)
  | str (s : List UInt8)
  | nilp
  | ptr (b o : Nat)
  | aptr (a ver i j : Nat)
  | vptr (cs : List AV) (o : Nat)
  | vs (full : Bool) (es : List (List AV))
  | rs (a ver lo n : Nat)
  | nilm
  | mp (b : Nat)
  | it (b : Nat)
  | nilf
  | fn (f : FuncId) (cap : List AV)
  | nili
  | iface (t : TypeId) (v : AV)
  | agg (cs : List AV)
  | tup (xs : List AV)
  | any
  deriving Inhabited

namespace AV
mutual
/-- All that is referred to lies below these numbers of boxes and arrays. -/
def ok (nb na : Nat) : AV → Bool
  | .ptr b _ => decide (b < nb)
  | .mp b => decide (b < nb)
  | .it b => decide (b < nb)
  | .aptr a _ _ _ => decide (a < na)
  | .rs a _ _ _ => decide (a < na)
  | .vptr cs _ => okL nb na cs
  | .vs _ es => okLL nb na es
  | .fn _ cap => okL nb na cap
  | .iface _ v => ok nb na v
  | .agg cs => okL nb na cs
  | .tup xs => okL nb na xs
  | _ => true
def okL (nb na : Nat) : List AV → Bool
  | [] => true
  | v :: l => ok nb na v && okL nb na l
def okLL (nb na : Nat) : List (List AV) → Bool
  | [] => true
  | c :: l => okL nb na c && okLL nb na l
end
mutual
/-- Are they one? -/
def beq : AV → AV → Bool
  | .bool a, .bool b => a == b
  | .int k n, .int k' m => k == k' && n == m
  | .str a, .str b => a == b
  | .nilp, .nilp => true
  | .ptr a b, .ptr c d => a == c && b == d
  | .aptr a b c d, .aptr a' b' c' d' => a == a' && b == b' && c == c' && d == d'
  | .vptr cs o, .vptr cs' o' => beqL cs cs' && o == o'
  | .vs f es, .vs f' es' => f == f' && beqLL es es'
  | .rs a b c d, .rs a' b' c' d' => a == a' && b == b' && c == c' && d == d'
  | .nilm, .nilm => true
  | .mp b, .mp b' => b == b'
  | .it b, .it b' => b == b'
  | .nilf, .nilf => true
  | .fn f c, .fn f' c' => f == f' && beqL c c'
  | .nili, .nili => true
  | .iface t v, .iface t' v' => t == t' && beq v v'
  | .agg cs, .agg cs' => beqL cs cs'
  | .tup cs, .tup cs' => beqL cs cs'
  | .any, .any => true
  | _, _ => false
def beqL : List AV → List AV → Bool
  | [], [] => true
  | v :: l, v' :: l' => beq v v' && beqL l l'
  | _, _ => false
def beqLL : List (List AV) → List (List AV) → Bool
  | [], [] => true
  | v :: l, v' :: l' => beqL v v' && beqLL l l'
  | _, _ => false
end
mutual
theorem eq_of_beq : ∀ {a b : AV}, beq a b = true → a = b := by
  intro a b h
  cases a <;> cases b <;> simp only [beq, Bool.and_eq_true, beq_iff_eq, Bool.false_eq_true] at h
  all_goals first
    | rfl
    | (have := eqL_of_beq h; simp_all; done)
    | (have := eqL_of_beq h.1; simp_all; done)
    | (have := eqL_of_beq h.2; simp_all; done)
    | (have := eqLL_of_beq h.2; simp_all; done)
    | (have := eq_of_beq h.2; simp_all; done)
    | (simp_all; done)
theorem eqL_of_beq : ∀ {a b : List AV}, beqL a b = true → a = b
  | [], [], _ => rfl
  | v :: l, v' :: l', h => by
    simp only [beqL, Bool.and_eq_true] at h
    rw [eq_of_beq h.1, eqL_of_beq h.2]
  | [], _ :: _, h => by cases h
  | _ :: _, [], h => by cases h
theorem eqLL_of_beq : ∀ {a b : List (List AV)}, beqLL a b = true → a = b
  | [], [], _ => rfl
  | v :: l, v' :: l', h => by
    simp only [beqLL, Bool.and_eq_true] at h
    rw [eqL_of_beq h.1, eqLL_of_beq h.2]
  | [], _ :: _, h => by cases h
  | _ :: _, [], h => by cases h
end
mutual
theorem beq_refl : ∀ a : AV, beq a a = true
  | .bool _ | .int _ _ | .str _ | .nilp | .ptr _ _ | .aptr _ _ _ _ | .rs _ _ _ _ | .nilm | .mp _ | .it _ | .nilf | .nili | .any => by simp [beq]
  | .vptr cs o => by simp [beq, beqL_refl cs]
  | .vs f es => by simp [beq, beqLL_refl es]
  | .fn f cs => by simp [beq, beqL_refl cs]
  | .iface t v => by simp [beq, beq_refl v]
  | .agg cs => by simp [beq, beqL_refl cs]
  | .tup cs => by simp [beq, beqL_refl cs]
theorem beqL_refl : ∀ a : List AV, beqL a a = true
  | [] => rfl
  | v :: l => by simp [beqL, beq_refl v, beqL_refl l]
theorem beqLL_refl : ∀ a : List (List AV), beqLL a a = true
  | [] => rfl
  | v :: l => by simp [beqLL, beqL_refl v, beqLL_refl l]
end
/-- A value's cells. -/
def cells : AV → List AV
  | .agg cs => cs
  | v => [v]
def isTup : AV → Bool
  | .tup _ => true
  | .any => true
  | _ => false
end AV

inductive Opd where
  | t (n : Nat)
  | c (v : AV)
  deriving Inhabited

def Opd.ev (e : Nat → AV) : Opd → AV
  | .t n => e n
  | .c v => v

def upd (e : Nat → AV) (d : Nat) (v : AV) : Nat → AV := fun t => if t = d then v else e t

/-- An array that is written: its elements' type, cells per element, bytes per element, how often it has grown, its elements. -/
structure Arr where
  t : TypeId
  esz : Nat
  bytes : Nat
  ver : Nat
  es : List (List AV)
  fz : Bool
  deriving Inhabited

inductive Box where
  | cells (t : TypeId) (cs : List AV)
  | map (es : List (AV × AV))
  | siter (s : List UInt8) (pos : Nat)
  deriving Inhabited

structure Hp where
  bx : List Box
  ar : List Arr
  deriving Inhabited

namespace Hp
def sb (h : Hp) (b : Nat) (x : Box) : Hp := ⟨h.bx.set b x, h.ar⟩
def pb (h : Hp) (x : Box) : Hp := ⟨h.bx ++ [x], h.ar⟩
def sa (h : Hp) (a : Nat) (x : Arr) : Hp := ⟨h.bx, h.ar.set a x⟩
def pa (h : Hp) (x : Arr) : Hp := ⟨h.bx, h.ar ++ [x]⟩
def nb (h : Hp) : Nat := h.bx.length
def na (h : Hp) : Nat := h.ar.length
def tr (h : Hp) (nb na : Nat) : Hp := ⟨h.bx.take nb, h.ar.take na⟩
end Hp

def Box.ok (nb na : Nat) : Box → Bool
  | .cells _ cs => AV.okL nb na cs
  | .map es => es.all fun p => AV.ok nb na p.1 && AV.ok nb na p.2
  | .siter _ _ => true

def Hp.okb (h : Hp) (nb na : Nat) : Bool := h.bx.all (Box.ok nb na) && h.ar.all fun a => AV.okLL nb na a.es

/-- n cells from place o on. -/
def sub (cs : List AV) (o n : Nat) : Option (List AV) := if o + n ≤ cs.length then some ((cs.drop o).take n) else none
def splice (cs : List AV) (o : Nat) (new : List AV) : Option (List AV) :=
  if o + new.length ≤ cs.length then some (cs.take o ++ new ++ cs.drop (o + new.length)) else none

def ldc (h : Hp) (n : Nat) : AV → Option (List AV)
  | .ptr b o => match h.bx[b]? with
    | some (.cells _ cs) => sub cs o n
    | _ => none
  | .aptr a ver i j => match h.ar[a]? with
    | some A => if A.ver = ver then (A.es[i]?).bind fun c => sub c j n else none
    | _ => none
  | .vptr cs o => sub cs o n
  | _ => none

def mkv (ag : Bool) (cs : List AV) : Option AV :=
  if ag then some (.agg cs) else match cs with
    | [v] => some v
    | _ => none

def stc (h : Hp) (new : List AV) : AV → Option Hp
  | .ptr b o => match h.bx[b]? with
    | some (.cells t cs) => (splice cs o new).map fun cs' => h.sb b (.cells t cs')
    | _ => none
  | .aptr a ver i j => match h.ar[a]? with
    | some A => if A.ver = ver ∧ A.fz = false then (A.es[i]?).bind fun c => (splice c j new).map fun c' => h.sa a { A with es := A.es.set i c' } else none
    | _ => none
  | _ => none

/-- The elements of a slice. -/
def els (h : Hp) : AV → Option (List (List AV))
  | .vs _ es => some es
  | .rs a ver lo n => match h.ar[a]? with
    | some A => if A.ver = ver ∧ lo + n ≤ A.es.length then some ((A.es.drop lo).take n) else none
    | _ => none
  | _ => none

def fills (cs : List AV) : List (Nat × AV) → Option (List AV)
  | [] => some cs
  | (o, v) :: l => (splice cs o v.cells).bind fun cs' => fills cs' l

/-- The kinds of plain cells. -/
inductive FK where
  | i | b | s
  deriving DecidableEq, Inhabited

inductive MOp where
  | mov (x : Opd)
  | pick (c a b : Opd)
  | box (t : TypeId) (n : Nat) (x : Opd)
  | build (z : List AV) (ps : List (Nat × Nat × Opd))
  | bslice (z : List AV) (len : Nat) (ps : List (Nat × Opd))
  | load (n : Nat) (ag : Bool) (x : Opd)
  | store (n : Nat) (x v : Opd)
  | nilc (x : Opd)
  | int (op : BinOp) (x y : Opd)
  | strb (op : BinOp) (x y : Opd)
  | boolb (neg : Bool) (x y : Opd)
  | aggb (neg : Bool) (ks : List FK) (x y : Opd)
  | nilb (kd : Nat) (neg : Bool) (x : Opd)
  | not (x : Opd)
  | neg (x : Opd)
  | xor (x : Opd)
  | conv (k : IntKind) (x : Opd)
  | cvs (x : Opd)
  | bstr (x : Opd)
  | lit (x : Opd)
  | fa (off : Nat) (x : Opd)
  | ia (esz : Nat) (x i : Opd)
  | iaa (esz len : Nat) (x i : Opd)
  | idx (x i : Opd)
  | sstr (x : Opd) (lo hi : Option Opd)
  | ssl (esz : Nat) (x : Opd) (lo hi : Option Opd)
  | lenS (x : Opd)
  | lenL (x : Opd)
  | ext (x : Opd) (i : Nat)
  | app (t : TypeId) (esz bytes : Nat) (x y : Opd)
  | apps (t : TypeId) (bytes : Nat) (x y : Opd)
  | minmax (mx : Bool) (x y : Opd)
  | mkf (f : FuncId) (cap : List Opd)
  | mkm
  | mset (st : Bool) (m k v : Opd)
  | mget (st : Bool) (z : AV) (ok : Bool) (m k : Opd)
  | mksl (t : TypeId) (z : List AV) (bytes : Nat) (n : Opd)
  | mki (t : TypeId) (x : Opd)
  | tas (t : TypeId) (z : AV) (x : Opd)
  | rngs (x : Opd)
  | nxts (it : Opd)
  | pan (x : Opd)
  | fld (off n : Nat) (ag : Bool) (x : Opd)
  | clr (z : AV) (x : Opd)
  | upc (t : TypeId) (n : Nat) (x : Opd)
  | psame (neg : Bool) (x y : Opd)
  | usd (x : Opd)
  | ust (t : TypeId) (p n : Opd)
  | mkml (st : Bool) (ps : List (AV × Nat))
  | nop (j : Nat)
  | call (f : Opd) (args : List Opd)
  | bad
  deriving Inhabited

/-- An instruction: where its value goes, its guard. -/
structure MI where
  d : Option Nat
  g : Option (Nat × Bool)
  op : MOp
  deriving Inhabited

/-- Of a region whose order is open: the operation's place; 0: it only looks, 1: it does something, 2: a new variable; what may come later. -/
structure MD where
  k : Nat
  kd : Nat
  rc : List Nat
  m : Nat
  i : MI
  deriving Inhabited

inductive MC where
  | skip
  | reg (ops : List MI)
  | dreg (ops : List MD)
  | seq (a b : MC)
  | cond (c : Opd) (a b : MC)
  | block (id : Nat) (b : MC)
  | loop (b : MC)
  | exit (id : Nat)
  | ret
  | bad
  deriving Inhabited

inductive RV where
  | tmp (t : Nat)
  | cell (a n : Nat) (ag : Bool)
  deriving Inhabited

structure MFn where
  np : Nat
  nt : Nat
  res : List RV
  gc : Nat
  body : MC
  deriving Inhabited

inductive AEx where
  | norm
  | exit (id : Nat)
  | ret
  | pan (v : AV)
  deriving Inhabited

inductive AEnd where
  | ret (v : AV)
  | pan (v : AV)
  deriving Inhabited

def undefA : AV := .tup []

def intOp (op : BinOp) (k : IntKind) (x y : Int) : Option AV :=
  match op with
  | .add => some (.int k (k.wrap (x + y)))
  | .sub => some (.int k (k.wrap (x - y)))
  | .mul => some (.int k (k.wrap (x * y)))
  | .quo => if y = 0 then none else some (.int k (k.wrap (x.tdiv y)))
  | .rem => if y = 0 then none else some (.int k (x.tmod y))
  | .and => some (.int k (k.wrap (BitVec.ofInt k.bits x &&& BitVec.ofInt k.bits y).toNat))
  | .or => some (.int k (k.wrap (BitVec.ofInt k.bits x ||| BitVec.ofInt k.bits y).toNat))
  | .xor => some (.int k (k.wrap (BitVec.ofInt k.bits x ^^^ BitVec.ofInt k.bits y).toNat))
  | .andNot => some (.int k (k.wrap (BitVec.ofInt k.bits x &&& ~~~BitVec.ofInt k.bits y).toNat))
  | .shl => if y < 0 then none else some (.int k (k.wrap (x * 2 ^ (min y.toNat k.bits))))
  | .shr => if y < 0 then none else some (.int k (x.fdiv (2 ^ (min y.toNat k.bits))))
  | .eql => some (.bool (x == y))
  | .neq => some (.bool (x != y))
  | .lss => some (.bool (x < y))
  | .leq => some (.bool (x ≤ y))
  | .gtr => some (.bool (x > y))
  | .geq => some (.bool (x ≥ y))

def strOp (op : BinOp) (x y : List UInt8) : Option AV :=
  match op with
  | .add => if ((x.length + y.length : Nat) : Int) ≤ 9223372036854775807 then some (.str (x ++ y)) else none
  | .eql => some (.bool (x == y))
  | .neq => some (.bool !(x == y))
  | _ => none

/-- Two rows of plain cells. -/
def avEqK : List FK → List AV → List AV → Option Bool
  | [], [], [] => some true
  | .i :: ks, .int k a :: xs, .int k' b :: ys => if k = k' then (avEqK ks xs ys).map fun c => a == b && c else none
  | .b :: ks, .bool a :: xs, .bool b :: ys => (avEqK ks xs ys).map fun c => a == b && c
  | .s :: ks, .str a :: xs, .str b :: ys => (avEqK ks xs ys).map fun c => a == b && c
  | _, _, _ => none

def asIntA : AV → Option Int
  | .int _ n => some n
  | _ => none

def optIx (d : Nat) : Option AV → Option Nat
  | none => some d
  | some (.int _ n) => if 0 ≤ n then some n.toNat else none
  | _ => none

def bytesA : List (List AV) → Option (List UInt8)
  | [] => some []
  | [.int .u8 n] :: l => (bytesA l).map fun r => UInt8.ofNat n.toNat :: r
  | _ => none

/-- Bytes, each in its range. -/
def bytesB : List (List AV) → Option (List UInt8)
  | [] => some []
  | [.int .u8 n] :: l => if 0 ≤ n ∧ n < 256 then (bytesB l).map fun r => UInt8.ofNat n.toNat :: r else none
  | _ => none

def fillE (z : List AV) : List (List AV) → List (Nat × AV) → Option (List (List AV))
  | es, [] => some es
  | es, (i, v) :: l => if v.cells.length = z.length ∧ i < es.length ∧ v.isTup = false then fillE z (es.set i v.cells) l else none

def keyEq : Bool → AV → AV → Option Bool
  | false, .int k a, .int k' b => if k = k' then some (a == b) else none
  | true, .str a, .str b => some (a == b)
  | _, _, _ => none
def isKey : Bool → AV → Bool
  | false, .int _ _ => true
  | true, .str _ => true
  | _, _ => false
/-- Where a key stands: none: an entry of another kind; some none: nowhere. -/
def mfind (st : Bool) (k : AV) : List (AV × AV) → Option (Option (Nat × AV))
  | [] => if isKey st k then some none else none
  | (k', v) :: l => match keyEq st k k' with
    | some true => some (some (0, v))
    | some false => (mfind st k l).map fun r => r.map fun (i, v) => (i + 1, v)
    | none => none

/-- What a map has for a key, or the zero. -/
def mlook (st : Bool) (z : AV) (h : Hp) (m k : AV) : Option (AV × Bool) :=
  match m with
  | .nilm => if isKey st k then some (z, false) else none
  | .mp b => match h.bx[b]? with
    | some (.map es) => (mfind st k es).map fun r => match r with
      | some (_, v) => (v, true)
      | none => (z, false)
    | _ => none
  | _ => none

/-- Is it nil? Of a pointer (0), an interface value (1), a function value (2). -/
def isNilA : Nat → AV → Option Bool
  | 0, .nilp => some true
  | 0, .ptr _ _ => some false
  | 0, .aptr _ _ _ _ => some false
  | 0, .vptr _ _ => some false
  | 1, .nili => some true
  | 1, .iface _ _ => some false
  | 2, .nilf => some true
  | 2, .fn _ _ => some false
  | _, _ => none

/-- A pointer to an element. -/
def elp (h : Hp) (esz : Nat) (x : AV) (i : Nat) : Option AV :=
  match x with
  | .vs _ es => (es[i]?).bind fun c => if c.length = esz then some (.vptr c 0) else none
  | .rs a v lo n => match h.ar[a]? with
    | some A => if A.ver = v ∧ A.esz = esz ∧ i < n then some (.aptr a v (lo + i) 0) else none
    | none => none
  | _ => none

/-- Elements put behind a slice. -/
def appE (h : Hp) (t : TypeId) (esz bytes : Nat) (x : AV) (ys : List (List AV)) : Option (AV × Hp) :=
  match x with
  | .vs f es =>
    if ys.isEmpty then some (.vs f es, h)
    else if f ∧ ys.all (fun c => c.length == esz) ∧ es.all (fun c => c.length == esz) ∧ (es.length + ys.length) * bytes ≤ 140737488355328 then
      some (.rs h.na 0 0 (es.length + ys.length), h.pa ⟨t, esz, bytes, 0, es ++ ys, false⟩)
    else none
  | .rs r v lo n => match h.ar[r]? with
    | some A => if A.ver = v ∧ lo = 0 ∧ n ≤ A.es.length ∧ A.esz = esz ∧ A.bytes = bytes ∧ A.t = t ∧ A.fz = false then
        if ys.isEmpty then some (.rs r v lo n, h)
        else if ys.all (fun c => c.length == esz) ∧ (n + ys.length) * bytes ≤ 140737488355328 then
          some (.rs r (v + 1) 0 (n + ys.length), h.sa r { A with ver := v + 1, es := A.es.take n ++ ys })
        else none
      else none
    | none => none
  | _ => none

/-- A key's kind. -/
def kindA : AV → Option (Option IntKind)
  | .int k _ => some (some k)
  | .str _ => some none
  | _ => none
def kdist : List AV → Bool
  | [] => true
  | k :: l => l.all (fun k' => !(k.beq k')) && kdist l
/-- Keys of one kind, each once. -/
def keysOk (st : Bool) (ks : List AV) : Bool := kdist ks && ks.all (isKey st) && (match ks with
  | [] => true
  | k :: _ => ks.all fun k' => kindA k' == kindA k)

/-- Part of an array's elements anew. -/
def setE (es : List (List AV)) (lo : Nat) (new : List (List AV)) : List (List AV) := es.take lo ++ new ++ es.drop (lo + new.length)

def evop (e : Opd → AV) (h : Hp) : MOp → Option (AV × Hp)
  | .mov x => some (e x, h)
  | .pick c a b => match e c with
    | .bool t => some (if t then e a else e b, h)
    | _ => none
  | .box t n x => if (e x).cells.length = n ∧ (e x).isTup = false then some (.ptr h.nb 0, h.pb (.cells t (e x).cells)) else none
  | .build z ps => if ps.all (fun p => (e p.2.2).cells.length == p.2.1 && !(e p.2.2).isTup) then (fills z (ps.map fun p => (p.1, e p.2.2))).map fun cs => (.agg cs, h) else none
  | .bslice z len ps => (fillE z (List.replicate len z) (ps.map fun p => (p.1, e p.2))).map fun es => (.vs true es, h)
  | .load n ag x => (ldc h n (e x)).bind fun cs => (mkv ag cs).map fun v => (v, h)
  | .store n x v => if (e v).cells.length = n ∧ (e v).isTup = false then (stc h (e v).cells (e x)).map fun h' => (undefA, h') else none
  | .nilc x => match e x with
    | .nilp | .nilf | .nili | .any => none
    | v => some (v, h)
  | .int op x y => match e x, e y with
    | .int k a, .int k' b => if k = k' ∨ op = .shl ∨ op = .shr then (intOp op k a b).map fun v => (v, h) else none
    | _, _ => none
  | .strb op x y => match e x, e y with
    | .str a, .str b => (strOp op a b).map fun v => (v, h)
    | _, _ => none
  | .boolb neg x y => match e x, e y with
    | .bool a, .bool b => some (.bool (if neg then !(a == b) else a == b), h)
    | _, _ => none
  | .aggb neg ks x y => match e x, e y with
    | .agg a, .agg b => (avEqK ks a b).map fun r => (.bool (if neg then !r else r), h)
    | _, _ => none
  | .nilb kd neg x => (isNilA kd (e x)).map fun r => (.bool (if neg then !r else r), h)
  | .not x => match e x with
    | .bool a => some (.bool !a, h)
    | _ => none
  | .neg x => match e x with
    | .int k a => some (.int k (k.wrap (0 - a)), h)
    | _ => none
  | .xor x => match e x with
    | .int k a => some (.int k (k.wrap (BitVec.ofInt k.bits (if k.signed then -1 else k.max) ^^^ BitVec.ofInt k.bits a).toNat), h)
    | _ => none
  | .conv k x => match e x with
    | .int _ a => some (.int k (k.wrap a), h)
    | _ => none
  | .cvs x => match e x with
    | .str s => some (.str s, h)
    | _ => none
  | .lit x => match e x with
    | .vs true ((c :: cs) :: es) => some (.vs true ((c :: cs) :: es), h)
    | _ => none
  | .bstr x => (els h (e x)).bind fun es => (bytesA es).map fun s => (.str s, h)
  | .fa off x => match e x with
    | .ptr b o => some (.ptr b (o + off), h)
    | .aptr a v i j => some (.aptr a v i (j + off), h)
    | .vptr cs o => some (.vptr cs (o + off), h)
    | _ => none
  | .ia esz x i => match asIntA (e i) with
    | some i => if 0 ≤ i then (elp h esz (e x) i.toNat).map fun v => (v, h) else none
    | none => none
  | .iaa esz len x i => match asIntA (e i) with
    | some i => if 0 ≤ i ∧ i.toNat < len then match e x with
      | .ptr b o => some (.ptr b (o + i.toNat * esz), h)
      | .aptr a v k j => some (.aptr a v k (j + i.toNat * esz), h)
      | .vptr cs o => some (.vptr cs (o + i.toNat * esz), h)
      | _ => none
      else none
    | none => none
  | .idx x i => match e x, asIntA (e i) with
    | .str s, some i => if 0 ≤ i then (s[i.toNat]?).map fun c => (.int .u8 c.toNat, h) else none
    | _, _ => none
  | .sstr x lo hi => match e x with
    | .str s => (optIx s.length (hi.map e)).bind fun b => (optIx 0 (lo.map e)).bind fun a =>
      if a ≤ b ∧ b ≤ s.length then some (.str ((s.drop a).take (b - a)), h) else none
    | _ => none
  | .ssl esz x lo hi => match e x with
    | .vs f es => (optIx es.length (hi.map e)).bind fun b => (optIx 0 (lo.map e)).bind fun a =>
      if a ≤ b ∧ b ≤ es.length ∧ (a = 0 ∨ es.all (fun c => c.length == esz) = true) then some (.vs (f && hi.isNone && decide (a < b)) ((es.drop a).take (b - a)), h) else none
    | .rs r v l n => (optIx n (hi.map e)).bind fun b => (optIx 0 (lo.map e)).bind fun a =>
      match h.ar[r]? with
      | some A => if A.ver = v ∧ A.esz = esz ∧ a ≤ b ∧ b ≤ n ∧ (a = 0 ∨ a < b) then some (.rs r v (l + a) (b - a), h) else none
      | none => none
    | _ => none
  | .lenS x => match e x with
    | .str s => some (.int .i64 s.length, h)
    | _ => none
  | .lenL x => match e x with
    | .vs _ es => some (.int .i64 es.length, h)
    | .rs _ _ _ n => some (.int .i64 n, h)
    | _ => none
  | .ext x i => match e x with
    | .tup vs => (vs[i]?).map fun v => (v, h)
    | _ => none
  | .app t esz bytes x y => (els h (e y)).bind fun ys => appE h t esz bytes (e x) ys
  | .apps t bytes x y => match e y with
    | .str s => appE h t 1 bytes (e x) (s.map fun b => [.int .u8 b.toNat])
    | _ => none
  | .minmax mx x y => match e x, e y with
    | .int k a, .int k' b => if k = k' then some (.int k (if mx then (if b > a then b else a) else (if b < a then b else a)), h) else none
    | _, _ => none
  | .mkf f cap => some (.fn f (cap.map e), h)
  | .mkm => some (.mp h.nb, h.pb (.map []))
  | .mset st m k v => match e m with
    | .mp b => match h.bx[b]? with
      | some (.map es) => (mfind st (e k) es).map fun r => match r with
          | some (i, _) => (undefA, h.sb b (.map (es.set i (e k, e v))))
          | none => (undefA, h.sb b (.map (es ++ [(e k, e v)])))
      | _ => none
    | _ => none
  | .mget st z ok m k => (mlook st z h (e m) (e k)).map fun r => (if ok then .tup [r.1, .bool r.2] else r.1, h)
  | .mksl t z bytes n => match asIntA (e n) with
    | some i => if 0 ≤ i ∧ i * bytes ≤ 140737488355328 then
        some (.rs h.na 0 0 i.toNat, h.pa ⟨t, z.length, bytes, 0, List.replicate i.toNat z, false⟩) else none
    | none => none
  | .mki t x => some (.iface t (e x), h)
  | .tas t z x => match e x with
    | .iface t' v => if t' = t then some (.tup [v, .bool true], h) else some (.tup [z, .bool false], h)
    | .nili => some (.tup [z, .bool false], h)
    | _ => none
  | .rngs x => match e x with
    | .str s => some (.it h.nb, h.pb (.siter s 0))
    | _ => none
  | .nxts it => match e it with
    | .it b => match h.bx[b]? with
      | some (.siter s pos) => if pos < s.length then
          (let (c, w) := Utf8.decode ⟨s.toArray⟩ pos; some (.tup [.bool true, .int .i64 pos, .int .i32 c], h.sb b (.siter s (pos + w))))
        else some (.tup [.bool false], h)
      | _ => none
    | _ => none
  | .fld off n ag x => match e x with
    | .agg cs => (sub cs off n).bind fun cs' => (mkv ag cs').map fun v => (v, h)
    | _ => none
  | .clr z x => match e x with
    | .vs _ es => if es.isEmpty then some (undefA, h) else none
    | .rs r v lo n => match h.ar[r]? with
      | some A => if A.ver = v ∧ A.fz = false ∧ A.esz = 1 ∧ lo + n ≤ A.es.length then
          some (undefA, h.sa r { A with es := setE A.es lo (List.replicate n [z]) }) else none
      | none => none
    | _ => none
  | .upc t n x => match e x with
    | .ptr b 0 => match h.bx[b]? with
      | some (.cells t' cs) => if t' = t ∧ cs.length = n then some (.ptr b 0, h) else none
      | _ => none
    | _ => none
  | .psame neg x y => match e x, e y with
    | .ptr b o, .ptr b' o' => if b = b' ∧ o = o' then some (.bool !neg, h) else none
    | _, _ => none
  | .usd x => match e x with
    | .vs true [] => some (.nilp, h)
    | .rs r v 0 n => match h.ar[r]? with
      | some A => if A.ver = v ∧ A.esz = 1 ∧ 0 < n then some (.aptr r v 0 0, h) else none
      | none => none
    | _ => none
  | .ust t p n => match e n, e p with
    | .int .i64 n, .nilp => if n = 0 then some (.str [], h) else none
    | .int .i64 n, .aptr r v 0 0 => match h.ar[r]? with
        | some A => if A.ver = v ∧ 0 < n ∧ A.esz = 1 ∧ A.t = t ∧ n.toNat ≤ A.es.length then
            (bytesB (A.es.take n.toNat)).map fun s => (.str s, h.sa r { A with fz := true }) else none
        | none => none
    | _, _ => none
  | .mkml st ps => if keysOk st (ps.map (·.1)) = true then some (.mp h.nb, h.pb (.map (ps.map fun p => (p.1, e (.t p.2))))) else none
  | .nop _ => some (undefA, h)
  | .pan _ => none
  | .call _ _ => none
  | .bad => none

mutual
/-- Slices without room to grow. -/
def AV.nrm : AV → AV
  | .vs f es => .vs (f && es.isEmpty) (nrmLL es)
  | .vptr cs o => .vptr (nrmL cs) o
  | .fn f cap => .fn f (nrmL cap)
  | .iface t v => .iface t (nrm v)
  | .agg cs => .agg (nrmL cs)
  | .tup xs => .tup (nrmL xs)
  | v => v
def AV.nrmL : List AV → List AV
  | [] => []
  | v :: l => AV.nrm v :: nrmL l
def AV.nrmLL : List (List AV) → List (List AV)
  | [] => []
  | c :: l => AV.nrmL c :: nrmLL l
end

/-- An array of the call's own is read once more, and then only read. -/
def frz1 (h : Hp) (na : Nat) : AV → AV
  | .rs a v lo n => if a < na then .rs a v lo n else match els h (.rs a v lo n) with
    | some es => .vs false (AV.nrmLL es)
    | none => .rs a v lo n
  | v => v.nrm
def frz (h : Hp) (na : Nat) : AV → AV
  | .agg cs => .agg (cs.map (frz1 h na))
  | .tup vs => .tup (vs.map fun v => match v with
    | .agg cs => .agg (cs.map (frz1 h na))
    | v => frz1 h na v)
  | v => frz1 h na v

def AEnd.map (f : AV → AV) : AEnd → AEnd
  | .ret v => .ret (f v)
  | .pan v => .pan (f v)
def AEnd.ok (nb na : Nat) : AEnd → Bool
  | .ret v => v.ok nb na
  | .pan v => v.ok nb na

def gc (mode : Nat) (nb na : Nat) (r : AEnd) (h : Hp) : Option (AEnd × Hp) :=
  if h.nb = nb ∧ h.na = na then some (r, h) else
  match mode with
  | 0 =>
    let r' := r.map (frz h na)
    let h' := h.tr nb na
    if r'.ok nb na ∧ h'.okb nb na then some (r', h') else none
  | 1 =>
    let h' := h.tr nb h.na
    if r.ok nb h.na ∧ h'.okb nb h.na then some (r, h') else none
  | _ => some (r, h)

def resV (e : Nat → AV) (h : Hp) : List RV → Option (List AV)
  | [] => some []
  | .tmp t :: l => (resV e h l).map fun r => e t :: r
  | .cell a n ag :: l => (ldc h n (e a)).bind fun cs => (mkv ag cs).bind fun v => (resV e h l).map fun r => v :: r
def one1 : List AV → AV
  | [v] => v
  | l => .tup l

def env0 (args : List AV) : Nat → AV := fun t => args.getD t undefA

def puts (e : Nat → AV) (d : Option Nat) (v : AV) : Nat → AV :=
  match d with
  | some d => upd e d v
  | none => e

/-- A deferred closure that asks for the panic. -/
structure HFn where
  f : FuncId
  np : Nat
  nt : Nat
  rt : Nat
  ops : List MI
  rest : MC
  deriving Inhabited

/-- A function that defers one closure. -/
structure DFn where
  np : Nat
  nt : Nat
  res : List RV
  gc : Nat
  pre1 : MC
  pre2 : MC
  t : Nat
  cap : List Opd
  rest : MC
  h : HFn
  deriving Inhabited

structure Sys where
  fn : FuncId → Option MFn
  dfn : FuncId → Option DFn
  prim : FuncId → Option (List AV → Hp → Option (AEnd × Hp))

abbrev CallO := FuncId → List AV → Hp → Option (AEnd × Hp)

/-- Is it to be done? -/
def grd (g : Option (Nat × Bool)) (e : Nat → AV) : Bool :=
  match g with
  | none => true
  | some (t, b) => match e t with
    | .bool c => c == b
    | _ => false

abbrev ARes := AEx × (Nat → AV) × Hp

def back (e : Nat → AV) (d : Option Nat) (r : AEnd × Hp) : ARes :=
  match r.1 with
  | .ret v => (.norm, puts e d v, r.2)
  | .pan v => (.pan v, e, r.2)

/-- An operation, with calls and panics. -/
def opv (call : CallO) (E : Opd → AV) (h : Hp) : MOp → Option (AEnd × Hp)
  | .call f args => match E f with
    | .fn k cap => call k (args.map E ++ cap) h
    | _ => none
  | .pan x => match E x with
    | .iface t v => some (.pan (.iface t v), h)
    | _ => none
  | op => (evop E h op).map fun r => (.ret r.1, r.2)

def stp (call : CallO) (i : MI) (e : Nat → AV) (h : Hp) : Option ARes :=
  if grd i.g e = true then (opv call (Opd.ev e) h i.op).map (back e i.d) else some (.norm, puts e i.d undefA, h)

def evops (call : CallO) : List MI → (Nat → AV) → Hp → Option ARes
  | [], e, h => some (.norm, e, h)
  | i :: l, e, h => (stp call i e h).bind fun r => match r.1 with
    | .norm => evops call l r.2.1 r.2.2
    | _ => some r

/-- Would it still do what it did? -/
def same (e : Nat → AV) (h : Hp) (i : MI) : Bool :=
  if grd i.g e = true then match evop (Opd.ev e) h i.op with
    | some r => (match i.d with
      | some d => (e d).beq r.1
      | none => true)
    | none => false
  else true

def sames (all : List MD) (e : Nat → AV) (h : Hp) : List Nat → Bool
  | [] => true
  | q :: l => (match all[q]? with
    | some x => same e h x.i
    | none => false) && sames all e h l

/-- A region whose order is open: in one order; what may come later is looked at again. -/
def evd (call : CallO) (all : List MD) : List MD → (Nat → AV) → Hp → Option ARes
  | [], e, h => some (.norm, e, h)
  | x :: l, e, h => (stp call x.i e h).bind fun r => match r.1 with
    | .norm => if sames all r.2.1 r.2.2 x.rc = true then evd call all l r.2.1 r.2.2 else none
    | _ => some r

/-- The deferred closure's work. -/
def hand (cc : MC → (Nat → AV) → Hp → Option ARes) (co : CallO) (hm : HFn) (cap : List AV) (rv : AV) (h : Hp) : Option Hp :=
  if cap.length = hm.np then (evops co hm.ops (upd (env0 cap) hm.rt rv) h).bind fun r => match r.1 with
    | .norm => (cc hm.rest r.2.1 r.2.2).bind fun q => match q.1 with
      | .norm => some q.2.2
      | .ret => some q.2.2
      | _ => none
    | _ => none
  else none
def dfin (d : DFn) (h : Hp) (e : Nat → AV) (h' : Hp) : Option (AEnd × Hp) := (resV e h' d.res).bind fun vs => gc d.gc h.nb h.na (.ret (one1 vs)) h'
def dlast (cc : MC → (Nat → AV) → Hp → Option ARes) (co : CallO) (d : DFn) (h : Hp) (e : Nat → AV) (cl : List AV) (r : ARes) : Option (AEnd × Hp) :=
  match r.1 with
  | .norm => (hand cc co d.h cl .nili r.2.2).bind fun h4 => dfin d h r.2.1 h4
  | .ret => (hand cc co d.h cl .nili r.2.2).bind fun h4 => dfin d h r.2.1 h4
  | .pan v => (hand cc co d.h cl v r.2.2).bind fun h4 => dfin d h e h4
  | .exit _ => none
def dmid (cc : MC → (Nat → AV) → Hp → Option ARes) (co : CallO) (d : DFn) (h : Hp) (r : ARes) : Option (AEnd × Hp) :=
  match r.1 with
  | .norm =>
    (cc d.rest (upd r.2.1 d.t (.fn d.h.f (d.cap.map (Opd.ev r.2.1)))) r.2.2).bind (dlast cc co d h (upd r.2.1 d.t (.fn d.h.f (d.cap.map (Opd.ev r.2.1)))) (d.cap.map (Opd.ev r.2.1)))
  | .ret => dfin d h r.2.1 r.2.2
  | _ => none
def dbeg (cc : MC → (Nat → AV) → Hp → Option ARes) (co : CallO) (d : DFn) (h : Hp) (r : ARes) : Option (AEnd × Hp) :=
  match r.1 with
  | .norm => (cc d.pre2 r.2.1 r.2.2).bind (dmid cc co d h)
  | _ => none
def dbody (cc : MC → (Nat → AV) → Hp → Option ARes) (co : CallO) (d : DFn) (args : List AV) (h : Hp) : Option (AEnd × Hp) :=
  if args.length = d.np then (cc d.pre1 (env0 args) h).bind (dbeg cc co d h) else none

mutual
def evC (S : Sys) : Nat → MC → (Nat → AV) → Hp → Option (AEx × (Nat → AV) × Hp)
  | 0, _, _, _ => none
  | _ + 1, .skip, e, h => some (.norm, e, h)
  | n + 1, .reg ops, e, h => evops (evF S n) ops e h
  | n + 1, .dreg l, e, h => evd (evF S n) l l e h
  | n + 1, .seq a b, e, h => (evC S n a e h).bind fun (x, e', h') => match x with
    | .norm => evC S n b e' h'
    | x => some (x, e', h')
  | n + 1, .cond c a b, e, h => match c.ev e with
    | .bool t => if t then evC S n a e h else evC S n b e h
    | _ => none
  | n + 1, .block id b, e, h => (evC S n b e h).bind fun (x, e', h') => match x with
    | .exit id' => if id' = id then some (.norm, e', h') else some (.exit id', e', h')
    | x => some (x, e', h')
  | n + 1, .loop b, e, h => (evC S n b e h).bind fun (x, e', h') => match x with
    | .norm => evC S n (.loop b) e' h'
    | x => some (x, e', h')
  | _ + 1, .exit id, e, h => some (.exit id, e, h)
  | _ + 1, .ret, e, h => some (.ret, e, h)
  | _ + 1, .bad, _, _ => none
def evF (S : Sys) : Nat → FuncId → List AV → Hp → Option (AEnd × Hp)
  | 0, _, _, _ => none
  | n + 1, f, args, h =>
    match S.prim f with
    | some p => p args h
    | none => match S.dfn f with
    | some d => dbody (evC S n) (evF S n) d args h
    | none => match S.fn f with
      | none => none
      | some m => if args.length = m.np then (evC S n m.body (env0 args) h).bind fun (x, e, h') => match x with
          | .norm | .ret => (resV e h' m.res).bind fun vs => gc m.gc h.nb h.na (.ret (one1 vs)) h'
          | .pan v => gc m.gc h.nb h.na (.pan v) h'
          | .exit _ => none
        else none
end
end Go.Ab
