/-
  The abstract values and the operations of the evaluator: plain Lean, no world, no tape.
-/
import GoSem.Claim
import Derived.Tactics
import Derived.Deep.Quiet
import Derived.Below
import Derived.Laws.Cells
import Derived.Laws.Entries
import Derived.Laws.StructEq
import Derived.Lib.Builder
import Derived.Lib.UnsafeStr
import Derived.Laws.Build
import Derived.RowKit3
import Derived.Laws.BytesString
import Derived.MapKept
set_option linter.unusedVariables false
set_option linter.unusedSimpArgs false
namespace Go.Ae

/-- Abstract values. Immutable memory is held by value: 'sl' a slice, 'rp' a pointer. Memory that the running functions write themselves lies in an abstract heap: 'ms' a slice of it, 'mp' a pointer into it; 'tp' a pointer to the start of a block of type t, at least m cells; 'mt' a slice of a block of cells of type t, from its start. 'im': an immutable map of whole numbers. -/
inductive V where
  | int (k : IntKind) (n : Int)
  | bool (b : Bool)
  | str (s : List UInt8)
  | nil
  | sl (full : Bool) (els : List (List V))
  | ms (sz b ver off len : Nat) (full : Bool)
  | rp (cells : List V)
  | mp (b ver off : Nat)
  | tp (t m b ver : Nat)
  | mt (t b ver len : Nat)
  | im (ks : List Int) (vs : List V)
  | np
  | fn (f : FuncId) (first cap : List V)
  | nf
  | ifc (t : TypeId) (v : V)
  | ni
  | agg (cs : List V)
  | tup (vs : List V)
  deriving Inhabited

/-- A block: its version, whether it may only be read now, its cells. -/
abbrev Blk := Nat × Bool × List V
abbrev Heap := List (Option Blk)

def V.cells : V → List V
  | .agg cs => cs
  | v => [v]

def V.one : V → Bool
  | .agg _ | .tup _ => false
  | _ => true

mutual
/-- No reference into the abstract heap. -/
def V.pure : V → Bool
  | .ms .. | .mp .. | .tp .. | .mt .. => false
  | .im _ vs => V.pureL vs
  | .sl _ els => V.pureLL els
  | .rp cs => V.pureL cs
  | .fn _ a c => V.pureL a && V.pureL c
  | .ifc _ v => v.pure
  | .agg cs => V.pureL cs
  | .tup vs => V.pureL vs
  | _ => true
def V.pureL : List V → Bool
  | [] => true
  | v :: r => v.pure && V.pureL r
def V.pureLL : List (List V) → Bool
  | [] => true
  | v :: r => V.pureL v && V.pureLL r
end

mutual
/-- Are two values one? -/
def V.eqb : V → V → Bool
  | .int k n, .int k' n' => k == k' && n == n'
  | .bool b, .bool b' => b == b'
  | .str s, .str s' => s == s'
  | .nil, .nil => true
  | .sl f a, .sl f' a' => f == f' && V.eqbLL a a'
  | .ms a b c d e f, .ms a' b' c' d' e' f' => a == a' && b == b' && c == c' && d == d' && e == e' && f == f'
  | .rp a, .rp a' => V.eqbL a a'
  | .mp a b c, .mp a' b' c' => a == a' && b == b' && c == c'
  | .tp a b c d, .tp a' b' c' d' => a == a' && b == b' && c == c' && d == d'
  | .mt a b c d, .mt a' b' c' d' => a == a' && b == b' && c == c' && d == d'
  | .im a b, .im a' b' => a == a' && V.eqbL b b'
  | .np, .np => true
  | .fn f a c, .fn f' a' c' => f == f' && V.eqbL a a' && V.eqbL c c'
  | .nf, .nf => true
  | .ifc t v, .ifc t' v' => t == t' && V.eqb v v'
  | .ni, .ni => true
  | .agg a, .agg a' => V.eqbL a a'
  | .tup a, .tup a' => V.eqbL a a'
  | _, _ => false
def V.eqbL : List V → List V → Bool
  | [], [] => true
  | a :: r, a' :: r' => V.eqb a a' && V.eqbL r r'
  | _, _ => false
def V.eqbLL : List (List V) → List (List V) → Bool
  | [], [] => true
  | a :: r, a' :: r' => V.eqbL a a' && V.eqbLL r r'
  | _, _ => false
end

mutual
theorem V.eqb_eq : ∀ {a b : V}, V.eqb a b = true → a = b
  | .int k n, b, h => by cases b <;> simp_all [V.eqb]
  | .bool _, b, h => by cases b <;> simp_all [V.eqb]
  | .str _, b, h => by cases b <;> simp_all [V.eqb]
  | .nil, b, h => by cases b <;> simp_all [V.eqb]
  | .sl f a, b, h => by
    cases b <;> simp only [V.eqb, Bool.and_eq_true, beq_iff_eq, Bool.false_eq_true] at h
    rw [h.1, V.eqbLL_eq h.2]
  | .ms .., b, h => by cases b <;> simp_all [V.eqb]
  | .rp a, b, h => by
    cases b <;> simp only [V.eqb, Bool.false_eq_true] at h
    rw [V.eqbL_eq h]
  | .mp .., b, h => by cases b <;> simp_all [V.eqb]
  | .tp .., b, h => by cases b <;> simp_all [V.eqb]
  | .mt .., b, h => by cases b <;> simp_all [V.eqb]
  | .im a c, b, h => by
    cases b <;> simp only [V.eqb, Bool.and_eq_true, beq_iff_eq, Bool.false_eq_true] at h
    rw [h.1, V.eqbL_eq h.2]
  | .np, b, h => by cases b <;> simp_all [V.eqb]
  | .fn f a c, b, h => by
    cases b <;> simp only [V.eqb, Bool.and_eq_true, beq_iff_eq, Bool.false_eq_true] at h
    rw [h.1.1, V.eqbL_eq h.1.2, V.eqbL_eq h.2]
  | .nf, b, h => by cases b <;> simp_all [V.eqb]
  | .ifc t v, b, h => by
    cases b <;> simp only [V.eqb, Bool.and_eq_true, beq_iff_eq, Bool.false_eq_true] at h
    rw [h.1, V.eqb_eq h.2]
  | .ni, b, h => by cases b <;> simp_all [V.eqb]
  | .agg a, b, h => by
    cases b <;> simp only [V.eqb, Bool.false_eq_true] at h
    rw [V.eqbL_eq h]
  | .tup a, b, h => by
    cases b <;> simp only [V.eqb, Bool.false_eq_true] at h
    rw [V.eqbL_eq h]
theorem V.eqbL_eq : ∀ {a b : List V}, V.eqbL a b = true → a = b
  | [], b, h => by cases b <;> simp_all [V.eqbL]
  | a :: r, b, h => by
    cases b with
    | nil => simp [V.eqbL] at h
    | cons a' r' =>
      simp only [V.eqbL, Bool.and_eq_true] at h
      rw [V.eqb_eq h.1, V.eqbL_eq h.2]
theorem V.eqbLL_eq : ∀ {a b : List (List V)}, V.eqbLL a b = true → a = b
  | [], b, h => by cases b <;> simp_all [V.eqbLL]
  | a :: r, b, h => by
    cases b with
    | nil => simp [V.eqbLL] at h
    | cons a' r' =>
      simp only [V.eqbLL, Bool.and_eq_true] at h
      rw [V.eqbL_eq h.1, V.eqbLL_eq h.2]
end

mutual
theorem V.eqb_refl : ∀ a : V, V.eqb a a = true
  | .int _ _ | .bool _ | .str _ | .nil | .ms .. | .mp .. | .tp .. | .mt .. | .np | .nf | .ni => by simp [V.eqb]
  | .sl f a => by simp [V.eqb, V.eqbLL_refl a]
  | .rp a => by simp [V.eqb, V.eqbL_refl a]
  | .im a c => by simp [V.eqb, V.eqbL_refl c]
  | .fn f a c => by simp [V.eqb, V.eqbL_refl a, V.eqbL_refl c]
  | .ifc t v => by simp [V.eqb, V.eqb_refl v]
  | .agg a => by simp [V.eqb, V.eqbL_refl a]
  | .tup a => by simp [V.eqb, V.eqbL_refl a]
theorem V.eqbL_refl : ∀ a : List V, V.eqbL a a = true
  | [] => rfl
  | a :: r => by simp [V.eqbL, V.eqb_refl a, V.eqbL_refl r]
theorem V.eqbLL_refl : ∀ a : List (List V), V.eqbLL a a = true
  | [] => rfl
  | a :: r => by simp [V.eqbLL, V.eqbL_refl a, V.eqbLL_refl r]
end

/-- Numbers, bools, strings, and tuples of them. -/
def V.flat : V → Bool
  | .int .. | .bool _ | .str _ => true
  | _ => false

def V.scalar : V → Bool
  | .tup vs => vs.all V.flat
  | v => v.flat

/-- A constant of the program's text, or a type's zero value. -/
def ofVal1 : Value → Option V
  | .bool b => some (.bool b)
  | .int k n => some (.int k n)
  | .string s => some (.str s.data.toList)
  | .slice none 0 0 => some .nil
  | .pointer none => some .np
  | .nilFunc => some .nf
  | .nilIface => some .ni
  | .map none => some (.im [] [])
  | _ => none

def ofVals : List Value → Option (List V)
  | [] => some []
  | v :: r => match ofVal1 v, ofVals r with
    | some x, some xs => some (x :: xs)
    | _, _ => none

def ofVal : Value → Option V
  | .agg cs => (ofVals cs.toList).map .agg
  | .tuple cs => (ofVals cs.toList).map .tup
  | v => ofVal1 v

/-- What the evaluator asks of a type. -/
structure TI where
  desc : TypeDesc
  size : Nat
  bytes : Nat
  zero : V

def tinf (P : Program) (t : TypeId) : Option TI :=
  match P.info? t, P.underlying t with
  | some i, some d => match i.zero with
    | some z => match ofVal z with
      | some v => some ⟨d, i.size, i.bytes, v⟩
      | none => none
    | none => none
  | _, _ => none

def TI.agg (i : TI) : Bool :=
  match i.desc with
  | .struct _ | .array _ _ => true
  | _ => false

def TI.isIf (i : TI) : Bool :=
  match i.desc with
  | .interface _ => true
  | _ => false

/-- How a call is carried out: 'snap': over values alone (what the arguments point to is read first; the result is made immutable); 'ro': the heap may only be read; 'inl': as it is; 'mv': the arguments are made immutable first. -/
inductive Mode where
  | snap | ro | inl | mv
  deriving DecidableEq

/-- The program, its laid variables, and hints (none is trusted but 'idf': see 'EnvOk'). -/
structure Env where
  P : Program
  glob : Nat → Option (List V)
  /-- how calls of a function are carried out -/
  mode : FuncId → Mode
  /-- is the boxed parameter or variable in this temporary of this function written later? -/
  wr : FuncId → Tmp → Bool
  /-- temporaries that are made immutable ahead of a region -/
  frz : FuncId → Nat → List Tmp
  /-- types whose variables get typed pointers; slice types whose appended rows are typed -/
  tyd : TypeId → Bool
  tbs : TypeId → Bool
  /-- functions of the library that hand their argument back -/
  idf : FuncId → Bool
  /-- loads that are watched, in a region that draws -/
  wat : FuncId → Nat → List (Nat × List Nat)
  /-- calls whose results are made immutable at once -/
  fzd : FuncId → Option Tmp → Bool
  /-- functions that are not entered -/
  ext : FuncId → Option (List V → Option V)

def splice (cs : List V) (off : Nat) (vs : List V) : List V := cs.take off ++ vs ++ cs.drop (off + vs.length)

def getBlk (H : Heap) (b ver : Nat) : Option (List V) :=
  match H[b]? with
  | some (some (v, _, cs)) => if v = ver then some cs else none
  | _ => none

/-- A block that may be written. -/
def getW (H : Heap) (b ver : Nat) : Option (List V) :=
  match H[b]? with
  | some (some (v, false, cs)) => if v = ver then some cs else none
  | _ => none

def newBlk (ver : Nat) (cs : List V) : Option Blk := some (ver, false, cs)

def setBlk (H : Heap) (b ver : Nat) (cs : List V) : Heap := H.set b (newBlk ver cs)

/-- The heap, to be read only. -/
def roH (H : Heap) : Heap := H.map fun o => o.map fun (v, _, cs) => (v, true, cs)

/-- The elements of a stretch of cells. -/
def chunk (sz : Nat) : Nat → List V → List (List V)
  | 0, _ => []
  | n + 1, cs => cs.take sz :: chunk sz n (cs.drop sz)

/-- The cells behind a pointer. -/
def behind (H : Heap) : V → Option (List V)
  | .rp cs => some cs
  | .mp b ver off => (getBlk H b ver).map (·.drop off)
  | _ => none

def loadCs (i : TI) (cs : List V) : Option V :=
  if i.agg then (if i.size ≤ cs.length then some (.agg (cs.take i.size)) else none)
  else cs.head?

def partV (P : Program) (t : TypeId) (cs : List V) (off : Nat) : Option V :=
  match tinf P t with
  | some i => if i.agg then (if off + i.size ≤ cs.length then some (.agg ((cs.drop off).take i.size)) else none) else cs[off]?
  | none => none

def fieldOf (P : Program) (t : TypeId) (f : Nat) : Option Field :=
  match tinf P t with
  | some ⟨.struct fs, _, _, _⟩ => fs[f]?
  | _ => none

/-- The place behind a pointer, 'off' cells on. -/
def goOn (v : V) (off : Nat) : Option V :=
  match v with
  | .rp cs => some (.rp (cs.drop off))
  | .mp b ver o => some (.mp b ver (o + off))
  | .tp _ _ b ver => some (.mp b ver off)
  | _ => none

def sizeT (P : Program) (t : TypeId) : Option Nat := (tinf P t).map (·.size)

def indexAddrV (P : Program) (t : TypeId) (x : V) (i : Int) : Option V :=
  match tinf P t with
  | some ⟨.slice e, _, _, _⟩ => match sizeT P e with
    | some s => match x with
      | .sl _ els => if 0 ≤ i then match els[i.toNat]? with
          | some cs => if cs.length = s then some (.rp cs) else none
          | none => none
        else none
      | .ms sz b ver off len _ => if 0 ≤ i ∧ i < (len : Int) then (if sz = s then some (.mp b ver (off + i.toNat * sz)) else none) else none
      | _ => none
    | none => none
  | some ⟨.array n e, _, _, _⟩ => match sizeT P e with
    | some s => if 0 ≤ i ∧ i < (n : Int) then goOn x (i.toNat * s) else none
    | none => none
  | _ => none

def indexV (P : Program) (t : TypeId) (x : V) (i : Int) : Option V :=
  match tinf P t with
  | some ⟨.array n e, _, _, _⟩ => match sizeT P e, x with
    | some s, .agg cs => if 0 ≤ i ∧ i < (n : Int) then partV P e cs (i.toNat * s) else none
    | _, _ => none
  | some ⟨.string, _, _, _⟩ => match x with
    | .str s => if 0 ≤ i then match s[i.toNat]? with
        | some b => some (.int .u8 b.toNat)
        | none => none
      else none
    | _ => none
  | _ => none

/-- A bound of a slice expression. -/
def bnd : Option V → Nat → Nat → Option Nat
  | none, d, _ => some d
  | some (.int _ i), _, most => if 0 ≤ i ∧ i ≤ (most : Int) then some i.toNat else none
  | _, _, _ => none

/-- Part l to h of a slice of 'len' elements, up to m. 'isFull': nothing lies behind m. -/
def cutV (len : Nat) (full : Bool) (lo hi mx : Option V) : Option (Nat × Nat × Bool) :=
  if mx.isSome && !hi.isSome then none else
  match bnd mx len len with
  | some m => match bnd hi len m with
    | some h => match bnd lo 0 h with
      | some l => some (l, h, (mx.isSome || full) && decide (m = h))
      | none => none
    | none => none
  | none => none

def sliceV (P : Program) (H : Heap) (t : TypeId) (x : V) (lo hi mx : Option V) : Option V :=
  match tinf P t with
  | some ⟨.string, _, _, _⟩ => match x, mx with
    | .str s, none => match cutV s.length true lo hi none with
      | some (l, h, _) => some (.str ((s.drop l).take (h - l)))
      | none => none
    | _, _ => none
  | some ⟨.slice e, _, _, _⟩ => match x with
    | .nil => match cutV 0 true lo hi mx, sizeT P e with
      | some _, some _ => some .nil
      | _, _ => none
    | .sl full els => match cutV els.length full lo hi mx with
      | some (l, h, f) => match sizeT P e with
        | some s => if els.all (fun cs => decide (cs.length = s)) then some (.sl f ((els.drop l).take (h - l))) else none
        | none => none
      | none => none
    | .ms sz b ver off len full => match cutV len full lo hi mx with
      | some (l, h, f) => match sizeT P e with
        | some s => if sz = s then (if l = h ∧ (mx.isSome ∨ l = len) then some (.sl f []) else some (.ms sz b ver (off + l * sz) (h - l) f)) else none
        | none => none
      | none => none
    | _ => none
  | some ⟨.array n e, _, _, _⟩ => match sizeT P e, cutV n true lo hi mx with
    | some s, some (l, h, f) => match x with
      | .rp cs => if n * s ≤ cs.length then some (.sl f (((chunk s n cs).drop l).take (h - l))) else none
      | .mp b ver off => match getBlk H b ver with
        | some cs => if off + n * s ≤ cs.length then (if l = h then some (.sl f []) else some (.ms s b ver (off + l * s) (h - l) f)) else none
        | none => none
      | _ => none
    | _, _ => none
  | _ => none

def lenV (P : Program) (t : TypeId) (x : V) : Option Nat :=
  match tinf P t with
  | some ⟨.string, _, _, _⟩ => match x with
    | .str s => some s.length
    | _ => none
  | some ⟨.array n _, _, _, _⟩ => some n
  | some ⟨.slice _, _, _, _⟩ => match x with
    | .nil => some 0
    | .sl _ els => some els.length
    | .ms _ _ _ _ len _ => some len
    | .mt _ _ _ len => some len
    | _ => none
  | _ => none

def intOp (op : BinOp) (k : IntKind) (a b : Int) : Option V :=
  match op with
  | .add => some (.int k (k.wrap (a + b)))
  | .sub => some (.int k (k.wrap (a - b)))
  | .mul => some (.int k (k.wrap (a * b)))
  | .quo => if b = 0 then none else some (.int k (k.wrap (a.tdiv b)))
  | .rem => if b = 0 then none else some (.int k (a.tmod b))
  | .eql => some (.bool (a == b))
  | .neq => some (.bool (a != b))
  | .lss => some (.bool (decide (a < b)))
  | .leq => some (.bool (decide (a ≤ b)))
  | .gtr => some (.bool (decide (a > b)))
  | .geq => some (.bool (decide (a ≥ b)))
  | .and => some (.int k (k.wrap ((BitVec.ofInt k.bits a &&& BitVec.ofInt k.bits b).toNat : Int)))
  | .or => some (.int k (k.wrap ((BitVec.ofInt k.bits a ||| BitVec.ofInt k.bits b).toNat : Int)))
  | .xor => some (.int k (k.wrap ((BitVec.ofInt k.bits a ^^^ BitVec.ofInt k.bits b).toNat : Int)))
  | .andNot => some (.int k (k.wrap ((BitVec.ofInt k.bits a &&& ~~~BitVec.ofInt k.bits b).toNat : Int)))
  | _ => none

/-- '==' of two values of type t: numbers, bools, strings, structs and arrays of such; nil slices and functions. -/
def eqV (P : Program) : Nat → TypeId → V → V → Option Bool
  | 0, _, _, _ => none
  | d + 1, t, x, y =>
    match tinf P t with
    | none => none
    | some i => match i.desc, x, y with
      | .bool, .bool a, .bool b => some (a == b)
      | .int _, .int k a, .int k' b => if k = k' then some (a == b) else none
      | .string, .str a, .str b => some (a == b)
      | .slice _, .nil, .nil => some true
      | .slice _, .nil, .sl .. | .slice _, .nil, .ms .. | .slice _, .sl .., .nil | .slice _, .ms .., .nil => some false
      | .func _ _ _, .nf, .nf => some true
      | .func _ _ _, .nf, .fn .. | .func _ _ _, .fn .., .nf => some false
      | .pointer _, .np, .np => some true
      | .pointer e, .tp _ _ b v, .tp _ _ b' v' => match tinf P e with
        | some _ => if b = b' ∧ v = v' then some true else none
        | none => none
      | .pointer _, .np, .tp .. | .pointer _, .tp .., .np => some false
      | .pointer _, .np, .rp _ | .pointer _, .np, .mp .. | .pointer _, .rp _, .np | .pointer _, .mp .., .np => some false
      | .struct fs, .agg xs, .agg ys => if P.stoodInHeld t then none else eqFields fs.toList xs ys (eqV P d)
      | .array n e, .agg xs, .agg ys => match sizeT P e with
        | some s => eqElems e s xs ys (eqV P d) n 0
        | none => none
      | _, _, _ => none
where
  eqFields (fs : List Field) (xs ys : List V) (eq : TypeId → V → V → Option Bool) : Option Bool :=
    match fs with
    | [] => some true
    | f :: r =>
      if f.name = "_" then eqFields r xs ys eq
      else match partV P f.type xs f.offset, partV P f.type ys f.offset with
        | some a, some b => match eq f.type a b with
          | some true => eqFields r xs ys eq
          | some false => some false
          | none => none
        | _, _ => none
  eqElems (e : TypeId) (s : Nat) (xs ys : List V) (eq : TypeId → V → V → Option Bool) : Nat → Nat → Option Bool
    | 0, _ => some true
    | n + 1, i => match partV P e xs (i * s), partV P e ys (i * s) with
      | some a, some b => match eq e a b with
        | some true => eqElems e s xs ys eq n (i + 1)
        | some false => some false
        | none => none
      | _, _ => none

/-- The model's guard on '==' lets the operand by. -/
def eqFree (P : Program) (t : TypeId) : V → Bool
  | .agg _ => !P.eqGuardType P.depth t
  | .ni => false
  | _ => true

def bytesLe (a b : List UInt8) : Bool := Op.bytesLess a b || a == b

def binV (P : Program) (op : BinOp) (t : TypeId) (x y : V) : Option V :=
  match op, x, y with
  | .shl, .int k a, .int _ b => if b < 0 then none else some (.int k (k.wrap (a * 2 ^ (min b.toNat k.bits))))
  | .shr, .int k a, .int _ b => if b < 0 then none else some (.int k (a.fdiv (2 ^ (min b.toNat k.bits))))
  | op, .int k a, .int k' b => if k = k' then intOp op k a b else none
  | .add, .str a, .str b => if a.length + b.length ≤ 9223372036854775807 then some (.str (a ++ b)) else none
  | .eql, .str a, .str b => some (.bool (a == b))
  | .neq, .str a, .str b => some (.bool !(a == b))
  | .lss, .str a, .str b => some (.bool (Op.bytesLess a b))
  | .leq, .str a, .str b => some (.bool (bytesLe a b))
  | .gtr, .str a, .str b => some (.bool !(bytesLe a b))
  | .geq, .str a, .str b => some (.bool !(Op.bytesLess a b))
  | .eql, x, y => if eqFree P t x then (eqV P 9999 t x y).map .bool else none
  | .neq, x, y => if eqFree P t x then (eqV P 9999 t x y).map fun b => .bool !b else none
  | _, _, _ => none

def unV (op : UnOp) (x : V) : Option V :=
  match op, x with
  | .neg, .int k n => some (.int k (k.wrap (0 - n)))
  | .not, .bool b => some (.bool !b)
  | .xor, .int k n => some (.int k (k.wrap ((BitVec.ofInt k.bits (if k.signed then -1 else k.max) ^^^ BitVec.ofInt k.bits n).toNat : Int)))
  | _, _ => none

def convV (P : Program) (src dst : TypeId) (x : V) : Option V :=
  match tinf P src, tinf P dst, x with
  | some _, some ⟨.int k, _, _, _⟩, .int _ n => some (.int k (k.wrap n))
  | some _, some ⟨.string, _, _, _⟩, .str s => some (.str s)
  | some ⟨.pointer e, _, _, _⟩, some ⟨.unsafePointer, _, _, _⟩, .tp t m b v => match tinf P e with
    | some i => if i.size ≠ 0 ∧ 1 ≤ m then some (.tp t m b v) else none
    | none => none
  | some ⟨.unsafePointer, _, _, _⟩, some ⟨.pointer u, _, _, _⟩, .tp t m b v => match tinf P u with
    | some i => if u = t ∧ 1 ≤ i.size ∧ i.size ≤ m then some (.tp t m b v) else none
    | none => none
  | _, _, _ => none

/-- The place of a key. -/
def idxI : List Int → Int → Option Nat
  | [], _ => none
  | k :: r, n => if k = n then some 0 else (idxI r n).map (· + 1)

/-- What a look-up gives. -/
def lookupV (P : Program) (t : TypeId) (ks : List Int) (vs : List V) (n : Int) : Option V :=
  match tinf P t with
  | some ⟨.map key elem, _, _, _⟩ => match tinf P key, tinf P elem with
    | some ⟨.int .i64, _, _, _⟩, some ie => match idxI ks n with
      | some i => match vs[i]? with
        | some v => some (.tup [v, .bool true])
        | none => none
      | none => some (.tup [ie.zero, .bool false])
    | _, _ => none
  | _ => none

def fillV (place : Nat → Option (Nat × Nat)) (cells : List V) : List (Nat × V) → Option (List V)
  | [] => some cells
  | (i, v) :: rest =>
    match place i with
    | none => none
    | some (off, size) =>
      if v.cells.length ≠ size ∨ cells.length < off + v.cells.length then none
      else fillV place (splice cells off v.cells) rest

def places (P : Program) : List Field → Option (List (Nat × Nat))
  | [] => some []
  | f :: r => match P.info? f.type, places P r with
    | some i, some l => some ((f.offset, i.size) :: l)
    | _, _ => none

def buildV (P : Program) (t : TypeId) (parts : List (Nat × V)) : Option V :=
  match tinf P t with
  | some ⟨.struct fs, _, _, z⟩ => match places P fs.toList with
    | some pl => (fillV (pl[·]?) z.cells parts).map .agg
    | none => none
  | some ⟨.array _ e, _, _, z⟩ => match sizeT P e with
    | some s => (fillV (fun i => some (i * s, s)) z.cells parts).map .agg
    | none => none
  | _ => none

def typeAssertV (P : Program) (x : V) (asserted : TypeId) (ok : Bool) : Option V :=
  match tinf P asserted with
  | some i => match i.desc, x with
    | .interface _, _ => none
    | _, .ifc t v => if t = asserted then some (if ok then .tup [v, .bool true] else v) else if ok then some (.tup [i.zero, .bool false]) else none
    | _, .ni => if ok then some (.tup [i.zero, .bool false]) else none
    | _, _ => none
  | none => none

def foldMM (max : Bool) : V → List V → Option V
  | x, [] => some x
  | .int k a, .int _ b :: r => foldMM max (.int k (if max then (if b > a then b else a) else (if b < a then b else a))) r
  | _, _ => none

/-- Builtins that only read. -/
def qBuiltin (P : Program) (b : Builtin) (argTypes : Array TypeId) (args : List V) : Option V :=
  match b, args with
  | .len, [x] => match argTypes[0]? with
    | some t => (lenV P t x).map fun n => .int .i64 n
    | none => none
  | .unsafeSliceData, [.nil] => some .np
  | .unsafeSliceData, [.mt t b ver len] => if 0 < len then some (.tp t len b ver) else none
  | .max, x :: r => foldMM true x r
  | .min, x :: r => foldMM false x r
  | _, _ => none

end Go.Ae

namespace Go.Ae

inductive X where
  | nrm
  | exit (id : Nat)
  | ret
  deriving DecidableEq

def undefV : V := .tup []

def rho (E : Env) (ts : List V) : Operand → Option V
  | .tmp t => some (ts.getD t undefV)
  | .const v => ofVal v
  | .global g => (E.glob g).map .rp
  | .func f => some (.fn f [] [])

def mapO {α β : Type} (f : α → Option β) : List α → Option (List β)
  | [] => some []
  | a :: r => match f a with
    | some b => match mapO f r with
      | some bs => some (b :: bs)
      | none => none
    | none => none

def optO {α β : Type} (f : α → Option β) : Option α → Option (Option β)
  | none => some none
  | some a => match f a with
    | some b => some (some b)
    | none => none

def partsO (ρ : Operand → Option V) : List (Nat × Operand) → Option (List (Nat × V))
  | [] => some []
  | (i, o) :: r => match ρ o, partsO ρ r with
    | some v, some l => some ((i, v) :: l)
    | _, _ => none

/-- The elements that a slice or a string holds. -/
def elemsOf (H : Heap) : V → Option (List (List V))
  | .nil => some []
  | .sl _ els => some els
  | .ms sz b ver off len _ => match getBlk H b ver with
    | some cs => if off + len * sz ≤ cs.length then some (chunk sz len (cs.drop off)) else none
    | none => none
  | .str s => some (s.map fun c => [.int .u8 c.toNat])
  | _ => none

def byteOfV : List V → Option UInt8
  | [.int .u8 n] => if 0 ≤ n ∧ n < 256 then some (UInt8.ofNat n.toNat) else none
  | _ => none

/-- Operations that change nothing. -/
def qop (E : Env) (H : Heap) (ρ : Operand → Option V) : Op → Option V
  | .move x | .assign x => ρ x
  | .pick c a b => match ρ c with
    | some (.bool true) => ρ a
    | some (.bool false) => ρ b
    | _ => none
  | .load t a => match tinf E.P t, ρ a with
    | some i, some v => match behind H v with
      | some cs => loadCs i cs
      | none => none
    | _, _ => none
  | .nilCheck x => match ρ x with
    | some (.rp cs) => some (.rp cs)
    | some (.mp b ver off) => some (.mp b ver off)
    | some (.tp t m b ver) => some (.tp t m b ver)
    | some (.fn f a c) => some (.fn f a c)
    | _ => none
  | .binOp op t x y _ => match ρ x, ρ y with
    | some a, some b => binV E.P op t a b
    | _, _ => none
  | .unOp op _ x => match ρ x with
    | some a => unV op a
    | none => none
  | .convert src dst x => match ρ x with
    | some (.int k n) => convV E.P src dst (.int k n)
    | some (.tp t m b ver) => convV E.P src dst (.tp t m b ver)
    | some (.str s) => match tinf E.P dst with
      | some ⟨.string, _, _, _⟩ => convV E.P src dst (.str s)
      | _ => none
    | some v => match tinf E.P src, tinf E.P dst with
      | some ⟨.slice e, _, _, _⟩, some ⟨.string, _, _, _⟩ => match tinf E.P e, elemsOf H v with
        | some ⟨.int .u8, 1, _, _⟩, some els => (mapO byteOfV els).map .str
        | _, _ => none
      | _, _ => none
    | none => none
  | .makeInterface t x => match tinf E.P t, ρ x with
    | some i, some v => if i.isIf then none else some (.ifc t v)
    | _, _ => none
  | .makeFunc (.func f) first captured => match mapO ρ first.toList, mapO ρ captured.toList with
    | some a, some c => some (.fn f a c)
    | _, _ => none
  | .slice t x lo hi mx => match ρ x, optO ρ lo, optO ρ hi, optO ρ mx with
    | some v, some l, some h, some m => sliceV E.P H t v l h m
    | _, _, _, _ => none
  | .fieldAddr s x f => match ρ x, fieldOf E.P s f with
    | some v, some fd => match sizeT E.P fd.type with
      | some (_ + 1) => goOn v fd.offset
      | _ => none
    | _, _ => none
  | .field s x f => match ρ x, fieldOf E.P s f with
    | some (.agg cs), some fd => partV E.P fd.type cs fd.offset
    | _, _ => none
  | .indexAddr t x i => match ρ x, ρ i with
    | some v, some (.int _ n) => indexAddrV E.P t v n
    | _, _ => none
  | .index t x i => match ρ x, ρ i with
    | some v, some (.int _ n) => indexV E.P t v n
    | _, _ => none
  | .typeAssert x _ asserted ok => match ρ x with
    | some v => typeAssertV E.P v asserted ok
    | none => none
  | .extract x i => match ρ x with
    | some (.tup vs) => vs[i]?
    | _ => none
  | .build t parts => match partsO ρ parts.toList with
    | some l => buildV E.P t l
    | none => none
  | .lookup t x i ok => match ρ x, ρ i with
    | some (.im ks vs), some (.int .i64 n) => if ok then lookupV E.P t ks vs n else none
    | _, _ => none
  | .call c => match c.callee with
    | .builtin b => match mapO ρ c.args.toList with
      | some args => qBuiltin E.P b c.argTypes args
      | none => none
    | _ => none
  | _ => none

def allOne (cs : List V) : Bool := cs.all V.one

/-- The most bytes that a slice made here may take. -/
def room : Nat := 140737488355328

def appendV (P : Program) (H : Heap) (t : TypeId) (s x : V) : Option (V × Heap) :=
  match tinf P t with
  | some ⟨.slice e, _, _, _⟩ => match tinf P e with
    | some ie => match elemsOf H x with
      | some new => match new with
        | [] => match s with
          | .nil => some (.nil, H)
          | .sl f els => some (.sl f els, H)
          | .ms sz b ver off len full => some (.ms sz b ver off len full, H)
          | _ => none
        | _ :: _ =>
          if ie.size = 0 ∨ ie.bytes = 0 ∨ ie.zero.cells.length ≠ ie.size ∨ !(new.all fun c => decide (c.length = ie.size) && allOne c) then none else
          match s with
          | .nil =>
            if new.length * ie.bytes ≤ room then some (.ms ie.size H.length new.flatten.length 0 new.length false, H ++ [newBlk new.flatten.length new.flatten]) else none
          | .sl true els =>
            if (els.length + new.length) * ie.bytes ≤ room ∧ els.all (fun c => decide (c.length = ie.size) && allOne c) then
              some (.ms ie.size H.length (els ++ new).flatten.length 0 (els.length + new.length) false, H ++ [newBlk (els ++ new).flatten.length (els ++ new).flatten]) else none
          | .ms sz b ver off len _ => match getW H b ver with
            | some cs =>
              if sz = ie.size ∧ (len + new.length) * ie.bytes ≤ room ∧ off + len * sz ≤ cs.length then
                (if off = 0 ∧ len * sz = cs.length then
                  some (.ms sz b (ver + new.length * sz) 0 (len + new.length) false, setBlk H b (ver + new.length * sz) (cs ++ new.flatten))
                else some (.ms sz H.length ((cs.drop off).take (len * sz) ++ new.flatten).length 0 (len + new.length) false,
                  H.set b none ++ [newBlk ((cs.drop off).take (len * sz) ++ new.flatten).length ((cs.drop off).take (len * sz) ++ new.flatten)]))
              else none
            | none => none
          | _ => none
      | none => none
    | none => none
  | _ => none

/-- Appending bytes to a typed row. -/
def appendB (P : Program) (H : Heap) (t : TypeId) (s x : V) : Option (V × Heap) :=
  match tinf P t with
  | some ⟨.slice e, _, _, _⟩ => match tinf P e with
    | some ie => match elemsOf H x with
      | some new =>
        if ie.size ≠ 1 ∨ ie.bytes = 0 ∨ ie.zero.cells.length ≠ 1 ∨ !(new.all fun c => decide (c.length = 1) && allOne c) then none else
        match s with
        | .nil => match new with
          | [] => some (.nil, H)
          | _ :: _ => if new.length * ie.bytes ≤ room then some (.mt e H.length new.flatten.length new.length, H ++ [newBlk new.flatten.length new.flatten]) else none
        | .mt e' b ver len => match getW H b ver with
          | some cs => if e' = e ∧ len = cs.length ∧ (len + new.length) * ie.bytes ≤ room then
              (match new with
              | [] => some (.mt e b ver len, H)
              | _ :: _ => some (.mt e b (ver + new.length) (len + new.length), setBlk H b (ver + new.length) (cs ++ new.flatten)))
            else none
          | none => none
        | _ => none
      | none => none
    | none => none
  | _ => none

/-- unsafe.String: the bytes of a typed row, which may not be written from now on. -/
def unsafeStr (P : Program) (H : Heap) (pt : TypeId) (p n : V) : Option (V × Heap) :=
  match p, n with
  | .np, .int .i64 0 => some (.str [], H)
  | .tp t m b ver, .int .i64 k => match tinf P pt with
    | some ⟨.pointer e, _, _, _⟩ => match tinf P e with
      | some ie => match getW H b ver with
        | some cs => if e = t ∧ ie.size = 1 ∧ 1 ≤ k ∧ k ≤ (m : Int) ∧ k.toNat ≤ cs.length ∧ k ≤ 4611686018427387904 then
            (match mapO byteOfV ((cs.take k.toNat).map fun c => [c]) with
            | some bs => some (.str bs, H.set b none)
            | none => none)
          else none
        | none => none
      | none => none
    | _ => none
  | _, _ => none

/-- Operations that make or change memory of the running functions' own. -/
def eop (E : Env) (f : FuncId) (dst : Option Tmp) (H : Heap) (ρ : Operand → Option V) : Op → Option (V × Heap)
  | .alloc e => match tinf E.P e with
    | some i => if allOne i.zero.cells then some (if E.tyd e then .tp e i.zero.cells.length H.length 0 else .mp H.length 0 0, H ++ [newBlk 0 i.zero.cells]) else none
    | none => none
  | .box _ x => match ρ x, dst with
    | some v, some d => if allOne v.cells then (if E.wr f d then some (.mp H.length 0 0, H ++ [newBlk 0 v.cells]) else some (.rp v.cells, H)) else none
    | _, _ => none
  | .buildSlice t len parts => match tinf E.P t, partsO ρ parts.toList with
    | some ⟨.slice e, _, _, _⟩, some l => match tinf E.P e with
      | some ie =>
        if len * ie.size = 0 ∨ len * ie.size > 16777216 then (if len = 0 ∧ l.isEmpty = true then some (.sl true [], H) else none)
        else if ie.zero.cells.length ≠ ie.size then none
        else match fillV (fun i => some (i * ie.size, ie.size)) (List.replicate len ie.zero.cells).flatten l with
          | some cs => if allOne cs then some (.ms ie.size H.length cs.length 0 len true, H ++ [newBlk cs.length cs]) else none
          | none => none
      | none => none
    | _, _ => none
  | .makeSlice t len cap => match tinf E.P t, ρ len, ρ cap with
    | some ⟨.slice e, _, _, _⟩, some (.int _ l), some (.int _ c) => match tinf E.P e with
      | some ie =>
        if 0 ≤ l ∧ l ≤ c ∧ (ie.bytes : Int) * c ≤ room ∧ c ≤ 4611686018427387904 ∧ 0 < ie.size ∧ ie.zero.cells.length = ie.size ∧ allOne ie.zero.cells then
          (if l = 0 then (if c = 0 then some (.sl true [], H) else some (.ms ie.size H.length 0 0 0 false, H ++ [newBlk 0 []]))
          else some (.ms ie.size H.length (List.replicate l.toNat ie.zero.cells).flatten.length 0 l.toNat (decide (l = c)), H ++ [newBlk (List.replicate l.toNat ie.zero.cells).flatten.length (List.replicate l.toNat ie.zero.cells).flatten]))
        else none
      | none => none
    | _, _, _ => none
  | .store t a x => match tinf E.P t, ρ a, ρ x with
    | some i, some (.mp b ver off), some v => match getW H b ver with
      | some cs => if v.cells.length = i.size ∧ allOne v.cells ∧ off + i.size ≤ cs.length then some (undefV, setBlk H b ver (splice cs off v.cells)) else none
      | none => none
    | _, _, _ => none
  | .convert src dst x => match ρ x, tinf E.P src, tinf E.P dst with
    | some (.str s), some _, some ⟨.slice e, _, _, _⟩ => match tinf E.P e with
      | some ⟨.int .u8, 1, _, _⟩ => some (.ms 1 H.length s.length 0 s.length false, H ++ [newBlk s.length (s.map fun c => .int .u8 c.toNat)])
      | _ => none
    | _, _, _ => none
  | .call c => match c.callee, mapO ρ c.args.toList with
    | .builtin .append, some [s, x] => match c.argTypes[0]? with
      | some t => match c.argTypes[1]? with
        | some u => match tinf E.P u with
          | some ⟨.int _, _, _, _⟩ => none
          | some _ => if E.tbs t then appendB E.P H t s x else appendV E.P H t s x
          | none => none
        | none => none
      | none => none
    | .builtin .unsafeString, some [q, n] => match c.argTypes.toList with
      | [pt, _] => unsafeStr E.P H pt q n
      | _ => none
    | _, _ => none
  | _ => none

/-- The same, what is made being immutable at once. -/
def nop (E : Env) (ρ : Operand → Option V) : Op → Option V
  | .alloc e => match tinf E.P e with
    | some i => if allOne i.zero.cells then some (.rp i.zero.cells) else none
    | none => none
  | .box _ x => match ρ x with
    | some v => if allOne v.cells then some (.rp v.cells) else none
    | none => none
  | .buildSlice t len parts => match tinf E.P t, partsO ρ parts.toList with
    | some ⟨.slice e, _, _, _⟩, some l => match tinf E.P e with
      | some ie =>
        if len * ie.size = 0 ∨ len * ie.size > 16777216 then (if len = 0 ∧ l.isEmpty = true then some (.sl true []) else none)
        else if ie.zero.cells.length ≠ ie.size then none
        else match fillV (fun i => some (i * ie.size, ie.size)) (List.replicate len ie.zero.cells).flatten l with
          | some cs => if allOne cs ∧ cs.length = len * ie.size then some (.sl true (chunk ie.size len cs)) else none
          | none => none
      | none => none
    | _, _ => none
  | .makeSlice t len cap => match tinf E.P t, ρ len, ρ cap with
    | some ⟨.slice e, _, _, _⟩, some (.int _ l), some (.int _ c) => match tinf E.P e with
      | some ie =>
        if 0 ≤ l ∧ l ≤ c ∧ (ie.bytes : Int) * c ≤ room ∧ c ≤ 4611686018427387904 ∧ 0 < ie.size ∧ ie.zero.cells.length = ie.size ∧ allOne ie.zero.cells then
          some (.sl (decide (l = c)) (List.replicate l.toNat ie.zero.cells))
        else none
      | none => none
    | _, _, _ => none
  | .convert src dst x => match ρ x, tinf E.P src, tinf E.P dst with
    | some (.str s), some _, some ⟨.slice e, _, _, _⟩ => match tinf E.P e with
      | some ⟨.int .u8, 1, _, _⟩ => some (.sl false (s.map fun c => [.int .u8 c.toNat]))
      | _ => none
    | _, _, _ => none
  | _ => none

/-- Is the operation one of 'eop'? -/
def isE (P : Program) : Op → Bool
  | .alloc _ | .box .. | .buildSlice .. | .makeSlice .. | .store .. => true
  | .convert src dst _ => match tinf P src, tinf P dst with
    | some ⟨.string, _, _, _⟩, some ⟨.slice _, _, _, _⟩ => true
    | _, _ => false
  | .call c => match c.callee with
    | .builtin .append | .builtin .unsafeString => true
    | _ => false
  | _ => false

def frzList (f : Heap → V → Option (V × Heap)) (H : Heap) : List V → Option (List V × Heap)
  | [] => some ([], H)
  | v :: r => match f H v with
    | some (v', H') => match frzList f H' r with
      | some (r', H'') => some (v' :: r', H'')
      | none => none
    | none => none

def frzLL (f : Heap → V → Option (V × Heap)) (H : Heap) : List (List V) → Option (List (List V) × Heap)
  | [] => some ([], H)
  | v :: r => match frzList f H v with
    | some (v', H') => match frzLL f H' r with
      | some (r', H'') => some (v' :: r', H'')
      | none => none
    | none => none

/-- The value, its memory immutable from now on. -/
def frzV : Nat → Heap → V → Option (V × Heap)
  | 0, _, _ => none
  | d + 1, H, v =>
    if v.pure then some (v, H) else
    match v with
    | .ms sz b ver off len full => match getW H b ver with
      | some cs => if off + len * sz ≤ cs.length ∧ 0 < sz then (match frzLL (frzV d) (H.set b none) (chunk sz len (cs.drop off)) with
        | some (els, H') => some (.sl full els, H')
        | none => none) else none
      | none => none
    | .mp b ver off => match getW H b ver with
      | some cs => match frzList (frzV d) (H.set b none) (cs.drop off) with
        | some (cs', H') => some (.rp cs', H')
        | none => none
      | none => none
    | .sl full els => match frzLL (frzV d) H els with
      | some (els', H') => some (.sl full els', H')
      | none => none
    | .rp cs => match frzList (frzV d) H cs with
      | some (cs', H') => some (.rp cs', H')
      | none => none
    | .agg cs => match frzList (frzV d) H cs with
      | some (cs', H') => some (.agg cs', H')
      | none => none
    | .tup cs => match frzList (frzV d) H cs with
      | some (cs', H') => some (.tup cs', H')
      | none => none
    | .fn f a c => match frzList (frzV d) H a with
      | some (a', H') => match frzList (frzV d) H' c with
        | some (c', H'') => some (.fn f a' c', H'')
        | none => none
      | none => none
    | .ifc t v => match frzV d H v with
      | some (v', H') => some (.ifc t v', H')
      | none => none
    | _ => none

/-- The value as it reads now. -/
def snapV : Nat → Heap → V → Option V
  | 0, _, _ => none
  | d + 1, H, v =>
    if v.pure then some v else
    match v with
    | .ms sz b ver off len full => match getBlk H b ver with
      | some cs => if off + len * sz ≤ cs.length ∧ 0 < sz then (mapO (mapO (snapV d H)) (chunk sz len (cs.drop off))).map (.sl full) else none
      | none => none
    | .mp b ver off => match getBlk H b ver with
      | some cs => (mapO (snapV d H) (cs.drop off)).map .rp
      | none => none
    | .sl full els => (mapO (mapO (snapV d H)) els).map (.sl full)
    | .rp cs => (mapO (snapV d H) cs).map .rp
    | .agg cs => (mapO (snapV d H) cs).map .agg
    | .tup cs => (mapO (snapV d H) cs).map .tup
    | .fn f a c => match mapO (snapV d H) a, mapO (snapV d H) c with
      | some a', some c' => some (.fn f a' c')
      | _, _ => none
    | .ifc t v => (snapV d H v).map (.ifc t)
    | _ => none

abbrev R := Option (X × List V × Heap)
abbrev Call := FuncId → List V → Heap → Option (V × Heap)

def wantedV (ops : Array Oper) (ts : List V) (o : Oper) : Bool :=
  match o.guard with
  | none => true
  | some (j, want) => match (ops[j]?).bind (·.dst) with
    | some d => match ts[d]? with
      | some (.bool b) => b == want
      | _ => false
    | none => false

def putV (ts : List V) (d : Option Tmp) (v : V) : List V :=
  match d with
  | some d => ts.set d v
  | none => ts

/-- The call that an operation is, if it is one. -/
def calleeV (ρ : Operand → Option V) : Op → Option (Option (FuncId × List V))
  | .call c => match c.callee with
    | .value g => match ρ g, mapO ρ c.args.toList with
      | some (.fn f first cap), some args => some (some (f, first ++ args ++ cap))
      | _, _ => none
    | _ => some none
  | _ => some none

def isCall : Op → Bool
  | .call _ => true
  | _ => false

/-- A call's result, made immutable if that is asked. -/
def fzR (E : Env) (f : FuncId) (d : Option Tmp) (op : Op) (r : Option (V × Heap)) : Option (V × Heap) :=
  if isCall op && E.fzd f d then (match r with
    | some (v, H) => frzV 12 H v
    | none => none) else r

/-- A call of a function, or its argument handed back. -/
def callI (E : Env) (call : Call) : Call := fun g args H =>
  if E.idf g then (match args with
    | [v] => some (v, H)
    | _ => none) else call g args H

/-- One operation, as it is. -/
def stepV0 (E : Env) (call : Call) (f : FuncId) (o : Oper) (ts : List V) (H : Heap) : Option (V × Heap) :=
  match calleeV (rho E ts) o.op with
  | none => none
  | some (some (g, args)) => callI E call g args H
  | some none =>
    if isE E.P o.op then eop E f o.dst H (rho E ts) o.op
    else (qop E H (rho E ts) o.op).map fun v => (v, H)

/-- One operation. -/
def stepV (E : Env) (call : Call) (f : FuncId) (o : Oper) (ts : List V) (H : Heap) : Option (V × Heap) := fzR E f o.dst o.op (stepV0 E call f o ts H)

/-- The operations of a region, in the text's order. -/
def opsV (E : Env) (call : Call) (f : FuncId) (ops : Array Oper) : List Oper → List V → Heap → Option (List V × Heap)
  | [], ts, H => some (ts, H)
  | o :: rest, ts, H =>
    if wantedV ops ts o then
      match stepV E call f o ts H with
      | some (v, H') => opsV E call f ops rest (putV ts o.dst v) H'
      | none => none
    else opsV E call f ops rest (putV ts o.dst undefV) H

/-- What an operation in a region that draws does: nothing to or with the heap ('n'); it looks at it ('l'); it makes a variable ('a'); anything ('e'). -/
inductive Kd where
  | n | l | a | e
  deriving DecidableEq

def kdOf (E : Env) (f : FuncId) (o : Oper) : Kd :=
  match o.op with
  | .move _ | .assign _ | .pick .. | .nilCheck _ | .binOp .. | .unOp .. | .makeInterface .. | .makeFunc .. | .fieldAddr .. | .field .. | .indexAddr .. | .index .. | .typeAssert .. | .extract .. | .build .. => .n
  | .box .. | .buildSlice .. | .makeSlice .. => match o.dst with
    | some d => if E.wr f d then .e else .n
    | none => .e
  | .convert src dst _ => if isE E.P (.convert src dst (.tmp 0)) then (match o.dst with
    | some d => if E.wr f d then .e else .n
    | none => .e) else .l
  | .load .. => .l
  | .slice t .. => match tinf E.P t with
    | some ⟨.string, _, _, _⟩ => .n
    | _ => .l
  | .alloc _ => .a
  | .call c => if E.fzd f o.dst then .e else match c.callee with
    | .builtin .len | .builtin .max | .builtin .min | .builtin .unsafeSliceData => .n
    | .value (.func g) => if E.idf g = false ∧ (E.mode g = .snap ∨ E.mode g = .mv) then .l else .e
    | _ => .e
  | _ => .e

/-- A call that makes its arguments immutable is no quiet one unless they are so. -/
def quietArgs (E : Env) (ρ : Operand → Option V) (o : Op) : Bool :=
  match calleeV ρ o with
  | some (some (g, args)) => E.mode g = .snap || V.pureL args
  | _ => true

/-- An operation of a region that draws; 'slot': where a variable that it makes lies. -/
def stepD (E : Env) (call : Call) (f : FuncId) (slot : Nat) (o : Oper) (ts : List V) (H : Heap) : Option (V × Heap) :=
  match kdOf E f o with
  | .a => match o.op with
    | .alloc e => match tinf E.P e, H[slot]? with
      | some i, some none => if allOne i.zero.cells then some (.mp slot 0 0, H.set slot (newBlk 0 i.zero.cells)) else none
      | _, _ => none
    | _ => none
  | .n => if isE E.P o.op then (nop E (rho E ts) o.op).map fun v => (v, H) else stepV E call f o ts H
  | .l => if quietArgs E (rho E ts) o.op then stepV E call f o ts H else none
  | .e => stepV E call f o ts H

/-- Two operations whose order may be either, as far as the heap goes; the first one stands first in the text. -/
def pairOk : Kd → Kd → Bool
  | .n, _ | _, .n | .l, .l | .l, .a | .a, .a => true
  | _, _ => false

/-- The temporaries that an operation looks at. -/
def readsOf (ops : Array Oper) (o : Oper) : List Tmp :=
  o.op.operands.toList.filterMap (fun | .tmp t => some t | _ => none) ++ (match o.guard with
    | some (j, _) => ((ops[j]?).bind (·.dst)).toList
    | none => [])

/-- Two operations of which neither looks at or writes what the other writes. -/
def apartV (ops : Array Oper) (a b : Oper) : Bool :=
  (match a.dst with
    | some d => !(readsOf ops b).contains d && b.dst != some d
    | none => true) &&
  (match b.dst with
    | some d => !(readsOf ops a).contains d
    | none => true)

/-- The later one waits for the earlier one. -/
def ordV (b : Array Nat) (i j : Nat) : Bool := if i < j then (b.getD j 0).testBit i else (b.getD i 0).testBit j

def drawOk (E : Env) (f : FuncId) (ops : Array Oper) : Bool :=
  (List.range ops.size).all fun j =>
    ((ops.getD j default).after.toList.all fun e => !Region.binds .any e || decide (e.on < j)) &&
    (List.range j).all fun i => ordV (Region.before ops) i j ||
      (apartV ops (ops.getD i default) (ops.getD j default) && pairOk (kdOf E f (ops.getD i default)) (kdOf E f (ops.getD j default)))

def isAlloc (o : Oper) : Bool :=
  match o.op with
  | .alloc _ => true
  | _ => false

/-- A region that draws its order, in the text's order. -/
def drawV (E : Env) (call : Call) (f : FuncId) (ops : Array Oper) : Nat → List Oper → List V → Heap → Option (List V × Heap)
  | _, [], ts, H => some (ts, H)
  | a, o :: rest, ts, H =>
    if wantedV ops ts o then
      match stepD E call f a o ts H with
      | some (v, H') => drawV E call f ops (if isAlloc o then a + 1 else a) rest (putV ts o.dst v) H'
      | none => none
    else drawV E call f ops (if isAlloc o then a + 1 else a) rest (putV ts o.dst undefV) H

def isLoad (o : Oper) : Bool :=
  match o.op with
  | .load .. => true
  | _ => false

/-- What is watched: behind (or ahead of) operation j those of the list. -/
abbrev Wt := List (Nat × List Nat)

def wOf (wt : Wt) (j : Nat) : List Nat := ((wt.lookup j).getD [])

/-- What has been done: a load of a type, address, with its value; the heap ahead of an operation. -/
inductive LogE where
  | ld (j : Nat) (t : TypeId) (av v : V)
  | hp (j : Nat) (H : Heap)

abbrev Log := List LogE

def loadAt (E : Env) (H : Heap) (t : TypeId) (av : V) : Option V :=
  match tinf E.P t, behind H av with
  | some i, some cs => loadCs i cs
  | _, _ => none

/-- Does it read so? -/
def reads (E : Env) (H : Heap) (t : TypeId) (av v : V) : Bool := match loadAt E H t av with
  | some v' => V.eqb v' v
  | none => false

/-- What an operation adds to the log. -/
def logX (E : Env) (f : FuncId) (o : Oper) (wt : Wt) (j : Nat) (ρ : Operand → Option V) (H : Heap) (v : V) : Log :=
  if wt.any (fun x => x.2.contains j) then (match o.op with
    | .load t a => match ρ a with
      | some av => [.ld j t av v]
      | none => []
    | _ => if kdOf E f o = .e then [.hp j H] else []) else []

/-- Behind an operation the loads that are watched read as they did. -/
def chkE (E : Env) (ws : List Nat) (j : Nat) (H : Heap) (L : Log) : Bool :=
  L.all fun x => match x with
    | .ld i t av v => !(ws.contains i && decide (i < j)) || reads E H t av v
    | .hp .. => true

/-- A load reads as it would have ahead of those that are watched. -/
def chkL (E : Env) (ws : List Nat) (j : Nat) (t : TypeId) (av v : V) (L : Log) : Bool :=
  L.all fun x => match x with
    | .hp i H => !(ws.contains i && decide (i < j)) || reads E H t av v
    | .ld .. => true

def chkJ (E : Env) (f : FuncId) (o : Oper) (wt : Wt) (j : Nat) (ρ : Operand → Option V) (H : Heap) (v : V) (L : Log) : Bool :=
  match o.op with
  | .load t a => match ρ a with
    | some av => chkL E (wOf wt j) j t av v L
    | none => false
  | _ => if kdOf E f o = .e then chkE E (wOf wt j) j H L else true

/-- The pair may come in either order: the heap apart, or a load that is watched, or a variable that is made. -/
def pairW (E : Env) (f : FuncId) (ops : Array Oper) (wt : Wt) (i j : Nat) : Bool :=
  pairOk (kdOf E f (ops.getD i default)) (kdOf E f (ops.getD j default)) ||
  (isLoad (ops.getD i default) && kdOf E f (ops.getD j default) == .e && (wOf wt j).contains i) ||
  (kdOf E f (ops.getD i default) == .e && isLoad (ops.getD j default) && (wOf wt j).contains i) ||
  (kdOf E f (ops.getD i default) == .e && kdOf E f (ops.getD j default) == .a)

def drawOkW (E : Env) (f : FuncId) (ops : Array Oper) (wt : Wt) : Bool :=
  (List.range ops.size).all fun j =>
    ((ops.getD j default).after.toList.all fun e => !Region.binds .any e || decide (e.on < j)) &&
    (List.range j).all fun i => ordV (Region.before ops) i j ||
      (apartV ops (ops.getD i default) (ops.getD j default) && pairW E f ops wt i j)

/-- The same, with loads that are watched. -/
def drawW (E : Env) (call : Call) (f : FuncId) (ops : Array Oper) (wt : Wt) : Nat → Nat → List Oper → List V → Heap → Log → Option (List V × Heap)
  | _, _, [], ts, H, _ => some (ts, H)
  | j, a, o :: rest, ts, H, L =>
    if wantedV ops ts o then
      match stepD E call f a o ts H with
      | some (v, H') => if chkJ E f o wt j (rho E ts) H' v L then drawW E call f ops wt (j + 1) (if isAlloc o then a + 1 else a) rest (putV ts o.dst v) H' (logX E f o wt j (rho E ts) H v ++ L) else none
      | none => none
    else drawW E call f ops wt (j + 1) (if isAlloc o then a + 1 else a) rest (putV ts o.dst undefV) H L

def allocs (ops : List Oper) : Nat := (ops.filter isAlloc).length

def frzTmps : List Tmp → List V → Heap → Option (List V × Heap)
  | [], ts, H => some (ts, H)
  | t :: r, ts, H => match frzV 12 H (ts.getD t undefV) with
    | some (v, H') => frzTmps r (ts.set t v) H'
    | none => none

def regionV (E : Env) (call : Call) (f : FuncId) (id : Nat) (ops : Array Oper) (draw : Bool) (ts : List V) (H : Heap) : R :=
  match frzTmps (E.frz f id) ts H with
  | some (ts, H) =>
    if draw then (if (E.wat f id).isEmpty = false then
      (if drawOkW E f ops (E.wat f id) then match drawW E call f ops (E.wat f id) 0 H.length ops.toList ts (H ++ List.replicate (allocs ops.toList) none) [] with
        | some (ts', H') => some (.nrm, ts', H')
        | none => none
      else none) else
      (if drawOk E f ops then match drawV E call f ops H.length ops.toList ts (H ++ List.replicate (allocs ops.toList) none) with
        | some (ts', H') => some (.nrm, ts', H')
        | none => none
      else none))
    else match opsV E call f ops ops.toList ts H with
      | some (ts', H') => some (.nrm, ts', H')
      | none => none
  | none => none

def resultV (E : Env) (ts : List V) (H : Heap) : ResultVar → Option V
  | .tmp t => some (ts.getD t undefV)
  | .cell a t => match tinf E.P t, behind H (ts.getD a undefV) with
    | some i, some cs => loadCs i cs
    | _, _ => none

def resultsV (E : Env) (fn : Func) (ts : List V) (H : Heap) : Option V :=
  match fn.results.toList with
  | [r] => resultV E ts H r
  | l => (mapO (resultV E ts H) l).map .tup

def runFn (E : Env) (ex : FuncId → Code → List V → Heap → R) (f : FuncId) (args : List V) (H : Heap) : Option (V × Heap) :=
  match E.P.funcs[f]? with
  | some fn => match fn.body with
    | some c => match ex f c (args ++ List.replicate (fn.ntmps - args.length) undefV) H with
      | some (.nrm, ts, H') | some (.ret, ts, H') => match resultsV E fn ts H' with
        | some v => some (v, H')
        | none => none
      | _ => none
    | none => none
  | none => none

def callFn (E : Env) (ex : FuncId → Code → List V → Heap → R) : Call := fun f args H =>
  match E.ext f with
  | some g => if V.pureL args then (g args).map fun v => (v, H) else none
  | none => match E.mode f with
    | .inl => runFn E ex f args H
    | .ro => match runFn E ex f args (roH H) with
      | some (v, _) => if v.scalar then some (v, H) else none
      | none => none
    | .mv => match frzList (frzV 12) H args with
      | some (args', H1) => if V.pureL args' then match runFn E ex f args' [] with
          | some (v, H') => match frzV 12 H' v with
            | some (v', _) => if v'.pure then some (v', H1) else none
            | none => none
          | none => none
        else none
      | none => none
    | .snap =>
      if V.pureL args then match runFn E ex f args [] with
        | some (v, H') => match frzV 12 H' v with
          | some (v', _) => if v'.pure then some (v', H) else none
          | none => none
        | none => none
      else match mapO (snapV 12 H) args with
        | some args' => match runFn E ex f args' [] with
          | some (v, _) => if v.scalar then some (v, H) else none
          | none => none
        | none => none

def aexec (E : Env) : Nat → FuncId → Code → List V → Heap → R
  | 0, _, _, _, _ => none
  | n + 1, f, c, ts, H => match c with
    | .skip => some (.nrm, ts, H)
    | .region id ops draw => regionV E (callFn E (aexec E n)) f id ops draw ts H
    | .seq a b => match aexec E n f a ts H with
      | some (.nrm, ts', H') => aexec E n f b ts' H'
      | r => r
    | .cond c a b => match rho E ts c with
      | some (.bool true) => aexec E n f a ts H
      | some (.bool false) => aexec E n f b ts H
      | _ => none
    | .block id c => match aexec E n f c ts H with
      | some (.exit j, ts', H') => if j = id then some (.nrm, ts', H') else some (.exit j, ts', H')
      | r => r
    | .loop c => match aexec E n f c ts H with
      | some (.nrm, ts', H') => aexec E n f (.loop c) ts' H'
      | r => r
    | .exit id => some (.exit id, ts, H)
    | .ret => some (.ret, ts, H)
    | _ => none

def acall (E : Env) (n : Nat) : Call := callFn E (aexec E n)

end Go.Ae

namespace Go.Ae

/-- 'v' stands for the machine's value, in world w: what is immutable lies in blocks of 'F'; block b of the heap, in version n, is block (μ b n).1 from cell (μ b n).2 on. -/
inductive VR (w : World) (F : Nat → Prop) (μ : Nat → Nat → Option (Nat × Nat)) : V → Value → Prop
  | int (k : IntKind) (n : Int) : VR w F μ (.int k n) (.int k n)
  | bool (b : Bool) : VR w F μ (.bool b) (.bool b)
  | str (s : List UInt8) : VR w F μ (.str s) (.string ⟨s.toArray⟩)
  | nil : VR w F μ .nil (.slice none 0 0)
  | slE (full : Bool) (a : Addr) (cap : Nat) (hfull : full = true → cap = 0) : VR w F μ (.sl full []) (.slice (some a) 0 cap)
  | sl (full : Bool) (els : List (List V)) (b off cap sz : Nat) (vs : Nat → Nat → Value)
      (hsz : ∀ (i : Nat) (e : List V), els[i]? = some e → e.length = sz) (hcap : els.length ≤ cap) (hfull : full = true → cap = els.length)
      (hc : ∀ (i : Nat) (e : List V) (j : Nat) (c : V), els[i]? = some e → e[j]? = some c → F b ∧ w.cell? ⟨b, off + (i * sz + j), none⟩ = some (vs i j))
      (hv : ∀ (i : Nat) (e : List V) (j : Nat) (c : V), els[i]? = some e → e[j]? = some c → VR w F μ c (vs i j)) :
      VR w F μ (.sl full els) (.slice (some ⟨b, off, none⟩) els.length cap)
  | ms (sz b ver off len : Nat) (full : Bool) (cb sh cap n : Nat) (e : TypeId) (hm : μ b ver = some (cb, sh)) (hs : w.shape? cb = some (e, n))
      (hr : sh + off + cap * sz ≤ n) (hcap : len ≤ cap) (hfull : full = true → cap = len) :
      VR w F μ (.ms sz b ver off len full) (.slice (some ⟨cb, sh + off, none⟩) len cap)
  | rp (cells : List V) (b off : Nat) (vs : Nat → Value)
      (hc : ∀ (j : Nat) (c : V), cells[j]? = some c → F b ∧ w.cell? ⟨b, off + j, none⟩ = some (vs j))
      (hv : ∀ (j : Nat) (c : V), cells[j]? = some c → VR w F μ c (vs j)) :
      VR w F μ (.rp cells) (.pointer (some ⟨b, off, none⟩))
  | mp (b ver off cb sh : Nat) (hm : μ b ver = some (cb, sh)) : VR w F μ (.mp b ver off) (.pointer (some ⟨cb, sh + off, none⟩))
  | tp (t m b ver cb n : Nat) (hm : μ b ver = some (cb, 0)) (hs : w.shape? cb = some (t, n)) (hn : m ≤ n) : VR w F μ (.tp t m b ver) (.pointer (some ⟨cb, 0, none⟩))
  | mt (t b ver len cb cap n : Nat) (hm : μ b ver = some (cb, 0)) (hs : w.shape? cb = some (t, n)) (hr : cap ≤ n) (hcap : len ≤ cap) : VR w F μ (.mt t b ver len) (.slice (some ⟨cb, 0, none⟩) len cap)
  | im (ks : List Int) (vs : List V) (r : Nat) (es : Array MapEntry) (c : Nat) (cvs : Nat → Value) (hF : F r) (hh : w.heap[r]? = some (.map es c))
      (hf : ∀ n i, idxI ks n = some i → ∃ j, Instr.findNow (.int .i64) (.int .i64 n) es.toList 0 = some (some (j, cvs i)))
      (hn : ∀ n, idxI ks n = none → Instr.findNow (.int .i64) (.int .i64 n) es.toList 0 = some none)
      (hv : ∀ (i : Nat) (v : V), vs[i]? = some v → VR w F μ v (cvs i)) : VR w F μ (.im ks vs) (.map (some r))
  | imn : VR w F μ (.im [] []) (.map none)
  | np : VR w F μ .np (.pointer none)
  | fn (f : FuncId) (a c : List V) (av cv : Array Value) (ha : av.size = a.length) (hc : cv.size = c.length)
      (hav : ∀ (i : Nat) (x : V), a[i]? = some x → VR w F μ x (av.getD i undef)) (hcv : ∀ (i : Nat) (x : V), c[i]? = some x → VR w F μ x (cv.getD i undef)) :
      VR w F μ (.fn f a c) (.func (.func f) av cv)
  | nf : VR w F μ .nf .nilFunc
  | ifc (t : TypeId) (v : V) (cv : Value) (h : VR w F μ v cv) : VR w F μ (.ifc t v) (.iface t cv)
  | ni : VR w F μ .ni .nilIface
  | agg (cs : List V) (cv : Array Value) (hz : cv.size = cs.length) (h : ∀ (i : Nat) (x : V), cs[i]? = some x → VR w F μ x (cv.getD i undef)) :
      VR w F μ (.agg cs) (.agg cv)
  | tup (cs : List V) (cv : Array Value) (hz : cv.size = cs.length) (h : ∀ (i : Nat) (x : V), cs[i]? = some x → VR w F μ x (cv.getD i undef)) :
      VR w F μ (.tup cs) (.tuple cv)

theorem VR.mono {w w' : World} {F F' : Nat → Prop} {μ μ' : Nat → Nat → Option (Nat × Nat)} {v : V} {cv : Value} (h : VR w F μ v cv)
    (hF : ∀ b, F b → F' b ∧ w'.heap[b]? = w.heap[b]?) (hμ : ∀ b n r, μ b n = some r → μ' b n = some r)
    (hs : ∀ cb e n, w.shape? cb = some (e, n) → w'.shape? cb = some (e, n)) : VR w' F' μ' v cv := by
  have cell : ∀ b o, F b → w'.cell? ⟨b, o, none⟩ = w.cell? ⟨b, o, none⟩ := fun b o hb => by
    unfold World.cell?; rw [(hF b hb).2]
  induction h with
  | int k n => exact .int k n
  | bool b => exact .bool b
  | str s => exact .str s
  | nil => exact .nil
  | slE full a cap hfull => exact .slE full a cap hfull
  | sl full els b off cap sz vs hsz hcap hfull hc _ ih =>
    refine .sl full els b off cap sz vs hsz hcap hfull (fun i e j c h1 h2 => ?_) ih
    obtain ⟨h3, h4⟩ := hc i e j c h1 h2
    exact ⟨(hF b h3).1, by rw [cell b _ h3]; exact h4⟩
  | ms sz b ver off len full cb sh cap n e hm hs' hr hcap hfull => exact .ms sz b ver off len full cb sh cap n e (hμ _ _ _ hm) (hs _ _ _ hs') hr hcap hfull
  | rp cells b off vs hc _ ih =>
    refine .rp cells b off vs (fun j c h1 => ?_) ih
    obtain ⟨h3, h4⟩ := hc j c h1
    exact ⟨(hF b h3).1, by rw [cell b _ h3]; exact h4⟩
  | mp b ver off cb sh hm => exact .mp b ver off cb sh (hμ _ _ _ hm)
  | tp t m b ver cb n hm hs' hn => exact .tp t m b ver cb n (hμ _ _ _ hm) (hs _ _ _ hs') hn
  | mt t b ver len cb cap n hm hs' hr hcap => exact .mt t b ver len cb cap n (hμ _ _ _ hm) (hs _ _ _ hs') hr hcap
  | im ks vs r es c cvs hb hh hf hn _ ih => exact .im ks vs r es c cvs (hF r hb).1 (by rw [(hF r hb).2]; exact hh) hf hn ih
  | imn => exact .imn
  | np => exact .np
  | fn f a c av cv ha hc _ _ iha ihc => exact .fn f a c av cv ha hc iha ihc
  | nf => exact .nf
  | ifc t v cv _ ih => exact .ifc t v cv ih
  | ni => exact .ni
  | agg cs cv hz _ ih => exact .agg cs cv hz ih
  | tup cs cv hz _ ih => exact .tup cs cv hz ih

/-- Lists of values. -/
def VRs (w : World) (F : Nat → Prop) (μ : Nat → Nat → Option (Nat × Nat)) (vs : List V) (cvs : List Value) : Prop :=
  cvs.length = vs.length ∧ ∀ (i : Nat) (x : V), vs[i]? = some x → ∃ y, cvs[i]? = some y ∧ VR w F μ x y

theorem VRs.nil {w F μ} : VRs w F μ [] [] := ⟨rfl, fun i x h => by simp at h⟩

theorem VRs.cons {w F μ} {v : V} {cv : Value} {vs : List V} {cvs : List Value} (h : VR w F μ v cv) (hs : VRs w F μ vs cvs) : VRs w F μ (v :: vs) (cv :: cvs) := by
  refine ⟨by simp [hs.1], fun i x hx => ?_⟩
  cases i with
  | zero => simp at hx; subst hx; exact ⟨cv, rfl, h⟩
  | succ i => simp at hx; simpa using hs.2 i x hx

theorem VRs.head {w F μ} {v : V} {vs : List V} {cvs : List Value} (h : VRs w F μ (v :: vs) cvs) : ∃ cv r, cvs = cv :: r ∧ VR w F μ v cv ∧ VRs w F μ vs r := by
  obtain ⟨h1, h2⟩ := h
  cases cvs with
  | nil => simp at h1
  | cons c r =>
    refine ⟨c, r, rfl, ?_, ?_, ?_⟩
    · obtain ⟨y, hy, h⟩ := h2 0 v rfl
      simp at hy; subst hy; exact h
    · simpa using h1
    · intro i x hx
      obtain ⟨y, hy, h⟩ := h2 (i + 1) x (by simpa using hx)
      exact ⟨y, by simpa using hy, h⟩

theorem VRs.none {w F μ} {cvs : List Value} (h : VRs w F μ [] cvs) : cvs = [] := List.eq_nil_of_length_eq_zero (by simpa using h.1)

theorem VRs.append {w F μ} {a b : List V} {ca cb : List Value} (ha : VRs w F μ a ca) (hb : VRs w F μ b cb) : VRs w F μ (a ++ b) (ca ++ cb) := by
  induction a generalizing ca with
  | nil => rw [ha.none]; simpa using hb
  | cons v r ih =>
    obtain ⟨cv, cr, rfl, h1, h2⟩ := ha.head
    exact .cons h1 (ih h2)

theorem VRs.mono {w w' : World} {F F' : Nat → Prop} {μ μ'} {vs : List V} {cvs : List Value} (h : VRs w F μ vs cvs)
    (hm : ∀ v cv, VR w F μ v cv → VR w' F' μ' v cv) : VRs w' F' μ' vs cvs :=
  ⟨h.1, fun i x hx => let ⟨y, hy, h⟩ := h.2 i x hx; ⟨y, hy, hm _ _ h⟩⟩

/-- Arrays of the machine's values. -/
def VRa (w : World) (F : Nat → Prop) (μ : Nat → Nat → Option (Nat × Nat)) (vs : List V) (cvs : Array Value) : Prop :=
  cvs.size = vs.length ∧ ∀ (i : Nat) (x : V), vs[i]? = some x → VR w F μ x (cvs.getD i undef)

theorem VRa.list {w F μ} {vs : List V} {cvs : Array Value} (h : VRa w F μ vs cvs) : VRs w F μ vs cvs.toList := by
  refine ⟨by simpa using h.1, fun i x hx => ?_⟩
  have hi : i < cvs.size := by rw [h.1]; exact (List.getElem?_eq_some_iff.1 hx).1
  refine ⟨cvs[i], by simp [hi], ?_⟩
  have := h.2 i x hx
  simpa [Array.getD, hi] using this

theorem VRs.arr {w F μ} {vs : List V} {cvs : List Value} (h : VRs w F μ vs cvs) : VRa w F μ vs cvs.toArray := by
  refine ⟨by simpa using h.1, fun i x hx => ?_⟩
  obtain ⟨y, hy, hr⟩ := h.2 i x hx
  have hi : i < cvs.length := (List.getElem?_eq_some_iff.1 hy).1
  have he : cvs[i] = y := by simpa [hi] using hy
  simpa [Array.getD, hi, he] using hr

theorem VR.agg_iff {w F μ} {cs : List V} {cv : Value} : VR w F μ (.agg cs) cv ↔ ∃ arr, cv = .agg arr ∧ VRa w F μ cs arr := by
  constructor
  · intro h; cases h with | agg _ arr hz h => exact ⟨arr, rfl, hz, h⟩
  · rintro ⟨arr, rfl, hz, h⟩; exact .agg cs arr hz h

theorem VR.tup_iff {w F μ} {cs : List V} {cv : Value} : VR w F μ (.tup cs) cv ↔ ∃ arr, cv = .tuple arr ∧ VRa w F μ cs arr := by
  constructor
  · intro h; cases h with | tup _ arr hz h => exact ⟨arr, rfl, hz, h⟩
  · rintro ⟨arr, rfl, hz, h⟩; exact .tup cs arr hz h

theorem VRa.nil {w F μ} : VRa w F μ [] #[] := ⟨rfl, fun i x h => by simp at h⟩

theorem VR.undef {w F μ} : VR w F μ undefV Go.undef := .tup [] #[] rfl (fun i x h => by simp at h)

theorem VR.oneCell {w F μ} {v : V} {cv : Value} (h : VR w F μ v cv) (h1 : v.one = true) : cv.oneCell' = true := by
  cases h <;> first | rfl | simp [V.one] at h1

/-- The cells of a value. -/
theorem VR.cells {w F μ} {v : V} {cv : Value} (h : VR w F μ v cv) : VRs w F μ v.cells cv.cells.toList := by
  cases h with
  | agg cs arr hz h => exact VRa.list ⟨hz, h⟩
  | _ => exact .cons (by constructor <;> assumption) .nil

structure WR (E : Env) (w : World) (F : Nat → Prop) (μ : Nat → Nat → Option (Nat × Nat)) (H : Heap) : Prop where
  dom : ∀ b n r, μ b n = some r → b < H.length
  fz : ∀ b, F b → b < w.heap.size
  live : ∀ (b ver : Nat) (ro : Bool) (cs : List V), H[b]? = some (some (ver, ro, cs)) → ∃ cb sh arr e fr, μ b ver = some (cb, sh) ∧ w.heap[cb]? = some (.cells arr e fr) ∧ ¬ F cb ∧
    (∀ j, j < arr.size → ¬ (fr.1 ≤ j ∧ j < fr.2)) ∧ sh + cs.length ≤ arr.size ∧ ∀ (j : Nat) (c : V), cs[j]? = some c → VR w F μ c (arr.getD (sh + j) undef) ∧ c.one = true
  inj : ∀ (b ver : Nat) (ro : Bool) (cs : List V) (b' ver' : Nat) (ro' : Bool) (cs' : List V) (cb sh sh' : Nat), H[b]? = some (some (ver, ro, cs)) → H[b']? = some (some (ver', ro', cs')) → μ b ver = some (cb, sh) → μ b' ver' = some (cb, sh') → b = b'
  glob : ∀ g cells, E.glob g = some cells → VR w F (fun _ _ => none) (.rp cells) (.pointer (some ⟨g, 0, none⟩))
  top : ∀ (b ver : Nat) (ro : Bool) (cs : List V), H[b]? = some (some (ver, ro, cs)) → ∀ v, ver < v → μ b v = none

/-- Block 'cb' of the machine is one that the evaluator may write. -/
def Own (H : Heap) (μ : Nat → Nat → Option (Nat × Nat)) (cb : Nat) : Prop :=
  ∃ b ver cs sh, H[b]? = some (some (ver, false, cs)) ∧ μ b ver = some (cb, sh)

structure KeepB (w : World) (F : Nat → Prop) (μ : Nat → Nat → Option (Nat × Nat)) (H : Heap) (w' : World) (F' : Nat → Prop) (μ' : Nat → Nat → Option (Nat × Nat)) (H' : Heap) : Prop where
  os : w'.os = w.os
  tape : w'.tape = w.tape
  output : w'.output = w.output
  size : w.heap.size ≤ w'.heap.size
  fz : ∀ b, F b → F' b
  map : ∀ b n r, μ b n = some r → μ' b n = some r
  blk : ∀ cb, cb < w.heap.size → ¬ Own H μ cb → w'.heap[cb]? = w.heap[cb]?
  shape : ∀ cb e n, w.shape? cb = some (e, n) → w'.shape? cb = some (e, n)
  len : H.length ≤ H'.length
  own : ∀ cb, cb < w.heap.size → Own H' μ' cb → Own H μ cb
  frz : ∀ cb, cb < w.heap.size → F' cb → F cb ∨ Own H μ cb

/-- Dead blocks stay so. -/
def Dead (μ : Nat → Nat → Option (Nat × Nat)) (H : Heap) (μ' : Nat → Nat → Option (Nat × Nat)) (H' : Heap) : Prop := ∀ b, H[b]? = some none → H'[b]? = some none ∧ ∀ v, μ' b v = μ b v

structure Keep (w : World) (F : Nat → Prop) (μ : Nat → Nat → Option (Nat × Nat)) (H : Heap) (w' : World) (F' : Nat → Prop) (μ' : Nat → Nat → Option (Nat × Nat)) (H' : Heap) : Prop extends KeepB w F μ H w' F' μ' H' where
  dead : Dead μ H μ' H'

theorem WR.not_own {E w F μ H} (h : WR E w F μ H) {cb : Nat} (hF : F cb) : ¬ Own H μ cb := by
  rintro ⟨b, ver, cs, sh, h1, h2⟩
  obtain ⟨cb', sh', arr, e, fr, h3, h4, h5, _⟩ := h.live b ver false cs h1
  rw [h2] at h3
  injection h3 with h3
  injection h3 with h3 _
  subst h3
  exact h5 hF

theorem KeepB.vr {E w F μ H w' F' μ' H'} (hk : KeepB w F μ H w' F' μ' H') (hw : WR E w F μ H) {v : V} {cv : Value} (h : VR w F μ v cv) : VR w' F' μ' v cv :=
  h.mono (fun b hb => ⟨hk.fz b hb, hk.blk b (hw.fz b hb) (hw.not_own hb)⟩) hk.map hk.shape

/-- The same of values that stand under another map. -/
theorem KeepB.vrm {E w F μ H w' F' μ' H'} (hk : KeepB w F μ H w' F' μ' H') (hw : WR E w F μ H) {ν : Nat → Nat → Option (Nat × Nat)} {v : V} {cv : Value} (h : VR w F ν v cv) : VR w' F' ν v cv :=
  h.mono (fun b hb => ⟨hk.fz b hb, hk.blk b (hw.fz b hb) (hw.not_own hb)⟩) (fun _ _ _ h => h) hk.shape

theorem Keep.vr {E w F μ H w' F' μ' H'} (hk : Keep w F μ H w' F' μ' H') (hw : WR E w F μ H) {v : V} {cv : Value} (h : VR w F μ v cv) : VR w' F' μ' v cv := hk.toKeepB.vr hw h
theorem Keep.vrm {E w F μ H w' F' μ' H'} (hk : Keep w F μ H w' F' μ' H') (hw : WR E w F μ H) {ν : Nat → Nat → Option (Nat × Nat)} {v : V} {cv : Value} (h : VR w F ν v cv) : VR w' F' ν v cv := hk.toKeepB.vrm hw h

theorem Dead.refl (μ : Nat → Nat → Option (Nat × Nat)) (H : Heap) : Dead μ H μ H := fun _ h => ⟨h, fun _ => rfl⟩

theorem KeepB.refl (w : World) (F : Nat → Prop) (μ : Nat → Nat → Option (Nat × Nat)) (H : Heap) : KeepB w F μ H w F μ H :=
  ⟨rfl, rfl, rfl, Nat.le_refl _, fun _ h => h, fun _ _ _ h => h, fun _ _ _ => rfl, fun _ _ _ h => h, Nat.le_refl _, fun _ _ h => h, fun _ _ h => .inl h⟩

theorem Keep.refl (w : World) (F : Nat → Prop) (μ : Nat → Nat → Option (Nat × Nat)) (H : Heap) : Keep w F μ H w F μ H := ⟨.refl .., Dead.refl _ _⟩

theorem KeepB.trans {w F μ H w1 F1 μ1 H1 w2 F2 μ2 H2} (a : KeepB w F μ H w1 F1 μ1 H1) (b : KeepB w1 F1 μ1 H1 w2 F2 μ2 H2) : KeepB w F μ H w2 F2 μ2 H2 where
  os := b.os.trans a.os
  tape := b.tape.trans a.tape
  output := b.output.trans a.output
  size := Nat.le_trans a.size b.size
  fz := fun x h => b.fz x (a.fz x h)
  map := fun x n r h => b.map x n r (a.map x n r h)
  blk := fun cb h1 h2 => (b.blk cb (Nat.lt_of_lt_of_le h1 a.size) (fun h => h2 (a.own cb h1 h))).trans (a.blk cb h1 h2)
  shape := fun cb e n h => b.shape cb e n (a.shape cb e n h)
  len := Nat.le_trans a.len b.len
  own := fun cb h1 h => a.own cb h1 (b.own cb (Nat.lt_of_lt_of_le h1 a.size) h)
  frz := fun cb h1 h => (b.frz cb (Nat.lt_of_lt_of_le h1 a.size) h).elim (a.frz cb h1) fun h => .inr (a.own cb h1 h)

theorem Keep.trans {w F μ H w1 F1 μ1 H1 w2 F2 μ2 H2} (a : Keep w F μ H w1 F1 μ1 H1) (b : Keep w1 F1 μ1 H1 w2 F2 μ2 H2) : Keep w F μ H w2 F2 μ2 H2 :=
  ⟨a.toKeepB.trans b.toKeepB, fun x h => let ⟨h1, h2⟩ := a.dead x h; let ⟨h3, h4⟩ := b.dead x h1; ⟨h3, fun v => (h4 v).trans (h2 v)⟩⟩

theorem dead_lt {H : Heap} {b : Nat} (h : H[b]? = some none) : b < H.length := (List.getElem?_eq_some_iff.1 h).1

end Go.Ae

namespace Go.Ae

variable {E : Env} {P : Program} {w : World} {F : Nat → Prop} {μ : Nat → Nat → Option (Nat × Nat)} {H : Heap}

theorem add_eq (b o n : Nat) : (⟨b, o, none⟩ : Addr).add n = ⟨b, o + n, none⟩ := Addr.add_lit b o n

theorem tinf_spec {t : TypeId} {i : TI} (h : tinf P t = some i) :
    ∃ info z, P.info? t = some info ∧ P.underlying t = some i.desc ∧ info.size = i.size ∧ info.bytes = i.bytes ∧ info.zero = some z ∧ ofVal z = some i.zero := by
  unfold tinf at h
  split at h
  · rename_i info d h1 h2
    split at h
    · rename_i z hz
      split at h
      · rename_i v hv
        injection h with h; subst h
        exact ⟨info, z, h1, h2, rfl, rfl, hz, hv⟩
      · cases h
    · cases h
  · cases h

theorem run_tinf_und {t : TypeId} {i : TI} (h : tinf P t = some i) : (underlying t).run P w = .ok i.desc w := by
  obtain ⟨info, z, h1, h2, _⟩ := tinf_spec h
  exact run_underlying h2 w

theorem run_tinf_size {t : TypeId} {i : TI} (h : tinf P t = some i) : (sizeOf t).run P w = .ok i.size w := by
  obtain ⟨info, z, h1, h2, h3, _⟩ := tinf_spec h
  simp [sizeOf, typeInfo, h1, h3]

theorem run_size {t : TypeId} {s : Nat} (h : sizeT P t = some s) : (sizeOf t).run P w = .ok s w := by
  unfold sizeT at h
  cases hi : tinf P t with
  | none => simp [hi] at h
  | some i => simp [hi] at h; subst h; exact run_tinf_size hi

theorem run_tinf_agg {t : TypeId} {i : TI} (h : tinf P t = some i) : (isAgg t).run P w = .ok i.agg w := by
  simp only [isAgg, Sem.run_bind, run_tinf_und h, Result.andThen_ok]
  unfold TI.agg
  cases i.desc <;> rfl

theorem VR_ofVal1 {v : Value} {u : V} (h : ofVal1 v = some u) : VR w F μ u v := by
  unfold ofVal1 at h
  split at h <;> first | (injection h with h; subst h; constructor; done) | (cases h; done)

theorem VRs_ofVals {vs : List Value} {us : List V} (h : ofVals vs = some us) : VRs w F μ us vs := by
  induction vs generalizing us with
  | nil => simp [ofVals] at h; subst h; exact .nil
  | cons v r ih =>
    simp only [ofVals] at h
    split at h
    · rename_i x xs h1 h2
      injection h with h; subst h
      exact .cons (VR_ofVal1 h1) (ih h2)
    · cases h

theorem VRa_of_list {vs : List V} {cvs : Array Value} (h : VRs w F μ vs cvs.toList) : VRa w F μ vs cvs := by
  have := h.arr
  simpa using this

theorem VR_ofVal {v : Value} {u : V} (h : ofVal v = some u) : VR w F μ u v := by
  unfold ofVal at h
  split at h
  · rename_i cs
    cases h1 : ofVals cs.toList with
    | none => simp [h1] at h
    | some us => simp [h1] at h; subst h; exact VR.agg_iff.2 ⟨_, rfl, VRa_of_list (VRs_ofVals h1)⟩
  · rename_i cs
    cases h1 : ofVals cs.toList with
    | none => simp [h1] at h
    | some us => simp [h1] at h; subst h; exact VR.tup_iff.2 ⟨_, rfl, VRa_of_list (VRs_ofVals h1)⟩
  · exact VR_ofVal1 h

theorem run_zero {t : TypeId} {i : TI} (h : tinf P t = some i) : ∃ z, (zeroValue t).run P w = .ok z w ∧ VR w F μ i.zero z := by
  obtain ⟨info, z, h1, h2, h3, h4, h5, h6⟩ := tinf_spec h
  exact ⟨z, by simp [zeroValue, typeInfo, h1, h5], VR_ofVal h6⟩

theorem VRa.get {cs : List V} {arr : Array Value} (h : VRa w F μ cs arr) {i : Nat} {c : V} (hc : cs[i]? = some c) : ∃ cv, arr[i]? = some cv ∧ VR w F μ c cv := by
  have hi : i < arr.size := by rw [h.1]; exact (List.getElem?_eq_some_iff.1 hc).1
  have := h.2 i c hc
  exact ⟨arr[i], by simp [hi], by simpa [Array.getD, hi] using this⟩

theorem VRs.take {vs : List V} {cvs : List Value} (h : VRs w F μ vs cvs) (n : Nat) : VRs w F μ (vs.take n) (cvs.take n) := by
  refine ⟨by simp [h.1], fun i x hx => ?_⟩
  rw [List.getElem?_take] at hx
  split at hx
  · rename_i hi
    obtain ⟨y, hy, hr⟩ := h.2 i x hx
    exact ⟨y, by rw [List.getElem?_take, if_pos hi]; exact hy, hr⟩
  · cases hx

theorem VRs.drop {vs : List V} {cvs : List Value} (h : VRs w F μ vs cvs) (n : Nat) : VRs w F μ (vs.drop n) (cvs.drop n) := by
  refine ⟨by simp [h.1], fun i x hx => ?_⟩
  rw [List.getElem?_drop] at hx
  obtain ⟨y, hy, hr⟩ := h.2 _ x hx
  exact ⟨y, by rw [List.getElem?_drop]; exact hy, hr⟩

theorem VRa.extract {cs : List V} {arr : Array Value} (h : VRa w F μ cs arr) (off n : Nat) : VRa w F μ ((cs.drop off).take n) (arr.extract off (off + n)) := by
  have h1 := VRa_of_list (cvs := arr.extract off (off + n)) (vs := (cs.drop off).take n) (w := w) (F := F) (μ := μ) (by
    have := (h.list.drop off).take n
    have e : (arr.extract off (off + n)).toList = (arr.toList.drop off).take n := by
      simp [Array.toList_extract, List.extract]
    rw [e]; exact this)
  exact h1

theorem part_sound {t : TypeId} {cs : List V} {arr : Array Value} {off : Nat} {u : V} (h : partV P t cs off = some u) (hr : VRa w F μ cs arr) :
    ∃ cv, (part t arr off).run P w = .ok cv w ∧ VR w F μ u cv := by
  unfold partV at h
  split at h
  · rename_i i hi
    simp only [part, Sem.run_bind, run_tinf_agg hi, Result.andThen_ok]
    split at h
    · rename_i ha
      split at h
      · injection h with h; subst h
        simp only [ha, if_true, Sem.run_bind, run_tinf_size hi, Result.andThen_ok, Sem.run_pure]
        exact ⟨_, rfl, VR.agg_iff.2 ⟨_, rfl, hr.extract off i.size⟩⟩
      · cases h
    · rename_i ha
      obtain ⟨cv, h1, h2⟩ := hr.get h
      simp only [ha, h1]
      exact ⟨cv, rfl, h2⟩
  · cases h

/-- What lies behind a pointer, cell by cell. -/
def At (w : World) (F : Nat → Prop) (μ : Nat → Nat → Option (Nat × Nat)) (cs : List V) (b off : Nat) : Prop :=
  ∀ (j : Nat) (c : V), cs[j]? = some c → ∃ cv, w.cell? ⟨b, off + j, none⟩ = some cv ∧ VR w F μ c cv

theorem live_cell (hw : WR E w F μ H) {b ver cb sh : Nat} {cs : List V} (h : getBlk H b ver = some cs) (hm : μ b ver = some (cb, sh)) : At w F μ cs cb sh := by
  unfold getBlk at h
  split at h
  · rename_i v ro cs' hb
    split at h
    · injection h with h; subst h
      rename_i hv; subst hv
      obtain ⟨cb', sh', arr, e, fr, h1, h2, _, _, h5, h6⟩ := hw.live b v ro cs' hb
      rw [hm] at h1; injection h1 with h1; injection h1 with h1 h1'; subst h1; subst h1'
      intro j c hc
      have hj : j < cs'.length := (List.getElem?_eq_some_iff.1 hc).1
      have hs : sh + j < arr.size := by omega
      refine ⟨arr[sh + j], by simp [World.cell?, h2, hs], ?_⟩
      have := (h6 j c hc).1
      simpa [Array.getD, hs] using this
    · cases h
  · cases h

theorem At.drop {cs : List V} {b off : Nat} (h : At w F μ cs b off) (n : Nat) : At w F μ (cs.drop n) b (off + n) := by
  intro j c hc
  rw [List.getElem?_drop] at hc
  obtain ⟨cv, h1, h2⟩ := h _ c hc
  exact ⟨cv, by rw [Nat.add_assoc]; exact h1, h2⟩

theorem behind_sound (hw : WR E w F μ H) {v : V} {pv : Value} {cs : List V} (h : behind H v = some cs) (hr : VR w F μ v pv) :
    ∃ b off, pv = .pointer (some ⟨b, off, none⟩) ∧ At w F μ cs b off := by
  cases hr with
  | rp cells b off vs hc hv =>
    simp only [behind, Option.some.injEq] at h; subst h
    exact ⟨b, off, rfl, fun j c h => ⟨_, (hc j c h).2, hv j c h⟩⟩
  | mp b ver off cb sh hm =>
    simp only [behind] at h
    cases hg : getBlk H b ver with
    | none => simp [hg] at h
    | some cs' =>
      simp [hg] at h; subst h
      exact ⟨cb, sh + off, rfl, (live_cell hw hg hm).drop off⟩
  | _ => cases h

theorem At.load {cs : List V} {b off : Nat} (h : At w F μ cs b off) {n : Nat} (hn : n ≤ cs.length) :
    ∃ arr, (loadCells ⟨b, off, none⟩ n).run P w = .ok arr w ∧ VRa w F μ (cs.take n) arr := by
  have hv : ∀ j, j < n → ∃ cv, w.cell? ⟨b, off + j, none⟩ = some cv ∧ VR w F μ (cs.getD j undefV) cv := fun j hj => by
    have hj' : j < cs.length := by omega
    have := h j cs[j] (by simp [hj'])
    simpa [List.getD, hj'] using this
  let f : Nat → Value := fun j => (w.cell? ⟨b, off + j, none⟩).getD undef
  have hf : ∀ j, j < n → w.cell? (Addr.add ⟨b, off, none⟩ j) = some (f j) := fun j hj => by
    obtain ⟨cv, h1, _⟩ := hv j hj
    rw [add_eq, h1]; simp [f, h1]
  refine ⟨_, run_loadCells w _ n f hf, by simp [Nat.min_eq_left hn], fun i x hx => ?_⟩
  rw [List.getElem?_take] at hx
  split at hx
  · rename_i hi
    obtain ⟨cv, h1, h2⟩ := h i x hx
    simp [Array.getD, hi, f, h1, h2]
  · cases hx

theorem loadCs_sound {i : TI} {t : TypeId} (hi : tinf P t = some i) {cs : List V} {b off : Nat} (h : At w F μ cs b off) {u : V} (hl : loadCs i cs = some u) :
    ∃ cv, (loadVar t ⟨b, off, none⟩).run P w = .ok cv w ∧ VR w F μ u cv := by
  unfold loadCs at hl
  simp only [loadVar, Sem.run_bind, run_tinf_agg hi, Result.andThen_ok]
  split at hl
  · rename_i ha
    split at hl
    · rename_i hn
      injection hl with hl; subst hl
      obtain ⟨arr, h1, h2⟩ := h.load (P := P) hn
      simp only [ha, if_true, Sem.run_bind, run_tinf_size hi, Result.andThen_ok, h1, Sem.run_pure]
      exact ⟨_, rfl, VR.agg_iff.2 ⟨arr, rfl, h2⟩⟩
    · cases hl
  · rename_i ha
    cases cs with
    | nil => simp at hl
    | cons c r =>
      simp at hl; subst hl
      obtain ⟨cv, h1, h2⟩ := h 0 c rfl
      simp only [ha]
      refine ⟨cv, ?_, h2⟩
      simp only [Nat.add_zero] at h1
      simp [h1]

end Go.Ae

namespace Go.Ae

variable {E : Env} {P : Program} {w : World} {F : Nat → Prop} {μ : Nat → Nat → Option (Nat × Nat)} {H : Heap}

theorem goOn_sound {v u : V} {pv : Value} {n : Nat} (h : goOn v n = some u) (hr : VR w F μ v pv) :
    ∃ b off, pv = .pointer (some ⟨b, off, none⟩) ∧ VR w F μ u (.pointer (some ⟨b, off + n, none⟩)) := by
  cases hr with
  | rp cells b off vs hc hv =>
    simp only [goOn, Option.some.injEq] at h; subst h
    refine ⟨b, off, rfl, .rp _ b (off + n) (fun j => vs (n + j)) (fun j c h => ?_) (fun j c h => ?_)⟩
    · rw [List.getElem?_drop] at h
      rw [Nat.add_assoc]; exact hc _ c h
    · rw [List.getElem?_drop] at h
      exact hv _ c h
  | mp b ver off cb sh hm =>
    simp only [goOn, Option.some.injEq] at h; subst h
    exact ⟨cb, sh + off, rfl, by rw [Nat.add_assoc]; exact .mp b ver (off + n) cb sh hm⟩
  | tp t m b ver cb k hm hs hn =>
    simp only [goOn, Option.some.injEq] at h; subst h
    exact ⟨cb, 0, rfl, .mp b ver n cb 0 hm⟩
  | _ => cases h

theorem fieldOf_spec {t : TypeId} {f : Nat} {fd : Field} (h : fieldOf P t f = some fd) : ∃ fs, P.underlying t = some (.struct fs) ∧ fs[f]? = some fd := by
  unfold fieldOf at h
  split at h
  · rename_i fs _ _ _ hi
    obtain ⟨info, z, h1, h2, _⟩ := tinf_spec hi
    exact ⟨fs, h2, h⟩
  · cases h

theorem fieldAddr_sound {t : TypeId} {f n : Nat} {fd : Field} {v u : V} {pv : Value} (hf : fieldOf P t f = some fd) (hs : sizeT P fd.type = some (n + 1))
    (h : goOn v fd.offset = some u) (hr : VR w F μ v pv) : ∃ cv, (Instr.fieldAt t pv f).run P w = .ok cv w ∧ VR w F μ u cv := by
  obtain ⟨fs, h1, h2⟩ := fieldOf_spec hf
  obtain ⟨b, off, rfl, h3⟩ := goOn_sound h hr
  refine ⟨_, ?_, h3⟩
  simp [Instr.fieldAt, run_underlying h1, h2, Instr.sureAddr, fieldPlace, run_size hs, add_eq]

theorem field_sound {t : TypeId} {f : Nat} {fd : Field} {cs : List V} {u : V} {cv : Value} (hf : fieldOf P t f = some fd)
    (h : partV P fd.type cs fd.offset = some u) (hr : VR w F μ (.agg cs) cv) : ∃ cv', (Instr.field t cv f).run P w = .ok cv' w ∧ VR w F μ u cv' := by
  obtain ⟨fs, h1, h2⟩ := fieldOf_spec hf
  obtain ⟨arr, rfl, h3⟩ := VR.agg_iff.1 hr
  obtain ⟨cv', h4, h5⟩ := part_sound (w := w) h h3
  exact ⟨cv', by simp [Instr.field, run_underlying h1, h2, asAgg, h4], h5⟩

theorem indexAddr_sound {t : TypeId} {x u : V} {i : Int} {xv : Value} {k : IntKind} (h : indexAddrV P t x i = some u) (hr : VR w F μ x xv) :
    ∃ cv, (Instr.indexAt t xv (.int k i)).run P w = .ok cv w ∧ VR w F μ u cv := by
  unfold indexAddrV at h
  split at h
  · rename_i e _ _ _ hi
    have hu : P.underlying t = some (.slice e) := (tinf_spec hi).choose_spec.choose_spec.2.1
    split at h
    · rename_i s hs
      cases hr with
      | slE full a cap hfull => simp at h
      | sl full els b off cap sz vs hsz hcap hfull hc hv =>
        simp only at h
        split at h
        · rename_i h0
          split at h
          · rename_i cs he
            split at h
            · rename_i hl
              injection h with h; subst h
              have hlt : i.toNat < els.length := (List.getElem?_eq_some_iff.1 he).1
              have hz : sz = s := by rw [← hl]; exact (hsz _ _ he).symm
              refine ⟨.pointer (some ⟨b, off + i.toNat * s, none⟩), ?_, ?_⟩
              · have : i < (els.length : Int) := by omega
                simp [Instr.indexAt, asIntOf, run_underlying hu, h0, this, run_size hs, add_eq]
              · refine .rp cs b _ (fun j => vs i.toNat j) (fun j c hj => ?_) (fun j c hj => hv _ _ _ _ he hj)
                have := hc _ _ _ _ he hj
                rw [hz, ← Nat.add_assoc] at this
                exact this
            · cases h
          · cases h
        · cases h
      | ms sz b ver off len full cb sh cap n e' hm hs' hr' hcap hfull =>
        simp only at h
        split at h
        · rename_i h0
          split at h
          · rename_i hz
            injection h with h; subst h; subst hz
            refine ⟨.pointer (some ⟨cb, sh + off + i.toNat * sz, none⟩), ?_, ?_⟩
            · simp [Instr.indexAt, asIntOf, run_underlying hu, h0.1, h0.2, run_size hs, add_eq]
            · rw [Nat.add_assoc]; exact .mp b ver _ cb sh hm
          · cases h
        · cases h
      | _ => cases h
    · cases h
  · rename_i n e _ _ _ hi
    have hu : P.underlying t = some (.array n e) := (tinf_spec hi).choose_spec.choose_spec.2.1
    split at h
    · rename_i s hs
      split at h
      · rename_i h0
        obtain ⟨b, off, rfl, h3⟩ := goOn_sound h hr
        refine ⟨_, ?_, h3⟩
        simp [Instr.indexAt, asIntOf, run_underlying hu, Instr.sureAddr, h0.1, h0.2, run_size hs, add_eq]
      · cases h
    · cases h
  · cases h

theorem index_sound {t : TypeId} {x u : V} {i : Int} {xv : Value} {k : IntKind} (h : indexV P t x i = some u) (hr : VR w F μ x xv) :
    ∃ cv, (Instr.index t xv (.int k i)).run P w = .ok cv w ∧ VR w F μ u cv := by
  unfold indexV at h
  split at h
  · rename_i n e _ _ _ hi
    have hu : P.underlying t = some (.array n e) := (tinf_spec hi).choose_spec.choose_spec.2.1
    split at h
    · rename_i s cs hs
      split at h
      · rename_i h0
        obtain ⟨arr, rfl, h3⟩ := VR.agg_iff.1 hr
        obtain ⟨cv', h4, h5⟩ := part_sound (w := w) h h3
        exact ⟨cv', by simp [Instr.index, asIntOf, run_underlying hu, h0.1, h0.2, run_size hs, h4], h5⟩
      · cases h
    · cases h
  · rename_i _ _ _ hi
    have hu : P.underlying t = some .string := (tinf_spec hi).choose_spec.choose_spec.2.1
    split at h
    · cases hr
      · rename_i s
        split at h
        · rename_i h0
          split at h
          · rename_i b hb
            injection h with h; subst h
            have hlt : i.toNat < s.length := (List.getElem?_eq_some_iff.1 hb).1
            have hb' : s[i.toNat] = b := by simpa [hlt] using hb
            refine ⟨.int .u8 b.toNat, ?_, .int _ _⟩
            have e : (ByteArray.mk s.toArray)[i.toNat]? = some b := by
              have hz : i.toNat < (ByteArray.mk s.toArray).size := by simpa [ByteArray.size] using hlt
              rw [getElem?_pos (ByteArray.mk s.toArray) i.toNat hz]
              simp only [Option.some.injEq]
              show s.toArray[i.toNat] = b
              simpa using hb'
            simp [Instr.index, asIntOf, run_underlying hu, h0, e]
          · cases h
        · cases h
    · cases h
  · cases h

theorem len_sound {ats : Array TypeId} {args : Array Value} {t : TypeId} {x : V} {n : Nat} {xv : Value} {ty : TypeId} (h0 : ats[0]? = some t) (h1 : args[0]? = some xv) (h : lenV P t x = some n) (hr : VR w F μ x xv) :
    (Builtin.len_ ats ty args).run P w = .ok (.int .i64 n) w := by
  unfold lenV at h
  split at h
  · rename_i _ _ _ hi
    have hu : P.underlying t = some .string := (tinf_spec hi).choose_spec.choose_spec.2.1
    split at h
    · cases hr
      injection h with h; subst h
      simp only [Builtin.len_, h0, h1, Sem.run_bind, run_underlying hu, Result.andThen_ok, Sem.run_pure, goInt]
      rfl
    · cases h
  · rename_i m e _ _ _ hi
    have hu : P.underlying t = some (.array m e) := (tinf_spec hi).choose_spec.choose_spec.2.1
    injection h with h; subst h
    simp [Builtin.len_, h0, h1, run_underlying hu, goInt]
  · rename_i e _ _ _ hi
    have hu : P.underlying t = some (.slice e) := (tinf_spec hi).choose_spec.choose_spec.2.1
    split at h <;> first
      | (cases h; done)
      | (injection h with h; subst h; cases hr <;> simp [Builtin.len_, h0, h1, run_underlying hu, goInt])
  · cases h

theorem unV_sound {op : UnOp} {x u : V} {xv : Value} (h : unV op x = some u) (hr : VR w F μ x xv) : ∃ cv, (Op.unary op xv).run P w = .ok cv w ∧ VR w F μ u cv := by
  unfold unV at h
  split at h
  · cases hr; injection h with h; subst h
    exact ⟨_, rfl, .int _ _⟩
  · cases hr; injection h with h; subst h
    exact ⟨_, rfl, .bool _⟩
  · cases hr; injection h with h; subst h
    exact ⟨_, rfl, .int _ _⟩
  · cases h

theorem intOp_sound {op : BinOp} {k : IntKind} {a b : Int} {u : V} {t : TypeId} (hop : op ≠ .shl ∧ op ≠ .shr) (h : intOp op k a b = some u) :
    ∃ cv, (binOp op t (.int k a) (.int k b)).run P w = .ok cv w ∧ VR w F μ u cv := by
  obtain ⟨h1, h2⟩ := hop
  cases op <;> simp only [intOp] at h <;> first
    | (by_cases hb : b = 0
       · rw [if_pos hb] at h; cases h
       · rw [if_neg hb] at h
         injection h with h; subst h
         refine ⟨_, ?_, .int _ _⟩
         simp [binOp, Op.intDiv, hb])
    | (injection h with h; subst h
       refine ⟨_, by unfold binOp; simp only [ne_eq, not_true_eq_false, if_false]; rfl, ?_⟩
       constructor; done)
    | (exact absurd rfl h1)
    | (exact absurd rfl h2)
    | cases h

end Go.Ae

namespace Go.Ae

variable {E : Env} {P : Program} {w : World} {F : Nat → Prop} {μ : Nat → Nat → Option (Nat × Nat)} {H : Heap}

theorem tinf_und {t : TypeId} {i : TI} (h : tinf P t = some i) : P.underlying t = some i.desc := (tinf_spec h).choose_spec.choose_spec.2.1

/-- An operand that may be missing. -/
def VRo (w : World) (F : Nat → Prop) (μ : Nat → Nat → Option (Nat × Nat)) : Option V → Option Value → Prop
  | none, none => True
  | some v, some cv => VR w F μ v cv
  | _, _ => False

theorem bound_sound {v : V} {cv : Value} {y n : Nat} {code : BoundsCode} (hr : VR w F μ v cv) (h : bnd (some v) 0 y = some n) :
    (Instr.sliceBound cv y code).run P w = .ok n w ∧ n ≤ y := by
  cases v <;> simp only [bnd] at h <;> try cases h
  rename_i k i
  cases hr
  split at h
  · rename_i hi
    injection h with h; subst h
    exact ⟨by simp [Instr.sliceBound, asIntOf, hi.1, hi.2], by omega⟩
  · cases h

theorem bnd_some {v : V} {d y : Nat} : bnd (some v) d y = bnd (some v) 0 y := by
  cases v <;> rfl

/-- The bounds of a slice expression, the length and the capacity being 'len' and 'cap'; 'full': they are one. -/
theorem cut_sound {len cap : Nat} {full isS : Bool} {lo hi mx : Option V} {clo chi cmx : Option Value} {l h : Nat} {f : Bool}
    (hc : cutV len full lo hi mx = some (l, h, f)) (h1 : VRo w F μ lo clo) (h2 : VRo w F μ hi chi) (h3 : VRo w F μ mx cmx) (hlc : len ≤ cap) (hf : full = true → cap = len) :
    ∃ m, (Instr.sliceBounds isS len cap clo chi cmx).run P w = .ok (l, h, m) w ∧ l ≤ h ∧ h ≤ len ∧ h ≤ m ∧ m ≤ cap ∧ (f = true → m = h) ∧ (mx = none → m = cap) ∧ (mx.isSome = true → m ≤ len) := by
  unfold cutV at hc
  have hmx : mx.isSome = true → hi.isSome = true := fun q => by
    cases hi with
    | none => simp [q] at hc
    | some u => rfl
  have hq : (mx.isSome && !hi.isSome) = false := by
    cases hi with
    | none => cases mx with
      | none => rfl
      | some x => simp at hmx
    | some u => simp
  rw [hq] at hc
  simp only [Bool.false_eq_true, if_false] at hc
  split at hc
  · rename_i m hm
    split at hc
    · rename_i h' hh
      split at hc
      · rename_i l' hl
        injection hc with hc; injection hc with e1 hc; injection hc with e2 e3
        subst e1; subst e2; subst e3
        unfold Instr.sliceBounds
        cases mx with
        | some v =>
          obtain ⟨cv, rfl⟩ : ∃ cv, cmx = some cv := by cases cmx <;> simp [VRo] at h3 ⊢
          simp only [VRo] at h3
          rw [bnd_some] at hm
          have hm1 := hm
          have hm' : bnd (some v) 0 cap = some m := by
            cases v <;> simp only [bnd] at hm ⊢ <;> try cases hm
            split at hm
            · rename_i hi; injection hm with hm; subst hm
              rw [if_pos ⟨hi.1, by omega⟩]
            · cases hm
          obtain ⟨r1, b1⟩ := bound_sound (P := P) (code := if isS = true then BoundsCode.slice3Acap else .slice3Alen) h3 hm'
          have b1' : m ≤ len := by
            cases v <;> simp only [bnd] at hm1 <;> try cases hm1
            split at hm1
            · injection hm1 with hm1; omega
            · cases hm1
          cases hi with
          | none => simp at hmx
          | some u =>
            obtain ⟨cu, rfl⟩ : ∃ cu, chi = some cu := by cases chi <;> simp [VRo] at h2 ⊢
            simp only [VRo] at h2
            rw [bnd_some] at hh
            obtain ⟨r2, b2⟩ := bound_sound (P := P) (code := .slice3B) h2 hh
            cases lo with
            | none =>
              obtain rfl : clo = none := by cases clo <;> simp [VRo] at h1 ⊢
              simp only [bnd, Option.some.injEq] at hl; subst hl
              exact ⟨m, by simp [r1, r2], by omega, by omega, b2, b1, by simp, by simp, fun _ => b1'⟩
            | some x =>
              obtain ⟨cx, rfl⟩ : ∃ cx, clo = some cx := by cases clo <;> simp [VRo] at h1 ⊢
              simp only [VRo] at h1
              obtain ⟨r0, b0⟩ := bound_sound (P := P) (code := .slice3C) h1 hl
              exact ⟨m, by simp [r1, r2, r0], b0, by omega, b2, b1, by simp, by simp, fun _ => b1'⟩
        | none =>
          obtain rfl : cmx = none := by cases cmx <;> simp [VRo] at h3 ⊢
          simp only [bnd, Option.some.injEq] at hm; subst hm
          cases hi with
          | none =>
            obtain rfl : chi = none := by cases chi <;> simp [VRo] at h2 ⊢
            simp only [bnd, Option.some.injEq] at hh; subst hh
            cases lo with
            | none =>
              obtain rfl : clo = none := by cases clo <;> simp [VRo] at h1 ⊢
              simp only [bnd, Option.some.injEq] at hl; subst hl
              exact ⟨cap, by simp, by omega, by omega, hlc, Nat.le_refl _, by simpa using hf, by simp, by simp⟩
            | some x =>
              obtain ⟨cx, rfl⟩ : ∃ cx, clo = some cx := by cases clo <;> simp [VRo] at h1 ⊢
              simp only [VRo] at h1
              obtain ⟨r0, b0⟩ := bound_sound (P := P) (code := .sliceB) h1 hl
              exact ⟨cap, by simp [r0], b0, by omega, hlc, Nat.le_refl _, by simpa using hf, by simp, by simp⟩
          | some u =>
            obtain ⟨cu, rfl⟩ : ∃ cu, chi = some cu := by cases chi <;> simp [VRo] at h2 ⊢
            simp only [VRo] at h2
            rw [bnd_some] at hh
            have hh' : bnd (some u) 0 cap = some h' := by
              cases u <;> simp only [bnd] at hh ⊢ <;> try cases hh
              split at hh
              · rename_i hi; injection hh with hh; subst hh
                rw [if_pos ⟨hi.1, by omega⟩]
              · cases hh
            have b2 : h' ≤ len := by
              cases u <;> simp only [bnd] at hh <;> try cases hh
              split at hh
              · injection hh with hh; omega
              · cases hh
            obtain ⟨r2, _⟩ := bound_sound (P := P) (code := if isS = true then BoundsCode.sliceAcap else .sliceAlen) h2 hh'
            cases lo with
            | none =>
              obtain rfl : clo = none := by cases clo <;> simp [VRo] at h1 ⊢
              simp only [bnd, Option.some.injEq] at hl; subst hl
              exact ⟨cap, by simp [r2], by omega, b2, by omega, Nat.le_refl _, by simp; intro q1 q2; have := hf q1; omega, by simp, by simp⟩
            | some x =>
              obtain ⟨cx, rfl⟩ : ∃ cx, clo = some cx := by cases clo <;> simp [VRo] at h1 ⊢
              simp only [VRo] at h1
              obtain ⟨r0, b0⟩ := bound_sound (P := P) (code := .sliceB) h1 hl
              exact ⟨cap, by simp [r2, r0], b0, b2, by omega, Nat.le_refl _, by simp; intro q1 q2; have := hf q1; omega, by simp, by simp⟩
      · cases hc
    · cases hc
  · cases hc

theorem chunk_get (sz : Nat) : ∀ (n : Nat) (cs : List V) (i : Nat), (chunk sz n cs)[i]? = if i < n then some ((cs.drop (i * sz)).take sz) else none
  | 0, cs, i => by simp [chunk]
  | n + 1, cs, 0 => by simp [chunk]
  | n + 1, cs, i + 1 => by
    simp only [chunk, List.getElem?_cons_succ, chunk_get sz n (cs.drop sz) i, List.drop_drop, Nat.add_lt_add_iff_right]
    rw [show sz + i * sz = (i + 1) * sz by rw [Nat.add_mul]; omega]

theorem chunk_length (sz : Nat) : ∀ (n : Nat) (cs : List V), (chunk sz n cs).length = n
  | 0, _ => rfl
  | n + 1, cs => by simp [chunk, chunk_length sz n]

theorem cutList_get {α : Type} (l : List α) (a n i : Nat) {x : α} (h : ((l.drop a).take n)[i]? = some x) : i < n ∧ l[a + i]? = some x := by
  rw [List.getElem?_take] at h
  split at h
  · rw [List.getElem?_drop] at h; exact ⟨by assumption, h⟩
  · cases h

theorem VR.slEmpty {full : Bool} {a : Addr} {cap len : Nat} {els : List (List V)} (he : els = []) (hl : len = 0) (hf : full = true → cap = 0) :
    VR w F μ (.sl full els) (.slice (some a) len cap) := by
  subst he; subst hl; exact .slE full a cap hf

theorem VR.slN (full : Bool) (els : List (List V)) (b off len cap sz : Nat) (vs : Nat → Nat → Value) (hlen : els.length = len)
    (hsz : ∀ (i : Nat) (e : List V), els[i]? = some e → e.length = sz) (hcap : len ≤ cap) (hfull : full = true → cap = len)
    (hc : ∀ (i : Nat) (e : List V) (j : Nat) (c : V), els[i]? = some e → e[j]? = some c → F b ∧ w.cell? ⟨b, off + (i * sz + j), none⟩ = some (vs i j))
    (hv : ∀ (i : Nat) (e : List V) (j : Nat) (c : V), els[i]? = some e → e[j]? = some c → VR w F μ c (vs i j)) :
    VR w F μ (.sl full els) (.slice (some ⟨b, off, none⟩) len cap) := by
  subst hlen
  exact .sl full els b off cap sz vs hsz hcap hfull hc hv

theorem slice_sound (hw : WR E w F μ H) {t : TypeId} {x u : V} {xv : Value} {lo hi mx : Option V} {clo chi cmx : Option Value}
    (h : sliceV P H t x lo hi mx = some u) (hr : VR w F μ x xv) (h1 : VRo w F μ lo clo) (h2 : VRo w F μ hi chi) (h3 : VRo w F μ mx cmx) :
    ∃ cv, (Instr.sliceAt t xv clo chi cmx).run P w = .ok cv w ∧ VR w F μ u cv := by
  unfold sliceV at h
  split at h
  · -- a string
    rename_i _ _ _ hi
    have hu := tinf_und hi
    simp only at hu
    split at h
    · cases hr
      rename_i s
      split at h
      · rename_i l e _ hc
        injection h with h; subst h
        obtain rfl : cmx = none := by cases cmx <;> simp [VRo] at h3 ⊢
        obtain ⟨m, r, b1, b2, _⟩ := cut_sound (P := P) (isS := false) hc h1 h2 h3 (Nat.le_refl _) (fun _ => rfl)
        refine ⟨.string ⟨((s.drop l).take (e - l)).toArray⟩, ?_, .str _⟩
        have hz : (ByteArray.mk s.toArray).size = s.length := by simp [ByteArray.size]
        have hx : (ByteArray.mk s.toArray).extract l e = ByteArray.mk ((s.drop l).take (e - l)).toArray := by
          apply ByteArray.ext
          simp [ByteArray.data_extract, List.extract]
        simp [Instr.sliceAt, Instr.slice, run_underlying hu, hz, r, hx]
      · cases h
    · cases h
  · -- a slice
    rename_i e _ _ _ hi
    have hu := tinf_und hi
    simp only at hu
    cases hr with
    | nil =>
      simp only at h
      split at h
      · rename_i p s hc hs
        obtain ⟨l, hh, f⟩ := p
        injection h with h; subst h
        obtain ⟨m, r, b1, b2, b3, b4, _⟩ := cut_sound (P := P) (isS := true) hc h1 h2 h3 (Nat.le_refl _) (fun _ => rfl)
        obtain rfl : l = 0 := by omega
        obtain rfl : hh = 0 := by omega
        obtain rfl : m = 0 := by omega
        exact ⟨.slice none 0 0, by simp [Instr.sliceAt, Instr.slice, run_underlying hu, r, run_size hs], .nil⟩
      · cases h
    | slE full a cap hfull =>
      simp only at h
      split at h
      · rename_i l hh f hc
        split at h
        · rename_i s hs
          split at h
          · injection h with h; subst h
            obtain ⟨m, r, b1, b2, b3, b4, b5, b6, b7⟩ := cut_sound (P := P) (isS := true) (cap := cap) hc h1 h2 h3 (Nat.zero_le _) (by simpa using hfull)
            simp only [List.length_nil] at b2
            refine ⟨.slice (some (if m = l then a else a.add (l * s))) (hh - l) (m - l), ?_, .slEmpty (by simp) (by omega) (fun q => by have := b5 q; omega)⟩
            simp only [List.length_nil] at r
            simp [Instr.sliceAt, Instr.slice, run_underlying hu, r, run_size hs]
            split <;> rfl
          · cases h
        · cases h
      · cases h
    | sl full els b off cap sz vs hsz hcap hfull hc' hv =>
      simp only at h
      split at h
      · rename_i l hh f hc
        split at h
        · rename_i s hs
          split at h
          · rename_i hall
            injection h with h; subst h
            obtain ⟨m, r, b1, b2, b3, b4, b5, b6, b7⟩ := cut_sound (P := P) (isS := true) (cap := cap) hc h1 h2 h3 hcap hfull
            refine ⟨.slice (some (if m = l then ⟨b, off, none⟩ else ⟨b, off + l * s, none⟩)) (hh - l) (m - l), ?_, ?_⟩
            · simp [Instr.sliceAt, Instr.slice, run_underlying hu, r, run_size hs, add_eq]
              split <;> rfl
            · by_cases hlh : l = hh
              · exact .slEmpty (by subst hlh; simp) (by omega) (fun q => by have := b5 q; omega)
              · rw [if_neg (by omega)]
                have hln : ((els.drop l).take (hh - l)).length = hh - l := by simp; omega
                have hzs : ∀ (i : Nat) (e : List V), els[i]? = some e → e.length = s := fun i e he => by
                  have := List.all_eq_true.1 hall e (List.mem_of_getElem? he)
                  simpa using this
                have h0 : l < els.length := by omega
                have hz : sz = s := by rw [← hsz l els[l] (by simp [h0]), hzs l els[l] (by simp [h0])]
                refine .slN f _ b (off + l * s) _ (m - l) s (fun i j => vs (l + i) j) hln (fun i e he => ?_) (by omega) (fun q => by have := b5 q; omega) (fun i e j c he hj => ?_) (fun i e j c he hj => ?_)
                · exact hzs _ _ (cutList_get _ _ _ _ he).2
                · have := hc' _ _ _ _ (cutList_get _ _ _ _ he).2 hj
                  rw [hz, Nat.add_mul] at this
                  rw [show off + l * s + (i * s + j) = off + (l * s + i * s + j) by omega]
                  exact this
                · exact hv _ _ _ _ (cutList_get _ _ _ _ he).2 hj
          · cases h
        · cases h
      · cases h
    | ms sz b ver off len full cb sh cap n e' hm hs' hr' hcap hfull =>
      simp only at h
      split at h
      · rename_i l hh f hc
        split at h
        · rename_i s hs
          split at h
          · rename_i hz
            obtain ⟨m, r, b1, b2, b3, b4, b5, b6, b7⟩ := cut_sound (P := P) (isS := true) (cap := cap) hc h1 h2 h3 hcap hfull
            refine ⟨.slice (some (if m = l then ⟨cb, sh + off, none⟩ else ⟨cb, sh + off + l * s, none⟩)) (hh - l) (m - l), ?_, ?_⟩
            · simp [Instr.sliceAt, Instr.slice, run_underlying hu, r, run_size hs, add_eq]
              split <;> rfl
            · split at h
              · rename_i hlh
                injection h with h; subst h
                exact .slEmpty rfl (by omega) (fun q => by have := b5 q; omega)
              · rename_i hlh
                injection h with h; subst h; subst hz
                have hml : m ≠ l := by
                  intro q
                  have e1 : l = hh := by omega
                  cases hx : mx with
                  | some _ => exact hlh ⟨e1, .inl (by simp [hx])⟩
                  | none => exact hlh ⟨e1, .inr (by have := b6 hx; omega)⟩
                rw [if_neg hml]
                have := VR.ms (w := w) (F := F) (μ := μ) sz b ver (off + l * sz) (hh - l) f cb sh (m - l) n e' hm hs' (by
                  have e1 : l * sz + (m - l) * sz = m * sz := by rw [← Nat.add_mul]; congr 1; omega
                  have e2 : m * sz ≤ cap * sz := Nat.mul_le_mul_right _ b4
                  omega) (by omega) (fun q => by have := b5 q; omega)
                rw [← Nat.add_assoc] at this
                exact this
          · cases h
        · cases h
      · cases h
    | _ => cases h
  · -- an array behind a pointer
    rename_i n e _ _ _ hi
    have hu := tinf_und hi
    simp only at hu
    split at h
    · rename_i s l hh f hs hc
      obtain ⟨m, r, b1, b2, b3, b4, b5, b6, b7⟩ := cut_sound (P := P) (isS := false) hc h1 h2 h3 (Nat.le_refl _) (fun _ => rfl)
      cases hr with
      | rp cells b off vs hc' hv =>
        simp only at h
        split at h
        · rename_i hn
          injection h with h; subst h
          refine ⟨.slice (some (if m = l then ⟨b, off, none⟩ else ⟨b, off + l * s, none⟩)) (hh - l) (m - l), ?_, ?_⟩
          · simp [Instr.sliceAt, run_underlying hu, Instr.sureAddr, r, run_size hs, add_eq]
          · by_cases hlh : l = hh
            · exact .slEmpty (by subst hlh; simp) (by omega) (fun q => by have := b5 q; omega)
            · rw [if_neg (by omega)]
              have hcl := chunk_length s n cells
              have hln : (((chunk s n cells).drop l).take (hh - l)).length = hh - l := by simp [hcl]; omega
              have hget : ∀ (i : Nat) (e : List V), (((chunk s n cells).drop l).take (hh - l))[i]? = some e → l + i < n ∧ e = (cells.drop ((l + i) * s)).take s := fun i e he => by
                have := (cutList_get _ _ _ _ he).2
                rw [chunk_get] at this
                split at this
                · injection this with this; exact ⟨by assumption, this.symm⟩
                · cases this
              have hcell : ∀ (i : Nat) (e : List V) (j : Nat) (c : V), (((chunk s n cells).drop l).take (hh - l))[i]? = some e → e[j]? = some c → cells[l * s + i * s + j]? = some c := fun i e j c he hj => by
                obtain ⟨q1, rfl⟩ := hget i e he
                rw [List.getElem?_take] at hj
                split at hj
                · rw [List.getElem?_drop, Nat.add_mul] at hj; exact hj
                · cases hj
              refine .slN f _ b (off + l * s) _ (m - l) s (fun i j => vs (l * s + i * s + j)) hln (fun i e he => ?_) (by omega) (fun q => by have := b5 q; omega) (fun i e j c he hj => ?_) (fun i e j c he hj => ?_)
              · obtain ⟨q1, rfl⟩ := hget i e he
                have e2 : (l + i) * s + s ≤ n * s := by rw [← Nat.succ_mul]; exact Nat.mul_le_mul_right _ q1
                simp; omega
              · have := hc' _ _ (hcell i e j c he hj)
                rw [show off + l * s + (i * s + j) = off + (l * s + i * s + j) by omega]
                exact this
              · exact hv _ _ (hcell i e j c he hj)
        · cases h
      | mp b ver off cb sh hm =>
        simp only at h
        split at h
        · rename_i cs hg
          split at h
          · rename_i hn
            refine ⟨.slice (some (if m = l then ⟨cb, sh + off, none⟩ else ⟨cb, sh + off + l * s, none⟩)) (hh - l) (m - l), ?_, ?_⟩
            · simp [Instr.sliceAt, run_underlying hu, Instr.sureAddr, r, run_size hs, add_eq]
            · split at h
              · rename_i hlh
                injection h with h; subst h
                exact .slEmpty rfl (by omega) (fun q => by have := b5 q; omega)
              · rename_i hlh
                injection h with h; subst h
                rw [if_neg (by omega)]
                have hlive : ∃ ar e fr, w.heap[cb]? = some (.cells ar e fr) ∧ sh + cs.length ≤ ar.size := by
                  unfold getBlk at hg
                  split at hg
                  · rename_i v ro cs' hb
                    split at hg
                    · rename_i hv; injection hg with hg; subst hg; subst hv
                      obtain ⟨cb', sh', arr, e, fr, g1, g2, _, _, g5, _⟩ := hw.live b v ro cs' hb
                      rw [hm] at g1; injection g1 with g1; injection g1 with g1 g1'; subst g1; subst g1'
                      exact ⟨arr, e, fr, g2, g5⟩
                    · cases hg
                  · cases hg
                obtain ⟨ar, e', fr, g2, g5⟩ := hlive
                have := VR.ms (w := w) (F := F) (μ := μ) s b ver (off + l * s) (hh - l) f cb sh (m - l) ar.size e' hm (by simp [World.shape?, g2]) (by
                  have e1 : l * s + (m - l) * s = m * s := by rw [← Nat.add_mul]; congr 1; omega
                  have e2 : m * s ≤ n * s := Nat.mul_le_mul_right _ b4
                  omega) (by omega) (fun q => by have := b5 q; omega)
                rw [← Nat.add_assoc] at this
                exact this
          · cases h
        · cases h
      | _ => cases h
    · cases h
  · cases h

end Go.Ae

namespace Go.Ae

variable {E : Env} {P : Program} {w : World} {F : Nat → Prop} {μ : Nat → Nat → Option (Nat × Nat)} {H : Heap}

theorem beq_str (a b : List UInt8) : ((ByteArray.mk a.toArray) == (ByteArray.mk b.toArray)) = (a == b) := by
  show ((⟨a⟩ : Array UInt8) == ⟨b⟩) = (a == b)
  simp

theorem toList_str (a : List UInt8) : (ByteArray.mk a.toArray).toList = a := by
  rw [ByteArray.toList_eq]

/-- The rounds of '==' over an array. -/
def eqArr (d : Nat) (e : TypeId) (s : Nat) (xs ys : Array Value) : Nat → Nat → Sem Bool
  | 0, _ => Pure.pure true
  | n + 1, i => do
    let a ← part e xs (i * s)
    let b ← part e ys (i * s)
    let r ← Op.equalIn d e a b
    if (!r) = true then Pure.pure false else eqArr d e s xs ys n (i + 1)

theorem run_equalIn_array (d : Nat) (t e : TypeId) (n s : Nat) (xs ys : Array Value) (ht : P.underlying t = some (.array n e)) (hs : ∀ w : World, (sizeOf e).run P w = .ok s w) :
    (Op.equalIn (d + 1) t (.agg xs) (.agg ys)).run P w = (eqArr d e s xs ys n 0).run P w := by
  simp only [Op.equalIn, Sem.run_bind, run_underlying ht, Result.andThen_ok, hs]
  rw [Std.Legacy.Range.forIn_eq_forIn_range']
  simp only [Std.Legacy.Range.size, Nat.sub_zero, Nat.add_sub_cancel, Nat.div_one]
  generalize 0 = i
  clear ht
  induction n generalizing i w with
  | zero => simp [eqArr]
  | succ n ih =>
    simp only [List.range'_succ, List.forIn_cons, eqArr, Sem.run_bind]
    generalize (part e xs (i * s)).run P w = r1
    cases r1 with
    | ok a w1 =>
      simp only [Result.andThen_ok]
      generalize (part e ys (i * s)).run P w1 = r2
      cases r2 with
      | ok b w2 =>
        simp only [Result.andThen_ok]
        generalize (Op.equalIn d e a b).run P w2 = r3
        cases r3 with
        | ok r w3 =>
          cases r
          · simp only [Result.andThen_ok, Bool.not_false, if_true, Sem.run_pure]
          · simp only [Result.andThen_ok, Bool.not_true, Bool.false_eq_true, if_false, Sem.run_pure]
            exact ih (i + 1)
        | halt x w3 => simp [Result.andThen]
      | halt x w2 => simp [Result.andThen]
    | halt x w1 => simp [Result.andThen]

theorem eqFields_sound {d : Nat} {eq : TypeId → V → V → Option Bool} (hd : ∀ t x y b cx cy, eq t x y = some b → VR w F μ x cx → VR w F μ y cy → (Op.equalIn d t cx cy).run P w = .ok b w) :
    ∀ (fs : List Field) {xs ys : List V} {ax ay : Array Value} {b : Bool}, eqV.eqFields P fs xs ys eq = some b → VRa w F μ xs ax → VRa w F μ ys ay →
      (Op.eqFields d ax ay fs).run P w = .ok b w
  | [], xs, ys, ax, ay, b, h, _, _ => by simp [eqV.eqFields] at h; subst h; rfl
  | f :: r, xs, ys, ax, ay, b, h, hx, hy => by
    simp only [eqV.eqFields] at h
    simp only [Op.eqFields]
    by_cases hn : f.name = "_"
    · simp only [hn, if_true] at h
      simp only [hn, ne_eq, not_true_eq_false, if_false]
      exact eqFields_sound hd r h hx hy
    · simp only [hn, if_false] at h
      simp only [hn, ne_eq, not_false_eq_true, if_true]
      split at h
      · rename_i a c ha hc
        obtain ⟨ca, r1, v1⟩ := part_sound (P := P) (w := w) ha hx
        obtain ⟨cc, r2, v2⟩ := part_sound (P := P) (w := w) hc hy
        simp only [Sem.run_bind, r1, r2, Result.andThen_ok]
        split at h
        · rename_i he
          rw [hd _ _ _ _ _ _ he v1 v2]
          simp only [Result.andThen_ok, Bool.not_true, Bool.false_eq_true, if_false]
          exact eqFields_sound hd r h hx hy
        · rename_i he
          injection h with h; subst h
          rw [hd _ _ _ _ _ _ he v1 v2]
          rfl
        · cases h
      · cases h

theorem eqElems_sound {d : Nat} {eq : TypeId → V → V → Option Bool} (hd : ∀ t x y b cx cy, eq t x y = some b → VR w F μ x cx → VR w F μ y cy → (Op.equalIn d t cx cy).run P w = .ok b w) {e : TypeId} {s : Nat} {xs ys : List V} {ax ay : Array Value}
    (hx : VRa w F μ xs ax) (hy : VRa w F μ ys ay) :
    ∀ (n i : Nat) {b : Bool}, eqV.eqElems P e s xs ys eq n i = some b → (eqArr d e s ax ay n i).run P w = .ok b w
  | 0, i, b, h => by simp [eqV.eqElems] at h; subst h; rfl
  | n + 1, i, b, h => by
    simp only [eqV.eqElems] at h
    simp only [eqArr]
    split at h
    · rename_i a c ha hc
      obtain ⟨ca, r1, v1⟩ := part_sound (P := P) (w := w) ha hx
      obtain ⟨cc, r2, v2⟩ := part_sound (P := P) (w := w) hc hy
      simp only [Sem.run_bind, r1, r2, Result.andThen_ok]
      split at h
      · rename_i he
        rw [hd _ _ _ _ _ _ he v1 v2]
        simp only [Result.andThen_ok, Bool.not_true, Bool.false_eq_true, if_false]
        exact eqElems_sound hd hx hy n (i + 1) h
      · rename_i he
        injection h with h; subst h
        rw [hd _ _ _ _ _ _ he v1 v2]
        rfl
      · cases h
    · cases h

theorem fieldsOf_eq {t : TypeId} {fs : Array Field} (h : P.underlying t = some (.struct fs)) : P.fieldsOf t = fs := by
  unfold Program.fieldsOf; rw [h]

set_option maxHeartbeats 1000000 in
theorem eqV_sound (k : Nat) : ∀ (d : Nat) (t : TypeId) (x y : V) (b : Bool) (cx cy : Value), eqV P d t x y = some b → VR w F μ x cx → VR w F μ y cy →
    (Op.equalIn (d + k) t cx cy).run P w = .ok b w
  | 0, _, _, _, _, _, _, h, _, _ => by simp [eqV] at h
  | d + 1, t, x, y, b, cx, cy, h, hx, hy => by
    have ih := fun t x y b cx cy => eqV_sound k d t x y b cx cy
    rw [show d + 1 + k = (d + k) + 1 by omega]
    simp only [eqV] at h
    split at h
    · cases h
    · rename_i i hi
      have hu := tinf_und hi
      split at h
      case h_1 a b' hd =>
        rw [hd] at hu; cases hx; cases hy; injection h with h; subst h
        simp [Op.equalIn, run_underlying hu]
      case h_2 k1 a k2 b' hd =>
        rename_i kk
        rw [hd] at hu; cases hx; cases hy
        split at h
        · rename_i hk; injection h with h; subst h; subst hk
          simp [Op.equalIn, run_underlying hu]
        · cases h
      case h_3 a b' hd =>
        rw [hd] at hu; cases hx; cases hy; injection h with h; subst h
        simp [Op.equalIn, run_underlying hu, beq_str]
      case h_13 e t1 m1 b1 v1 t2 m2 b2 v2 hd =>
        rw [hd] at hu
        split at h
        · rename_i ie hie
          obtain ⟨_, _, hinf, _⟩ := tinf_spec hie
          split at h
          · rename_i hq
            obtain ⟨rfl, rfl⟩ := hq
            injection h with h; subst h
            cases hx with
            | tp _ _ _ _ cb n hm hs hn =>
              cases hy with
              | tp _ _ _ _ cb' n' hm' hs' hn' =>
                rw [hm] at hm'; injection hm' with hm'; injection hm' with hm' _; subst hm'
                simp [Op.equalIn, run_underlying hu, sizeOf, typeInfo, hinf, run_sameAddr_same]
          · cases h
        · cases h
      all_goals try (rename_i hd; rw [hd] at hu; cases hx <;> cases hy <;> injection h with h <;> subst h <;> simp [Op.equalIn, run_underlying hu] ; done)
      case h_20 fs xs ys hd =>
        rw [hd] at hu
        obtain ⟨ax, rfl, hx'⟩ := VR.agg_iff.1 hx
        obtain ⟨ay, rfl, hy'⟩ := VR.agg_iff.1 hy
        by_cases hp : P.stoodInHeld t = true
        · rw [if_pos hp] at h; cases h
        · rw [if_neg hp] at h
          have hf := fieldsOf_eq hu
          rw [run_equalIn_struct w (d + k) t ax ay (by rw [hf]; exact hu) (by simpa using hp), hf]
          exact eqFields_sound ih fs.toList h hx' hy'
      case h_21 n e xs ys hd =>
        rw [hd] at hu
        obtain ⟨ax, rfl, hx'⟩ := VR.agg_iff.1 hx
        obtain ⟨ay, rfl, hy'⟩ := VR.agg_iff.1 hy
        split at h
        · rename_i s hs
          rw [run_equalIn_array (d + k) t e n s ax ay hu (fun w => run_size hs)]
          exact eqElems_sound ih hx' hy' n 0 h
        · cases h
      case h_22 => cases h

theorem eqGuard_free {op : BinOp} {t : TypeId} {x y : Operand} {v : V} {cv cu : Value} (h : eqFree P t v = true) (hr : VR w F μ v cv) :
    (eqGuard op t x y cv cu).run P w = .ok () w := by
  cases hr with
  | agg cs arr hz hh =>
    have hm : P.eqGuardType P.depth t = false := by simpa [eqFree] using h
    cases cu <;> cases op <;> simp [eqGuard, hm]
  | ni => simp [eqFree] at h
  | _ => cases op <;> rfl

theorem bin_eq {t : TypeId} {x y : V} {b : Bool} {cx cy : Value} (h : eqV P 9999 t x y = some b) (hx : VR w F μ x cx) (hy : VR w F μ y cy) :
    (Op.equal t cx cy).run P w = .ok b w := by
  have := eqV_sound (P := P) (w := w) 1 9999 t x y b cx cy h hx hy
  exact this

end Go.Ae

namespace Go.Ae

variable {E : Env} {P : Program} {w : World} {F : Nat → Prop} {μ : Nat → Nat → Option (Nat × Nat)} {H : Heap}

theorem eqV_int {d : Nat} {t : TypeId} {k : IntKind} {n : Int} {y : V} {b : Bool} (h : eqV P (d + 1) t (.int k n) y = some b) : ∃ m, y = .int k m ∧ (n == m) = b := by
  simp only [eqV] at h
  split at h
  · cases h
  · rename_i i hi
    cases hd : i.desc <;> cases y <;> simp [hd] at h
    obtain ⟨rfl, h⟩ := h
    exact ⟨_, rfl, h⟩

theorem eqV_str {d : Nat} {t : TypeId} {s : List UInt8} {y : V} {b : Bool} (h : eqV P (d + 1) t (.str s) y = some b) : ∃ m, y = .str m ∧ (s == m) = b := by
  simp only [eqV] at h
  split at h
  · cases h
  · rename_i i hi
    cases hd : i.desc <;> cases y <;> simp [hd] at h
    exact ⟨_, rfl, by simpa using h⟩

theorem binOp_eq {t : TypeId} {cx cy : Value} (h : ∀ k a, cx ≠ .int k a) (h2 : ∀ a, cx ≠ .string a) (h3 : ∀ k a, cx ≠ .float k a) (h4 : ∀ k a b, cx ≠ .complex k a b) :
    binOp .eql t cx cy = (do Pure.pure (.bool (← Op.equal t cx cy))) ∧ binOp .neq t cx cy = (do Pure.pure (.bool (!(← Op.equal t cx cy)))) := by
  cases cx <;> first | (exact absurd rfl (h _ _)) | (exact absurd rfl (h2 _)) | (exact absurd rfl (h3 _ _)) | (exact absurd rfl (h4 _ _ _)) | exact ⟨rfl, rfl⟩

theorem run_eql {t : TypeId} {x y : V} {b : Bool} {cx cy : Value} (h : eqV P 9999 t x y = some b) (hx : VR w F μ x cx) (hy : VR w F μ y cy) :
    (binOp .eql t cx cy).run P w = .ok (.bool b) w ∧ (binOp .neq t cx cy).run P w = .ok (.bool !b) w := by
  have he := bin_eq h hx hy
  have fin : (∀ k a, cx ≠ .int k a) → (∀ a, cx ≠ .string a) → (∀ k a, cx ≠ .float k a) → (∀ k a b, cx ≠ .complex k a b) →
      (binOp .eql t cx cy).run P w = .ok (.bool b) w ∧ (binOp .neq t cx cy).run P w = .ok (.bool !b) w := by
    intro h1 h2 h3 h4
    obtain ⟨e1, e2⟩ := binOp_eq (t := t) (cy := cy) h1 h2 h3 h4
    rw [e1, e2]
    simp only [Sem.run_bind, he, Result.andThen_ok, Sem.run_pure, and_self]
  cases hx with
  | int k n =>
    obtain ⟨m, rfl, rfl⟩ := eqV_int (d := 9998) h
    cases hy
    exact ⟨by unfold binOp; simp only [ne_eq, not_true_eq_false, if_false]; rfl, by unfold binOp; simp only [ne_eq, not_true_eq_false, if_false]; rfl⟩
  | str s =>
    obtain ⟨m, rfl, rfl⟩ := eqV_str (d := 9998) h
    cases hy
    exact ⟨by simp only [binOp, Op.stringOp, toList_str, Sem.run_pure], by simp only [binOp, Op.stringOp, toList_str, Sem.run_pure]⟩
  | _ => exact fin (by intros; simp) (by intros; simp) (by intros; simp) (by intros; simp)

theorem bin_sound {op : BinOp} {t : TypeId} {X Y : Operand} {x y u : V} {cx cy : Value} (h : binV P op t x y = some u) (hx : VR w F μ x cx) (hy : VR w F μ y cy) :
    ∃ cv, (do eqGuard op t X Y cx cy; binOp op t cx cy : Sem Value).run P w = .ok cv w ∧ VR w F μ u cv := by
  unfold binV at h
  split at h
  · -- shl
    cases hx; cases hy
    split at h
    · cases h
    · rename_i hb
      injection h with h; subst h
      exact ⟨_, by simp [eqGuard, binOp, Op.shift, hb], .int _ _⟩
  · -- shr
    cases hx; cases hy
    split at h
    · cases h
    · rename_i hb
      injection h with h; subst h
      exact ⟨_, by simp [eqGuard, binOp, Op.shift, hb], .int _ _⟩
  · -- numbers
    rename_i k a k' b hs1 hs2
    cases hx; cases hy
    split at h
    · rename_i hk
      subst hk
      obtain ⟨cv, r, v⟩ := intOp_sound (P := P) (w := w) (F := F) (μ := μ) (t := t) ⟨hs1, hs2⟩ h
      refine ⟨cv, ?_, v⟩
      rw [eqGuard_at_int]
      simpa using r
    · cases h
  · -- +
    cases hx; cases hy
    rename_i a b
    split at h
    · rename_i hl
      injection h with h; subst h
      refine ⟨.string ⟨(a ++ b).toArray⟩, ?_, .str _⟩
      have hz : ∀ l : List UInt8, (ByteArray.mk l.toArray).size = l.length := fun l => by simp [ByteArray.size]
      have e : ByteArray.mk a.toArray ++ ByteArray.mk b.toArray = ByteArray.mk (a ++ b).toArray := by
        apply ByteArray.ext; simp [ByteArray.data_append]
      have hm : ¬ (((a.length + b.length : Nat) : Int) > IntKind.i64.max) := by
        rw [IntKind.max_i64]; omega
      simp only [eqGuard_at_string, binOp, Op.stringOp, hz, Sem.run_bind, Sem.run_pure, Result.andThen_ok]
      rw [if_neg hm, e]; rfl
    · cases h
  all_goals try (cases hx; cases hy; injection h with h; subst h; refine ⟨_, ?_, .bool _⟩; simp only [eqGuard_at_string, binOp, Op.stringOp, toList_str, Sem.run_bind, Sem.run_pure, Result.andThen_ok, bytesLe]; done)
  · split at h
    · rename_i hf
      cases he : eqV P 9999 t x y with
      | none => rw [he] at h; cases h
      | some b =>
        rw [he] at h; injection h with h; subst h
        exact ⟨_, by rw [Sem.run_bind, eqGuard_free hf hx]; exact (run_eql he hx hy).1, .bool _⟩
    · cases h
  · split at h
    · rename_i hf
      cases he : eqV P 9999 t x y with
      | none => rw [he] at h; cases h
      | some b =>
        rw [he] at h; injection h with h; subst h
        exact ⟨_, by rw [Sem.run_bind, eqGuard_free hf hx]; exact (run_eql he hx hy).2, .bool _⟩
    · cases h
  · cases h

end Go.Ae

namespace Go.Ae

variable {E : Env} {P : Program} {w : World} {F : Nat → Prop} {μ : Nat → Nat → Option (Nat × Nat)} {H : Heap}

theorem foldSet (off : Nat) : ∀ (l : List Value) (k : Nat) (arr : Array Value), off + k + l.length ≤ arr.size →
    ((l.zipIdx k).foldl (fun cs (c, j) => cs.setIfInBounds (off + j) c) arr).toList = arr.toList.take (off + k) ++ l ++ arr.toList.drop (off + k + l.length)
  | [], k, arr, _ => by simp
  | v :: r, k, arr, h => by
    simp only [List.zipIdx_cons, List.foldl_cons, List.length_cons] at h ⊢
    rw [foldSet off r (k + 1) (arr.setIfInBounds (off + k) v) (by simp; omega)]
    simp only [Array.toList_setIfInBounds]
    have hk : off + k < arr.toList.length := by simp; omega
    rw [show off + (k + 1) = (off + k) + 1 by omega, List.take_succ_eq_append_getElem (by simp; omega)]
    rw [List.take_set_of_le (by omega), List.drop_set_of_lt (by omega)]
    simp [Nat.add_assoc, Nat.add_comm 1]

theorem VRs.spliced {cs vs : List V} {ccs cvs : List Value} (h : VRs w F μ cs ccs) (hv : VRs w F μ vs cvs) (off : Nat) :
    VRs w F μ (Go.Ae.splice cs off vs) (ccs.take off ++ cvs ++ ccs.drop (off + cvs.length)) := by
  unfold Go.Ae.splice
  rw [hv.1]
  exact ((h.take off).append hv).append (h.drop _)

/-- Parts of a struct that is made. -/
def VRp (w : World) (F : Nat → Prop) (μ : Nat → Nat → Option (Nat × Nat)) : List (Nat × V) → List (Nat × Value) → Prop
  | [], [] => True
  | (i, v) :: r, (j, cv) :: s => i = j ∧ VR w F μ v cv ∧ VRp w F μ r s
  | _, _ => False

theorem fill_sound {place : Nat → Option (Nat × Nat)} : ∀ {parts : List (Nat × V)} {cparts : List (Nat × Value)} {cells cs : List V} {arr : Array Value},
    fillV place cells parts = some cs → VRa w F μ cells arr → VRp w F μ parts cparts → ∃ arr', Instr.fill place arr cparts = some arr' ∧ VRa w F μ cs arr'
  | [], [], cells, cs, arr, h, hr, _ => by
    simp only [fillV, Option.some.injEq] at h; subst h
    exact ⟨arr, rfl, hr⟩
  | (i, v) :: r, (j, cv) :: s, cells, cs, arr, h, hr, hp => by
    obtain ⟨rfl, hv, hp⟩ := hp
    simp only [fillV] at h
    split at h
    · cases h
    · rename_i off size hpl
      split at h
      · cases h
      · rename_i hc
        have hz : cv.cells.size = v.cells.length := by simpa using hv.cells.1
        have ha := hr.1
        have hn : ¬ (cv.cells.size ≠ size ∨ off + cv.cells.size > arr.size) := by rw [hz, ha]; omega
        have hfold : VRa w F μ (splice cells off v.cells) (cv.cells.zipIdx.foldl (fun cs (c, j) => cs.setIfInBounds (off + j) c) arr) := by
          apply VRa_of_list
          have e : cv.cells.zipIdx.foldl (fun cs (c, j) => cs.setIfInBounds (off + j) c) arr = (cv.cells.toList.zipIdx 0).foldl (fun cs (c, j) => cs.setIfInBounds (off + j) c) arr := by
            rw [← Array.foldl_toList]; simp
          rw [e, foldSet off cv.cells.toList 0 arr (by simp; omega)]
          exact hr.list.spliced hv.cells off
        obtain ⟨arr', h1, h2⟩ := fill_sound h hfold hp
        refine ⟨arr', ?_, h2⟩
        simp only [Instr.fill, hpl]
        rw [if_neg (by simpa using hn)]
        exact h1
  | [], _ :: _, _, _, _, _, _, hp => hp.elim
  | _ :: _, [], _, _, _, _, _, hp => by cases ‹Nat × V›; exact hp.elim

theorem run_mapM {α β : Type} {f : α → Sem β} {g : α → β} : ∀ (l : List α), (∀ a ∈ l, ∀ w, (f a).run P w = .ok (g a) w) → ∀ w, (l.mapM f).run P w = .ok (l.map g) w
  | [], _, w => rfl
  | a :: r, h, w => by
    simp only [List.mapM_cons, Sem.run_bind, h a (by simp) w, Result.andThen_ok, run_mapM r (fun a ha => h a (by simp [ha])) w, Sem.run_pure, List.map_cons]

theorem places_spec : ∀ {fs : List Field} {pl : List (Nat × Nat)}, places P fs = some pl → (∀ f ∈ fs, ∃ i, P.info? f.type = some i) ∧ pl = fs.map fun f => (f.offset, P.cellsOf f.type)
  | [], pl, h => by simp [places] at h; subst h; simp
  | f :: r, pl, h => by
    simp only [places] at h
    split at h
    · rename_i i l hi hl
      injection h with h; subst h
      obtain ⟨h1, h2⟩ := places_spec hl
      refine ⟨fun g hg => ?_, ?_⟩
      · rcases List.mem_cons.1 hg with rfl | hg
        · exact ⟨i, hi⟩
        · exact h1 g hg
      · rw [List.map_cons, ← h2]; simp [Program.cellsOf, hi]
    · cases h

theorem build_sound {t : TypeId} {parts : List (Nat × V)} {cparts : Array (Nat × Value)} {u : V} (h : buildV P t parts = some u) (hp : VRp w F μ parts cparts.toList) :
    ∃ cv, (Instr.build t cparts).run P w = .ok cv w ∧ VR w F μ u cv := by
  unfold buildV at h
  split at h
  · rename_i fs _ _ z hi
    have hu := tinf_und hi
    simp only at hu
    obtain ⟨zv, hz1, hz2⟩ := run_zero (w := w) (F := F) (μ := μ) hi
    split at h
    · rename_i pl hpl
      cases hf : fillV (pl[·]?) z.cells parts with
      | none => rw [hf] at h; cases h
      | some cs =>
        rw [hf] at h; injection h with h; subst h
        have hz3 : VRa w F μ z.cells zv.cells := VRa_of_list hz2.cells
        obtain ⟨h1, h2⟩ := places_spec hpl
        have hm : (fs.mapM fun f => do Pure.pure (f.offset, ← sizeOf f.type) : Sem (Array (Nat × Nat))).run P w = .ok pl.toArray w := by
          rw [Array.mapM_eq_mapM_toList, Sem.run_map, run_mapM (g := fun f => (f.offset, P.cellsOf f.type)) fs.toList (fun f hf w => ?_) w, h2]
          · rfl
          · obtain ⟨i, hi⟩ := h1 f hf
            simp [sizeOf, typeInfo, hi, Program.cellsOf]
        obtain ⟨arr', h3, h4⟩ := fill_sound hf hz3 hp
        refine ⟨.agg arr', ?_, VR.agg_iff.2 ⟨arr', rfl, h4⟩⟩
        simp only [Instr.build, Sem.run_bind, hz1, Result.andThen_ok, run_underlying hu, hm]
        have : (fun (x : Nat) => pl.toArray[x]?) = (fun (x : Nat) => pl[x]?) := by funext x; simp
        rw [this, h3]
        rfl
    · cases h
  · rename_i n e _ _ z hi
    have hu := tinf_und hi
    simp only at hu
    obtain ⟨zv, hz1, hz2⟩ := run_zero (w := w) (F := F) (μ := μ) hi
    split at h
    · rename_i s hs
      cases hf : fillV (fun i => some (i * s, s)) z.cells parts with
      | none => rw [hf] at h; cases h
      | some cs =>
        rw [hf] at h; injection h with h; subst h
        have hz3 : VRa w F μ z.cells zv.cells := VRa_of_list hz2.cells
        obtain ⟨arr', h3, h4⟩ := fill_sound hf hz3 hp
        refine ⟨.agg arr', ?_, VR.agg_iff.2 ⟨arr', rfl, h4⟩⟩
        simp only [Instr.build, Sem.run_bind, hz1, Result.andThen_ok, run_underlying hu, run_size hs, h3]
        rfl
    · cases h
  · cases h

theorem typeAssert_sound {x u : V} {xt t : TypeId} {ok : Bool} {cx : Value} (h : typeAssertV P x t ok = some u) (hr : VR w F μ x cx) :
    ∃ cv, (Instr.typeAssert cx xt t ok).run P w = .ok cv w ∧ VR w F μ u cv := by
  unfold typeAssertV at h
  split at h
  · rename_i i hi
    have hu := tinf_und hi
    obtain ⟨zv, hz1, hz2⟩ := run_zero (w := w) (F := F) (μ := μ) hi
    have pair : ∀ {a : V} {ca : Value} {b : Bool}, VR w F μ a ca → VR w F μ (.tup [a, .bool b]) (.tuple #[ca, .bool b]) := fun ha =>
      VR.tup_iff.2 ⟨_, rfl, VRa_of_list (.cons ha (.cons (.bool _) .nil))⟩
    split at h
    · cases h
    · rename_i t' v hn
      cases hr
      rename_i cv hv
      have hmatch : (Instr.typeAssert (.iface t' cv) xt t ok).run P w = if t' = t then .ok (if ok then .tuple #[cv, .bool true] else cv) w else
          (if ok then .ok (.tuple #[zv, .bool false]) w else (runtimePanic (.typeAssertion (some xt) (some t') t "") : Sem Value).run P w) := by
        unfold Instr.typeAssert
        simp only [Sem.run_bind, run_underlying hu, Result.andThen_ok]
        cases hd : i.desc <;> first | (exact absurd hd (hn _)) | (by_cases ht : t' = t <;> cases ok <;> simp [ht, hz1])
      rw [hmatch]
      split at h
      · rename_i ht
        rw [if_pos ht]
        injection h with h; subst h
        cases ok
        · exact ⟨cv, rfl, hv⟩
        · exact ⟨_, rfl, pair hv⟩
      · rename_i ht
        rw [if_neg ht]
        split at h
        · rename_i ho
          injection h with h; subst h
          rw [if_pos ho]
          exact ⟨_, rfl, pair hz2⟩
        · cases h
    · rename_i hn
      cases hr
      split at h
      · rename_i ho
        injection h with h; subst h
        refine ⟨.tuple #[zv, .bool false], ?_, pair hz2⟩
        unfold Instr.typeAssert
        simp only [Sem.run_bind, run_underlying hu, Result.andThen_ok]
        cases hd : i.desc <;> first | (exact absurd hd (hn _)) | (simp [ho, hz1])
      · cases h
    · cases h
  · cases h

theorem foldMax_sound {k : IntKind} : ∀ {r : List V} {u : V} {cr : List Value} {a : Int}, foldMM true (.int k a) r = some u → VRs w F μ r cr →
    ∃ cv, (cr.foldlM Builtin.max2 (.int k a)).run P w = .ok cv w ∧ VR w F μ u cv
  | [], u, cr, a, h, hr => by
    rw [hr.none]; simp only [foldMM, Option.some.injEq] at h; subst h
    exact ⟨_, rfl, .int _ _⟩
  | x :: r, u, cr, a, h, hr => by
    obtain ⟨c, cr', rfl, h1, h2⟩ := hr.head
    cases x <;> simp only [foldMM] at h <;> try cases h
    cases h1
    simp only [if_true] at h
    simp only [List.foldlM_cons, Sem.run_bind, Builtin.max2, Sem.run_pure, Result.andThen_ok]
    exact foldMax_sound h h2

theorem foldMin_sound {k : IntKind} : ∀ {r : List V} {u : V} {cr : List Value} {a : Int}, foldMM false (.int k a) r = some u → VRs w F μ r cr →
    ∃ cv, (cr.foldlM Builtin.min2 (.int k a)).run P w = .ok cv w ∧ VR w F μ u cv
  | [], u, cr, a, h, hr => by
    rw [hr.none]; simp only [foldMM, Option.some.injEq] at h; subst h
    exact ⟨_, rfl, .int _ _⟩
  | x :: r, u, cr, a, h, hr => by
    obtain ⟨c, cr', rfl, h1, h2⟩ := hr.head
    cases x <;> simp only [foldMM] at h <;> try cases h
    cases h1
    simp only [Bool.false_eq_true, if_false] at h
    simp only [List.foldlM_cons, Sem.run_bind, Builtin.min2, Sem.run_pure, Result.andThen_ok]
    exact foldMin_sound h h2

end Go.Ae

namespace Go.Ae

variable {E : Env} {P : Program} {w : World} {F : Nat → Prop} {μ : Nat → Nat → Option (Nat × Nat)} {H : Heap}

theorem flatten_get {sz : Nat} : ∀ {els : List (List V)}, (∀ (i : Nat) (e : List V), els[i]? = some e → e.length = sz) → ∀ {k : Nat} {c : V}, els.flatten[k]? = some c →
    ∃ i j e, els[i]? = some e ∧ e[j]? = some c ∧ k = i * sz + j
  | [], _, k, c, h => by simp at h
  | e :: r, hs, k, c, h => by
    have he : e.length = sz := hs 0 e rfl
    rw [List.flatten_cons, List.getElem?_append] at h
    split at h
    · exact ⟨0, k, e, rfl, h, by simp⟩
    · obtain ⟨i, j, e', h1, h2, h3⟩ := flatten_get (fun i e h => hs (i + 1) e (by simpa using h)) h
      exact ⟨i + 1, j, e', by simpa using h1, h2, by rw [Nat.add_mul]; omega⟩

theorem chunk_flatten (sz : Nat) : ∀ (n : Nat) (cs : List V), (chunk sz n cs).flatten = cs.take (n * sz)
  | 0, cs => by simp [chunk]
  | n + 1, cs => by
    simp only [chunk, List.flatten_cons, chunk_flatten sz n]
    rw [Nat.add_mul, Nat.one_mul, Nat.add_comm (n * sz) sz, List.take_add]

theorem At.take {cs : List V} {b off : Nat} (h : At w F μ cs b off) (n : Nat) : At w F μ (cs.take n) b off := by
  intro j c hc
  rw [List.getElem?_take] at hc
  split at hc
  · exact h j c hc
  · cases hc

theorem elems_sound (hw : WR E w F μ H) {v : V} {cv : Value} {els : List (List V)} (h : elemsOf H v = some els) (hr : VR w F μ v cv) :
    (∃ s, v = .str s) ∨ (cv = .slice none 0 0 ∧ els = []) ∨ ∃ a cap, cv = .slice (some a) els.length cap ∧ (els ≠ [] → ∃ b off, a = ⟨b, off, none⟩ ∧ At w F μ els.flatten b off) := by
  cases hr with
  | nil => simp only [elemsOf, Option.some.injEq] at h; subst h; exact .inr (.inl ⟨rfl, rfl⟩)
  | slE full a cap hf => simp only [elemsOf, Option.some.injEq] at h; subst h; exact .inr (.inr ⟨a, cap, rfl, fun q => absurd rfl q⟩)
  | sl full els' b off cap sz vs hsz hcap hfull hc hv =>
    simp only [elemsOf, Option.some.injEq] at h; subst h
    refine .inr (.inr ⟨_, cap, rfl, fun _ => ⟨b, off, rfl, fun k c hk => ?_⟩⟩)
    obtain ⟨i, j, e, h1, h2, rfl⟩ := flatten_get hsz hk
    exact ⟨_, (hc i e j c h1 h2).2, hv i e j c h1 h2⟩
  | ms sz b ver off len full cb sh cap n e hm hs hr' hcap hfull =>
    simp only [elemsOf] at h
    split at h
    · rename_i cs hg
      split at h
      · injection h with h; subst h
        refine .inr (.inr ⟨_, cap, by rw [chunk_length], fun _ => ⟨cb, sh + off, rfl, ?_⟩⟩)
        rw [chunk_flatten]
        exact ((live_cell hw hg hm).drop off).take _
      · cases h
    · cases h
  | str s => exact .inl ⟨s, rfl⟩
  | _ => cases h

theorem mapO_bytes : ∀ {els : List (List V)} {bs : List UInt8}, mapO byteOfV els = some bs → els = bs.map fun c => [.int .u8 (c.toNat : Int)]
  | [], bs, h => by simp [mapO] at h; subst h; rfl
  | e :: r, bs, h => by
    simp only [mapO] at h
    split at h
    · rename_i b hb
      split at h
      · rename_i bs' hr
        injection h with h; subst h
        have := mapO_bytes hr
        subst this
        simp only [List.map_cons, List.cons.injEq, and_true]
        unfold byteOfV at hb
        split at hb
        · rename_i n
          split at hb
          · rename_i hn
            injection hb with hb; subst hb
            have : ((UInt8.ofNat n.toNat).toNat : Int) = n := by
              rw [UInt8.toNat_ofNat']
              omega
            rw [this]
          · cases hb
        · cases hb
      · cases h
    · cases h

theorem foldl_push (bs : List UInt8) : ∀ acc : List UInt8, (bs.map fun c => (c.toNat : Int)).foldl (fun (r : ByteArray) n => r.push (UInt8.ofNat n.toNat)) ⟨acc.toArray⟩ = ⟨(acc ++ bs).toArray⟩ := by
  induction bs with
  | nil => intro acc; simp
  | cons c r ih =>
    intro acc
    simp only [List.map_cons, List.foldl_cons]
    have : (ByteArray.mk acc.toArray).push (UInt8.ofNat ((c.toNat : Int)).toNat) = ⟨(acc ++ [c]).toArray⟩ := by
      simp [ByteArray.push]
    rw [this, ih (acc ++ [c])]
    simp

theorem flatten_single {α β : Type} (f : α → β) (l : List α) : (l.map fun c => [f c]).flatten = l.map f := by
  induction l <;> simp_all

theorem bytesToString_sound (hw : WR E w F μ H) {v : V} {cv : Value} {els : List (List V)} {bs : List UInt8} (h : elemsOf H v = some els) (hb : mapO byteOfV els = some bs) (hns : ∀ s, v ≠ .str s) (hr : VR w F μ v cv) :
    (Conv.bytesToString cv).run P w = .ok (.string ⟨bs.toArray⟩) w := by
  have he := mapO_bytes hb
  rcases elems_sound hw h hr with ⟨s, hs⟩ | ⟨rfl, he0⟩ | ⟨a, cap, rfl, hx⟩
  · exact absurd hs (hns s)
  · have : bs = [] := by rw [he0] at he; cases bs <;> simp at he ⊢
    subst this; rfl
  · have hlen : els.length = bs.length := by rw [he]; simp
    rw [hlen]
    by_cases hn : els = []
    · have : bs = [] := by rw [hn] at he; cases bs <;> simp at he ⊢
      subst this
      exact run_bytesToString w a 0 cap [] rfl
    · obtain ⟨b, off, rfl, hat⟩ := hx hn
      have hfl : els.flatten = bs.map fun c => V.int .u8 (c.toNat : Int) := by rw [he, flatten_single]
      rw [hfl] at hat
      have hload : (loadCells ⟨b, off, none⟩ bs.length).run P w = .ok ((bs.map fun c => (c.toNat : Int)).map (Value.int .u8)).toArray w := by
        have := run_loadCells_list (P := P) w ⟨b, off, none⟩ ((bs.map fun c => (c.toNat : Int)).map (Value.int .u8)) (fun j v hj => by
          rw [add_eq]
          simp only [List.map_map, List.getElem?_map, Option.map_eq_some_iff] at hj
          obtain ⟨c, hc, rfl⟩ := hj
          obtain ⟨cv, h1, h2⟩ := hat j (.int .u8 (c.toNat : Int)) (by simp [hc])
          cases h2
          exact h1)
        simpa using this
      rw [run_bytesToString w _ _ cap _ hload]
      have := foldl_push bs []
      simp only [List.nil_append] at this
      rw [show ByteArray.empty = ByteArray.mk ([] : List UInt8).toArray from rfl, this]

theorem rho_sound (hw : WR E w F μ H) {a : Act} {ts : List V} (ht : VRa w F μ ts a.tmps) {x : Operand} {u : V} (h : rho E ts x = some u) : VR w F μ u (a.eval x) := by
  cases x with
  | tmp t =>
    simp only [rho, Option.some.injEq] at h; subst h
    simp only [Act.eval]
    rw [List.getD_eq_getElem?_getD]
    cases hx : ts[t]? with
    | some v => exact ht.2 t v hx
    | none =>
      have : a.tmps.size ≤ t := by rw [ht.1]; exact List.getElem?_eq_none_iff.1 hx
      have e : a.tmps.getD t undef = undef := by simp [Array.getD, Nat.not_lt.2 this]
      rw [e]; exact .undef
  | const v => exact VR_ofVal h
  | global g =>
    simp only [rho] at h
    cases hg : E.glob g with
    | none => rw [hg] at h; cases h
    | some cells => rw [hg] at h; injection h with h; subst h; exact (hw.glob g cells hg).mono (fun _ h => ⟨h, rfl⟩) (fun _ _ _ h => by cases h) (fun _ _ _ h => h)
  | func f =>
    simp only [rho, Option.some.injEq] at h; subst h
    exact .fn f [] [] #[] #[] rfl rfl (fun i x h => by simp at h) (fun i x h => by simp at h)

theorem rhoL_sound (hw : WR E w F μ H) {a : Act} {ts : List V} (ht : VRa w F μ ts a.tmps) : ∀ {xs : List Operand} {us : List V}, mapO (rho E ts) xs = some us → VRs w F μ us (xs.map a.eval)
  | [], us, h => by simp [mapO] at h; subst h; exact .nil
  | x :: r, us, h => by
    simp only [mapO] at h
    split at h
    · rename_i b hb
      split at h
      · rename_i bs hbs
        injection h with h; subst h
        exact .cons (rho_sound hw ht hb) (rhoL_sound hw ht hbs)
      · cases h
    · cases h

theorem rhoA_sound (hw : WR E w F μ H) {a : Act} {ts : List V} (ht : VRa w F μ ts a.tmps) {xs : Array Operand} {us : List V} (h : mapO (rho E ts) xs.toList = some us) : VRa w F μ us (xs.map a.eval) := by
  apply VRa_of_list
  rw [Array.toList_map]
  exact rhoL_sound hw ht h

theorem rhoO_sound (hw : WR E w F μ H) {a : Act} {ts : List V} (ht : VRa w F μ ts a.tmps) {x : Option Operand} {u : Option V} (h : optO (rho E ts) x = some u) : VRo w F μ u (x.map a.eval) := by
  cases x with
  | none => simp [optO] at h; subst h; trivial
  | some x =>
    simp only [optO] at h
    split at h
    · rename_i b hb
      injection h with h; subst h
      exact rho_sound hw ht hb
    · cases h

theorem partsO_sound (hw : WR E w F μ H) {a : Act} {ts : List V} (ht : VRa w F μ ts a.tmps) : ∀ {xs : List (Nat × Operand)} {us : List (Nat × V)}, partsO (rho E ts) xs = some us → VRp w F μ us (xs.map fun (i, x) => (i, a.eval x))
  | [], us, h => by simp [partsO] at h; subst h; trivial
  | (i, x) :: r, us, h => by
    simp only [partsO] at h
    split at h
    · rename_i v l hv hl
      injection h with h; subst h
      exact ⟨rfl, rho_sound hw ht hv, partsO_sound hw ht hl⟩
    · cases h

end Go.Ae

namespace Go.Ae

variable {E : Env} {w : World} {F : Nat → Prop} {μ : Nat → Nat → Option (Nat × Nat)} {H : Heap}

theorem VR.fnA {f : FuncId} {a c : List V} {av cv : Array Value} (ha : VRa w F μ a av) (hc : VRa w F μ c cv) : VR w F μ (.fn f a c) (.func (.func f) av cv) :=
  .fn f a c av cv ha.1 hc.1 ha.2 hc.2

theorem conv_int {P : Program} {src dst : TypeId} {k : IntKind} {n : Int} {u : V} (h : convV P src dst (.int k n) = some u) :
    ∃ cv, (convert src dst (.int k n)).run P w = .ok cv w ∧ VR w F μ u cv := by
  unfold convV at h
  split at h
  · rename_i i k' _ _ _ _ m hs hd hx
    injection hx with hx1 hx2; subst hx1; subst hx2
    injection h with h; subst h
    refine ⟨_, ?_, .int _ _⟩
    simp [convert, run_underlying (tinf_und hs), run_underlying (tinf_und hd), Conv.intToInt]
  · rename_i hx; cases hx
  · rename_i hx; cases hx
  · rename_i hx; cases hx
  · cases h

theorem cellsOf_tinf {P : Program} {t : TypeId} {i : TI} (h : tinf P t = some i) : P.cellsOf t = i.size := by
  obtain ⟨info, z, h1, _, h2, _⟩ := tinf_spec h
  simp [Program.cellsOf, h1, h2]

/-- At its start a variable lies as what it is. -/
theorem lies_self {P : Program} {t : TypeId} (hpos : 0 < P.cellsOf t) {count : Nat} (hc : 1 ≤ count) : liesAt P P.depth t count 0 t 1 = true := by
  have hd : P.depth = (2 * (P.types.size + Made.depth) + 1) + 1 := rfl
  have hne : P.cellsOf t ≠ 0 := by omega
  rw [hd]
  simp only [liesAt, Bool.or_eq_true]
  left
  rw [hd]
  simp [rowAt, hne, hc, sameLayout]

theorem conv_tp {P : Program} {src dst : TypeId} {t m b ver : Nat} {u : V} {cv : Value} (h : convV P src dst (.tp t m b ver) = some u) (hr : VR w F μ (.tp t m b ver) cv) :
    ∃ cu, (convert src dst cv).run P w = .ok cu w ∧ VR w F μ u cu := by
  unfold convV at h
  split at h
  · rename_i hx; cases hx
  · rename_i hx; cases hx
  · rename_i e _ _ _ _ _ _ _ _ _ _ hs hd hx
    injection hx with q1 q2 q3 q4; subst q1; subst q2; subst q3; subst q4
    split at h
    · rename_i i hi
      split at h
      · rename_i hq
        injection h with h; subst h
        have hr' := hr
        cases hr with
        | tp _ _ _ _ cb n hm hsh hn =>
          obtain ⟨info, _, hinf, _, hsz, _⟩ := tinf_spec hi
          exact ⟨_, Lib.run_to_unsafe (P := P) (w := w) ⟨cb, 0, none⟩ (tinf_und hs) (tinf_und hd) hinf (by rw [hsz]; exact hq.1) hsh (by show 0 < n; omega), hr'⟩
      · cases h
    · cases h
  · rename_i _ _ _ u' _ _ _ _ _ _ _ hs hd hx
    injection hx with q1 q2 q3 q4; subst q1; subst q2; subst q3; subst q4
    split at h
    · rename_i i hi
      split at h
      · rename_i hq
        obtain ⟨rfl, hq1, hq2⟩ := hq
        injection h with h; subst h
        have hr' := hr
        cases hr with
        | tp _ _ _ _ cb n hm hsh hn =>
          obtain ⟨info, _, hinf, _⟩ := tinf_spec hi
          have hc := cellsOf_tinf hi
          refine ⟨_, Lib.run_from_unsafe (P := P) (w := w) ⟨cb, 0, none⟩ (tinf_und hs) (tinf_und hd) hinf hsh (lies_self (by omega) ?_), hr'⟩
          rw [hc]
          exact Nat.div_pos (by omega) (by omega)
      · cases h
    · cases h
  · cases h

theorem lookup_sound {P : Program} {t : TypeId} {ks : List Int} {vs : List V} {n : Int} {u : V} {cx : Value} (h : lookupV P t ks vs n = some u) (hr : VR w F μ (.im ks vs) cx) :
    ∃ cu, (Instr.lookup t cx (.int .i64 n) true).run P w = .ok cu w ∧ VR w F μ u cu := by
  unfold lookupV at h
  split at h
  · rename_i key elem _ _ _ hi
    have hu := tinf_und hi
    simp only at hu
    split at h
    · rename_i _ _ _ ie hk he
      have hku := tinf_und hk
      simp only at hku
      obtain ⟨zv, hz1, hz2⟩ := run_zero (w := w) (F := F) (μ := μ) he
      cases hr with
      | im _ _ r es c cvs hF hh hf hn hv =>
        have hck0 : ∀ (b : Bool) (d : Nat), (Instr.checkKey b (d + 1) key (.int .i64 n)).run P w = .ok () w := fun b d => by
          simp [Instr.checkKey, run_underlying hku]
        have hck : ∀ b : Bool, (Instr.checkKey b 10000 key (.int .i64 n)).run P w = .ok () w := fun b => hck0 b 9999
        have hgo : (getObj r).run P w = .ok (.map es c) w := MapKept.run_getObj_map hh
        split at h
        · rename_i i hix
          split at h
          · rename_i v hvi
            injection h with h; subst h
            obtain ⟨j, hj⟩ := hf n i hix
            refine ⟨.tuple #[cvs i, .bool true], ?_, VR.tup_iff.2 ⟨_, rfl, VRs.arr (.cons (hv i v hvi) (.cons (.bool _) .nil))⟩⟩
            simp only [Instr.lookup, Sem.run_bind, run_underlying hu, Result.andThen_ok, hgo, Sem.run_pure, hck, Instr.findKey, run_underlying hku, hj, if_true]
          · cases h
        · rename_i hix
          injection h with h; subst h
          have hj := hn n hix
          refine ⟨.tuple #[zv, .bool false], ?_, VR.tup_iff.2 ⟨_, rfl, VRs.arr (.cons hz2 (.cons (.bool _) .nil))⟩⟩
          simp only [Instr.lookup, Sem.run_bind, run_underlying hu, Result.andThen_ok, hgo, Sem.run_pure, hck, Instr.findKey, run_underlying hku, hj, hz1, if_true]
      | imn =>
        have hck0 : ∀ (b : Bool) (d : Nat), (Instr.checkKey b (d + 1) key (.int .i64 n)).run P w = .ok () w := fun b d => by
          simp [Instr.checkKey, run_underlying hku]
        have hck : ∀ b : Bool, (Instr.checkKey b 10000 key (.int .i64 n)).run P w = .ok () w := fun b => hck0 b 9999
        split at h
        · rename_i i hix
          simp [idxI] at hix
        · injection h with h; subst h
          refine ⟨.tuple #[zv, .bool false], ?_, VR.tup_iff.2 ⟨_, rfl, VRs.arr (.cons hz2 (.cons (.bool _) .nil))⟩⟩
          have hj : Instr.findNow (.int .i64) (.int .i64 n) [] 0 = some none := rfl
          simp only [Instr.lookup, Sem.run_bind, run_underlying hu, Result.andThen_ok, Sem.run_pure, hck, Instr.findKey, run_underlying hku, hj, hz1, if_true]
    · cases h
  · cases h

theorem conv_str {P : Program} {src dst : TypeId} {s : List UInt8} {u : V} {sz by_ : Nat} {z : V} (hd : tinf P dst = some ⟨.string, sz, by_, z⟩) (h : convV P src dst (.str s) = some u) :
    ∃ cv, (convert src dst (.string ⟨s.toArray⟩)).run P w = .ok cv w ∧ VR w F μ u cv := by
  unfold convV at h
  rw [hd] at h
  split at h
  · rename_i hx _; injection hx with hx; injection hx with hx; cases hx
  · rename_i i _ _ _ s' hs hx hy
    injection hy with hy; subst hy
    injection h with h; subst h
    refine ⟨_, ?_, .str _⟩
    have hu := tinf_und hd
    simp only at hu
    simp [convert, run_underlying (tinf_und hs), run_underlying hu]
  · rename_i hx; cases hx
  · rename_i hx; cases hx
  · cases h

set_option maxHeartbeats 1000000 in
theorem qop_sound (hw : WR E w F μ H) {a : Act} {ts : List V} (ht : VRa w F μ ts a.tmps) {o : Oper} {v : V} (h : qop E H (rho E ts) o.op = some v) :
    ∃ cv, (execOp a.eval o).run E.P w = .ok (.value cv) w ∧ VR w F μ v cv := by
  have R : ∀ {x : Operand} {u : V}, rho E ts x = some u → VR w F μ u (a.eval x) := fun h => rho_sound hw ht h
  have fin : ∀ {s : Sem Value} {u : V}, (∃ cv, s.run E.P w = .ok cv w ∧ VR w F μ u cv) → ∃ cv, (do Pure.pure (Next.value (← s)) : Sem Next).run E.P w = .ok (.value cv) w ∧ VR w F μ u cv :=
    fun ⟨cv, h1, h2⟩ => ⟨cv, by simp [h1], h2⟩
  obtain ⟨dst, op, type, pos, after, guard⟩ := o
  simp only at h
  cases op with
  | move x => exact ⟨_, by simp [execOp], R h⟩
  | assign x => exact ⟨_, by simp [execOp], R h⟩
  | pick c x y =>
    simp only [qop] at h
    split at h
    · rename_i hc
      have := R hc
      cases hcv : a.eval c <;> rw [hcv] at this <;> cases this
      exact ⟨_, by simp [execOp, hcv, asBool], R h⟩
    · rename_i hc
      have := R hc
      cases hcv : a.eval c <;> rw [hcv] at this <;> cases this
      exact ⟨_, by simp [execOp, hcv, asBool], R h⟩
    · cases h
  | load t x =>
    simp only [qop] at h
    split at h
    · rename_i i u hi hx
      split at h
      · rename_i cs hb
        obtain ⟨b, off, h1, h2⟩ := behind_sound hw hb (R hx)
        refine fin ?_
        rw [h1]
        obtain ⟨cv, h3, h4⟩ := loadCs_sound hi h2 h
        exact ⟨cv, by simpa [Instr.loadAt, Instr.sureAddr] using h3, h4⟩
      · cases h
    · cases h
  | nilCheck x =>
    simp only [qop] at h
    split at h
    · rename_i cs hx
      have hr := R hx
      injection h with h; subst h
      cases hcv : a.eval x <;> rw [hcv] at hr <;> cases hr
      refine ⟨_, by simp [execOp, hcv]; rfl, ?_⟩
      have := R hx; rw [hcv] at this; exact this
    · rename_i b ver off hx
      have hr := R hx
      injection h with h; subst h
      cases hcv : a.eval x <;> rw [hcv] at hr <;> cases hr
      refine ⟨_, by simp [execOp, hcv]; rfl, ?_⟩
      have := R hx; rw [hcv] at this; exact this
    · rename_i t m b ver hx
      have hr := R hx
      injection h with h; subst h
      cases hcv : a.eval x <;> rw [hcv] at hr <;> cases hr
      refine ⟨_, by simp [execOp, hcv]; rfl, ?_⟩
      have := R hx; rw [hcv] at this; exact this
    · rename_i f aa cc hx
      have hr := R hx
      injection h with h; subst h
      cases hcv : a.eval x <;> rw [hcv] at hr <;> cases hr
      refine ⟨_, by simp [execOp, hcv]; rfl, ?_⟩
      have := R hx; rw [hcv] at this; exact this
    · cases h
  | binOp op t x y yt =>
    simp only [qop] at h
    split at h
    · rename_i u1 u2 h1 h2
      exact fin (bin_sound h (R h1) (R h2))
    · cases h
  | unOp op t x =>
    simp only [qop] at h
    split at h
    · rename_i u hx
      exact fin (unV_sound h (R hx))
    · cases h
  | convert src dst x =>
    simp only [qop] at h
    split at h
    · rename_i k n hx
      have hr := R hx
      refine fin ?_
      cases hcv : a.eval x <;> rw [hcv] at hr <;> cases hr
      exact conv_int h
    · rename_i t m b ver hx
      exact fin (conv_tp h (R hx))
    · rename_i s hx
      have hr := R hx
      split at h
      · rename_i hd
        refine fin ?_
        cases hcv : a.eval x <;> rw [hcv] at hr <;> cases hr
        exact conv_str hd h
      · cases h
    · rename_i u hn1 hn2 hx
      split at h
      · rename_i e _ _ _ _ _ _ hs hd
        split at h
        · rename_i els he hel
          cases hb : mapO byteOfV els with
          | none => rw [hb] at h; cases h
          | some bs =>
            rw [hb] at h; injection h with h; subst h
            refine fin ⟨_, ?_, .str _⟩
            have hr := R hx
            have hbs := bytesToString_sound (P := E.P) hw hel hb (fun s q => hn2 s q) hr
            have us := tinf_und hs
            have ud := tinf_und hd
            have ue := tinf_und he
            simp only at us ud ue
            rcases elems_sound hw hel hr with ⟨s, q⟩ | ⟨q, _⟩ | ⟨ad, cap, q, _⟩
            · exact (hn2 s q).elim
            · rw [q] at hbs ⊢
              rw [run_convert_bytes_string w src dst e none 0 0 us ue ud]; exact hbs
            · rw [q] at hbs ⊢
              rw [run_convert_bytes_string w src dst e _ _ _ us ue ud]; exact hbs
        · cases h
      · cases h
    · cases h
  | makeInterface t x =>
    simp only [qop] at h
    split at h
    · rename_i i u hi hx
      split at h
      · cases h
      · rename_i hif
        injection h with h; subst h
        refine fin ⟨_, ?_, .ifc t u _ (R hx)⟩
        have hu := tinf_und hi
        simp only [Instr.makeInterface, Sem.run_bind, run_underlying hu, Result.andThen_ok]
        unfold TI.isIf at hif
        cases hd : i.desc <;> first | rfl | (simp [hd] at hif)
    · cases h
  | makeFunc fn first captured =>
    cases fn with
    | func f =>
      simp only [qop] at h
      split at h
      · rename_i aa cc h1 h2
        injection h with h; subst h
        exact ⟨_, by simp [execOp, Instr.makeFunc], .fnA (rhoA_sound hw ht h1) (rhoA_sound hw ht h2)⟩
      · cases h
    | _ => simp [qop] at h
  | slice t x lo hi mx =>
    simp only [qop] at h
    split at h
    · rename_i u l hh m h1 h2 h3 h4
      exact fin (slice_sound hw h (R h1) (rhoO_sound hw ht h2) (rhoO_sound hw ht h3) (rhoO_sound hw ht h4))
    · cases h
  | fieldAddr s x f =>
    simp only [qop] at h
    split at h
    · rename_i u fd hx hf
      split at h
      · rename_i n hs
        exact fin (fieldAddr_sound hf hs h (R hx))
      · cases h
    · cases h
  | field s x f =>
    simp only [qop] at h
    split at h
    · rename_i cs fd hx hf
      exact fin (field_sound hf h (R hx))
    · cases h
  | indexAddr t x i =>
    simp only [qop] at h
    split at h
    · rename_i u k n hx hi
      have hr := R hi
      refine fin ?_
      cases hcv : a.eval i <;> rw [hcv] at hr <;> cases hr
      exact indexAddr_sound h (R hx)
    · cases h
  | index t x i =>
    simp only [qop] at h
    split at h
    · rename_i u k n hx hi
      have hr := R hi
      refine fin ?_
      cases hcv : a.eval i <;> rw [hcv] at hr <;> cases hr
      exact index_sound h (R hx)
    · cases h
  | typeAssert x xt t ok =>
    simp only [qop] at h
    split at h
    · rename_i u hx
      exact fin (typeAssert_sound h (R hx))
    · cases h
  | extract x i =>
    simp only [qop] at h
    split at h
    · rename_i vs hx
      have hr := R hx
      refine fin ?_
      obtain ⟨arr, q, h3⟩ := VR.tup_iff.1 hr
      rw [q]
      obtain ⟨cv, h4, h5⟩ := h3.get h
      exact ⟨cv, by simp [Instr.extract, h4], h5⟩
    · cases h
  | build t parts =>
    simp only [qop] at h
    split at h
    · rename_i l hl
      refine fin (build_sound h ?_)
      have := partsO_sound hw ht hl
      simpa using this
    · cases h
  | lookup t x i ok =>
    simp only [qop] at h
    split at h
    · rename_i ks vs n hx hi
      split at h
      · rename_i hok
        subst hok
        have hr := R hi
        refine fin ?_
        cases hcv : a.eval i <;> rw [hcv] at hr <;> cases hr
        exact lookup_sound h (R hx)
      · cases h
    · cases h
  | call c =>
    obtain ⟨callee, args, argTypes⟩ := c
    simp only [qop] at h
    split at h
    · rename_i b
      split at h
      · rename_i us hus
        have hr := rhoA_sound hw ht hus
        unfold qBuiltin at h
        split at h
        · rename_i x
          split at h
          · rename_i t hat
            cases hl : lenV E.P t x with
            | none => rw [hl] at h; cases h
            | some n =>
              rw [hl] at h; injection h with h; subst h
              refine ⟨.int .i64 n, ?_, .int _ _⟩
              obtain ⟨c0, cr, hcr, hv, hrest⟩ := hr.list.head
              have h0 : (args.map a.eval)[0]? = some c0 := by
                rw [← Array.getElem?_toList, hcr]; rfl
              have := len_sound (P := E.P) (ty := type) hat h0 hl hv
              simp [execOp, resolve, invoke, builtin, this]
          · cases h
        · injection h with h; subst h
          obtain ⟨c0, cr, hcr, hv, hrest⟩ := hr.list.head
          have hcr0 := hrest.none
          subst hcr0
          cases hv
          have hargs : args.map a.eval = #[.slice none 0 0] := by apply Array.ext'; rw [hcr]
          have hq := Lib.run_unsafeSliceData_nil (P := E.P) w argTypes type 0 0
          exact ⟨.pointer none, by simp [execOp, resolve, invoke, builtin, hargs, hq], .np⟩
        · rename_i t b ver len
          split at h
          · rename_i hlen
            injection h with h; subst h
            obtain ⟨c0, cr, hcr, hv, hrest⟩ := hr.list.head
            have hcr0 := hrest.none
            subst hcr0
            cases hv with
            | mt _ _ _ _ cb cap n hm hs hr' hcap =>
              have hargs : args.map a.eval = #[.slice (some ⟨cb, 0, none⟩) len cap] := by apply Array.ext'; rw [hcr]
              have hq := Lib.run_unsafeSliceData_row (P := E.P) w argTypes type ⟨cb, 0, none⟩ len cap (by omega)
              exact ⟨.pointer (some ⟨cb, 0, none⟩), by simp [execOp, resolve, invoke, builtin, hargs, hq], .tp _ _ _ _ cb n hm hs (by omega)⟩
          · cases h
        · rename_i x r
          obtain ⟨c0, cr, hcr, hv, hrest⟩ := hr.list.head
          have key : ∃ cv, (cr.foldlM Builtin.max2 c0).run E.P w = .ok cv w ∧ VR w F μ v cv := by
            cases x <;> first
              | (cases hv; exact foldMax_sound h hrest)
              | (cases r <;> first | (simp only [foldMM, Option.some.injEq] at h; subst h; rw [hrest.none]; exact ⟨_, rfl, hv⟩) | (simp [foldMM] at h; done))
          obtain ⟨cv, h1, h2⟩ := key
          refine ⟨cv, ?_, h2⟩
          simp only [execOp, resolve, invoke, builtin, Builtin.max_, hcr, Sem.run_bind, Sem.run_pure, Result.andThen_ok, h1]
        · rename_i x r
          obtain ⟨c0, cr, hcr, hv, hrest⟩ := hr.list.head
          have key : ∃ cv, (cr.foldlM Builtin.min2 c0).run E.P w = .ok cv w ∧ VR w F μ v cv := by
            cases x <;> first
              | (cases hv; exact foldMin_sound h hrest)
              | (cases r <;> first | (simp only [foldMM, Option.some.injEq] at h; subst h; rw [hrest.none]; exact ⟨_, rfl, hv⟩) | (simp [foldMM] at h; done))
          obtain ⟨cv, h1, h2⟩ := key
          refine ⟨cv, ?_, h2⟩
          simp only [execOp, resolve, invoke, builtin, Builtin.min_, hcr, Sem.run_bind, Sem.run_pure, Result.andThen_ok, h1]
        · cases h
      · cases h
    · cases h
  | _ => simp [qop] at h

end Go.Ae
