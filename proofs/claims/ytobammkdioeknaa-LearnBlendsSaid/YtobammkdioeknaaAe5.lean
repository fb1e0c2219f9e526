/-
  The evaluator's operations over what is known, one law for each.
-/
import Derived.Test.YtobammkdioeknaaAe4
import Derived.SizedLaws
import Derived.ChangeSlices
set_option linter.unusedVariables false
set_option linter.unusedSimpArgs false
namespace Go.Ae

variable {E : Env} {cl : Call} {f : FuncId} {n : Nat} {ops : Array Oper} {rest : List Oper} {al : AL} {H H' : Heap} {d : Option Tmp} {ty : TypeId} {pos : String} {af : Array Edge} {a : Nat}

def nextA (E : Env) (cl : Call) (f : FuncId) (n : Nat) (ops : Array Oper) (rest : List Oper) (d : Option Tmp) (al : AL) : Option (V × Heap) → Option (AL × Heap)
  | some (v, H') => match putA n al d v with
    | some al' => opsA E cl f n ops rest al' H'
    | none => none
  | none => none

def nextD (E : Env) (cl : Call) (f : FuncId) (n : Nat) (ops : Array Oper) (a : Nat) (rest : List Oper) (d : Option Tmp) (al : AL) : Option (V × Heap) → Option (AL × Heap)
  | some (v, H') => match putA n al d v with
    | some al' => drawA E cl f n ops a rest al' H'
    | none => none
  | none => none

def stepO (E : Env) (cl : Call) (f : FuncId) (d : Option Tmp) (op : Op) (al : AL) (H : Heap) : Option (V × Heap) := stepR E cl f ⟨d, op, 0, "", #[], none⟩ (rhoA E al) H
def stepP (E : Env) (cl : Call) (f : FuncId) (a : Nat) (d : Option Tmp) (op : Op) (al : AL) (H : Heap) : Option (V × Heap) := stepDR E cl f a ⟨d, op, 0, "", #[], none⟩ (rhoA E al) H

theorem opsA_nil : opsA E cl f n ops [] al H = some (al, H) := rfl
theorem opsA_plain {op : Op} : opsA E cl f n ops (⟨d, op, ty, pos, af, none⟩ :: rest) al H = nextA E cl f n ops rest d al (stepO E cl f d op al H) := by
  simp only [opsA, wantedA, nextA, stepO, stepR]
  rfl

def guardA (E : Env) (cl : Call) (f : FuncId) (n : Nat) (ops : Array Oper) (rest : List Oper) (d : Option Tmp) (op : Op) (al : AL) (H : Heap) (want : Bool) : Option V → Option (AL × Heap)
  | some (.bool b) => if b = want then nextA E cl f n ops rest d al (stepO E cl f d op al H) else nextA E cl f n ops rest d al (some (undefV, H))
  | some _ => nextA E cl f n ops rest d al (some (undefV, H))
  | none => none

/-- Where an operation's result lies. -/
def gdst : List Oper → Nat → Option Tmp
  | [], _ => none
  | o :: _, 0 => o.dst
  | _ :: r, j + 1 => gdst r j

theorem gdst_eq : ∀ (l : List Oper) (j : Nat), gdst l j = (l[j]?).bind (·.dst)
  | [], j => by simp [gdst]
  | o :: r, 0 => by simp [gdst]
  | o :: r, j + 1 => by simp [gdst, gdst_eq r j]

theorem gdst_zero {o : Oper} {r : List Oper} : gdst (o :: r) 0 = o.dst := rfl
theorem gdst_succ {o : Oper} {r : List Oper} {j : Nat} : gdst (o :: r) (j + 1) = gdst r j := rfl

theorem opsA_guard {op : Op} {j : Nat} {want : Bool} : opsA E cl f n ops (⟨d, op, ty, pos, af, some (j, want)⟩ :: rest) al H = match gdst ops.toList j with
    | some t => guardA E cl f n ops rest d op al H want (look al t)
    | none => nextA E cl f n ops rest d al (some (undefV, H)) := by
  have hg : gdst ops.toList j = (ops[j]?).bind (·.dst) := by rw [gdst_eq]; simp
  simp only [opsA, wantedA, hg]
  cases hd : (ops[j]?).bind (·.dst) with
  | none => simp only [nextA]; cases putA n al d undefV <;> rfl
  | some t =>
    simp only
    cases hl : look al t with
    | none => rfl
    | some v =>
      cases v with
      | bool b => cases b <;> cases want <;> rfl
      | _ => rfl

theorem guardA_bool {op : Op} {want b : Bool} : guardA E cl f n ops rest d op al H want (some (.bool b)) = if b = want then nextA E cl f n ops rest d al (stepO E cl f d op al H) else nextA E cl f n ops rest d al (some (undefV, H)) := rfl

theorem nextA_some {t : Tmp} {v : V} : nextA E cl f n ops rest (some t) al (some (v, H)) = if t < n then opsA E cl f n ops rest ((t, v) :: al) H else none := by
  simp only [nextA, putA]
  by_cases h : t < n
  · rw [if_pos h, if_pos h]
  · rw [if_neg h, if_neg h]
theorem nextA_none {v : V} : nextA E cl f n ops rest none al (some (v, H)) = opsA E cl f n ops rest al H := rfl

theorem drawA_nil : drawA E cl f n ops a [] al H = some (al, H) := rfl
theorem drawA_plain {op : Op} : drawA E cl f n ops a (⟨d, op, ty, pos, af, none⟩ :: rest) al H = nextD E cl f n ops (if isAlloc ⟨d, op, ty, pos, af, none⟩ then a + 1 else a) rest d al (stepP E cl f a d op al H) := by
  simp only [drawA, wantedA, nextD, stepP, stepDR]
  rfl

def guardD (E : Env) (cl : Call) (f : FuncId) (n : Nat) (ops : Array Oper) (a a' : Nat) (rest : List Oper) (d : Option Tmp) (op : Op) (al : AL) (H : Heap) (want : Bool) : Option V → Option (AL × Heap)
  | some (.bool b) => if b = want then nextD E cl f n ops a' rest d al (stepP E cl f a d op al H) else nextD E cl f n ops a' rest d al (some (undefV, H))
  | some _ => nextD E cl f n ops a' rest d al (some (undefV, H))
  | none => none

theorem drawA_guard {op : Op} {j : Nat} {want : Bool} : drawA E cl f n ops a (⟨d, op, ty, pos, af, some (j, want)⟩ :: rest) al H = match gdst ops.toList j with
    | some t => guardD E cl f n ops a (if isAlloc ⟨d, op, ty, pos, af, some (j, want)⟩ then a + 1 else a) rest d op al H want (look al t)
    | none => nextD E cl f n ops (if isAlloc ⟨d, op, ty, pos, af, some (j, want)⟩ then a + 1 else a) rest d al (some (undefV, H)) := by
  have hg : gdst ops.toList j = (ops[j]?).bind (·.dst) := by rw [gdst_eq]; simp
  simp only [drawA, wantedA, hg]
  cases hd : (ops[j]?).bind (·.dst) with
  | none => simp only [nextD]; cases putA n al d undefV <;> rfl
  | some t =>
    simp only
    cases hl : look al t with
    | none => rfl
    | some v =>
      cases v with
      | bool b => cases b <;> cases want <;> rfl
      | _ => rfl

theorem guardD_bool {op : Op} {want b : Bool} {a' : Nat} : guardD E cl f n ops a a' rest d op al H want (some (.bool b)) = if b = want then nextD E cl f n ops a' rest d al (stepP E cl f a d op al H) else nextD E cl f n ops a' rest d al (some (undefV, H)) := rfl

theorem nextD_some {t : Tmp} {v : V} : nextD E cl f n ops a rest (some t) al (some (v, H)) = if t < n then drawA E cl f n ops a rest ((t, v) :: al) H else none := by
  simp only [nextD, putA]
  by_cases h : t < n
  · rw [if_pos h, if_pos h]
  · rw [if_neg h, if_neg h]
theorem nextD_none {v : V} : nextD E cl f n ops a rest none al (some (v, H)) = drawA E cl f n ops a rest al H := rfl

/-! One law for each operation. -/

theorem so_move {x : Operand} : stepO E cl f d (.move x) al H = (rhoA E al x).map fun v => (v, H) := rfl
theorem so_assign {x : Operand} : stepO E cl f d (.assign x) al H = (rhoA E al x).map fun v => (v, H) := rfl
theorem so_pick {c x y : Operand} : stepO E cl f d (.pick c x y) al H = (match rhoA E al c with
    | some (.bool true) => rhoA E al x
    | some (.bool false) => rhoA E al y
    | _ => none).map fun v => (v, H) := rfl
theorem so_load {t : TypeId} {x : Operand} : stepO E cl f d (.load t x) al H = (match tinf E.P t, rhoA E al x with
    | some i, some v => match behind H v with
      | some cs => loadCs i cs
      | none => none
    | _, _ => none).map fun v => (v, H) := rfl
theorem so_binOp {op : BinOp} {t u : TypeId} {x y : Operand} : stepO E cl f d (.binOp op t x y u) al H = (match rhoA E al x, rhoA E al y with
    | some a, some b => binV E.P op t a b
    | _, _ => none).map fun v => (v, H) := rfl
theorem so_unOp {op : UnOp} {t : TypeId} {x : Operand} : stepO E cl f d (.unOp op t x) al H = (match rhoA E al x with
    | some a => unV op a
    | none => none).map fun v => (v, H) := rfl
theorem so_nilCheck {x : Operand} : stepO E cl f d (.nilCheck x) al H = (qop E H (rhoA E al) (.nilCheck x)).map fun v => (v, H) := rfl
theorem so_fieldAddr {s : TypeId} {x : Operand} {k : Nat} : stepO E cl f d (.fieldAddr s x k) al H = (qop E H (rhoA E al) (.fieldAddr s x k)).map fun v => (v, H) := rfl
theorem so_field {s : TypeId} {x : Operand} {k : Nat} : stepO E cl f d (.field s x k) al H = (match rhoA E al x, fieldOf E.P s k with
    | some (.agg cs), some fd => partV E.P fd.type cs fd.offset
    | _, _ => none).map fun v => (v, H) := rfl
theorem so_indexAddr {t : TypeId} {x i : Operand} : stepO E cl f d (.indexAddr t x i) al H = (match rhoA E al x, rhoA E al i with
    | some v, some (.int _ n) => indexAddrV E.P t v n
    | _, _ => none).map fun v => (v, H) := rfl
theorem so_index {t : TypeId} {x i : Operand} : stepO E cl f d (.index t x i) al H = (match rhoA E al x, rhoA E al i with
    | some v, some (.int _ n) => indexV E.P t v n
    | _, _ => none).map fun v => (v, H) := rfl
theorem so_extract {x : Operand} {i : Nat} : stepO E cl f d (.extract x i) al H = (match rhoA E al x with
    | some (.tup vs) => vs[i]?
    | _ => none).map fun v => (v, H) := rfl
theorem so_slice {t : TypeId} {x : Operand} {lo hi mx : Option Operand} : stepO E cl f d (.slice t x lo hi mx) al H = (match rhoA E al x, optO (rhoA E al) lo, optO (rhoA E al) hi, optO (rhoA E al) mx with
    | some v, some l, some h, some m => sliceV E.P H t v l h m
    | _, _, _, _ => none).map fun v => (v, H) := rfl
theorem so_build {t : TypeId} {parts : Array (Nat × Operand)} : stepO E cl f d (.build t parts) al H = (match partsO (rhoA E al) parts.toList with
    | some l => buildV E.P t l
    | none => none).map fun v => (v, H) := rfl
theorem so_makeFunc {g : FuncId} {x y : Array Operand} : stepO E cl f d (.makeFunc (.func g) x y) al H = (match mapO (rhoA E al) x.toList, mapO (rhoA E al) y.toList with
    | some a, some c => some (V.fn g a c)
    | _, _ => none).map fun v => (v, H) := rfl
theorem so_alloc {e : TypeId} : stepO E cl f d (.alloc e) al H = eop E f d H (rhoA E al) (.alloc e) := rfl
theorem so_box {e : TypeId} {x : Operand} : stepO E cl f d (.box e x) al H = eop E f d H (rhoA E al) (.box e x) := rfl
theorem so_buildSlice {t : TypeId} {len : Nat} {parts : Array (Nat × Operand)} : stepO E cl f d (.buildSlice t len parts) al H = eop E f d H (rhoA E al) (.buildSlice t len parts) := rfl
theorem so_makeSlice {t : TypeId} {x y : Operand} : stepO E cl f d (.makeSlice t x y) al H = eop E f d H (rhoA E al) (.makeSlice t x y) := rfl
theorem so_store {t : TypeId} {x y : Operand} : stepO E cl f d (.store t x y) al H = eop E f d H (rhoA E al) (.store t x y) := rfl
theorem so_append {args : Array Operand} {tys : Array TypeId} : stepO E cl f d (.call ⟨.builtin .append, args, tys⟩) al H = match mapO (rhoA E al) args.toList with
    | some [s, x] => match tys[0]? with
      | some t => match tys[1]? with
        | some u => match tinf E.P u with
          | some ⟨.int _, _, _, _⟩ => none
          | some _ => appendV E.P H t s x
          | none => none
        | none => none
      | none => none
    | _ => none := by
  simp only [stepO, stepR, calleeV, isE, if_true, eop]
  cases mapO (rhoA E al) args.toList with
  | none => rfl
  | some l => match l with
    | [] | [_] | [_, _] | _ :: _ :: _ :: _ => rfl
theorem so_append2 {args : Array Operand} {t u : TypeId} : stepO E cl f d (.call ⟨.builtin .append, args, #[t, u]⟩) al H = match mapO (rhoA E al) args.toList with
    | some [s, x] => match tinf E.P u with
      | some ⟨.int _, _, _, _⟩ => none
      | some _ => appendV E.P H t s x
      | none => none
    | _ => none := by
  rw [so_append]; rfl
theorem so_len {args : Array Operand} {tys : Array TypeId} : stepO E cl f d (.call ⟨.builtin .len, args, tys⟩) al H = (match mapO (rhoA E al) args.toList with
    | some as => qBuiltin E.P .len tys as
    | none => none).map fun v => (v, H) := rfl
theorem so_max {args : Array Operand} {tys : Array TypeId} : stepO E cl f d (.call ⟨.builtin .max, args, tys⟩) al H = (match mapO (rhoA E al) args.toList with
    | some as => qBuiltin E.P .max tys as
    | none => none).map fun v => (v, H) := rfl
theorem so_min {args : Array Operand} {tys : Array TypeId} : stepO E cl f d (.call ⟨.builtin .min, args, tys⟩) al H = (match mapO (rhoA E al) args.toList with
    | some as => qBuiltin E.P .min tys as
    | none => none).map fun v => (v, H) := rfl
theorem so_call {g : Operand} {args : Array Operand} {tys : Array TypeId} : stepO E cl f d (.call ⟨.value g, args, tys⟩) al H = match rhoA E al g, mapO (rhoA E al) args.toList with
    | some (.fn f first cap), some args => cl f (first ++ args ++ cap) H
    | _, _ => none := by
  simp only [stepO, stepR, calleeV]
  cases rhoA E al g with
  | none => rfl
  | some v => cases v <;> cases mapO (rhoA E al) args.toList <;> rfl

theorem mapO_nil {α β : Type} {g : α → Option β} : mapO g [] = some [] := rfl
theorem mapO_cons {α β : Type} {g : α → Option β} {x : α} {r : List α} : mapO g (x :: r) = match g x with
    | some b => match mapO g r with
      | some bs => some (b :: bs)
      | none => none
    | none => none := rfl
theorem partsO_nil {g : Operand → Option V} : partsO g [] = some [] := rfl
theorem partsO_cons {g : Operand → Option V} {i : Nat} {x : Operand} {r : List (Nat × Operand)} : partsO g ((i, x) :: r) = match g x, partsO g r with
    | some v, some l => some ((i, v) :: l)
    | _, _ => none := rfl

theorem ofVal_int {k : IntKind} {i : Int} : ofVal (.int k i) = some (.int k i) := rfl
theorem ofVal_bool {b : Bool} : ofVal (.bool b) = some (.bool b) := rfl
theorem ofVal_nilslice : ofVal (.slice none 0 0) = some .nil := rfl
theorem ofVal_nilfunc : ofVal .nilFunc = some .nf := rfl

section
variable {P : Program} {t : TypeId} {k : IntKind} {x y : Int}
theorem bv_add : binV P .add t (.int k x) (.int k y) = some (.int k (k.wrap (x + y))) := by simp [binV, intOp]
theorem bv_sub : binV P .sub t (.int k x) (.int k y) = some (.int k (k.wrap (x - y))) := by simp [binV, intOp]
theorem bv_mul : binV P .mul t (.int k x) (.int k y) = some (.int k (k.wrap (x * y))) := by simp [binV, intOp]
theorem bv_quo (h : y ≠ 0) : binV P .quo t (.int k x) (.int k y) = some (.int k (k.wrap (x.tdiv y))) := by simp [binV, intOp, h]
theorem bv_rem (h : y ≠ 0) : binV P .rem t (.int k x) (.int k y) = some (.int k (x.tmod y)) := by simp [binV, intOp, h]
theorem bv_eql : binV P .eql t (.int k x) (.int k y) = some (.bool (decide (x = y))) := by
  simp only [binV, intOp, if_true]
  congr 1
theorem bv_neq : binV P .neq t (.int k x) (.int k y) = some (.bool (decide (x ≠ y))) := by
  simp only [binV, intOp, if_true]
  by_cases h : x = y <;> simp [h]
theorem bv_lss : binV P .lss t (.int k x) (.int k y) = some (.bool (decide (x < y))) := by simp [binV, intOp]
theorem bv_leq : binV P .leq t (.int k x) (.int k y) = some (.bool (decide (x ≤ y))) := by simp [binV, intOp]
theorem bv_gtr : binV P .gtr t (.int k x) (.int k y) = some (.bool (decide (x > y))) := by simp [binV, intOp]
theorem bv_geq : binV P .geq t (.int k x) (.int k y) = some (.bool (decide (x ≥ y))) := by simp [binV, intOp]
theorem uv_neg : unV .neg (.int k x) = some (.int k (k.wrap (0 - x))) := rfl
theorem uv_not {b : Bool} : unV .not (.bool b) = some (.bool !b) := rfl
end

theorem wrap64 {x : Int} (h1 : -9223372036854775808 ≤ x) (h2 : x ≤ 9223372036854775807) : IntKind.i64.wrap x = x := by
  simp only [IntKind.wrap, IntKind.bits, IntKind.signed]
  simp
  omega

theorem wrapU {x : Int} (h1 : 0 ≤ x) (h2 : x ≤ 18446744073709551615) : IntKind.u64.wrap x = x := by
  simp only [IntKind.wrap, IntKind.bits, IntKind.signed]
  simp
  omega

/-! The same, in a region that draws its order. -/
theorem sp_move {x : Operand} : stepP E cl f a d (.move x) al H = stepO E cl f d (.move x) al H := rfl
theorem sp_assign {x : Operand} : stepP E cl f a d (.assign x) al H = stepO E cl f d (.assign x) al H := rfl
theorem sp_pick {c x y : Operand} : stepP E cl f a d (.pick c x y) al H = stepO E cl f d (.pick c x y) al H := rfl
theorem sp_load {t : TypeId} {x : Operand} : stepP E cl f a d (.load t x) al H = stepO E cl f d (.load t x) al H := rfl
theorem sp_binOp {op : BinOp} {t u : TypeId} {x y : Operand} : stepP E cl f a d (.binOp op t x y u) al H = stepO E cl f d (.binOp op t x y u) al H := rfl
theorem sp_unOp {op : UnOp} {t : TypeId} {x : Operand} : stepP E cl f a d (.unOp op t x) al H = stepO E cl f d (.unOp op t x) al H := rfl
theorem sp_nilCheck {x : Operand} : stepP E cl f a d (.nilCheck x) al H = stepO E cl f d (.nilCheck x) al H := rfl
theorem sp_fieldAddr {s : TypeId} {x : Operand} {k : Nat} : stepP E cl f a d (.fieldAddr s x k) al H = stepO E cl f d (.fieldAddr s x k) al H := rfl
theorem sp_field {s : TypeId} {x : Operand} {k : Nat} : stepP E cl f a d (.field s x k) al H = stepO E cl f d (.field s x k) al H := rfl
theorem sp_indexAddr {t : TypeId} {x i : Operand} : stepP E cl f a d (.indexAddr t x i) al H = stepO E cl f d (.indexAddr t x i) al H := rfl
theorem sp_index {t : TypeId} {x i : Operand} : stepP E cl f a d (.index t x i) al H = stepO E cl f d (.index t x i) al H := rfl
theorem sp_extract {x : Operand} {i : Nat} : stepP E cl f a d (.extract x i) al H = stepO E cl f d (.extract x i) al H := rfl
theorem sp_slice {t : TypeId} {x : Operand} {lo hi mx : Option Operand} : stepP E cl f a d (.slice t x lo hi mx) al H = stepO E cl f d (.slice t x lo hi mx) al H := rfl
theorem sp_build {t : TypeId} {parts : Array (Nat × Operand)} : stepP E cl f a d (.build t parts) al H = stepO E cl f d (.build t parts) al H := rfl
theorem sp_makeFunc {g : FuncId} {x y : Array Operand} : stepP E cl f a d (.makeFunc (.func g) x y) al H = stepO E cl f d (.makeFunc (.func g) x y) al H := rfl
theorem sp_store {t : TypeId} {x y : Operand} : stepP E cl f a d (.store t x y) al H = stepO E cl f d (.store t x y) al H := rfl
theorem sp_append {args : Array Operand} {tys : Array TypeId} : stepP E cl f a d (.call ⟨.builtin .append, args, tys⟩) al H = stepO E cl f d (.call ⟨.builtin .append, args, tys⟩) al H := rfl
theorem sp_len {args : Array Operand} {tys : Array TypeId} : stepP E cl f a d (.call ⟨.builtin .len, args, tys⟩) al H = stepO E cl f d (.call ⟨.builtin .len, args, tys⟩) al H := rfl
theorem sp_max {args : Array Operand} {tys : Array TypeId} : stepP E cl f a d (.call ⟨.builtin .max, args, tys⟩) al H = stepO E cl f d (.call ⟨.builtin .max, args, tys⟩) al H := rfl
theorem sp_min {args : Array Operand} {tys : Array TypeId} : stepP E cl f a d (.call ⟨.builtin .min, args, tys⟩) al H = stepO E cl f d (.call ⟨.builtin .min, args, tys⟩) al H := rfl
theorem sp_callt {t : Tmp} {args : Array Operand} {tys : Array TypeId} : stepP E cl f a d (.call ⟨.value (.tmp t), args, tys⟩) al H = stepO E cl f d (.call ⟨.value (.tmp t), args, tys⟩) al H := rfl
theorem sp_buildSlice {t : TypeId} {len : Nat} {parts : Array (Nat × Operand)} {k : Tmp} : stepP E cl f a (some k) (.buildSlice t len parts) al H = if E.wr f k then stepO E cl f (some k) (.buildSlice t len parts) al H else (nop E (rhoA E al) (.buildSlice t len parts)).map fun v => (v, H) := by
  simp only [stepP, stepDR, kdOf]
  cases E.wr f k <;> rfl
theorem sp_makeSlice {t : TypeId} {x y : Operand} {k : Tmp} : stepP E cl f a (some k) (.makeSlice t x y) al H = if E.wr f k then stepO E cl f (some k) (.makeSlice t x y) al H else (nop E (rhoA E al) (.makeSlice t x y)).map fun v => (v, H) := by
  simp only [stepP, stepDR, kdOf]
  cases E.wr f k <;> rfl
theorem sp_box {t : TypeId} {x : Operand} {k : Tmp} : stepP E cl f a (some k) (.box t x) al H = if E.wr f k then stepO E cl f (some k) (.box t x) al H else (nop E (rhoA E al) (.box t x)).map fun v => (v, H) := by
  simp only [stepP, stepDR, kdOf]
  cases E.wr f k <;> rfl
theorem sp_callf {g : FuncId} {args : Array Operand} {tys : Array TypeId} : stepP E cl f a d (.call ⟨.value (.func g), args, tys⟩) al H = match mapO (rhoA E al) args.toList with
    | some as => if E.mode g = .mv ∧ V.pureL as = false then none else cl g as H
    | none => none := by
  simp only [stepP, stepDR, kdOf, quietArgs, stepR, calleeV, rhoA]
  cases mapO (rhoA E al) args.toList with
  | none => cases hm : E.mode g <;> simp
  | some as => cases hm : E.mode g <;> cases hp : V.pureL as <;> simp [hm, hp]

theorem eo_box {ρ : Operand → Option V} {e : TypeId} {x : Operand} {k : Tmp} : eop E f (some k) H ρ (.box e x) = match ρ x with
    | some v => if allOne v.cells then (if E.wr f k then some (.mp H.length 0 0, H ++ [newBlk 0 v.cells]) else some (.rp v.cells, H)) else none
    | none => none := by
  simp only [eop]
  cases ρ x <;> rfl
theorem eo_alloc {ρ : Operand → Option V} {e : TypeId} {k : Option Tmp} : eop E f k H ρ (.alloc e) = match tinf E.P e with
    | some i => if allOne i.zero.cells then some (.mp H.length 0 0, H ++ [newBlk 0 i.zero.cells]) else none
    | none => none := rfl
theorem eo_store {ρ : Operand → Option V} {t : TypeId} {x y : Operand} {k : Option Tmp} : eop E f k H ρ (.store t x y) = match tinf E.P t, ρ x, ρ y with
    | some i, some (.mp b ver off), some v => match getW H b ver with
      | some cs => if v.cells.length = i.size ∧ allOne v.cells ∧ off + i.size ≤ cs.length then some (undefV, setBlk H b ver (splice cs off v.cells)) else none
      | none => none
    | _, _, _ => none := rfl
theorem cells_int {k : IntKind} {i : Int} : (V.int k i).cells = [.int k i] := rfl
theorem cells_bool {b : Bool} : (V.bool b).cells = [.bool b] := rfl
theorem cells_fn {g : FuncId} {x y : List V} : (V.fn g x y).cells = [.fn g x y] := rfl
theorem cells_agg {x : List V} : (V.agg x).cells = x := rfl
theorem cells_nf : V.nf.cells = [.nf] := rfl
theorem cells_nil : V.nil.cells = [.nil] := rfl
theorem one_int {k : IntKind} {i : Int} : (V.int k i).one = true := rfl
theorem one_fn {g : FuncId} {x y : List V} : (V.fn g x y).one = true := rfl
theorem one_nf : V.nf.one = true := rfl
theorem one_nil : V.nil.one = true := rfl
theorem allOne_nil : allOne [] = true := rfl
theorem allOne_cons {v : V} {r : List V} : allOne (v :: r) = (v.one && allOne r) := by simp [allOne]

theorem look_nil (t : Nat) : look [] t = none := rfl
theorem optO_none {α β : Type} {g : α → Option β} : optO g none = some none := rfl
theorem optO_some {α β : Type} {g : α → Option β} {x : α} : optO g (some x) = match g x with
    | some b => some (some b)
    | none => none := rfl

theorem guardA_true {op : Op} : guardA E cl f n ops rest d op al H true (some (.bool true)) = nextA E cl f n ops rest d al (stepO E cl f d op al H) := rfl
theorem guardA_false {op : Op} : guardA E cl f n ops rest d op al H false (some (.bool false)) = nextA E cl f n ops rest d al (stepO E cl f d op al H) := rfl
theorem guardA_true' {op : Op} : guardA E cl f n ops rest d op al H false (some (.bool true)) = nextA E cl f n ops rest d al (some (undefV, H)) := rfl
theorem guardA_false' {op : Op} : guardA E cl f n ops rest d op al H true (some (.bool false)) = nextA E cl f n ops rest d al (some (undefV, H)) := rfl
theorem after_guard {op : Op} {want b : Bool} {l : List Nat} {Q : AL → Heap → Prop} (h1 : b = true → After (guardA E cl f n ops rest d op al H want (some (.bool true))) l Q) (h2 : b = false → After (guardA E cl f n ops rest d op al H want (some (.bool false))) l Q) : After (guardA E cl f n ops rest d op al H want (some (.bool b))) l Q := by
  cases b with
  | true => exact h1 rfl
  | false => exact h2 rfl

theorem ql_len {P : Program} {t : TypeId} {x : V} : qBuiltin P .len #[t] [x] = (lenV P t x).map (fun n : Nat => V.int .i64 (n : Int)) := by simp only [qBuiltin]; simp only [List.getElem?_toArray, List.getElem?_cons_zero]; cases lenV P t x <;> simp
theorem behind_rp {cs : List V} : behind H (.rp cs) = some cs := rfl
theorem load_int {k : IntKind} {sz by_ : Nat} {z c : V} {cs : List V} : loadCs ⟨.int k, sz, by_, z⟩ (c :: cs) = some c := rfl
theorem load_slice {k : TypeId} {sz by_ : Nat} {z c : V} {cs : List V} : loadCs ⟨.slice k, sz, by_, z⟩ (c :: cs) = some c := rfl
theorem load_func {a b : Array TypeId} {q : Bool} {sz by_ : Nat} {z c : V} {cs : List V} : loadCs ⟨.func a b q, sz, by_, z⟩ (c :: cs) = some c := rfl

theorem after_guard0 {op : Op} {want b : Bool} {Q : AL → Heap → Prop} (h1 : b = true → After0 (guardA E cl f n ops rest d op al H want (some (.bool true))) Q) (h2 : b = false → After0 (guardA E cl f n ops rest d op al H want (some (.bool false))) Q) : After0 (guardA E cl f n ops rest d op al H want (some (.bool b))) Q := by
  cases b with
  | true => exact h1 rfl
  | false => exact h2 rfl

theorem guardD_true {op : Op} {a' : Nat} : guardD E cl f n ops a a' rest d op al H true (some (.bool true)) = nextD E cl f n ops a' rest d al (stepP E cl f a d op al H) := rfl
theorem guardD_false {op : Op} {a' : Nat} : guardD E cl f n ops a a' rest d op al H false (some (.bool false)) = nextD E cl f n ops a' rest d al (stepP E cl f a d op al H) := rfl
theorem guardD_true' {op : Op} {a' : Nat} : guardD E cl f n ops a a' rest d op al H false (some (.bool true)) = nextD E cl f n ops a' rest d al (some (undefV, H)) := rfl
theorem guardD_false' {op : Op} {a' : Nat} : guardD E cl f n ops a a' rest d op al H true (some (.bool false)) = nextD E cl f n ops a' rest d al (some (undefV, H)) := rfl
theorem after_guardD {op : Op} {want b : Bool} {a' : Nat} {l : List Nat} {Q : AL → Heap → Prop} (h1 : b = true → After (guardD E cl f n ops a a' rest d op al H want (some (.bool true))) l Q) (h2 : b = false → After (guardD E cl f n ops a a' rest d op al H want (some (.bool false))) l Q) : After (guardD E cl f n ops a a' rest d op al H want (some (.bool b))) l Q := by
  cases b with
  | true => exact h1 rfl
  | false => exact h2 rfl

/-- Where a field lies in a struct. -/
def fldOff (P : Program) (s : TypeId) (k : Nat) : Option Nat :=
  match fieldOf P s k with
  | some fd => match sizeT P fd.type with
    | some (_ + 1) => some fd.offset
    | _ => none
  | none => none


theorem so_fieldAddrV {s : TypeId} {x : Operand} {k : Nat} : stepO E cl f d (.fieldAddr s x k) al H = match rhoA E al x, fldOff E.P s k with
    | some v, some o => (goOn v o).map fun v => (v, H)
    | _, _ => none := by
  rw [so_fieldAddr]
  simp only [qop, fldOff]
  cases rhoA E al x with
  | none => rfl
  | some v =>
    cases fieldOf E.P s k with
    | none => rfl
    | some fd =>
      simp only
      cases sizeT E.P fd.type with
      | none => rfl
      | some n => cases n <;> rfl

theorem goOn_rp {cs : List V} {o : Nat} : goOn (.rp cs) o = some (.rp (cs.drop o)) := rfl
theorem goOn_mp {b ver p o : Nat} : goOn (.mp b ver p) o = some (.mp b ver (p + o)) := rfl

theorem so_conv {src dst : TypeId} {x : Operand} {k k' : IntKind} {a b a' b' : Nat} {z z' : V} (h1 : tinf E.P src = some ⟨.int k', a, b, z⟩) (h2 : tinf E.P dst = some ⟨.int k, a', b', z'⟩) :
    stepO E cl f d (.convert src dst x) al H = match rhoA E al x with
      | some (.int _ n) => some (.int k (k.wrap n), H)
      | some v => (qop E H (fun _ => some v) (.convert src dst x)).map fun v => (v, H)
      | none => none := by
  simp only [stepO, stepR, calleeV, isE, h1]
  cases hx : rhoA E al x with
  | none => simp [qop, hx]
  | some v => cases v <;> simp [qop, hx, convV, h1, h2]

theorem load_struct {fs : Array Field} {sz by_ : Nat} {z : V} {cs : List V} : loadCs ⟨.struct fs, sz, by_, z⟩ cs = if sz ≤ cs.length then some (.agg (cs.take sz)) else none := rfl

section
variable {ver b off : Nat} {r : Bool} {cs cs' : List V} {x : Option Blk}
theorem behind_mp : behind H (.mp b ver off) = match getBlk H b ver with
    | some cs => some (cs.drop off)
    | none => none := by
  simp only [behind]
  cases getBlk H b ver <;> rfl
theorem gb_zero : getBlk (newBlk ver cs :: H) 0 ver = some cs := by simp [getBlk, newBlk]
theorem gb_zero' : getBlk (some (ver, r, cs) :: H) 0 ver = some cs := by simp [getBlk]
theorem gb_succ : getBlk (x :: H) (b + 1) ver = getBlk H b ver := by simp [getBlk]
theorem gw_zero : getW (newBlk ver cs :: H) 0 ver = some cs := by simp [getW, newBlk]
theorem gw_zero' : getW (some (ver, false, cs) :: H) 0 ver = some cs := by simp [getW]
theorem gw_succ : getW (x :: H) (b + 1) ver = getW H b ver := by simp [getW]
theorem sb_zero : setBlk (x :: H) 0 ver cs = newBlk ver cs :: H := by simp [setBlk]
theorem sb_succ : setBlk (x :: H) (b + 1) ver cs = x :: setBlk H b ver cs := by simp [setBlk]
end

attribute [simp] behind_mp gb_zero gb_zero' gb_succ gw_zero gw_zero' gw_succ sb_zero sb_succ eo_box eo_alloc eo_store cells_int cells_bool cells_fn cells_agg cells_nf cells_nil one_int one_fn one_nf one_nil allOne_nil allOne_cons sp_move sp_assign sp_pick sp_load sp_binOp sp_unOp sp_nilCheck sp_fieldAddr sp_field sp_indexAddr sp_index sp_extract sp_slice sp_build sp_makeFunc sp_store sp_append sp_len sp_max sp_min sp_callt sp_callf sp_buildSlice sp_makeSlice sp_box isAlloc gdst_zero gdst_succ opsA_plain opsA_guard opsA_nil guardA_true guardA_false guardA_true' guardA_false' nextA_some nextA_none drawA_plain drawA_guard drawA_nil guardD_true guardD_false guardD_true' guardD_false' nextD_some nextD_none so_move so_assign so_pick so_load so_binOp so_unOp so_nilCheck so_fieldAddrV goOn_rp goOn_mp load_struct so_field so_indexAddr so_index so_extract so_slice so_build so_makeFunc so_alloc so_box so_buildSlice so_makeSlice so_store so_append2 so_len so_max so_min so_call mapO_nil mapO_cons partsO_nil partsO_cons optO_none optO_some ofVal_int ofVal_bool ofVal_nilslice ofVal_nilfunc bv_add bv_sub bv_mul bv_quo bv_rem bv_eql bv_neq bv_lss bv_leq bv_gtr bv_geq uv_neg uv_not rhoA_tmp rhoA_const rhoA_func look_cons look_nil ql_len behind_rp load_int load_slice load_func

end Go.Ae

namespace Go.Ae

variable {P : Program} {ty e : TypeId} {H : Heap}

/-- The slice type and its element type, a 64-bit number. -/
structure IntsT (P : Program) (ty e : TypeId) : Prop where
  hs : tinf P ty = some ⟨.slice e, 1, 24, .nil⟩
  he : tinf P e = some ⟨.int .i64, 1, 8, .int .i64 0⟩

def cellsI (xs : List Int) : List V := xs.map fun x => .int .i64 x
def intsI (xs : List Int) : List (List V) := xs.map fun x => [.int .i64 x]

theorem cellsI_len (xs : List Int) : (cellsI xs).length = xs.length := by simp [cellsI]
theorem cellsI_one (xs : List Int) : allOne (cellsI xs) = true := by simp [allOne, cellsI, V.one]
theorem intsI_flat (xs : List Int) : (intsI xs).flatten = cellsI xs := by
  induction xs with
  | nil => rfl
  | cons x r ih => simp only [intsI, List.map_cons, List.flatten_cons] at ih ⊢; rw [ih]; rfl
theorem intsI_all (xs : List Int) : (intsI xs).all (fun c => decide (c.length = 1) && allOne c) = true := by
  simp [intsI, allOne, V.one]
theorem chunk_cells : ∀ (xs : List Int), chunk 1 xs.length (cellsI xs) = intsI xs
  | [] => rfl
  | x :: r => by
    simp only [cellsI, List.map_cons, List.length_cons, chunk]
    have := chunk_cells r
    simp only [cellsI] at this
    simp only [List.take_succ_cons, List.take_zero, List.drop_succ_cons, List.drop_zero, this]
    rfl

theorem getW_blk {b ver : Nat} {cs : List V} (h : getW H b ver = some cs) : getBlk H b ver = some cs := by
  unfold getW at h
  unfold getBlk
  split at h
  · rename_i v cs' hq
    rw [hq]; exact h
  · cases h

theorem getW_lt {b ver : Nat} {cs : List V} (h : getW H b ver = some cs) : b < H.length := by
  unfold getW at h
  split at h
  · rename_i hq
    exact (List.getElem?_eq_some_iff.1 hq).1
  · cases h

theorem getW_append {b ver : Nat} {cs : List V} {r : Heap} (h : getW H b ver = some cs) : getW (H ++ r) b ver = some cs := by
  have hl := getW_lt h
  unfold getW at h ⊢
  rw [List.getElem?_append_left hl]; exact h

theorem getW_new {ver : Nat} {cs : List V} {r : Heap} : getW (H ++ (newBlk ver cs :: r)) H.length ver = some cs := by
  unfold getW newBlk
  rw [List.getElem?_append_right (Nat.le_refl _)]
  simp

theorem getBlk_new {ver : Nat} {cs : List V} {r : Heap} : getBlk (H ++ (newBlk ver cs :: r)) H.length ver = some cs := getW_blk getW_new

theorem getW_set {b ver : Nat} {cs : List V} (hb : b < H.length) : getW (setBlk H b ver cs) b ver = some cs := by
  unfold getW setBlk newBlk
  simp [hb]

theorem getW_set_ne {b b' ver ver' : Nat} {cs : List V} (hb : b ≠ b') : getW (setBlk H b ver cs) b' ver' = getW H b' ver' := by
  unfold getW setBlk newBlk
  rw [List.getElem?_set_ne hb]

theorem getBlk_ro {b ver : Nat} {cs : List V} (h : getBlk H b ver = some cs) : getBlk (roH H) b ver = some cs := by
  unfold getBlk roH at *
  rw [List.getElem?_map]
  cases hq : H[b]? with
  | none => rw [hq] at h; cases h
  | some o =>
    rw [hq] at h
    cases o with
    | none => cases h
    | some t => obtain ⟨v, r, c⟩ := t; simpa using h

theorem setBlk_len {b ver : Nat} {cs : List V} : (setBlk H b ver cs).length = H.length := by simp [setBlk]

/-- A list that functions build: nil, or a block of its own. -/
def Mut (H : Heap) (v : V) (ys : List Int) : Prop := (v = .nil ∧ ys = []) ∨ ∃ b ver, v = .ms 1 b ver 0 ys.length false ∧ getW H b ver = some (cellsI ys) ∧ ys ≠ []

theorem Mut.nil : Mut H .nil [] := .inl ⟨rfl, rfl⟩

/-- append(v, x), the one number's block made. -/
theorem Mut.append (T : IntsT P ty e) {v : V} {ys : List Int} (h : Mut H v ys) (x : Int) (hl : ys.length < 17592186044415) :
    ∃ v' H', appendV P (H ++ [newBlk 1 [.int .i64 x]]) ty v (.ms 1 H.length 1 0 1 true) = some (v', H') ∧ Mut H' v' (ys ++ [x]) := by
  have hx : elemsOf (H ++ [newBlk 1 [.int .i64 x]]) (.ms 1 H.length 1 0 1 true) = some [[.int .i64 x]] := by
    simp only [elemsOf, getBlk_new]
    simp [chunk]
  simp only [appendV, T.hs, T.he, hx]
  rcases h with ⟨rfl, rfl⟩ | ⟨b, ver, rfl, hb, hne⟩
  · refine ⟨_, _, ?_, .inr ⟨(H ++ [newBlk 1 [.int .i64 x]]).length, 1, rfl, getW_new (r := []), by simp⟩⟩
    simp [room, V.cells, V.one, allOne, cellsI]
  · have hlt := getW_lt hb
    have hb' : getW (H ++ [newBlk 1 [.int .i64 x]]) b ver = some (cellsI ys) := getW_append hb
    refine ⟨.ms 1 b (ver + 1) 0 (ys.length + 1) false, setBlk (H ++ [newBlk 1 [.int .i64 x]]) b (ver + 1) (cellsI ys ++ [.int .i64 x]), ?_, .inr ⟨b, ver + 1, by simp, ?_, by simp⟩⟩
    · simp only [hb']
      have h1 : (ys.length + 1) * 8 ≤ room := by unfold room; omega
      simp [V.cells, V.one, allOne, cellsI_len, h1]
    · rw [getW_set (by simp; omega)]
      simp [cellsI]

/-- The list, made immutable. -/
def IV (ys : List Int) : V := if ys = [] then .nil else .sl false (intsI ys)

theorem frzLL_pure (d : Nat) : ∀ (vs : List (List V)) (H : Heap), V.pureLL vs = true → frzLL (frzV (d + 1)) H vs = some (vs, H)
  | [], _, _ => rfl
  | v :: r, H, h => by
    simp only [V.pureLL, Bool.and_eq_true] at h
    simp only [frzLL, frzList_pure d v H h.1, frzLL_pure d r H h.2]

theorem intsI_pure : ∀ xs : List Int, V.pureLL (intsI xs) = true
  | [] => rfl
  | x :: r => by
    have := intsI_pure r
    simp only [intsI, List.map_cons, V.pureLL, V.pureL, V.pure, Bool.and_true, Bool.true_and] at this ⊢
    exact this

theorem mapO_ints (d : Nat) (xs : List Int) : mapO (mapO (snapV (d + 1) H)) (intsI xs) = some (intsI xs) := by
  induction xs with
  | nil => rfl
  | cons x r ih =>
    simp only [intsI, List.map_cons] at ih ⊢
    have h1 : snapV (d + 1) H (V.int .i64 x) = some (V.int .i64 x) := by unfold snapV; rfl
    simp only [mapO, h1, ih]

theorem frzV_ms (d : Nat) {b ver : Nat} {ys : List Int} {full : Bool} (h : getW H b ver = some (cellsI ys)) : frzV (d + 2) H (.ms 1 b ver 0 ys.length full) = some (.sl full (intsI ys), H.set b none) := by
  have h1 : 0 + ys.length * 1 ≤ (cellsI ys).length ∧ 0 < 1 := ⟨by simp [cellsI_len], Nat.zero_lt_one⟩
  unfold frzV
  simp only [V.pure, Bool.false_eq_true, if_false, h, if_pos h1, List.drop_zero, chunk_cells, frzLL_pure d _ _ (intsI_pure ys)]

theorem snapV_ms (d : Nat) {b ver : Nat} {ys : List Int} {full : Bool} (h : getW H b ver = some (cellsI ys)) : snapV (d + 2) H (.ms 1 b ver 0 ys.length full) = some (.sl full (intsI ys)) := by
  have h1 : 0 + ys.length * 1 ≤ (cellsI ys).length ∧ 0 < 1 := ⟨by simp [cellsI_len], Nat.zero_lt_one⟩
  unfold snapV
  simp only [V.pure, Bool.false_eq_true, if_false, getW_blk h, if_pos h1, List.drop_zero, chunk_cells, mapO_ints d, Option.map_some]

theorem frz_ms {b ver : Nat} {ys : List Int} {full : Bool} (h : getW H b ver = some (cellsI ys)) : frzV 12 H (.ms 1 b ver 0 ys.length full) = some (.sl full (intsI ys), H.set b none) := by
  exact frzV_ms 10 h

theorem snap_ms {b ver : Nat} {ys : List Int} {full : Bool} (h : getW H b ver = some (cellsI ys)) : snapV 12 H (.ms 1 b ver 0 ys.length full) = some (.sl full (intsI ys)) := by
  exact snapV_ms 10 h

theorem Mut.frz {v : V} {ys : List Int} (h : Mut H v ys) : ∃ H', frzV 12 H v = some (IV ys, H') := by
  rcases h with ⟨rfl, rfl⟩ | ⟨b, ver, rfl, hb, hne⟩
  · exact ⟨H, rfl⟩
  · exact ⟨_, by rw [frz_ms hb, IV, if_neg hne]⟩

theorem Mut.snap {v : V} {ys : List Int} (h : Mut H v ys) : snapV 12 H v = some (IV ys) := by
  rcases h with ⟨rfl, rfl⟩ | ⟨b, ver, rfl, hb, hne⟩
  · rfl
  · rw [snap_ms hb, IV, if_neg hne]

/-- A list of numbers, as an immutable slice. -/
def IsInts (v : V) (xs : List Int) : Prop := (v = .nil ∧ xs = []) ∨ ∃ full, v = .sl full (intsI xs)

theorem IV_is (ys : List Int) : IsInts (IV ys) ys := by
  unfold IV
  split
  · rename_i h; exact .inl ⟨rfl, h⟩
  · exact .inr ⟨false, rfl⟩

theorem IsInts.len (T : IntsT P ty e) {v : V} {xs : List Int} (h : IsInts v xs) : lenV P ty v = some xs.length := by
  rcases h with ⟨rfl, rfl⟩ | ⟨full, rfl⟩ <;> simp [lenV, intsI, T.hs]

theorem IsInts.idx (T : IntsT P ty e) {v : V} {xs : List Int} (h : IsInts v xs) {i : Nat} (hi : i < xs.length) : indexAddrV P ty v (i : Int) = some (.rp [.int .i64 xs[i]]) := by
  rcases h with ⟨rfl, rfl⟩ | ⟨full, rfl⟩
  · simp at hi
  · simp [indexAddrV, sizeT, intsI, hi, T.hs, T.he]

theorem IsInts.pure {v : V} {xs : List Int} (h : IsInts v xs) : v.pure = true := by
  rcases h with ⟨rfl, rfl⟩ | ⟨full, rfl⟩
  · rfl
  · simp only [V.pure]; exact intsI_pure xs

theorem ms_len (T : IntsT P ty e) {b ver off n : Nat} {full : Bool} : lenV P ty (.ms 1 b ver off n full) = some n := by simp [lenV, T.hs]
theorem ms_idx (T : IntsT P ty e) {b ver n i : Nat} {full : Bool} (hi : i < n) : indexAddrV P ty (.ms 1 b ver 0 n full) (i : Int) = some (.mp b ver i) := by
  simp [indexAddrV, sizeT, T.hs, T.he, hi]

/-- All of an immutable list behind an empty one: append([]int{}, v...). -/
theorem append_clone (T : IntsT P ty e) {v : V} {xs : List Int} (h : IsInts v xs) (hne : xs ≠ []) (hl : xs.length < 17592186044415) :
    appendV P H ty (.sl true []) v = some (.ms 1 H.length xs.length 0 xs.length false, H ++ [newBlk xs.length (cellsI xs)]) := by
  rcases h with ⟨rfl, rfl⟩ | ⟨full, rfl⟩
  · exact absurd rfl hne
  · cases xs with
    | nil => exact absurd rfl hne
    | cons x r =>
      simp only [appendV, T.hs, T.he, elemsOf]
      have e1 : intsI (x :: r) = [.int .i64 x] :: intsI r := rfl
      have h1 : ((0 + (r.length + 1)) * 8 ≤ room) := by unfold room; simp at hl ⊢; omega
      have h2 := intsI_all (x :: r)
      have h3 := intsI_flat (x :: r)
      rw [e1] at h2 h3 ⊢
      simp only
      rw [if_neg (by simp only [h2]; simp [V.cells])]
      have h4 : (intsI r).length = r.length := by simp [intsI]
      rw [if_pos ⟨by simpa [h4] using h1, rfl⟩]
      simp only [List.nil_append, h3, cellsI_len, List.length_cons, List.length_nil, h4, Nat.zero_add]

variable {E : Env} {f : FuncId} {ρ : Operand → Option V} {d : Option Tmp}

/-- An empty list made. -/
theorem eo_none (T : IntsT E.P ty e) : eop E f d H ρ (.buildSlice ty 0 #[]) = some (.sl true [], H) := by
  simp [eop, T.hs, T.he]

/-- A list of one number made. -/
theorem eo_one (T : IntsT E.P ty e) {x : Operand} : eop E f d H ρ (.buildSlice ty 1 #[(0, x)]) = match ρ x with
    | some (.int k n) => some (.ms 1 H.length 1 0 1 true, H ++ [newBlk 1 [.int k n]])
    | some v => eop E f d H ρ (.buildSlice ty 1 #[(0, x)])
    | none => none := by
  cases hx : ρ x with
  | none => simp [eop, T.hs, T.he, partsO, hx]
  | some v =>
    cases v with
    | int k n => simp [eop, T.hs, T.he, partsO, hx, fillV, splice, V.cells, allOne, V.one]
    | _ => rfl

/-- A list against nil. -/
theorem eq_nil (T : IntsT P ty e) {full : Bool} {els : List (List V)} : binV P .eql ty (.sl full els) .nil = some (.bool false) := by
  have h : eqV P 9999 ty (.sl full els) .nil = some false := by
    unfold eqV
    simp [T.hs]
  simp [binV, eqFree, h]

/-- Reading a number of a block. -/
theorem load_blk {b ver i : Nat} {ys : List Int} {sz by_ : Nat} {z : V} (h : getW H b ver = some (cellsI ys)) (hi : i < ys.length) :
    (match behind H (.mp b ver i) with
      | some cs => loadCs ⟨.int .i64, sz, by_, z⟩ cs
      | none => none) = some (.int .i64 ys[i]) := by
  simp only [behind, getW_blk h, Option.map_some, loadCs, TI.agg]
  simp [cellsI, hi]

/-- Writing a number of a block. -/
theorem splice_cells {i : Nat} {ys : List Int} (hi : i < ys.length) (x : Int) : splice (cellsI ys) i [.int .i64 x] = cellsI (ys.set i x) := by
  simp only [splice, cellsI, List.map_set]
  rw [List.set_eq_take_append_cons_drop]
  simp [hi]

/-- A list whose first i numbers have been turned. -/
def upTo (g : Int → Int) (xs : List Int) (i : Nat) : List Int := (xs.take i).map g ++ xs.drop i

theorem upTo_len (g : Int → Int) (xs : List Int) (i : Nat) : (upTo g xs i).length = xs.length := by
  simp [upTo]; omega
theorem upTo_zero (g : Int → Int) (xs : List Int) : upTo g xs 0 = xs := by simp [upTo]
theorem upTo_all (g : Int → Int) (xs : List Int) : upTo g xs xs.length = xs.map g := by simp [upTo]
theorem upTo_drop (g : Int → Int) {xs : List Int} {i : Nat} (hi : i < xs.length) : (upTo g xs i).drop i = xs[i] :: xs.drop (i + 1) := by
  have h : ((xs.take i).map g).length = i := by simp; omega
  rw [upTo, List.drop_append, h, List.drop_eq_nil_of_le (by omega), Nat.sub_self, List.drop_zero, List.nil_append]
  exact List.drop_eq_getElem_cons hi
theorem upTo_set (g : Int → Int) {xs : List Int} {i : Nat} (hi : i < xs.length) : (upTo g xs i).set i (g xs[i]) = upTo g xs (i + 1) := by
  have h : ((xs.take i).map g).length = i := by simp; omega
  rw [upTo, List.set_append, h, if_neg (by omega), Nat.sub_self, List.drop_eq_getElem_cons hi, List.set_cons_zero, upTo, List.take_succ_eq_append_getElem hi, List.map_append, List.append_assoc]
  rfl

theorem behind_upTo (g : Int → Int) {xs : List Int} {b ver i : Nat} (h : getW H b ver = some (cellsI (upTo g xs i))) (hi : i < xs.length) : behind H (.mp b ver i) = some (.int .i64 xs[i] :: cellsI (xs.drop (i + 1))) := by
  simp only [behind, getW_blk h, Option.map_some, cellsI]
  rw [← List.map_drop, upTo_drop g hi]
  rfl

theorem splice_upTo (g : Int → Int) {xs : List Int} {i : Nat} (hi : i < xs.length) : splice (cellsI (upTo g xs i)) i [.int .i64 (g xs[i])] = cellsI (upTo g xs (i + 1)) := by
  rw [splice_cells (by rw [upTo_len]; exact hi), upTo_set g hi]

/-- What append of one number to a list gives: the list, the memory. -/
def appL (P : Program) (ty : TypeId) (H : Heap) (v : V) (x : Int) : V :=
  match appendV P (H ++ [newBlk 1 [.int .i64 x]]) ty v (.ms 1 H.length 1 0 1 true) with
  | some (a, _) => a
  | none => .nil
def appH (P : Program) (ty : TypeId) (H : Heap) (v : V) (x : Int) : Heap :=
  match appendV P (H ++ [newBlk 1 [.int .i64 x]]) ty v (.ms 1 H.length 1 0 1 true) with
  | some (_, h) => h
  | none => []

theorem Mut.append_eq (T : IntsT P ty e) {v : V} {ys : List Int} (h : Mut H v ys) (x : Int) (hl : ys.length < 17592186044415) :
    appendV P (H ++ [newBlk 1 [.int .i64 x]]) ty v (.ms 1 H.length 1 0 1 true) = some (appL P ty H v x, appH P ty H v x) := by
  obtain ⟨v', H', h1, _⟩ := h.append T x hl
  simp only [appL, appH, h1]

theorem Mut.append_mut (T : IntsT P ty e) {v : V} {ys : List Int} (h : Mut H v ys) (x : Int) (hl : ys.length < 17592186044415) : Mut (appH P ty H v x) (appL P ty H v x) (ys ++ [x]) := by
  obtain ⟨v', H', h1, h2⟩ := h.append T x hl
  simp only [appL, appH, h1]
  exact h2

theorem ql_max {k k' : IntKind} {x y : Int} {ts : Array TypeId} : qBuiltin P .max ts [.int k x, .int k' y] = some (.int k (if y > x then y else x)) := rfl
theorem ql_min {k k' : IntKind} {x y : Int} {ts : Array TypeId} : qBuiltin P .min ts [.int k x, .int k' y] = some (.int k (if y < x then y else x)) := rfl

theorem IV_pure (ys : List Int) : (IV ys).pure = true := by
  unfold IV
  split
  · rfl
  · exact intsI_pure ys

/-- The first numbers of an immutable list. -/
theorem slice_take (T : IntsT P ty e) {v : V} {xs : List Int} (hv : IsInts v xs) (k : Nat) (hk : k ≤ xs.length) : ∃ v', sliceV P H ty v none (some (.int .i64 (k : Int))) none = some v' ∧ IsInts v' (xs.take k) := by
  rcases hv with ⟨rfl, rfl⟩ | ⟨full, rfl⟩
  · have : k = 0 := by simpa using hk
    subst this
    exact ⟨.nil, by simp [sliceV, T.hs, T.he, cutV, bnd, sizeT], .inl ⟨rfl, rfl⟩⟩
  · refine ⟨.sl (full && decide (xs.length = k)) ((intsI xs).take k), ?_, .inr ⟨full && decide (xs.length = k), by simp only [intsI, List.map_take]⟩⟩
    have h1 : (intsI xs).length = xs.length := by simp [intsI]
    have h2 : (intsI xs).all (fun cs => decide (cs.length = 1)) = true := by simp [intsI]
    have h3 : cutV xs.length full none (some (.int .i64 (k : Int))) none = some (0, k, full && decide (xs.length = k)) := by
      simp [cutV, bnd, hk]
    simp only [sliceV, T.hs, h1, h3, sizeT, T.he, Option.map_some, h2, if_true, List.drop_zero, Nat.sub_zero]

/-- append(nil, v...). -/
theorem append_nil (T : IntsT P ty e) {v : V} {ys : List Int} (h : IsInts v ys) (hl : ys.length < 17592186044415) :
    ∃ w H', appendV P H ty .nil v = some (w, H') ∧ Mut H' w ys := by
  rcases h with ⟨rfl, rfl⟩ | ⟨full, rfl⟩
  · exact ⟨.nil, H, by simp [appendV, T.hs, T.he, elemsOf], .nil⟩
  · cases ys with
    | nil => exact ⟨.nil, H, by simp [appendV, T.hs, T.he, elemsOf, intsI], .nil⟩
    | cons x r =>
      refine ⟨.ms 1 H.length (r.length + 1) 0 (r.length + 1) false, H ++ [newBlk (r.length + 1) (cellsI (x :: r))], ?_, .inr ⟨H.length, r.length + 1, by simp, getW_new (r := []), by simp⟩⟩
      simp only [appendV, T.hs, T.he, elemsOf]
      have e1 : intsI (x :: r) = [.int .i64 x] :: intsI r := rfl
      have h2 := intsI_all (x :: r)
      have h3 := intsI_flat (x :: r)
      have h4 : (intsI r).length = r.length := by simp [intsI]
      have h1 : ((r.length + 1) * 8 ≤ room) := by unfold room; simp at hl ⊢; omega
      rw [e1] at h2 h3 ⊢
      simp only
      rw [if_neg (by simp only [h2]; simp [V.cells]), if_pos (by simpa [h4] using h1)]
      simp only [h3, cellsI_len, List.length_cons, h4]

/-- append(v, x), the one number lying in an immutable list. -/
theorem Mut.append1 (T : IntsT P ty e) {v : V} {ys : List Int} (h : Mut H v ys) (x : Int) (hl : ys.length < 17592186044415) :
    ∃ v' H', appendV P H ty v (.sl true [[.int .i64 x]]) = some (v', H') ∧ Mut H' v' (ys ++ [x]) := by
  simp only [appendV, T.hs, T.he, elemsOf]
  rcases h with ⟨rfl, rfl⟩ | ⟨b, ver, rfl, hb, hne⟩
  · refine ⟨_, _, ?_, .inr ⟨H.length, 1, rfl, getW_new (r := []), by simp⟩⟩
    simp [room, V.cells, V.one, allOne, cellsI]
  · have hlt := getW_lt hb
    refine ⟨.ms 1 b (ver + 1) 0 (ys.length + 1) false, setBlk H b (ver + 1) (cellsI ys ++ [.int .i64 x]), ?_, .inr ⟨b, ver + 1, by simp, ?_, by simp⟩⟩
    · simp only [hb]
      have h1 : (ys.length + 1) * 8 ≤ room := by unfold room; omega
      simp [V.cells, V.one, allOne, cellsI_len, h1]
    · rw [getW_set hlt]
      simp [cellsI]

def appL1 (P : Program) (ty : TypeId) (H : Heap) (v : V) (x : Int) : V :=
  match appendV P H ty v (.sl true [[.int .i64 x]]) with
  | some (a, _) => a
  | none => .nil
def appH1 (P : Program) (ty : TypeId) (H : Heap) (v : V) (x : Int) : Heap :=
  match appendV P H ty v (.sl true [[.int .i64 x]]) with
  | some (_, h) => h
  | none => []

theorem Mut.append1_eq (T : IntsT P ty e) {v : V} {ys : List Int} (h : Mut H v ys) (x : Int) (hl : ys.length < 17592186044415) :
    appendV P H ty v (.sl true [[.int .i64 x]]) = some (appL1 P ty H v x, appH1 P ty H v x) := by
  obtain ⟨v', H', h1, _⟩ := h.append1 T x hl
  simp only [appL1, appH1, h1]

theorem Mut.append1_mut (T : IntsT P ty e) {v : V} {ys : List Int} (h : Mut H v ys) (x : Int) (hl : ys.length < 17592186044415) : Mut (appH1 P ty H v x) (appL1 P ty H v x) (ys ++ [x]) := by
  obtain ⟨v', H', h1, h2⟩ := h.append1 T x hl
  simp only [appL1, appH1, h1]
  exact h2

end Go.Ae

namespace Go.Ae
open Go.ChangeShapes Go.WideShapes

theorem cell_none {w : World} {a : Addr} {v : Value} (h : w.cell? a = some v) : a.spot = none ∧ a.block < w.heap.size := by
  unfold World.cell? at h
  split at h
  · rename_i c e fr hb
    split at h
    · cases h
    · rename_i hs
      refine ⟨by simpa using hs, ?_⟩
      exact (Array.getElem?_eq_some_iff.1 hb).1
  · cases h

theorem VR_ints {w : World} {a : Addr} {len cap : Nat} {zs : List Int} (hl : len ≤ cap) (hz : len ≤ zs.length) (hc : ∀ i, i < zs.length → w.cell? (a.add i) = some (.int .i64 (zs.getD i 0))) :
    VR w (fun b => b < w.heap.size) noMap (.sl false (intsI (zs.take len))) (.slice (some a) len cap) := by
  cases len with
  | zero => exact .slE false a cap (fun h => by cases h)
  | succ n =>
    have h0 := hc 0 (by omega)
    obtain ⟨hs, hb⟩ := cell_none (a := a) (by simpa [Addr.add] using h0)
    obtain ⟨b, off, spot⟩ := a
    simp only at hs hb
    subst hs
    have hlen : (intsI (zs.take (n + 1))).length = n + 1 := by simp [intsI]; omega
    have hget : ∀ (i : Nat) (e : List V), (intsI (zs.take (n + 1)))[i]? = some e → i < zs.length ∧ e = [.int .i64 (zs.getD i 0)] := by
      intro i e h
      simp only [intsI, List.getElem?_map] at h
      cases hq : (zs.take (n + 1))[i]? with
      | none => rw [hq] at h; cases h
      | some z =>
        rw [hq] at h
        have h1 := (List.getElem?_eq_some_iff.1 hq)
        obtain ⟨h2, h3⟩ := h1
        rw [List.length_take] at h2
        have h4 : i < zs.length := by omega
        refine ⟨h4, ?_⟩
        rw [List.getElem_take] at h3
        simp only [Option.map_some, Option.some.injEq] at h
        rw [← h, ← h3, List.getD_eq_getElem?_getD, List.getElem?_eq_getElem h4]
        rfl
    have := VR.sl (w := w) (F := fun b => b < w.heap.size) (μ := noMap) false (intsI (zs.take (n + 1))) b off cap 1 (fun i _ => .int .i64 (zs.getD i 0))
      (fun i e h => by rw [(hget i e h).2]; rfl) (by rw [hlen]; exact hl) (fun h => by cases h)
      (fun i e j c h1 h2 => by
        obtain ⟨h3, rfl⟩ := hget i e h1
        have hj : j = 0 := by
          have := (List.getElem?_eq_some_iff.1 h2).1
          simpa using this
        subst hj
        refine ⟨hb, ?_⟩
        have h4 := hc i h3
        have e1 : Addr.add ⟨b, off, none⟩ i = ⟨b, off + (i * 1 + 0), none⟩ := by
          unfold Addr.add
          split
          · rename_i hi; subst hi; simp
          · simp
        rw [e1] at h4
        exact h4)
      (fun i e j c h1 h2 => by
        obtain ⟨h3, rfl⟩ := hget i e h1
        have hj : j = 0 := by
          have := (List.getElem?_eq_some_iff.1 h2).1
          simpa using this
        subst hj
        simp only [List.getElem?_cons_zero, Option.some.injEq] at h2
        subst h2
        exact .int _ _)
    rw [hlen] at this
    exact this

/-- An argument that is a slice of numbers. -/
theorem open_row {H : Type} {enc : TypeId × Value → H} {P : Program} {W : World} {base : Nat} {spare : Nat → Bool} {held : Bool} {t e : TypeId} {a : Option Addr} {len cap : Nat} {d : DataW H} {ps : List MemPlace} {ts : List TypeId} {ds : List (DataW H)} {j : Nat}
    (hsz : (DataW.weightsEach P ts ds).all (· ≤ reachBytes) = true) (ht : ts[j]? = some t) (hd : ds[j]? = some d) (hu : P.underlying t = some (.slice e)) (he : P.underlying e = some (.int .i64)) (hc : P.cellsOf e = 1) (hB : P.bytesOf e = 8)
    (h : DataW.Trod enc P W base spare held t (.slice a len cap) d ps) :
    ∃ v xs, IsInts v xs ∧ VR W (fun b => b < W.heap.size) noMap v (.slice a len cap) ∧ (∀ x ∈ xs, -9223372036854775808 ≤ x ∧ x ≤ 9223372036854775807) ∧ xs.length * 8 ≤ 140737488351232 := by
  obtain ⟨fuel, hf⟩ := h
  rcases open_ints hu he hc hf with ⟨hcs, _⟩ | ⟨x, l, c, zs, hcs, _, hl, _, hz, hx, hcell, hwf⟩
  · simp [Value.cells] at hcs
    obtain ⟨rfl, rfl, rfl⟩ := hcs
    exact ⟨.nil, [], .inl ⟨rfl, rfl⟩, .nil, by simp, by simp⟩
  · simp [Value.cells] at hcs
    obtain ⟨rfl, rfl, rfl⟩ := hcs
    obtain ⟨hx, _⟩ := Prod.mk.inj hx
    subst hx
    have z := sized_slice hsz ht hd hu
    rw [hB] at z
    have hl2 : len ≤ zs.length := by
      rw [hz]; split
      · exact hl
      · exact Nat.le_refl _
    have h1 : (lits (H := H) .i64 (zs.take len)).length + (lits (H := H) .i64 (zs.drop len)).length = zs.length := by
      simp [lits]; omega
    rw [h1] at z
    refine ⟨.sl false (intsI (zs.take len)), zs.take len, .inr ⟨false, rfl⟩, VR_ints hl hl2 hcell, fun y hy => ?_, ?_⟩
    · have := hwf y (List.mem_of_mem_take hy)
      simpa [Lit.wf, IntKind.has, IntKind.min, IntKind.max, IntKind.signed, IntKind.bits] using this
    · have : (zs.take len).length ≤ zs.length := by simp; omega
      exact Nat.le_trans (Nat.mul_le_mul_right _ this) z

/-- The evaluator's start: nothing of its own; no laid variable is known. -/
theorem WR_start {E : Env} {w : World} (hg : ∀ g, E.glob g = none) : WR E w (fun b => b < w.heap.size) noMap [] where
  dom := fun b n r h => by cases h
  fz := fun b h => h
  live := fun b ver ro cs h => by simp at h
  inj := fun b ver ro cs b' ver' ro' cs' cb sh sh' h => by simp at h
  glob := fun g cells h => by rw [hg] at h; cases h
  top := fun b ver ro cs h => by simp at h

theorem wf_range {n : Int} (h : (Lit.int .i64 n).wf = true) : -9223372036854775808 ≤ n ∧ n ≤ 9223372036854775807 := by
  simpa [Lit.wf, IntKind.has, IntKind.min, IntKind.max, IntKind.signed, IntKind.bits] using h

end Go.Ae
