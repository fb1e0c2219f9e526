/-
  The evaluator's operations over what is known, one law for each.
-/
import Derived.Test.YtplhjndcokidfaaGreatDoorA4
set_option linter.unusedVariables false
set_option linter.unusedSimpArgs false
namespace Go.Ae

variable {E : Env} {cl : Call} {f : FuncId} {n : Nat} {ops : Array Oper} {rest : List Oper} {al : AL} {H H' : Heap} {d : Option Tmp} {ty : TypeId} {pos : String} {af : Array Edge} {a : Nat}

def nextA (E : Env) (cl : Call) (f : FuncId) (n : Nat) (ops : Array Oper) (rest : List Oper) (d : Option Tmp) (al : AL) : Option (V × Heap) → Option (AL × Heap)
  | some (v, H') => match putA n al d v with
    | some al' => opsA E cl f n ops rest al' H'
    | none => none
  | none => none

def nextD (E : Env) (cl : Call) (f : FuncId) (n : Nat) (ops : Array Oper) (a : Nat) (rest : List Oper) (d : Option Tmp) (al : AL) : Option (V × Heap) → Option (AL × Heap)
  | some (v, H') => match putA n al d v with
    | some al' => drawA E cl f n ops a rest al' H'
    | none => none
  | none => none

/-- A call's result, made immutable if that is asked. -/
def fzO (E : Env) (f : FuncId) (d : Option Tmp) (r : Option (V × Heap)) : Option (V × Heap) :=
  if E.fzd f d = true then (match r with
    | some (v, H) => frzV 12 H v
    | none => none) else r

def stepO (E : Env) (cl : Call) (f : FuncId) (d : Option Tmp) (op : Op) (al : AL) (H : Heap) : Option (V × Heap) := stepR E cl f ⟨d, op, 0, "", #[], none⟩ (rhoA E al) H
def stepP (E : Env) (cl : Call) (f : FuncId) (a : Nat) (d : Option Tmp) (op : Op) (al : AL) (H : Heap) : Option (V × Heap) := stepDR E cl f a ⟨d, op, 0, "", #[], none⟩ (rhoA E al) H

theorem opsA_nil : opsA E cl f n ops [] al H = some (al, H) := rfl
theorem opsA_plain {op : Op} : opsA E cl f n ops (⟨d, op, ty, pos, af, none⟩ :: rest) al H = nextA E cl f n ops rest d al (stepO E cl f d op al H) := by
  simp only [opsA, wantedA, nextA, stepO, stepR]
  rfl

def guardA (E : Env) (cl : Call) (f : FuncId) (n : Nat) (ops : Array Oper) (rest : List Oper) (d : Option Tmp) (op : Op) (al : AL) (H : Heap) (want : Bool) : Option V → Option (AL × Heap)
  | some (.bool b) => if b = want then nextA E cl f n ops rest d al (stepO E cl f d op al H) else nextA E cl f n ops rest d al (some (undefV, H))
  | some _ => nextA E cl f n ops rest d al (some (undefV, H))
  | none => none

/-- Where an operation's result lies. -/
def gdst : List Oper → Nat → Option Tmp
  | [], _ => none
  | o :: _, 0 => o.dst
  | _ :: r, j + 1 => gdst r j

theorem gdst_eq : ∀ (l : List Oper) (j : Nat), gdst l j = (l[j]?).bind (·.dst)
  | [], j => by simp [gdst]
  | o :: r, 0 => by simp [gdst]
  | o :: r, j + 1 => by simp [gdst, gdst_eq r j]

theorem gdst_zero {o : Oper} {r : List Oper} : gdst (o :: r) 0 = o.dst := rfl
theorem gdst_succ {o : Oper} {r : List Oper} {j : Nat} : gdst (o :: r) (j + 1) = gdst r j := rfl

theorem opsA_guard {op : Op} {j : Nat} {want : Bool} : opsA E cl f n ops (⟨d, op, ty, pos, af, some (j, want)⟩ :: rest) al H = match gdst ops.toList j with
    | some t => guardA E cl f n ops rest d op al H want (look al t)
    | none => nextA E cl f n ops rest d al (some (undefV, H)) := by
  have hg : gdst ops.toList j = (ops[j]?).bind (·.dst) := by rw [gdst_eq]; simp
  simp only [opsA, wantedA, hg]
  cases hd : (ops[j]?).bind (·.dst) with
  | none => simp only [nextA]; cases putA n al d undefV <;> rfl
  | some t =>
    simp only
    cases hl : look al t with
    | none => rfl
    | some v =>
      cases v with
      | bool b => cases b <;> cases want <;> rfl
      | _ => rfl

theorem guardA_bool {op : Op} {want b : Bool} : guardA E cl f n ops rest d op al H want (some (.bool b)) = if b = want then nextA E cl f n ops rest d al (stepO E cl f d op al H) else nextA E cl f n ops rest d al (some (undefV, H)) := rfl

theorem nextA_some {t : Tmp} {v : V} : nextA E cl f n ops rest (some t) al (some (v, H)) = if t < n then opsA E cl f n ops rest ((t, v) :: al) H else none := by
  simp only [nextA, putA]
  by_cases h : t < n
  · rw [if_pos h, if_pos h]
  · rw [if_neg h, if_neg h]
theorem nextA_none {v : V} : nextA E cl f n ops rest none al (some (v, H)) = opsA E cl f n ops rest al H := rfl

theorem drawA_nil : drawA E cl f n ops a [] al H = some (al, H) := rfl
theorem drawA_plain {op : Op} : drawA E cl f n ops a (⟨d, op, ty, pos, af, none⟩ :: rest) al H = nextD E cl f n ops (if isAlloc ⟨d, op, ty, pos, af, none⟩ then a + 1 else a) rest d al (stepP E cl f a d op al H) := by
  simp only [drawA, wantedA, nextD, stepP, stepDR]
  rfl

def guardD (E : Env) (cl : Call) (f : FuncId) (n : Nat) (ops : Array Oper) (a a' : Nat) (rest : List Oper) (d : Option Tmp) (op : Op) (al : AL) (H : Heap) (want : Bool) : Option V → Option (AL × Heap)
  | some (.bool b) => if b = want then nextD E cl f n ops a' rest d al (stepP E cl f a d op al H) else nextD E cl f n ops a' rest d al (some (undefV, H))
  | some _ => nextD E cl f n ops a' rest d al (some (undefV, H))
  | none => none

theorem drawA_guard {op : Op} {j : Nat} {want : Bool} : drawA E cl f n ops a (⟨d, op, ty, pos, af, some (j, want)⟩ :: rest) al H = match gdst ops.toList j with
    | some t => guardD E cl f n ops a (if isAlloc ⟨d, op, ty, pos, af, some (j, want)⟩ then a + 1 else a) rest d op al H want (look al t)
    | none => nextD E cl f n ops (if isAlloc ⟨d, op, ty, pos, af, some (j, want)⟩ then a + 1 else a) rest d al (some (undefV, H)) := by
  have hg : gdst ops.toList j = (ops[j]?).bind (·.dst) := by rw [gdst_eq]; simp
  simp only [drawA, wantedA, hg]
  cases hd : (ops[j]?).bind (·.dst) with
  | none => simp only [nextD]; cases putA n al d undefV <;> rfl
  | some t =>
    simp only
    cases hl : look al t with
    | none => rfl
    | some v =>
      cases v with
      | bool b => cases b <;> cases want <;> rfl
      | _ => rfl

theorem guardD_bool {op : Op} {want b : Bool} {a' : Nat} : guardD E cl f n ops a a' rest d op al H want (some (.bool b)) = if b = want then nextD E cl f n ops a' rest d al (stepP E cl f a d op al H) else nextD E cl f n ops a' rest d al (some (undefV, H)) := rfl

theorem nextD_some {t : Tmp} {v : V} : nextD E cl f n ops a rest (some t) al (some (v, H)) = if t < n then drawA E cl f n ops a rest ((t, v) :: al) H else none := by
  simp only [nextD, putA]
  by_cases h : t < n
  · rw [if_pos h, if_pos h]
  · rw [if_neg h, if_neg h]
theorem nextD_none {v : V} : nextD E cl f n ops a rest none al (some (v, H)) = drawA E cl f n ops a rest al H := rfl

/-! Draws with loads that are watched. -/

/-- The step ahead is at heap 'H0', with what was known. -/
def nextB (E : Env) (cl : Call) (f : FuncId) (n : Nat) (ops : Array Oper) (wt : Wt) (j a : Nat) (rest : List Oper) (d : Option Tmp) (op : Op) (al : AL) (H0 : Heap) (L : Log) : Option (V × Heap) → Option (AL × Heap)
  | some (v, H') => if chkB E wt j op (rhoA E al) H' v L then (match putA n al d v with
      | some al' => drawB E cl f n ops wt (j + 1) a rest al' H' (logB wt j op (rhoA E al) H0 v L)
      | none => none) else none
  | none => none

def skipB (E : Env) (cl : Call) (f : FuncId) (n : Nat) (ops : Array Oper) (wt : Wt) (j a : Nat) (rest : List Oper) (d : Option Tmp) (al : AL) (H : Heap) (L : Log) : Option (AL × Heap) :=
  match putA n al d undefV with
  | some al' => drawB E cl f n ops wt (j + 1) a rest al' H L
  | none => none

variable {wt : Wt} {j : Nat} {L L' : Log} {H0 : Heap}

theorem drawB_nil : drawB E cl f n ops wt j a [] al H L = some (al, H) := rfl
theorem drawB_plain {op : Op} : drawB E cl f n ops wt j a (⟨d, op, ty, pos, af, none⟩ :: rest) al H L = nextB E cl f n ops wt j (if isAlloc ⟨d, op, ty, pos, af, none⟩ then a + 1 else a) rest d op al H L (stepP E cl f a d op al H) := by
  simp only [drawB, wantedA, nextB, stepP, stepDR]
  rfl

def guardB (E : Env) (cl : Call) (f : FuncId) (n : Nat) (ops : Array Oper) (wt : Wt) (j a a' : Nat) (rest : List Oper) (d : Option Tmp) (op : Op) (al : AL) (H : Heap) (L : Log) (want : Bool) : Option V → Option (AL × Heap)
  | some (.bool b) => if b = want then nextB E cl f n ops wt j a' rest d op al H L (stepP E cl f a d op al H) else skipB E cl f n ops wt j a' rest d al H L
  | some _ => skipB E cl f n ops wt j a' rest d al H L
  | none => none

theorem drawB_guard {op : Op} {i : Nat} {want : Bool} : drawB E cl f n ops wt j a (⟨d, op, ty, pos, af, some (i, want)⟩ :: rest) al H L = match gdst ops.toList i with
    | some t => guardB E cl f n ops wt j a (if isAlloc ⟨d, op, ty, pos, af, some (i, want)⟩ then a + 1 else a) rest d op al H L want (look al t)
    | none => skipB E cl f n ops wt j (if isAlloc ⟨d, op, ty, pos, af, some (i, want)⟩ then a + 1 else a) rest d al H L := by
  have hg : gdst ops.toList i = (ops[i]?).bind (·.dst) := by rw [gdst_eq]; simp
  simp only [drawB, wantedA, hg]
  cases hd : (ops[i]?).bind (·.dst) with
  | none => simp only [skipB]; cases putA n al d undefV <;> rfl
  | some t =>
    simp only
    cases hl : look al t with
    | none => rfl
    | some v =>
      cases v with
      | bool b => cases b <;> cases want <;> rfl
      | _ => rfl

theorem guardB_bool {op : Op} {want b : Bool} {a' : Nat} : guardB E cl f n ops wt j a a' rest d op al H L want (some (.bool b)) = if b = want then nextB E cl f n ops wt j a' rest d op al H L (stepP E cl f a d op al H) else skipB E cl f n ops wt j a' rest d al H L := rfl
theorem guardB_true {op : Op} {a' : Nat} : guardB E cl f n ops wt j a a' rest d op al H L true (some (.bool true)) = nextB E cl f n ops wt j a' rest d op al H L (stepP E cl f a d op al H) := rfl
theorem guardB_false {op : Op} {a' : Nat} : guardB E cl f n ops wt j a a' rest d op al H L false (some (.bool false)) = nextB E cl f n ops wt j a' rest d op al H L (stepP E cl f a d op al H) := rfl
theorem guardB_true' {op : Op} {a' : Nat} : guardB E cl f n ops wt j a a' rest d op al H L true (some (.bool false)) = skipB E cl f n ops wt j a' rest d al H L := rfl
theorem guardB_false' {op : Op} {a' : Nat} : guardB E cl f n ops wt j a a' rest d op al H L false (some (.bool true)) = skipB E cl f n ops wt j a' rest d al H L := rfl

theorem nextB_some {t : Tmp} {v : V} {op : Op} : nextB E cl f n ops wt j a rest (some t) op al H0 L (some (v, H)) = if chkB E wt j op (rhoA E al) H v L then
    (if t < n then drawB E cl f n ops wt (j + 1) a rest ((t, v) :: al) H (logB wt j op (rhoA E al) H0 v L) else none) else none := by
  simp only [nextB, putA]
  by_cases h : t < n
  · simp only [if_pos h]
  · simp only [if_neg h]
theorem nextB_none {v : V} {op : Op} : nextB E cl f n ops wt j a rest none op al H0 L (some (v, H)) = if chkB E wt j op (rhoA E al) H v L then
    drawB E cl f n ops wt (j + 1) a rest al H (logB wt j op (rhoA E al) H0 v L) else none := rfl
theorem skipB_some {t : Tmp} : skipB E cl f n ops wt j a rest (some t) al H L = if t < n then drawB E cl f n ops wt (j + 1) a rest ((t, undefV) :: al) H L else none := by
  simp only [skipB, putA]
  by_cases h : t < n
  · simp only [if_pos h]
  · simp only [if_neg h]
theorem skipB_none : skipB E cl f n ops wt j a rest none al H L = drawB E cl f n ops wt (j + 1) a rest al H L := rfl

theorem chkE_none {ws : List Nat} : chkE E ws j H [] = true := rfl
theorem chkL_none {ws : List Nat} {t : TypeId} {av v : V} : chkL E ws j t av v [] = true := rfl
theorem chkE_ld {ws : List Nat} {i : Nat} {t : TypeId} {av v : V} : chkE E ws j H (.ld i t av v :: L) = ((!(ws.contains i && decide (i < j)) || reads E H t av v) && chkE E ws j H L) := rfl
theorem chkE_hp {ws : List Nat} {i : Nat} : chkE E ws j H (.hp i H0 :: L) = chkE E ws j H L := rfl
theorem chkL_ld {ws : List Nat} {i : Nat} {t t' : TypeId} {av v av' v' : V} : chkL E ws j t av v (.ld i t' av' v' :: L) = chkL E ws j t av v L := rfl
theorem chkL_hp {ws : List Nat} {i : Nat} {t : TypeId} {av v : V} : chkL E ws j t av v (.hp i H0 :: L) = ((!(ws.contains i && decide (i < j)) || reads E H0 t av v) && chkL E ws j t av v L) := rfl

/-! One law for each operation. -/

theorem so_move {x : Operand} : stepO E cl f d (.move x) al H = (rhoA E al x).map fun v => (v, H) := rfl
theorem so_assign {x : Operand} : stepO E cl f d (.assign x) al H = (rhoA E al x).map fun v => (v, H) := rfl
theorem so_pick {c x y : Operand} : stepO E cl f d (.pick c x y) al H = (match rhoA E al c with
    | some (.bool true) => rhoA E al x
    | some (.bool false) => rhoA E al y
    | _ => none).map fun v => (v, H) := rfl
theorem so_load {t : TypeId} {x : Operand} : stepO E cl f d (.load t x) al H = (match tinf E.P t, rhoA E al x with
    | some i, some v => match behind H v with
      | some cs => loadCs i cs
      | none => none
    | _, _ => none).map fun v => (v, H) := rfl
theorem so_binOp {op : BinOp} {t u : TypeId} {x y : Operand} : stepO E cl f d (.binOp op t x y u) al H = (match rhoA E al x, rhoA E al y with
    | some a, some b => binV E.P op t a b
    | _, _ => none).map fun v => (v, H) := rfl
theorem so_unOp {op : UnOp} {t : TypeId} {x : Operand} : stepO E cl f d (.unOp op t x) al H = (match rhoA E al x with
    | some a => unV op a
    | none => none).map fun v => (v, H) := rfl
theorem so_nilCheck {x : Operand} : stepO E cl f d (.nilCheck x) al H = (qop E H (rhoA E al) (.nilCheck x)).map fun v => (v, H) := rfl
theorem so_fieldAddr {s : TypeId} {x : Operand} {k : Nat} : stepO E cl f d (.fieldAddr s x k) al H = (qop E H (rhoA E al) (.fieldAddr s x k)).map fun v => (v, H) := rfl
theorem so_field {s : TypeId} {x : Operand} {k : Nat} : stepO E cl f d (.field s x k) al H = (match rhoA E al x, fieldOf E.P s k with
    | some (.agg cs), some fd => partV E.P fd.type cs fd.offset
    | _, _ => none).map fun v => (v, H) := rfl
theorem so_indexAddr {t : TypeId} {x i : Operand} : stepO E cl f d (.indexAddr t x i) al H = (match rhoA E al x, rhoA E al i with
    | some v, some (.int _ n) => indexAddrV E.P t v n
    | _, _ => none).map fun v => (v, H) := rfl
theorem so_index {t : TypeId} {x i : Operand} : stepO E cl f d (.index t x i) al H = (match rhoA E al x, rhoA E al i with
    | some v, some (.int _ n) => indexV E.P t v n
    | _, _ => none).map fun v => (v, H) := rfl
theorem so_extract {x : Operand} {i : Nat} : stepO E cl f d (.extract x i) al H = (match rhoA E al x with
    | some (.tup vs) => vs[i]?
    | _ => none).map fun v => (v, H) := rfl
theorem so_slice {t : TypeId} {x : Operand} {lo hi mx : Option Operand} : stepO E cl f d (.slice t x lo hi mx) al H = (match rhoA E al x, optO (rhoA E al) lo, optO (rhoA E al) hi, optO (rhoA E al) mx with
    | some v, some l, some h, some m => sliceV E.P H t v l h m
    | _, _, _, _ => none).map fun v => (v, H) := rfl
theorem so_build {t : TypeId} {parts : Array (Nat × Operand)} : stepO E cl f d (.build t parts) al H = (match partsO (rhoA E al) parts.toList with
    | some l => buildV E.P t l
    | none => none).map fun v => (v, H) := rfl
theorem so_makeFunc {g : FuncId} {x y : Array Operand} : stepO E cl f d (.makeFunc (.func g) x y) al H = (match mapO (rhoA E al) x.toList, mapO (rhoA E al) y.toList with
    | some a, some c => some (V.fn g a c)
    | _, _ => none).map fun v => (v, H) := rfl
theorem so_alloc {e : TypeId} : stepO E cl f d (.alloc e) al H = eop E f d H (rhoA E al) (.alloc e) := rfl
theorem so_box {e : TypeId} {x : Operand} : stepO E cl f d (.box e x) al H = eop E f d H (rhoA E al) (.box e x) := rfl
theorem so_buildSlice {t : TypeId} {len : Nat} {parts : Array (Nat × Operand)} : stepO E cl f d (.buildSlice t len parts) al H = eop E f d H (rhoA E al) (.buildSlice t len parts) := rfl
theorem so_makeSlice {t : TypeId} {x y : Operand} : stepO E cl f d (.makeSlice t x y) al H = eop E f d H (rhoA E al) (.makeSlice t x y) := rfl
theorem so_store {t : TypeId} {x y : Operand} : stepO E cl f d (.store t x y) al H = eop E f d H (rhoA E al) (.store t x y) := rfl
theorem step_call {c : Go.Call} : stepO E cl f d (.call c) al H = fzO E f d (stepR0 E cl f ⟨d, .call c, 0, "", #[], none⟩ (rhoA E al) H) := by
  simp only [stepO, stepR, fzR, isCall, Bool.true_and, fzO]
  cases E.fzd f d with
  | true => simp only [if_true]; cases stepR0 E cl f { dst := d, op := Op.call c, type := 0, pos := "", after := #[], guard := none } (rhoA E al) H <;> rfl
  | false => rfl
theorem so_append2 {args : Array Operand} {t u : TypeId} : stepO E cl f d (.call ⟨.builtin .append, args, #[t, u]⟩) al H = fzO E f d (match mapO (rhoA E al) args.toList with
    | some [s, x] => match tinf E.P u with
      | some ⟨.int _, _, _, _⟩ => none
      | some _ => if E.tbs t = true then appendB E.P H t s x else appendV E.P H t s x
      | none => none
    | _ => none) := by
  rw [step_call]
  congr 1
  simp only [stepR0, calleeV, isE, if_true, eop]
  cases mapO (rhoA E al) args.toList with
  | none => rfl
  | some l => match l with
    | [] | [_] | [_, _] | _ :: _ :: _ :: _ => rfl
theorem so_uns {args : Array Operand} {t u : TypeId} : stepO E cl f d (.call ⟨.builtin .unsafeString, args, #[t, u]⟩) al H = fzO E f d (match mapO (rhoA E al) args.toList with
    | some [p, n] => unsafeStr E.P H t p n
    | _ => none) := by
  rw [step_call]
  congr 1
  simp only [stepR0, calleeV, isE, if_true, eop]
  cases mapO (rhoA E al) args.toList with
  | none => rfl
  | some l => match l with
    | [] | [_] | [_, _] | _ :: _ :: _ :: _ => rfl
theorem so_sdata {args : Array Operand} {tys : Array TypeId} : stepO E cl f d (.call ⟨.builtin .unsafeSliceData, args, tys⟩) al H = fzO E f d ((match mapO (rhoA E al) args.toList with
    | some as => qBuiltin E.P .unsafeSliceData tys as
    | none => none).map fun v => (v, H)) := by rw [step_call]; rfl
theorem so_len {args : Array Operand} {tys : Array TypeId} : stepO E cl f d (.call ⟨.builtin .len, args, tys⟩) al H = fzO E f d ((match mapO (rhoA E al) args.toList with
    | some as => qBuiltin E.P .len tys as
    | none => none).map fun v => (v, H)) := by rw [step_call]; rfl
theorem so_max {args : Array Operand} {tys : Array TypeId} : stepO E cl f d (.call ⟨.builtin .max, args, tys⟩) al H = fzO E f d ((match mapO (rhoA E al) args.toList with
    | some as => qBuiltin E.P .max tys as
    | none => none).map fun v => (v, H)) := by rw [step_call]; rfl
theorem so_min {args : Array Operand} {tys : Array TypeId} : stepO E cl f d (.call ⟨.builtin .min, args, tys⟩) al H = fzO E f d ((match mapO (rhoA E al) args.toList with
    | some as => qBuiltin E.P .min tys as
    | none => none).map fun v => (v, H)) := by rw [step_call]; rfl
theorem so_call {g : Operand} {args : Array Operand} {tys : Array TypeId} : stepO E cl f d (.call ⟨.value g, args, tys⟩) al H = fzO E f d (match rhoA E al g, mapO (rhoA E al) args.toList with
    | some (.fn f first cap), some args => callI E cl f (first ++ args ++ cap) H
    | _, _ => none) := by
  rw [step_call]
  congr 1
  simp only [stepR0, calleeV]
  cases rhoA E al g with
  | none => rfl
  | some v => cases v <;> cases mapO (rhoA E al) args.toList <;> rfl
theorem callI_no {g : FuncId} {args : List V} : callI E cl g args H = if E.idf g = true then (match args with
    | [v] => some (v, H)
    | _ => none) else cl g args H := rfl
theorem so_lookup {t : TypeId} {x i : Operand} {ok : Bool} : stepO E cl f d (.lookup t x i ok) al H = (match rhoA E al x, rhoA E al i with
    | some (.im ks vs), some (.int .i64 n) => if ok then lookupV E.P t ks vs n else none
    | _, _ => none).map fun v => (v, H) := rfl
theorem so_mkIf {t : TypeId} {x : Operand} : stepO E cl f d (.makeInterface t x) al H = (match tinf E.P t, rhoA E al x with
    | some i, some v => if i.isIf then none else some (V.ifc t v)
    | _, _ => none).map fun v => (v, H) := rfl
theorem so_tyAs {x : Operand} {t u : TypeId} {ok : Bool} : stepO E cl f d (.typeAssert x t u ok) al H = (match rhoA E al x with
    | some v => typeAssertV E.P v u ok
    | none => none).map fun v => (v, H) := rfl
theorem rhoA_global (al : AL) (g : Nat) : rhoA E al (.global g) = (E.glob g).map V.rp := rfl

theorem mapO_nil {α β : Type} {g : α → Option β} : mapO g [] = some [] := rfl
theorem mapO_cons {α β : Type} {g : α → Option β} {x : α} {r : List α} : mapO g (x :: r) = match g x with
    | some b => match mapO g r with
      | some bs => some (b :: bs)
      | none => none
    | none => none := rfl
theorem partsO_nil {g : Operand → Option V} : partsO g [] = some [] := rfl
theorem partsO_cons {g : Operand → Option V} {i : Nat} {x : Operand} {r : List (Nat × Operand)} : partsO g ((i, x) :: r) = match g x, partsO g r with
    | some v, some l => some ((i, v) :: l)
    | _, _ => none := rfl

theorem ofVal_int {k : IntKind} {i : Int} : ofVal (.int k i) = some (.int k i) := rfl
theorem ofVal_bool {b : Bool} : ofVal (.bool b) = some (.bool b) := rfl
theorem ofVal_nilslice : ofVal (.slice none 0 0) = some .nil := rfl
theorem ofVal_nilfunc : ofVal .nilFunc = some .nf := rfl

section
variable {P : Program} {t : TypeId} {k : IntKind} {x y : Int}
theorem bv_add : binV P .add t (.int k x) (.int k y) = some (.int k (k.wrap (x + y))) := by simp [binV, intOp]
theorem bv_sub : binV P .sub t (.int k x) (.int k y) = some (.int k (k.wrap (x - y))) := by simp [binV, intOp]
theorem bv_mul : binV P .mul t (.int k x) (.int k y) = some (.int k (k.wrap (x * y))) := by simp [binV, intOp]
theorem bv_quo (h : y ≠ 0) : binV P .quo t (.int k x) (.int k y) = some (.int k (k.wrap (x.tdiv y))) := by simp [binV, intOp, h]
theorem bv_rem (h : y ≠ 0) : binV P .rem t (.int k x) (.int k y) = some (.int k (x.tmod y)) := by simp [binV, intOp, h]
theorem bv_eql : binV P .eql t (.int k x) (.int k y) = some (.bool (decide (x = y))) := by
  simp only [binV, intOp, if_true]
  congr 1
theorem bv_neq : binV P .neq t (.int k x) (.int k y) = some (.bool (decide (x ≠ y))) := by
  simp only [binV, intOp, if_true]
  by_cases h : x = y <;> simp [h]
theorem bv_lss : binV P .lss t (.int k x) (.int k y) = some (.bool (decide (x < y))) := by simp [binV, intOp]
theorem bv_leq : binV P .leq t (.int k x) (.int k y) = some (.bool (decide (x ≤ y))) := by simp [binV, intOp]
theorem bv_gtr : binV P .gtr t (.int k x) (.int k y) = some (.bool (decide (x > y))) := by simp [binV, intOp]
theorem bv_geq : binV P .geq t (.int k x) (.int k y) = some (.bool (decide (x ≥ y))) := by simp [binV, intOp]
theorem uv_neg : unV .neg (.int k x) = some (.int k (k.wrap (0 - x))) := rfl
theorem uv_not {b : Bool} : unV .not (.bool b) = some (.bool !b) := rfl
end

theorem wrap64 {x : Int} (h1 : -9223372036854775808 ≤ x) (h2 : x ≤ 9223372036854775807) : IntKind.i64.wrap x = x := by
  simp only [IntKind.wrap, IntKind.bits, IntKind.signed]
  simp
  omega

theorem wrapU {x : Int} (h1 : 0 ≤ x) (h2 : x ≤ 18446744073709551615) : IntKind.u64.wrap x = x := by
  simp only [IntKind.wrap, IntKind.bits, IntKind.signed]
  simp
  omega

/-! The same, in a region that draws its order. -/
theorem sp_move {x : Operand} : stepP E cl f a d (.move x) al H = stepO E cl f d (.move x) al H := rfl
theorem sp_assign {x : Operand} : stepP E cl f a d (.assign x) al H = stepO E cl f d (.assign x) al H := rfl
theorem sp_pick {c x y : Operand} : stepP E cl f a d (.pick c x y) al H = stepO E cl f d (.pick c x y) al H := rfl
theorem sp_load {t : TypeId} {x : Operand} : stepP E cl f a d (.load t x) al H = stepO E cl f d (.load t x) al H := rfl
theorem sp_binOp {op : BinOp} {t u : TypeId} {x y : Operand} : stepP E cl f a d (.binOp op t x y u) al H = stepO E cl f d (.binOp op t x y u) al H := rfl
theorem sp_unOp {op : UnOp} {t : TypeId} {x : Operand} : stepP E cl f a d (.unOp op t x) al H = stepO E cl f d (.unOp op t x) al H := rfl
theorem sp_nilCheck {x : Operand} : stepP E cl f a d (.nilCheck x) al H = stepO E cl f d (.nilCheck x) al H := rfl
theorem sp_fieldAddr {s : TypeId} {x : Operand} {k : Nat} : stepP E cl f a d (.fieldAddr s x k) al H = stepO E cl f d (.fieldAddr s x k) al H := rfl
theorem sp_field {s : TypeId} {x : Operand} {k : Nat} : stepP E cl f a d (.field s x k) al H = stepO E cl f d (.field s x k) al H := rfl
theorem sp_indexAddr {t : TypeId} {x i : Operand} : stepP E cl f a d (.indexAddr t x i) al H = stepO E cl f d (.indexAddr t x i) al H := rfl
theorem sp_index {t : TypeId} {x i : Operand} : stepP E cl f a d (.index t x i) al H = stepO E cl f d (.index t x i) al H := rfl
theorem sp_extract {x : Operand} {i : Nat} : stepP E cl f a d (.extract x i) al H = stepO E cl f d (.extract x i) al H := rfl
theorem sp_slice {t : TypeId} {x : Operand} {lo hi mx : Option Operand} : stepP E cl f a d (.slice t x lo hi mx) al H = stepO E cl f d (.slice t x lo hi mx) al H := by
  have hk : kdOf E f ⟨d, .slice t x lo hi mx, 0, "", #[], none⟩ = .n ∨ kdOf E f ⟨d, .slice t x lo hi mx, 0, "", #[], none⟩ = .l := by
    simp only [kdOf]
    split <;> simp
  unfold stepP stepDR
  rcases hk with hk | hk <;> rw [hk] <;> rfl
theorem sp_build {t : TypeId} {parts : Array (Nat × Operand)} : stepP E cl f a d (.build t parts) al H = stepO E cl f d (.build t parts) al H := rfl
theorem sp_makeFunc {g : FuncId} {x y : Array Operand} : stepP E cl f a d (.makeFunc (.func g) x y) al H = stepO E cl f d (.makeFunc (.func g) x y) al H := rfl
theorem sp_store {t : TypeId} {x y : Operand} : stepP E cl f a d (.store t x y) al H = stepO E cl f d (.store t x y) al H := rfl
theorem kd_call {c : Go.Call} {d : Option Tmp} (h : E.fzd f d = true) : kdOf E f ⟨d, .call c, 0, "", #[], none⟩ = .e := by simp [kdOf, h]
theorem sp_fzd {c : Go.Call} (h : E.fzd f d = true) : stepP E cl f a d (.call c) al H = stepO E cl f d (.call c) al H := by
  simp only [stepP, stepDR, kd_call h, stepO]
theorem sp_append {args : Array Operand} {tys : Array TypeId} : stepP E cl f a d (.call ⟨.builtin .append, args, tys⟩) al H = stepO E cl f d (.call ⟨.builtin .append, args, tys⟩) al H := by
  cases h : E.fzd f d with
  | true => exact sp_fzd h
  | false => simp [stepP, stepDR, kdOf, h, stepO]
theorem sp_uns {args : Array Operand} {tys : Array TypeId} : stepP E cl f a d (.call ⟨.builtin .unsafeString, args, tys⟩) al H = stepO E cl f d (.call ⟨.builtin .unsafeString, args, tys⟩) al H := by
  cases h : E.fzd f d with
  | true => exact sp_fzd h
  | false => simp [stepP, stepDR, kdOf, h, stepO]
theorem sp_sdata {args : Array Operand} {tys : Array TypeId} : stepP E cl f a d (.call ⟨.builtin .unsafeSliceData, args, tys⟩) al H = stepO E cl f d (.call ⟨.builtin .unsafeSliceData, args, tys⟩) al H := by
  cases h : E.fzd f d with
  | true => exact sp_fzd h
  | false => simp [stepP, stepDR, kdOf, h, stepO, isE]
theorem sp_len {args : Array Operand} {tys : Array TypeId} : stepP E cl f a d (.call ⟨.builtin .len, args, tys⟩) al H = stepO E cl f d (.call ⟨.builtin .len, args, tys⟩) al H := by
  cases h : E.fzd f d with
  | true => exact sp_fzd h
  | false => simp [stepP, stepDR, kdOf, h, stepO, isE]
theorem sp_max {args : Array Operand} {tys : Array TypeId} : stepP E cl f a d (.call ⟨.builtin .max, args, tys⟩) al H = stepO E cl f d (.call ⟨.builtin .max, args, tys⟩) al H := by
  cases h : E.fzd f d with
  | true => exact sp_fzd h
  | false => simp [stepP, stepDR, kdOf, h, stepO, isE]
theorem sp_min {args : Array Operand} {tys : Array TypeId} : stepP E cl f a d (.call ⟨.builtin .min, args, tys⟩) al H = stepO E cl f d (.call ⟨.builtin .min, args, tys⟩) al H := by
  cases h : E.fzd f d with
  | true => exact sp_fzd h
  | false => simp [stepP, stepDR, kdOf, h, stepO, isE]
theorem sp_callt {t : Tmp} {args : Array Operand} {tys : Array TypeId} : stepP E cl f a d (.call ⟨.value (.tmp t), args, tys⟩) al H = stepO E cl f d (.call ⟨.value (.tmp t), args, tys⟩) al H := by
  cases h : E.fzd f d with
  | true => exact sp_fzd h
  | false => simp [stepP, stepDR, kdOf, h, stepO]
theorem sp_buildSlice {t : TypeId} {len : Nat} {parts : Array (Nat × Operand)} {k : Tmp} : stepP E cl f a (some k) (.buildSlice t len parts) al H = if E.wr f k then stepO E cl f (some k) (.buildSlice t len parts) al H else (nop E (rhoA E al) (.buildSlice t len parts)).map fun v => (v, H) := by
  simp only [stepP, stepDR, kdOf]
  cases E.wr f k <;> rfl
theorem sp_makeSlice {t : TypeId} {x y : Operand} {k : Tmp} : stepP E cl f a (some k) (.makeSlice t x y) al H = if E.wr f k then stepO E cl f (some k) (.makeSlice t x y) al H else (nop E (rhoA E al) (.makeSlice t x y)).map fun v => (v, H) := by
  simp only [stepP, stepDR, kdOf]
  cases E.wr f k <;> rfl
theorem sp_box {t : TypeId} {x : Operand} {k : Tmp} : stepP E cl f a (some k) (.box t x) al H = if E.wr f k then stepO E cl f (some k) (.box t x) al H else (nop E (rhoA E al) (.box t x)).map fun v => (v, H) := by
  simp only [stepP, stepDR, kdOf]
  cases E.wr f k <;> rfl
theorem sp_callf {g : FuncId} {args : Array Operand} {tys : Array TypeId} : stepP E cl f a d (.call ⟨.value (.func g), args, tys⟩) al H = match mapO (rhoA E al) args.toList with
    | some as => if E.fzd f d = false ∧ E.idf g = false ∧ E.mode g = .mv ∧ V.pureL as = false then none else fzO E f d (callI E cl g as H)
    | none => none := by
  cases hf : E.fzd f d with
  | true =>
    rw [sp_fzd hf, so_call]
    simp only [rhoA_func, Bool.true_eq_false, false_and, if_false]
    cases mapO (rhoA E al) args.toList with
    | none => simp [fzO, hf]
    | some as => simp
  | false =>
    simp only [stepP, stepDR, kdOf, hf, Bool.false_eq_true, if_false, quietArgs, stepR, stepR0, calleeV, rhoA, fzR, isCall, Bool.true_and, fzO, true_and]
    cases hi : E.idf g with
    | true =>
      simp only [Bool.true_eq_false, false_and, if_false]
      cases mapO (rhoA E al) args.toList with
      | none => simp
      | some as => simp
    | false =>
      cases mapO (rhoA E al) args.toList with
      | none => cases hm : E.mode g <;> simp
      | some as => cases hm : E.mode g <;> cases hp : V.pureL as <;> simp [hm, hp]

theorem eo_box {ρ : Operand → Option V} {e : TypeId} {x : Operand} {k : Tmp} : eop E f (some k) H ρ (.box e x) = match ρ x with
    | some v => if allOne v.cells then (if E.wr f k then some (.mp H.length 0 0, H ++ [newBlk 0 v.cells]) else some (.rp v.cells, H)) else none
    | none => none := by
  simp only [eop]
  cases ρ x <;> rfl
theorem eo_alloc {ρ : Operand → Option V} {e : TypeId} {k : Option Tmp} : eop E f k H ρ (.alloc e) = match tinf E.P e with
    | some i => if allOne i.zero.cells then some (if E.tyd e = true then .tp e i.zero.cells.length H.length 0 else .mp H.length 0 0, H ++ [newBlk 0 i.zero.cells]) else none
    | none => none := rfl
theorem eo_store {ρ : Operand → Option V} {t : TypeId} {x y : Operand} {k : Option Tmp} : eop E f k H ρ (.store t x y) = match tinf E.P t, ρ x, ρ y with
    | some i, some (.mp b ver off), some v => match getW H b ver with
      | some cs => if v.cells.length = i.size ∧ allOne v.cells ∧ off + i.size ≤ cs.length then some (undefV, setBlk H b ver (splice cs off v.cells)) else none
      | none => none
    | _, _, _ => none := rfl
theorem cells_int {k : IntKind} {i : Int} : (V.int k i).cells = [.int k i] := rfl
theorem cells_bool {b : Bool} : (V.bool b).cells = [.bool b] := rfl
theorem cells_fn {g : FuncId} {x y : List V} : (V.fn g x y).cells = [.fn g x y] := rfl
theorem cells_agg {x : List V} : (V.agg x).cells = x := rfl
theorem cells_nf : V.nf.cells = [.nf] := rfl
theorem cells_nil : V.nil.cells = [.nil] := rfl
theorem one_int {k : IntKind} {i : Int} : (V.int k i).one = true := rfl
theorem one_fn {g : FuncId} {x y : List V} : (V.fn g x y).one = true := rfl
theorem one_nf : V.nf.one = true := rfl
theorem one_nil : V.nil.one = true := rfl
theorem allOne_nil : allOne [] = true := rfl
theorem allOne_cons {v : V} {r : List V} : allOne (v :: r) = (v.one && allOne r) := by simp [allOne]

theorem look_nil (t : Nat) : look [] t = none := rfl
theorem optO_none {α β : Type} {g : α → Option β} : optO g none = some none := rfl
theorem optO_some {α β : Type} {g : α → Option β} {x : α} : optO g (some x) = match g x with
    | some b => some (some b)
    | none => none := rfl

theorem guardA_true {op : Op} : guardA E cl f n ops rest d op al H true (some (.bool true)) = nextA E cl f n ops rest d al (stepO E cl f d op al H) := rfl
theorem guardA_false {op : Op} : guardA E cl f n ops rest d op al H false (some (.bool false)) = nextA E cl f n ops rest d al (stepO E cl f d op al H) := rfl
theorem guardA_true' {op : Op} : guardA E cl f n ops rest d op al H false (some (.bool true)) = nextA E cl f n ops rest d al (some (undefV, H)) := rfl
theorem guardA_false' {op : Op} : guardA E cl f n ops rest d op al H true (some (.bool false)) = nextA E cl f n ops rest d al (some (undefV, H)) := rfl
theorem after_guard {op : Op} {want b : Bool} {l : List Nat} {Q : AL → Heap → Prop} (h1 : b = true → After (guardA E cl f n ops rest d op al H want (some (.bool true))) l Q) (h2 : b = false → After (guardA E cl f n ops rest d op al H want (some (.bool false))) l Q) : After (guardA E cl f n ops rest d op al H want (some (.bool b))) l Q := by
  cases b with
  | true => exact h1 rfl
  | false => exact h2 rfl

theorem ql_len {P : Program} {t : TypeId} {x : V} : qBuiltin P .len #[t] [x] = (lenV P t x).map (fun n : Nat => V.int .i64 (n : Int)) := by simp only [qBuiltin]; simp only [List.getElem?_toArray, List.getElem?_cons_zero]; cases lenV P t x <;> simp
theorem behind_rp {cs : List V} : behind H (.rp cs) = some cs := rfl
theorem load_int {k : IntKind} {sz by_ : Nat} {z c : V} {cs : List V} : loadCs ⟨.int k, sz, by_, z⟩ (c :: cs) = some c := rfl
theorem load_slice {k : TypeId} {sz by_ : Nat} {z c : V} {cs : List V} : loadCs ⟨.slice k, sz, by_, z⟩ (c :: cs) = some c := rfl
theorem load_func {a b : Array TypeId} {q : Bool} {sz by_ : Nat} {z c : V} {cs : List V} : loadCs ⟨.func a b q, sz, by_, z⟩ (c :: cs) = some c := rfl

theorem after_guard0 {op : Op} {want b : Bool} {Q : AL → Heap → Prop} (h1 : b = true → After0 (guardA E cl f n ops rest d op al H want (some (.bool true))) Q) (h2 : b = false → After0 (guardA E cl f n ops rest d op al H want (some (.bool false))) Q) : After0 (guardA E cl f n ops rest d op al H want (some (.bool b))) Q := by
  cases b with
  | true => exact h1 rfl
  | false => exact h2 rfl

theorem guardD_true {op : Op} {a' : Nat} : guardD E cl f n ops a a' rest d op al H true (some (.bool true)) = nextD E cl f n ops a' rest d al (stepP E cl f a d op al H) := rfl
theorem guardD_false {op : Op} {a' : Nat} : guardD E cl f n ops a a' rest d op al H false (some (.bool false)) = nextD E cl f n ops a' rest d al (stepP E cl f a d op al H) := rfl
theorem guardD_true' {op : Op} {a' : Nat} : guardD E cl f n ops a a' rest d op al H false (some (.bool true)) = nextD E cl f n ops a' rest d al (some (undefV, H)) := rfl
theorem guardD_false' {op : Op} {a' : Nat} : guardD E cl f n ops a a' rest d op al H true (some (.bool false)) = nextD E cl f n ops a' rest d al (some (undefV, H)) := rfl
theorem after_guardD {op : Op} {want b : Bool} {a' : Nat} {l : List Nat} {Q : AL → Heap → Prop} (h1 : b = true → After (guardD E cl f n ops a a' rest d op al H want (some (.bool true))) l Q) (h2 : b = false → After (guardD E cl f n ops a a' rest d op al H want (some (.bool false))) l Q) : After (guardD E cl f n ops a a' rest d op al H want (some (.bool b))) l Q := by
  cases b with
  | true => exact h1 rfl
  | false => exact h2 rfl

/-- Where a field lies in a struct. -/
def fldOff (P : Program) (s : TypeId) (k : Nat) : Option Nat :=
  match fieldOf P s k with
  | some fd => match sizeT P fd.type with
    | some (_ + 1) => some fd.offset
    | _ => none
  | none => none


theorem so_fieldAddrV {s : TypeId} {x : Operand} {k : Nat} : stepO E cl f d (.fieldAddr s x k) al H = match rhoA E al x, fldOff E.P s k with
    | some v, some o => (goOn v o).map fun v => (v, H)
    | _, _ => none := by
  rw [so_fieldAddr]
  simp only [qop, fldOff]
  cases rhoA E al x with
  | none => rfl
  | some v =>
    cases fieldOf E.P s k with
    | none => rfl
    | some fd =>
      simp only
      cases sizeT E.P fd.type with
      | none => rfl
      | some n => cases n <;> rfl

theorem goOn_rp {cs : List V} {o : Nat} : goOn (.rp cs) o = some (.rp (cs.drop o)) := rfl
theorem goOn_tp {t m b ver o : Nat} : goOn (.tp t m b ver) o = some (.mp b ver o) := rfl
theorem goOn_mp {b ver p o : Nat} : goOn (.mp b ver p) o = some (.mp b ver (p + o)) := rfl

theorem so_conv {src dst : TypeId} {x : Operand} {k k' : IntKind} {a b a' b' : Nat} {z z' : V} (h1 : tinf E.P src = some ⟨.int k', a, b, z⟩) (h2 : tinf E.P dst = some ⟨.int k, a', b', z'⟩) :
    stepO E cl f d (.convert src dst x) al H = match rhoA E al x with
      | some (.int _ n) => some (.int k (k.wrap n), H)
      | some v => (qop E H (fun _ => some v) (.convert src dst x)).map fun v => (v, H)
      | none => none := by
  simp only [stepO, stepR, stepR0, fzR, isCall, Bool.false_and, Bool.false_eq_true, if_false, calleeV, isE, h1]
  cases hx : rhoA E al x with
  | none => simp [qop, hx]
  | some v => cases v <;> simp [qop, hx, convV, h1, h2]

theorem load_struct {fs : Array Field} {sz by_ : Nat} {z : V} {cs : List V} : loadCs ⟨.struct fs, sz, by_, z⟩ cs = if sz ≤ cs.length then some (.agg (cs.take sz)) else none := rfl

section
variable {ver b off : Nat} {r : Bool} {cs cs' : List V} {x : Option Blk}
theorem behind_mp : behind H (.mp b ver off) = match getBlk H b ver with
    | some cs => some (cs.drop off)
    | none => none := by
  simp only [behind]
  cases getBlk H b ver <;> rfl
theorem gb_zero : getBlk (newBlk ver cs :: H) 0 ver = some cs := by simp [getBlk, newBlk]
theorem gb_zero' : getBlk (some (ver, r, cs) :: H) 0 ver = some cs := by simp [getBlk]
theorem gb_succ : getBlk (x :: H) (b + 1) ver = getBlk H b ver := by simp [getBlk]
theorem gw_zero : getW (newBlk ver cs :: H) 0 ver = some cs := by simp [getW, newBlk]
theorem gw_zero' : getW (some (ver, false, cs) :: H) 0 ver = some cs := by simp [getW]
theorem gw_succ : getW (x :: H) (b + 1) ver = getW H b ver := by simp [getW]
theorem sb_zero : setBlk (x :: H) 0 ver cs = newBlk ver cs :: H := by simp [setBlk]
theorem sb_succ : setBlk (x :: H) (b + 1) ver cs = x :: setBlk H b ver cs := by simp [setBlk]
end

attribute [simp] behind_mp gb_zero gb_zero' gb_succ gw_zero gw_zero' gw_succ sb_zero sb_succ eo_box eo_alloc eo_store cells_int cells_bool cells_fn cells_agg cells_nf cells_nil one_int one_fn one_nf one_nil allOne_nil allOne_cons sp_move sp_assign sp_pick sp_load sp_binOp sp_unOp sp_nilCheck sp_fieldAddr sp_field sp_indexAddr sp_index sp_extract sp_slice sp_build sp_makeFunc sp_store sp_append sp_uns sp_sdata sp_len sp_max sp_min sp_callt sp_callf sp_buildSlice sp_makeSlice sp_box isAlloc gdst_zero gdst_succ opsA_plain opsA_guard opsA_nil guardA_true guardA_false guardA_true' guardA_false' nextA_some nextA_none drawA_plain drawA_guard drawA_nil guardD_true guardD_false guardD_true' guardD_false' nextD_some nextD_none drawB_nil drawB_plain drawB_guard guardB_true guardB_false guardB_true' guardB_false' nextB_some nextB_none skipB_some skipB_none logB chkB chkE_none chkL_none chkE_ld chkE_hp chkL_ld chkL_hp V.eqb_refl so_move so_assign so_pick so_load so_binOp so_unOp so_nilCheck so_fieldAddrV goOn_rp goOn_mp goOn_tp load_struct so_field so_indexAddr so_index so_extract so_slice so_build so_makeFunc so_alloc so_box so_buildSlice so_makeSlice so_store so_append2 so_uns so_sdata so_lookup so_mkIf so_tyAs callI_no fzO so_len so_max so_min so_call mapO_nil mapO_cons partsO_nil partsO_cons optO_none optO_some ofVal_int ofVal_bool ofVal_nilslice ofVal_nilfunc bv_add bv_sub bv_mul bv_quo bv_rem bv_eql bv_neq bv_lss bv_leq bv_gtr bv_geq uv_neg uv_not rhoA_tmp rhoA_const rhoA_func rhoA_global look_cons look_nil ql_len behind_rp load_int load_slice load_func

end Go.Ae

namespace Go.Ae

variable {P : Program} {ty e : TypeId} {H : Heap}

/-- The slice type and its element type, a 64-bit number. -/
structure IntsT (P : Program) (ty e : TypeId) : Prop where
  hs : tinf P ty = some ⟨.slice e, 1, 24, .nil⟩
  he : tinf P e = some ⟨.int .i64, 1, 8, .int .i64 0⟩

def cellsI (xs : List Int) : List V := xs.map fun x => .int .i64 x
def intsI (xs : List Int) : List (List V) := xs.map fun x => [.int .i64 x]

theorem cellsI_len (xs : List Int) : (cellsI xs).length = xs.length := by simp [cellsI]
theorem cellsI_one (xs : List Int) : allOne (cellsI xs) = true := by simp [allOne, cellsI, V.one]
theorem intsI_flat (xs : List Int) : (intsI xs).flatten = cellsI xs := by
  induction xs with
  | nil => rfl
  | cons x r ih => simp only [intsI, List.map_cons, List.flatten_cons] at ih ⊢; rw [ih]; rfl
theorem intsI_all (xs : List Int) : (intsI xs).all (fun c => decide (c.length = 1) && allOne c) = true := by
  simp [intsI, allOne, V.one]
theorem chunk_cells : ∀ (xs : List Int), chunk 1 xs.length (cellsI xs) = intsI xs
  | [] => rfl
  | x :: r => by
    simp only [cellsI, List.map_cons, List.length_cons, chunk]
    have := chunk_cells r
    simp only [cellsI] at this
    simp only [List.take_succ_cons, List.take_zero, List.drop_succ_cons, List.drop_zero, this]
    rfl

theorem getW_blk {b ver : Nat} {cs : List V} (h : getW H b ver = some cs) : getBlk H b ver = some cs := by
  unfold getW at h
  unfold getBlk
  split at h
  · rename_i v cs' hq
    rw [hq]; exact h
  · cases h

theorem getW_lt {b ver : Nat} {cs : List V} (h : getW H b ver = some cs) : b < H.length := by
  unfold getW at h
  split at h
  · rename_i hq
    exact (List.getElem?_eq_some_iff.1 hq).1
  · cases h

theorem getW_append {b ver : Nat} {cs : List V} {r : Heap} (h : getW H b ver = some cs) : getW (H ++ r) b ver = some cs := by
  have hl := getW_lt h
  unfold getW at h ⊢
  rw [List.getElem?_append_left hl]; exact h

theorem getW_new {ver : Nat} {cs : List V} {r : Heap} : getW (H ++ (newBlk ver cs :: r)) H.length ver = some cs := by
  unfold getW newBlk
  rw [List.getElem?_append_right (Nat.le_refl _)]
  simp

theorem getBlk_new {ver : Nat} {cs : List V} {r : Heap} : getBlk (H ++ (newBlk ver cs :: r)) H.length ver = some cs := getW_blk getW_new

theorem getW_set {b ver : Nat} {cs : List V} (hb : b < H.length) : getW (setBlk H b ver cs) b ver = some cs := by
  unfold getW setBlk newBlk
  simp [hb]

theorem getW_set_ne {b b' ver ver' : Nat} {cs : List V} (hb : b ≠ b') : getW (setBlk H b ver cs) b' ver' = getW H b' ver' := by
  unfold getW setBlk newBlk
  rw [List.getElem?_set_ne hb]

theorem getBlk_ro {b ver : Nat} {cs : List V} (h : getBlk H b ver = some cs) : getBlk (roH H) b ver = some cs := by
  unfold getBlk roH at *
  rw [List.getElem?_map]
  cases hq : H[b]? with
  | none => rw [hq] at h; cases h
  | some o =>
    rw [hq] at h
    cases o with
    | none => cases h
    | some t => obtain ⟨v, r, c⟩ := t; simpa using h

theorem setBlk_len {b ver : Nat} {cs : List V} : (setBlk H b ver cs).length = H.length := by simp [setBlk]

/-- A list that functions build: nil, or a block of its own. -/
def Mut (H : Heap) (v : V) (ys : List Int) : Prop := (v = .nil ∧ ys = []) ∨ ∃ b ver, v = .ms 1 b ver 0 ys.length false ∧ getW H b ver = some (cellsI ys) ∧ ys ≠ []

theorem Mut.nil : Mut H .nil [] := .inl ⟨rfl, rfl⟩

/-- append(v, x), the one number's block made. -/
theorem Mut.append (T : IntsT P ty e) {v : V} {ys : List Int} (h : Mut H v ys) (x : Int) (hl : ys.length < 17592186044415) :
    ∃ v' H', appendV P (H ++ [newBlk 1 [.int .i64 x]]) ty v (.ms 1 H.length 1 0 1 true) = some (v', H') ∧ Mut H' v' (ys ++ [x]) := by
  have hx : elemsOf (H ++ [newBlk 1 [.int .i64 x]]) (.ms 1 H.length 1 0 1 true) = some [[.int .i64 x]] := by
    simp only [elemsOf, getBlk_new]
    simp [chunk]
  simp only [appendV, T.hs, T.he, hx]
  rcases h with ⟨rfl, rfl⟩ | ⟨b, ver, rfl, hb, hne⟩
  · refine ⟨_, _, ?_, .inr ⟨(H ++ [newBlk 1 [.int .i64 x]]).length, 1, rfl, getW_new (r := []), by simp⟩⟩
    simp [room, V.cells, V.one, allOne, cellsI]
  · have hlt := getW_lt hb
    have hb' : getW (H ++ [newBlk 1 [.int .i64 x]]) b ver = some (cellsI ys) := getW_append hb
    refine ⟨.ms 1 b (ver + 1) 0 (ys.length + 1) false, setBlk (H ++ [newBlk 1 [.int .i64 x]]) b (ver + 1) (cellsI ys ++ [.int .i64 x]), ?_, .inr ⟨b, ver + 1, by simp, ?_, by simp⟩⟩
    · simp only [hb']
      have h1 : (ys.length + 1) * 8 ≤ room := by unfold room; omega
      simp [V.cells, V.one, allOne, cellsI_len, h1]
    · rw [getW_set (by simp; omega)]
      simp [cellsI]

/-- The list, made immutable. -/
def IV (ys : List Int) : V := if ys = [] then .nil else .sl false (intsI ys)

theorem frzLL_pure (d : Nat) : ∀ (vs : List (List V)) (H : Heap), V.pureLL vs = true → frzLL (frzV (d + 1)) H vs = some (vs, H)
  | [], _, _ => rfl
  | v :: r, H, h => by
    simp only [V.pureLL, Bool.and_eq_true] at h
    simp only [frzLL, frzList_pure d v H h.1, frzLL_pure d r H h.2]

theorem intsI_pure : ∀ xs : List Int, V.pureLL (intsI xs) = true
  | [] => rfl
  | x :: r => by
    have := intsI_pure r
    simp only [intsI, List.map_cons, V.pureLL, V.pureL, V.pure, Bool.and_true, Bool.true_and] at this ⊢
    exact this

theorem mapO_ints (d : Nat) (xs : List Int) : mapO (mapO (snapV (d + 1) H)) (intsI xs) = some (intsI xs) := by
  induction xs with
  | nil => rfl
  | cons x r ih =>
    simp only [intsI, List.map_cons] at ih ⊢
    have h1 : snapV (d + 1) H (V.int .i64 x) = some (V.int .i64 x) := by unfold snapV; rfl
    simp only [mapO, h1, ih]

theorem frzV_ms (d : Nat) {b ver : Nat} {ys : List Int} {full : Bool} (h : getW H b ver = some (cellsI ys)) : frzV (d + 2) H (.ms 1 b ver 0 ys.length full) = some (.sl full (intsI ys), H.set b none) := by
  have h1 : 0 + ys.length * 1 ≤ (cellsI ys).length ∧ 0 < 1 := ⟨by simp [cellsI_len], Nat.zero_lt_one⟩
  unfold frzV
  simp only [V.pure, Bool.false_eq_true, if_false, h, if_pos h1, List.drop_zero, chunk_cells, frzLL_pure d _ _ (intsI_pure ys)]

theorem snapV_ms (d : Nat) {b ver : Nat} {ys : List Int} {full : Bool} (h : getW H b ver = some (cellsI ys)) : snapV (d + 2) H (.ms 1 b ver 0 ys.length full) = some (.sl full (intsI ys)) := by
  have h1 : 0 + ys.length * 1 ≤ (cellsI ys).length ∧ 0 < 1 := ⟨by simp [cellsI_len], Nat.zero_lt_one⟩
  unfold snapV
  simp only [V.pure, Bool.false_eq_true, if_false, getW_blk h, if_pos h1, List.drop_zero, chunk_cells, mapO_ints d, Option.map_some]

theorem frz_ms {b ver : Nat} {ys : List Int} {full : Bool} (h : getW H b ver = some (cellsI ys)) : frzV 12 H (.ms 1 b ver 0 ys.length full) = some (.sl full (intsI ys), H.set b none) := by
  exact frzV_ms 10 h

theorem snap_ms {b ver : Nat} {ys : List Int} {full : Bool} (h : getW H b ver = some (cellsI ys)) : snapV 12 H (.ms 1 b ver 0 ys.length full) = some (.sl full (intsI ys)) := by
  exact snapV_ms 10 h

theorem Mut.frz {v : V} {ys : List Int} (h : Mut H v ys) : ∃ H', frzV 12 H v = some (IV ys, H') := by
  rcases h with ⟨rfl, rfl⟩ | ⟨b, ver, rfl, hb, hne⟩
  · exact ⟨H, rfl⟩
  · exact ⟨_, by rw [frz_ms hb, IV, if_neg hne]⟩

theorem Mut.snap {v : V} {ys : List Int} (h : Mut H v ys) : snapV 12 H v = some (IV ys) := by
  rcases h with ⟨rfl, rfl⟩ | ⟨b, ver, rfl, hb, hne⟩
  · rfl
  · rw [snap_ms hb, IV, if_neg hne]

/-- A list of numbers, as an immutable slice. -/
def IsInts (v : V) (xs : List Int) : Prop := (v = .nil ∧ xs = []) ∨ ∃ full, v = .sl full (intsI xs)

theorem IV_is (ys : List Int) : IsInts (IV ys) ys := by
  unfold IV
  split
  · rename_i h; exact .inl ⟨rfl, h⟩
  · exact .inr ⟨false, rfl⟩

theorem IsInts.len (T : IntsT P ty e) {v : V} {xs : List Int} (h : IsInts v xs) : lenV P ty v = some xs.length := by
  rcases h with ⟨rfl, rfl⟩ | ⟨full, rfl⟩ <;> simp [lenV, intsI, T.hs]

theorem IsInts.idx (T : IntsT P ty e) {v : V} {xs : List Int} (h : IsInts v xs) {i : Nat} (hi : i < xs.length) : indexAddrV P ty v (i : Int) = some (.rp [.int .i64 xs[i]]) := by
  rcases h with ⟨rfl, rfl⟩ | ⟨full, rfl⟩
  · simp at hi
  · simp [indexAddrV, sizeT, intsI, hi, T.hs, T.he]

theorem IsInts.pure {v : V} {xs : List Int} (h : IsInts v xs) : v.pure = true := by
  rcases h with ⟨rfl, rfl⟩ | ⟨full, rfl⟩
  · rfl
  · simp only [V.pure]; exact intsI_pure xs

theorem ms_len (T : IntsT P ty e) {b ver off n : Nat} {full : Bool} : lenV P ty (.ms 1 b ver off n full) = some n := by simp [lenV, T.hs]
theorem ms_idx (T : IntsT P ty e) {b ver n i : Nat} {full : Bool} (hi : i < n) : indexAddrV P ty (.ms 1 b ver 0 n full) (i : Int) = some (.mp b ver i) := by
  simp [indexAddrV, sizeT, T.hs, T.he, hi]

/-- All of an immutable list behind an empty one: append([]int{}, v...). -/
theorem append_clone (T : IntsT P ty e) {v : V} {xs : List Int} (h : IsInts v xs) (hne : xs ≠ []) (hl : xs.length < 17592186044415) :
    appendV P H ty (.sl true []) v = some (.ms 1 H.length xs.length 0 xs.length false, H ++ [newBlk xs.length (cellsI xs)]) := by
  rcases h with ⟨rfl, rfl⟩ | ⟨full, rfl⟩
  · exact absurd rfl hne
  · cases xs with
    | nil => exact absurd rfl hne
    | cons x r =>
      simp only [appendV, T.hs, T.he, elemsOf]
      have e1 : intsI (x :: r) = [.int .i64 x] :: intsI r := rfl
      have h1 : ((0 + (r.length + 1)) * 8 ≤ room) := by unfold room; simp at hl ⊢; omega
      have h2 := intsI_all (x :: r)
      have h3 := intsI_flat (x :: r)
      rw [e1] at h2 h3 ⊢
      simp only
      rw [if_neg (by simp only [h2]; simp [V.cells])]
      have h4 : (intsI r).length = r.length := by simp [intsI]
      rw [if_pos ⟨by simpa [h4] using h1, rfl⟩]
      simp only [List.nil_append, h3, cellsI_len, List.length_cons, List.length_nil, h4, Nat.zero_add]

variable {E : Env} {f : FuncId} {ρ : Operand → Option V} {d : Option Tmp}

/-- An empty list made. -/
theorem eo_none (T : IntsT E.P ty e) : eop E f d H ρ (.buildSlice ty 0 #[]) = some (.sl true [], H) := by
  simp [eop, T.hs, T.he]

/-- A list of one number made. -/
theorem eo_one (T : IntsT E.P ty e) {x : Operand} : eop E f d H ρ (.buildSlice ty 1 #[(0, x)]) = match ρ x with
    | some (.int k n) => some (.ms 1 H.length 1 0 1 true, H ++ [newBlk 1 [.int k n]])
    | some v => eop E f d H ρ (.buildSlice ty 1 #[(0, x)])
    | none => none := by
  cases hx : ρ x with
  | none => simp [eop, T.hs, T.he, partsO, hx]
  | some v =>
    cases v with
    | int k n => simp [eop, T.hs, T.he, partsO, hx, fillV, splice, V.cells, allOne, V.one]
    | _ => rfl

/-- A list against nil. -/
theorem eq_nil (T : IntsT P ty e) {full : Bool} {els : List (List V)} : binV P .eql ty (.sl full els) .nil = some (.bool false) := by
  have h : eqV P 9999 ty (.sl full els) .nil = some false := by
    unfold eqV
    simp [T.hs]
  simp [binV, eqFree, h]

/-- Reading a number of a block. -/
theorem load_blk {b ver i : Nat} {ys : List Int} {sz by_ : Nat} {z : V} (h : getW H b ver = some (cellsI ys)) (hi : i < ys.length) :
    (match behind H (.mp b ver i) with
      | some cs => loadCs ⟨.int .i64, sz, by_, z⟩ cs
      | none => none) = some (.int .i64 ys[i]) := by
  simp only [behind, getW_blk h, Option.map_some, loadCs, TI.agg]
  simp [cellsI, hi]

/-- Writing a number of a block. -/
theorem splice_cells {i : Nat} {ys : List Int} (hi : i < ys.length) (x : Int) : splice (cellsI ys) i [.int .i64 x] = cellsI (ys.set i x) := by
  simp only [splice, cellsI, List.map_set]
  rw [List.set_eq_take_append_cons_drop]
  simp [hi]

/-- A list whose first i numbers have been turned. -/
def upTo (g : Int → Int) (xs : List Int) (i : Nat) : List Int := (xs.take i).map g ++ xs.drop i

theorem upTo_len (g : Int → Int) (xs : List Int) (i : Nat) : (upTo g xs i).length = xs.length := by
  simp [upTo]; omega
theorem upTo_zero (g : Int → Int) (xs : List Int) : upTo g xs 0 = xs := by simp [upTo]
theorem upTo_all (g : Int → Int) (xs : List Int) : upTo g xs xs.length = xs.map g := by simp [upTo]
theorem upTo_drop (g : Int → Int) {xs : List Int} {i : Nat} (hi : i < xs.length) : (upTo g xs i).drop i = xs[i] :: xs.drop (i + 1) := by
  have h : ((xs.take i).map g).length = i := by simp; omega
  rw [upTo, List.drop_append, h, List.drop_eq_nil_of_le (by omega), Nat.sub_self, List.drop_zero, List.nil_append]
  exact List.drop_eq_getElem_cons hi
theorem upTo_set (g : Int → Int) {xs : List Int} {i : Nat} (hi : i < xs.length) : (upTo g xs i).set i (g xs[i]) = upTo g xs (i + 1) := by
  have h : ((xs.take i).map g).length = i := by simp; omega
  rw [upTo, List.set_append, h, if_neg (by omega), Nat.sub_self, List.drop_eq_getElem_cons hi, List.set_cons_zero, upTo, List.take_succ_eq_append_getElem hi, List.map_append, List.append_assoc]
  rfl

theorem behind_upTo (g : Int → Int) {xs : List Int} {b ver i : Nat} (h : getW H b ver = some (cellsI (upTo g xs i))) (hi : i < xs.length) : behind H (.mp b ver i) = some (.int .i64 xs[i] :: cellsI (xs.drop (i + 1))) := by
  simp only [behind, getW_blk h, Option.map_some, cellsI]
  rw [← List.map_drop, upTo_drop g hi]
  rfl

theorem splice_upTo (g : Int → Int) {xs : List Int} {i : Nat} (hi : i < xs.length) : splice (cellsI (upTo g xs i)) i [.int .i64 (g xs[i])] = cellsI (upTo g xs (i + 1)) := by
  rw [splice_cells (by rw [upTo_len]; exact hi), upTo_set g hi]

/-- What append of one number to a list gives: the list, the memory. -/
def appL (P : Program) (ty : TypeId) (H : Heap) (v : V) (x : Int) : V :=
  match appendV P (H ++ [newBlk 1 [.int .i64 x]]) ty v (.ms 1 H.length 1 0 1 true) with
  | some (a, _) => a
  | none => .nil
def appH (P : Program) (ty : TypeId) (H : Heap) (v : V) (x : Int) : Heap :=
  match appendV P (H ++ [newBlk 1 [.int .i64 x]]) ty v (.ms 1 H.length 1 0 1 true) with
  | some (_, h) => h
  | none => []

theorem Mut.append_eq (T : IntsT P ty e) {v : V} {ys : List Int} (h : Mut H v ys) (x : Int) (hl : ys.length < 17592186044415) :
    appendV P (H ++ [newBlk 1 [.int .i64 x]]) ty v (.ms 1 H.length 1 0 1 true) = some (appL P ty H v x, appH P ty H v x) := by
  obtain ⟨v', H', h1, _⟩ := h.append T x hl
  simp only [appL, appH, h1]

theorem Mut.append_mut (T : IntsT P ty e) {v : V} {ys : List Int} (h : Mut H v ys) (x : Int) (hl : ys.length < 17592186044415) : Mut (appH P ty H v x) (appL P ty H v x) (ys ++ [x]) := by
  obtain ⟨v', H', h1, h2⟩ := h.append T x hl
  simp only [appL, appH, h1]
  exact h2

theorem ql_max {k k' : IntKind} {x y : Int} {ts : Array TypeId} : qBuiltin P .max ts [.int k x, .int k' y] = some (.int k (if y > x then y else x)) := rfl
theorem ql_min {k k' : IntKind} {x y : Int} {ts : Array TypeId} : qBuiltin P .min ts [.int k x, .int k' y] = some (.int k (if y < x then y else x)) := rfl

theorem IV_pure (ys : List Int) : (IV ys).pure = true := by
  unfold IV
  split
  · rfl
  · exact intsI_pure ys

/-- The first numbers of an immutable list. -/
theorem slice_take (T : IntsT P ty e) {v : V} {xs : List Int} (hv : IsInts v xs) (k : Nat) (hk : k ≤ xs.length) : ∃ v', sliceV P H ty v none (some (.int .i64 (k : Int))) none = some v' ∧ IsInts v' (xs.take k) := by
  rcases hv with ⟨rfl, rfl⟩ | ⟨full, rfl⟩
  · have : k = 0 := by simpa using hk
    subst this
    exact ⟨.nil, by simp [sliceV, T.hs, T.he, cutV, bnd, sizeT], .inl ⟨rfl, rfl⟩⟩
  · refine ⟨.sl (full && decide (xs.length = k)) ((intsI xs).take k), ?_, .inr ⟨full && decide (xs.length = k), by simp only [intsI, List.map_take]⟩⟩
    have h1 : (intsI xs).length = xs.length := by simp [intsI]
    have h2 : (intsI xs).all (fun cs => decide (cs.length = 1)) = true := by simp [intsI]
    have h3 : cutV xs.length full none (some (.int .i64 (k : Int))) none = some (0, k, full && decide (xs.length = k)) := by
      simp [cutV, bnd, hk]
    simp only [sliceV, T.hs, h1, h3, sizeT, T.he, Option.map_some, h2, if_true, List.drop_zero, Nat.sub_zero]

/-- append(nil, v...). -/
theorem append_nil (T : IntsT P ty e) {v : V} {ys : List Int} (h : IsInts v ys) (hl : ys.length < 17592186044415) :
    ∃ w H', appendV P H ty .nil v = some (w, H') ∧ Mut H' w ys := by
  rcases h with ⟨rfl, rfl⟩ | ⟨full, rfl⟩
  · exact ⟨.nil, H, by simp [appendV, T.hs, T.he, elemsOf], .nil⟩
  · cases ys with
    | nil => exact ⟨.nil, H, by simp [appendV, T.hs, T.he, elemsOf, intsI], .nil⟩
    | cons x r =>
      refine ⟨.ms 1 H.length (r.length + 1) 0 (r.length + 1) false, H ++ [newBlk (r.length + 1) (cellsI (x :: r))], ?_, .inr ⟨H.length, r.length + 1, by simp, getW_new (r := []), by simp⟩⟩
      simp only [appendV, T.hs, T.he, elemsOf]
      have e1 : intsI (x :: r) = [.int .i64 x] :: intsI r := rfl
      have h2 := intsI_all (x :: r)
      have h3 := intsI_flat (x :: r)
      have h4 : (intsI r).length = r.length := by simp [intsI]
      have h1 : ((r.length + 1) * 8 ≤ room) := by unfold room; simp at hl ⊢; omega
      rw [e1] at h2 h3 ⊢
      simp only
      rw [if_neg (by simp only [h2]; simp [V.cells]), if_pos (by simpa [h4] using h1)]
      simp only [h3, cellsI_len, List.length_cons, h4]

/-- append(v, x), the one number lying in an immutable list. -/
theorem Mut.append1 (T : IntsT P ty e) {v : V} {ys : List Int} (h : Mut H v ys) (x : Int) (hl : ys.length < 17592186044415) :
    ∃ v' H', appendV P H ty v (.sl true [[.int .i64 x]]) = some (v', H') ∧ Mut H' v' (ys ++ [x]) := by
  simp only [appendV, T.hs, T.he, elemsOf]
  rcases h with ⟨rfl, rfl⟩ | ⟨b, ver, rfl, hb, hne⟩
  · refine ⟨_, _, ?_, .inr ⟨H.length, 1, rfl, getW_new (r := []), by simp⟩⟩
    simp [room, V.cells, V.one, allOne, cellsI]
  · have hlt := getW_lt hb
    refine ⟨.ms 1 b (ver + 1) 0 (ys.length + 1) false, setBlk H b (ver + 1) (cellsI ys ++ [.int .i64 x]), ?_, .inr ⟨b, ver + 1, by simp, ?_, by simp⟩⟩
    · simp only [hb]
      have h1 : (ys.length + 1) * 8 ≤ room := by unfold room; omega
      simp [V.cells, V.one, allOne, cellsI_len, h1]
    · rw [getW_set hlt]
      simp [cellsI]

def appL1 (P : Program) (ty : TypeId) (H : Heap) (v : V) (x : Int) : V :=
  match appendV P H ty v (.sl true [[.int .i64 x]]) with
  | some (a, _) => a
  | none => .nil
def appH1 (P : Program) (ty : TypeId) (H : Heap) (v : V) (x : Int) : Heap :=
  match appendV P H ty v (.sl true [[.int .i64 x]]) with
  | some (_, h) => h
  | none => []

theorem Mut.append1_eq (T : IntsT P ty e) {v : V} {ys : List Int} (h : Mut H v ys) (x : Int) (hl : ys.length < 17592186044415) :
    appendV P H ty v (.sl true [[.int .i64 x]]) = some (appL1 P ty H v x, appH1 P ty H v x) := by
  obtain ⟨v', H', h1, _⟩ := h.append1 T x hl
  simp only [appL1, appH1, h1]

theorem Mut.append1_mut (T : IntsT P ty e) {v : V} {ys : List Int} (h : Mut H v ys) (x : Int) (hl : ys.length < 17592186044415) : Mut (appH1 P ty H v x) (appL1 P ty H v x) (ys ++ [x]) := by
  obtain ⟨v', H', h1, h2⟩ := h.append1 T x hl
  simp only [appL1, appH1, h1]
  exact h2

end Go.Ae

namespace Go.Ae

abbrev Str := List UInt8

/-- A slice's content: nil, or elements ('full': nothing lies behind them). -/
inductive SL (α : Type) where
  | nil
  | mk (full : Bool) (l : List α)

def SL.list {α : Type} : SL α → List α
  | .nil => []
  | .mk _ l => l

theorem SL.list_nil {α : Type} : (SL.nil : SL α).list = [] := rfl
theorem SL.list_mk {α : Type} {b : Bool} {l : List α} : (SL.mk b l).list = l := rfl

def enc {α : Type} (e : α → List V) : SL α → V
  | .nil => .nil
  | .mk b l => .sl b (l.map e)

/-- A slice type and its element type. -/
structure LT (P : Program) (ty et : TypeId) (i : TI) : Prop where
  hs : tinf P ty = some ⟨.slice et, 1, 24, .nil⟩
  he : tinf P et = some i
  hz : 0 < i.size
  hb : 0 < i.bytes
  hl : i.zero.cells.length = i.size

/-- An encoding of elements as cells. -/
structure Ee {α : Type} (e : α → List V) (n : Nat) : Prop where
  len : ∀ a, (e a).length = n
  one : ∀ a, allOne (e a) = true
  pure : ∀ a, V.pureL (e a) = true

variable {α : Type} {P : Program} {ty et : TypeId} {i : TI} {e : α → List V} {H : Heap}

theorem enc_len (T : LT P ty et i) (s : SL α) : lenV P ty (enc e s) = some s.list.length := by
  cases s <;> simp [enc, lenV, T.hs, SL.list]

theorem enc_idx (T : LT P ty et i) (E : Ee e i.size) (s : SL α) {j : Nat} (hj : j < s.list.length) : indexAddrV P ty (enc e s) (j : Int) = some (.rp (e s.list[j])) := by
  cases s with
  | nil => simp [SL.list] at hj
  | mk b l =>
    simp only [SL.list] at hj
    simp [enc, indexAddrV, sizeT, T.hs, T.he, SL.list, hj, E.len]

theorem pureLL_map {n : Nat} (E : Ee e n) : ∀ l : List α, V.pureLL (l.map e) = true
  | [] => rfl
  | a :: r => by simp only [List.map_cons, V.pureLL, E.pure, pureLL_map E r, Bool.and_self]

theorem enc_pure {n : Nat} (E : Ee e n) (s : SL α) : (enc e s).pure = true := by
  cases s with
  | nil => rfl
  | mk b l => exact pureLL_map E l

theorem cells_enc (s : SL α) : (enc e s).cells = [enc e s] := by cases s <;> rfl
theorem one_enc (s : SL α) : (enc e s).one = true := by cases s <;> rfl

def mkSL (l : List α) : SL α := if l = [] then .nil else .mk false l
theorem mkSL_list (l : List α) : (mkSL l).list = l := by unfold mkSL; split <;> simp_all [SL.list]

theorem flat_len {n : Nat} (E : Ee e n) : ∀ l : List α, (l.map e).flatten.length = l.length * n
  | [] => by simp
  | a :: r => by simp only [List.map_cons, List.flatten_cons, List.length_append, E.len, flat_len E r, List.length_cons]; rw [Nat.succ_mul]; omega

theorem flat_one {n : Nat} (E : Ee e n) : ∀ l : List α, allOne (l.map e).flatten = true
  | [] => rfl
  | a :: r => by
    have h1 := flat_one E r
    have h2 := E.one a
    simp only [allOne, List.map_cons, List.flatten_cons, List.all_append] at *
    rw [h1, h2]; rfl

theorem flat_drop {n : Nat} (E : Ee e n) : ∀ (l : List α) (j : Nat), (l.map e).flatten.drop (j * n) = ((l.drop j).map e).flatten
  | l, 0 => by simp
  | [], j + 1 => by simp
  | a :: r, j + 1 => by
    rw [List.map_cons, List.flatten_cons, List.drop_succ_cons, ← flat_drop E r j, Nat.succ_mul, Nat.add_comm, ← List.drop_drop]
    congr 1
    rw [← E.len a, List.drop_left]

theorem flat_take {n : Nat} (E : Ee e n) : ∀ (l : List α) (j : Nat), (l.map e).flatten.take (j * n) = ((l.take j).map e).flatten
  | l, 0 => by simp
  | [], j + 1 => by simp
  | a :: r, j + 1 => by
    rw [List.map_cons, List.flatten_cons, List.take_succ_cons, List.map_cons, List.flatten_cons, ← flat_take E r j, Nat.succ_mul, Nat.add_comm, List.take_append, E.len]
    congr 1
    · rw [List.take_of_length_le]; rw [E.len]; omega
    · congr 1; omega

theorem chunk_flat {n : Nat} (E : Ee e n) : ∀ l : List α, chunk n l.length (l.map e).flatten = l.map e
  | [] => rfl
  | a :: r => by
    simp only [List.map_cons, List.flatten_cons, List.length_cons, chunk]
    rw [← E.len a, List.take_left, List.drop_left, E.len a, chunk_flat E r]

theorem all_ok {n : Nat} (E : Ee e n) (l : List α) : (l.map e).all (fun c => decide (c.length = n) && allOne c) = true := by
  simp [E.len, E.one]

/-- A list that is being built: what it began as ('z': no elements), or a block of its own. -/
def MutG (e : α → List V) (sz : Nat) (z : SL α) (H : Heap) (v : V) (ys : List α) : Prop :=
  (v = enc e z ∧ ys = []) ∨ ∃ b ver, v = .ms sz b ver 0 ys.length false ∧ getW H b ver = some (ys.map e).flatten ∧ ys ≠ []

/-- What a list may begin as. -/
def Empty (z : SL α) : Prop := z = .nil ∨ z = .mk true []

theorem MutG.start {sz : Nat} (z : SL α) : MutG e sz z H (enc e z) [] := .inl ⟨rfl, rfl⟩
theorem MutG.nil {sz : Nat} : MutG e sz .nil H .nil [] := .inl ⟨rfl, rfl⟩

theorem elems_enc (s : SL α) : elemsOf H (enc e s) = some (s.list.map e) := by
  cases s <;> simp [enc, elemsOf, SL.list]

theorem elems_ms {n : Nat} (E : Ee e n) (hn : 0 < n) {b ver : Nat} {full : Bool} {ys : List α} (h : getBlk H b ver = some (ys.map e).flatten) : elemsOf H (.ms n b ver 0 ys.length full) = some (ys.map e) := by
  simp only [elemsOf, h]
  simp [flat_len E, chunk_flat E, hn]

/-- Appending elements. -/
theorem MutG.append (T : LT P ty et i) (E : Ee e i.size) {z : SL α} (hz : Empty z) {v x : V} {ys xs : List α} (h : MutG e i.size z H v ys) (hx : elemsOf H x = some (xs.map e)) (hl : (ys.length + xs.length) * i.bytes ≤ room) :
    ∃ v' H', appendV P H ty v x = some (v', H') ∧ MutG e i.size z H' v' (ys ++ xs) ∧ H.length ≤ H'.length ∧ (∀ b, b < H.length → (∀ ver, v ≠ .ms i.size b ver 0 ys.length false) → H'[b]? = H[b]?) ∧
      (∀ b ver, v' = .ms i.size b ver 0 (ys ++ xs).length false → (∃ ver', v = .ms i.size b ver' 0 ys.length false) ∨ H.length ≤ b) := by
  cases xs with
  | nil =>
    refine ⟨v, H, ?_, by simpa using h, Nat.le_refl _, fun _ _ _ => rfl, fun b ver hv => .inl ⟨ver, by simpa using hv⟩⟩
    simp only [appendV, T.hs, T.he, hx, List.map_nil]
    rcases h with ⟨rfl, rfl⟩ | ⟨b, ver, rfl, _, _⟩
    · rcases hz with rfl | rfl <;> rfl
    · rfl
  | cons a r =>
    have hok := all_ok E (a :: r)
    have hn1 : ¬(i.size = 0 ∨ i.bytes = 0 ∨ i.zero.cells.length ≠ i.size ∨ (!((a :: r).map e).all fun c => decide (c.length = i.size) && allOne c) = true) := by
      rw [hok]
      have := T.hz; have := T.hb; have := T.hl
      simp; omega
    have hfl : ((a :: r).map e).flatten.length = (a :: r).length * i.size := flat_len E (a :: r)
    have hne : ((a :: r).map e) = e a :: r.map e := rfl
    simp only [appendV, T.hs, T.he, hx]
    rw [hne] at hn1 hfl ⊢
    simp only
    rw [if_neg hn1]
    have hlen : (e a :: r.map e).length = (a :: r).length := by simp
    rcases h with ⟨rfl, rfl⟩ | ⟨b, ver, rfl, hb, hys⟩
    · have hl' : (a :: r).length * i.bytes ≤ room := by simpa using hl
      rcases hz with rfl | rfl
      · refine ⟨.ms i.size H.length (e a :: r.map e).flatten.length 0 (a :: r).length false, H ++ [newBlk (e a :: r.map e).flatten.length (e a :: r.map e).flatten], ?_, .inr ⟨H.length, (e a :: r.map e).flatten.length, by simp, by rw [List.nil_append]; exact getW_new (r := []), by simp⟩, by simp, fun b hb _ => by rw [List.getElem?_append_left hb], fun b ver hv => ?_⟩
        · simp only [enc]
          rw [hlen, if_pos hl']
        · injection hv with _ hv; right; omega
      · refine ⟨.ms i.size H.length (e a :: r.map e).flatten.length 0 (a :: r).length false, H ++ [newBlk (e a :: r.map e).flatten.length (e a :: r.map e).flatten], ?_, .inr ⟨H.length, (e a :: r.map e).flatten.length, by simp, by rw [List.nil_append]; exact getW_new (r := []), by simp⟩, by simp, fun b hb _ => by rw [List.getElem?_append_left hb], fun b ver hv => ?_⟩
        · simp only [enc, List.map_nil, List.length_nil, Nat.zero_add, List.nil_append, List.all_nil]
          rw [hlen, if_pos ⟨hl', trivial⟩]
        · injection hv with _ hv; right; omega
    · have hlt := getW_lt hb
      have hysl : (ys.map e).flatten.length = ys.length * i.size := flat_len E ys
      refine ⟨.ms i.size b (ver + (a :: r).length * i.size) 0 (ys.length + (a :: r).length) false, setBlk H b (ver + (a :: r).length * i.size) ((ys.map e).flatten ++ (e a :: r.map e).flatten), ?_, .inr ⟨b, ver + (a :: r).length * i.size, by simp, ?_, by simp⟩, by simp [setBlk_len], fun b' hb' hne' => ?_, fun b' ver' hv => ?_⟩
      · simp only [hb]
        rw [hlen, if_pos (by refine ⟨?_, hl, by rw [hysl]; omega⟩; first | rfl | trivial), if_pos (by refine ⟨?_, hysl.symm⟩; first | rfl | trivial)]
      · rw [getW_set hlt, List.map_append, List.flatten_append]; rfl
      · unfold setBlk
        rw [List.getElem?_set_ne]
        intro hq; subst hq; exact hne' ver rfl
      · injection hv with _ hv; subst hv; exact .inl ⟨ver, rfl⟩

def apV (P : Program) (ty : TypeId) (H : Heap) (v x : V) : V :=
  match appendV P H ty v x with
  | some (a, _) => a
  | none => .nil
def apH (P : Program) (ty : TypeId) (H : Heap) (v x : V) : Heap :=
  match appendV P H ty v x with
  | some (_, h) => h
  | none => []

theorem MutG.app (T : LT P ty et i) (E : Ee e i.size) {z : SL α} (hz : Empty z) {v x : V} {ys xs : List α} (h : MutG e i.size z H v ys) (hx : elemsOf H x = some (xs.map e)) (hl : (ys.length + xs.length) * i.bytes ≤ room) :
    appendV P H ty v x = some (apV P ty H v x, apH P ty H v x) ∧ MutG e i.size z (apH P ty H v x) (apV P ty H v x) (ys ++ xs) := by
  obtain ⟨v', H', h1, h2, _⟩ := h.append T E hz hx hl
  simp only [apV, apH, h1]
  exact ⟨trivial, h2⟩

/-- The list, made immutable. -/
def doneSL (z : SL α) (ys : List α) : SL α := if ys = [] then z else .mk false ys
theorem doneSL_nil (ys : List α) : doneSL .nil ys = mkSL ys := rfl
theorem doneSL_list {z : SL α} (hz : Empty z) (ys : List α) : (doneSL z ys).list = ys := by
  unfold doneSL; split
  · rename_i h; subst h; rcases hz with rfl | rfl <;> rfl
  · rfl

theorem frzV_pure12 {v : V} (h : v.pure = true) : frzV 12 H v = some (v, H) := by unfold frzV; rw [if_pos h]
theorem snapV_pure12 {v : V} (h : v.pure = true) : snapV 12 H v = some v := by unfold snapV; rw [if_pos h]

theorem MutG.frz {n : Nat} (E : Ee e n) (hn : 0 < n) {z : SL α} {v : V} {ys : List α} (h : MutG e n z H v ys) : ∃ H', frzV 12 H v = some (enc e (doneSL z ys), H') := by
  rcases h with ⟨rfl, rfl⟩ | ⟨b, ver, rfl, hb, hne⟩
  · exact ⟨H, frzV_pure12 (enc_pure E z)⟩
  · refine ⟨H.set b none, ?_⟩
    have h1 : 0 + ys.length * n ≤ (ys.map e).flatten.length ∧ 0 < n := ⟨by rw [flat_len E]; omega, hn⟩
    unfold frzV
    simp only [V.pure, Bool.false_eq_true, if_false, hb, if_pos h1, List.drop_zero, chunk_flat E]
    rw [frzLL_pure 10 _ _ (pureLL_map E ys), doneSL, if_neg hne]; rfl

theorem mapO_pure (d : Nat) : ∀ (l : List V), V.pureL l = true → mapO (snapV (d + 1) H) l = some l
  | [], _ => rfl
  | v :: r, h => by
    simp only [V.pureL, Bool.and_eq_true] at h
    have h1 : snapV (d + 1) H v = some v := by unfold snapV; rw [if_pos h.1]
    simp only [mapO, h1, mapO_pure d r h.2]

theorem mapO_pureLL (d : Nat) : ∀ (l : List (List V)), V.pureLL l = true → mapO (mapO (snapV (d + 1) H)) l = some l
  | [], _ => rfl
  | v :: r, h => by
    simp only [V.pureLL, Bool.and_eq_true] at h
    simp only [mapO, mapO_pure d v h.1, mapO_pureLL d r h.2]

theorem MutG.snap {n : Nat} (E : Ee e n) (hn : 0 < n) {z : SL α} {v : V} {ys : List α} (h : MutG e n z H v ys) : snapV 12 H v = some (enc e (doneSL z ys)) := by
  rcases h with ⟨rfl, rfl⟩ | ⟨b, ver, rfl, hb, hne⟩
  · exact snapV_pure12 (enc_pure E z)
  · have h1 : 0 + ys.length * n ≤ (ys.map e).flatten.length ∧ 0 < n := ⟨by rw [flat_len E]; omega, hn⟩
    unfold snapV
    simp only [V.pure, Bool.false_eq_true, if_false, getW_blk hb, if_pos h1, List.drop_zero, chunk_flat E, mapO_pureLL 10 _ (pureLL_map E ys), Option.map_some]
    rw [doneSL, if_neg hne]; rfl

/-! Parts of an immutable list. -/

def SL.upto (s : SL α) (k : Nat) : SL α :=
  match s with
  | .nil => .nil
  | .mk b l => .mk (b && decide (k = l.length)) (l.take k)
theorem SL.upto_list (s : SL α) (k : Nat) : (s.upto k).list = s.list.take k := by cases s <;> simp [SL.upto, SL.list]

def SL.from (s : SL α) (k : Nat) : SL α :=
  match s with
  | .nil => .nil
  | .mk b l => .mk b (l.drop k)
theorem SL.from_list (s : SL α) (k : Nat) : (s.from k).list = s.list.drop k := by cases s <;> simp [SL.from, SL.list]

theorem enc_upto (T : LT P ty et i) (E : Ee e i.size) (s : SL α) {k : Nat} (hk : k ≤ s.list.length) : sliceV P H ty (enc e s) none (some (.int .i64 (k : Int))) none = some (enc e (s.upto k)) := by
  cases s with
  | nil =>
    simp only [SL.list, List.length_nil] at hk
    have : k = 0 := by omega
    subst this
    simp [enc, sliceV, T.hs, T.he, cutV, bnd, sizeT, SL.upto]
  | mk b l =>
    simp only [SL.list] at hk
    have h3 : cutV l.length b none (some (.int .i64 (k : Int))) none = some (0, k, b && decide (l.length = k)) := by
      simp [cutV, bnd, hk]
    have h2 : (l.map e).all (fun cs => decide (cs.length = i.size)) = true := by simp [E.len]
    simp only [enc, sliceV, T.hs, List.length_map, h3, sizeT, T.he, Option.map_some, h2, if_true, List.drop_zero, Nat.sub_zero, SL.upto, List.map_take]
    congr 3
    rw [Bool.eq_iff_iff]; simp; omega

theorem enc_from (T : LT P ty et i) (E : Ee e i.size) (s : SL α) {k : Nat} (hk : k ≤ s.list.length) : sliceV P H ty (enc e s) (some (.int .i64 (k : Int))) none none = some (enc e (s.from k)) := by
  cases s with
  | nil =>
    simp only [SL.list, List.length_nil] at hk
    have : k = 0 := by omega
    subst this
    simp [enc, sliceV, T.hs, T.he, cutV, bnd, sizeT, SL.from]
  | mk b l =>
    simp only [SL.list] at hk
    have h3 : cutV l.length b (some (.int .i64 (k : Int))) none none = some (k, l.length, b && true) := by
      simp [cutV, bnd, hk]
    have h2 : (l.map e).all (fun cs => decide (cs.length = i.size)) = true := by simp [E.len]
    simp only [enc, sliceV, T.hs, List.length_map, h3, sizeT, T.he, Option.map_some, h2, if_true, SL.from, List.map_drop, Bool.and_true]
    rw [List.take_of_length_le (by simp)]

/-! Elements of a block. -/

theorem blk_drop {n : Nat} (E : Ee e n) {ys : List α} {j k : Nat} (hj : j < ys.length) (hk : k ≤ n) : (ys.map e).flatten.drop (j * n + k) = (e ys[j]).drop k ++ ((ys.drop (j + 1)).map e).flatten := by
  rw [← List.drop_drop, flat_drop E, List.drop_eq_getElem_cons hj, List.map_cons, List.flatten_cons, List.drop_append_of_le_length (by rw [E.len]; exact hk)]

theorem blk_splice {n : Nat} (E : Ee e n) {ys : List α} {j k : Nat} (hj : j < ys.length) {cs : List V} (hk : k + cs.length ≤ n) {a : α} (ha : e a = splice (e ys[j]) k cs) : splice (ys.map e).flatten (j * n + k) cs = ((ys.set j a).map e).flatten := by
  have h1 : (ys.map e).flatten = ((ys.take j).map e).flatten ++ (e ys[j] ++ ((ys.drop (j + 1)).map e).flatten) := by
    conv => lhs; rw [← List.take_append_drop j ys, List.map_append, List.flatten_append, List.drop_eq_getElem_cons hj, List.map_cons, List.flatten_cons]
  have h2 : (((ys.take j).map e).flatten).length = j * n := by rw [flat_len E, List.length_take, Nat.min_eq_left (by omega)]
  have h3 : (ys.set j a) = ys.take j ++ (a :: ys.drop (j + 1)) := by rw [List.set_eq_take_append_cons_drop, if_pos hj]
  rw [h3, List.map_append, List.flatten_append, List.map_cons, List.flatten_cons, ha, h1]
  have hl := E.len ys[j]
  generalize ((ys.take j).map e).flatten = A at *
  generalize ((ys.drop (j + 1)).map e).flatten = C at *
  generalize e ys[j] = B at *
  unfold splice
  rw [List.take_append, h2, show j * n + k - j * n = k by omega, List.take_of_length_le (by omega : A.length ≤ j * n + k), List.take_append_of_le_length (by omega : k ≤ B.length)]
  rw [List.append_assoc, List.append_assoc, List.append_assoc, List.append_assoc]
  congr 3
  rw [show j * n + k + cs.length = A.length + (k + cs.length) by omega, List.drop_append, List.drop_of_length_le (by omega : A.length ≤ A.length + (k + cs.length)), show A.length + (k + cs.length) - A.length = k + cs.length by omega, List.nil_append, List.drop_append_of_le_length (by omega)]

end Go.Ae
