/-
  The evaluator without a bound on rounds: equations.
-/
import Derived.Test.YtplhjndcokidfaaGreatDoorA3
set_option linter.unusedVariables false
set_option linter.unusedSimpArgs false
namespace Go.Ae

variable {E : Env}

def Mono {α : Type} (g : Nat → Option α) : Prop := ∀ n r, g n = some r → g (n + 1) = some r

theorem Mono.le {α : Type} {g : Nat → Option α} (h : Mono g) {n m : Nat} (hnm : n ≤ m) {r : α} (hr : g n = some r) : g m = some r := by
  induction hnm with
  | refl => exact hr
  | step _ ih => exact h _ _ ih

open Classical in
noncomputable def Lim {α : Type} (g : Nat → Option α) : Option α := if h : ∃ n r, g n = some r then some h.choose_spec.choose else none

theorem Lim_some {α : Type} {g : Nat → Option α} (hm : Mono g) {r : α} : Lim g = some r ↔ ∃ n, g n = some r := by
  unfold Lim
  constructor
  · intro h
    split at h
    · rename_i hq
      injection h with h
      exact ⟨hq.choose, by rw [hq.choose_spec.choose_spec, h]⟩
    · cases h
  · rintro ⟨n, hn⟩
    have hq : ∃ n r, g n = some r := ⟨n, r, hn⟩
    rw [dif_pos hq]
    have h1 := hq.choose_spec.choose_spec
    have h2 := hm.le (Nat.le_max_left n hq.choose) hn
    have h3 := hm.le (Nat.le_max_right n hq.choose) h1
    rw [h2] at h3
    exact h3.symm

theorem Lim_none {α : Type} {g : Nat → Option α} (hm : Mono g) : Lim g = none ↔ ∀ n, g n = none := by
  constructor
  · intro h n
    cases hq : g n with
    | none => rfl
    | some r => rw [(Lim_some hm).2 ⟨n, hq⟩] at h; cases h
  · intro h
    cases hq : Lim g with
    | none => rfl
    | some r => obtain ⟨n, hn⟩ := (Lim_some hm).1 hq; rw [h n] at hn; cases hn

theorem Mono.const {α : Type} (x : Option α) : Mono fun _ => x := fun _ _ h => h

theorem Lim_const {α : Type} (x : Option α) : Lim (fun _ => x) = x := by
  cases x with
  | none => exact (Lim_none (.const none)).2 fun _ => rfl
  | some r => exact (Lim_some (.const _)).2 ⟨0, rfl⟩

theorem Mono.bind {α β : Type} {g : Nat → Option α} {k : α → Nat → Option β} (hg : Mono g) (hk : ∀ a, Mono (k a)) : Mono fun n => (g n).bind fun a => k a n := by
  intro n r h
  simp only at h ⊢
  cases hq : g n with
  | none => rw [hq] at h; cases h
  | some a => rw [hq] at h; rw [hg n a hq]; exact hk a n r h

theorem Lim_bind {α β : Type} {g : Nat → Option α} {k : α → Nat → Option β} (hg : Mono g) (hk : ∀ a, Mono (k a)) : Lim (fun n => (g n).bind fun a => k a n) = (Lim g).bind fun a => Lim (k a) := by
  have hb := hg.bind hk
  cases hL : Lim g with
  | none =>
    have := (Lim_none hg).1 hL
    exact (Lim_none hb).2 fun n => by rw [this n]; rfl
  | some a =>
    obtain ⟨n, hn⟩ := (Lim_some hg).1 hL
    simp only [Option.bind_some]
    cases hK : Lim (k a) with
    | none =>
      have h2 := (Lim_none (hk a)).1 hK
      refine (Lim_none hb).2 fun m => ?_
      cases hq : g m with
      | none => rfl
      | some a' =>
        have h3 := hg.le (Nat.le_max_left n m) hn
        have h4 := hg.le (Nat.le_max_right n m) hq
        rw [h3] at h4; injection h4 with h4; subst h4
        exact h2 m
    | some b =>
      obtain ⟨m, hm⟩ := (Lim_some (hk a)).1 hK
      refine (Lim_some hb).2 ⟨max n m, ?_⟩
      rw [hg.le (Nat.le_max_left n m) hn]
      exact (hk a).le (Nat.le_max_right n m) hm

theorem Lim_shift {α : Type} {g : Nat → Option α} (hm : Mono g) : Lim (fun n => g (n + 1)) = Lim g := by
  have hs : Mono fun n => g (n + 1) := fun n r h => hm _ _ h
  cases hL : Lim g with
  | none => exact (Lim_none hs).2 fun n => (Lim_none hm).1 hL (n + 1)
  | some r =>
    obtain ⟨n, hn⟩ := (Lim_some hm).1 hL
    exact (Lim_some hs).2 ⟨n, hm _ _ hn⟩

/-! The evaluator's parts as binds. -/

theorem opsV_cons (call : Call) (f : FuncId) (ops : Array Oper) (o : Oper) (rest : List Oper) (ts : List V) (H : Heap) :
    opsV E call f ops (o :: rest) ts H = if wantedV ops ts o then (stepV E call f o ts H).bind fun p => opsV E call f ops rest (putV ts o.dst p.1) p.2 else opsV E call f ops rest (putV ts o.dst undefV) H := by
  simp only [opsV]
  split
  · cases stepV E call f o ts H <;> rfl
  · rfl

theorem drawV_cons (call : Call) (f : FuncId) (ops : Array Oper) (a : Nat) (o : Oper) (rest : List Oper) (ts : List V) (H : Heap) :
    drawV E call f ops a (o :: rest) ts H = if wantedV ops ts o then (stepD E call f a o ts H).bind fun p => drawV E call f ops (if isAlloc o then a + 1 else a) rest (putV ts o.dst p.1) p.2
      else drawV E call f ops (if isAlloc o then a + 1 else a) rest (putV ts o.dst undefV) H := by
  simp only [drawV]
  split
  · cases stepD E call f a o ts H <;> rfl
  · rfl

theorem drawW_cons (call : Call) (f : FuncId) (ops : Array Oper) (wt : Wt) (j a : Nat) (o : Oper) (rest : List Oper) (ts : List V) (H : Heap) (L : Log) :
    drawW E call f ops wt j a (o :: rest) ts H L = if wantedV ops ts o then (stepD E call f a o ts H).bind fun p => if chkJ E f o wt j (rho E ts) p.2 p.1 L then drawW E call f ops wt (j + 1) (if isAlloc o then a + 1 else a) rest (putV ts o.dst p.1) p.2 (logX E f o wt j (rho E ts) H p.1 ++ L) else none
      else drawW E call f ops wt (j + 1) (if isAlloc o then a + 1 else a) rest (putV ts o.dst undefV) H L := by
  simp only [drawW]
  split
  · cases stepD E call f a o ts H <;> rfl
  · rfl

section
variable {cn : Nat → Call} (hc : ∀ g args H, Mono fun n => cn n g args H)
include hc

noncomputable def LimCall (cn : Nat → Call) : Call := fun g args H => Lim fun n => cn n g args H

theorem callI_mono (g : FuncId) (args : List V) (H : Heap) : Mono (fun n => callI E (cn n) g args H) ∧ Lim (fun n => callI E (cn n) g args H) = callI E (LimCall cn) g args H := by
  unfold callI
  by_cases h : E.idf g = true
  · simp only [h, if_true]; exact ⟨.const _, Lim_const _⟩
  · simp only [if_neg h]; exact ⟨hc _ _ _, rfl⟩

theorem step0_mono (f : FuncId) (o : Oper) (ts : List V) (H : Heap) : Mono (fun n => stepV0 E (cn n) f o ts H) ∧ Lim (fun n => stepV0 E (cn n) f o ts H) = stepV0 E (LimCall cn) f o ts H := by
  unfold stepV0
  cases calleeV (rho E ts) o.op with
  | none => exact ⟨.const _, Lim_const _⟩
  | some x =>
    cases x with
    | none => exact ⟨.const _, Lim_const _⟩
    | some p => exact callI_mono hc _ _ _

omit hc in
theorem fzR_eq (f : FuncId) (d : Option Tmp) (op : Op) (r : Option (V × Heap)) : fzR E f d op r = if isCall op && E.fzd f d then r.bind fun p => frzV 12 p.2 p.1 else r := by
  unfold fzR
  split
  · cases r <;> rfl
  · rfl

theorem step_mono (f : FuncId) (o : Oper) (ts : List V) (H : Heap) : Mono (fun n => stepV E (cn n) f o ts H) ∧ Lim (fun n => stepV E (cn n) f o ts H) = stepV E (LimCall cn) f o ts H := by
  obtain ⟨h1, h2⟩ := step0_mono (E := E) hc f o ts H
  unfold stepV
  simp only [fzR_eq]
  split
  · refine ⟨h1.bind fun p => .const _, ?_⟩
    rw [Lim_bind h1 (fun p => .const _), h2]
    simp only [Lim_const]
  · exact ⟨h1, h2⟩

theorem stepD_mono (f : FuncId) (s : Nat) (o : Oper) (ts : List V) (H : Heap) : Mono (fun n => stepD E (cn n) f s o ts H) ∧ Lim (fun n => stepD E (cn n) f s o ts H) = stepD E (LimCall cn) f s o ts H := by
  obtain ⟨h1, h2⟩ := step_mono (E := E) hc f o ts H
  unfold stepD
  cases kdOf E f o with
  | a => exact ⟨.const _, Lim_const _⟩
  | n =>
    simp only
    split
    · exact ⟨.const _, Lim_const _⟩
    · exact ⟨h1, h2⟩
  | l =>
    simp only
    split
    · exact ⟨h1, h2⟩
    · exact ⟨.const _, Lim_const _⟩
  | e => exact ⟨h1, h2⟩

theorem ops_mono (f : FuncId) (ops : Array Oper) : ∀ (l : List Oper) (ts : List V) (H : Heap), Mono (fun n => opsV E (cn n) f ops l ts H) ∧ Lim (fun n => opsV E (cn n) f ops l ts H) = opsV E (LimCall cn) f ops l ts H
  | [], ts, H => ⟨.const _, Lim_const _⟩
  | o :: rest, ts, H => by
    obtain ⟨h1, h2⟩ := step_mono (E := E) hc f o ts H
    have ih := ops_mono f ops rest
    simp only [opsV_cons]
    split
    · refine ⟨h1.bind fun p => (ih _ _).1, ?_⟩
      rw [Lim_bind h1 (fun p => (ih _ _).1), h2]
      congr 1
      funext p
      exact (ih _ _).2
    · exact ih _ _

theorem draw_mono (f : FuncId) (ops : Array Oper) : ∀ (l : List Oper) (a : Nat) (ts : List V) (H : Heap), Mono (fun n => drawV E (cn n) f ops a l ts H) ∧ Lim (fun n => drawV E (cn n) f ops a l ts H) = drawV E (LimCall cn) f ops a l ts H
  | [], a, ts, H => ⟨.const _, Lim_const _⟩
  | o :: rest, a, ts, H => by
    obtain ⟨h1, h2⟩ := stepD_mono (E := E) hc f a o ts H
    have ih := draw_mono f ops rest
    simp only [drawV_cons]
    split
    · refine ⟨h1.bind fun p => (ih _ _ _).1, ?_⟩
      rw [Lim_bind h1 (fun p => (ih _ _ _).1), h2]
      congr 1
      funext p
      exact (ih _ _ _).2
    · exact ih _ _ _

theorem drawW_mono (f : FuncId) (ops : Array Oper) (wt : Wt) : ∀ (l : List Oper) (j a : Nat) (ts : List V) (H : Heap) (L : Log), Mono (fun n => drawW E (cn n) f ops wt j a l ts H L) ∧ Lim (fun n => drawW E (cn n) f ops wt j a l ts H L) = drawW E (LimCall cn) f ops wt j a l ts H L
  | [], j, a, ts, H, L => ⟨.const _, Lim_const _⟩
  | o :: rest, j, a, ts, H, L => by
    obtain ⟨h1, h2⟩ := stepD_mono (E := E) hc f a o ts H
    have ih := drawW_mono f ops wt rest
    simp only [drawW_cons]
    split
    · have hk : ∀ p : V × Heap, Mono (fun n => if chkJ E f o wt j (rho E ts) p.2 p.1 L then drawW E (cn n) f ops wt (j + 1) (if isAlloc o then a + 1 else a) rest (putV ts o.dst p.1) p.2 (logX E f o wt j (rho E ts) H p.1 ++ L) else none) ∧
          Lim (fun n => if chkJ E f o wt j (rho E ts) p.2 p.1 L then drawW E (cn n) f ops wt (j + 1) (if isAlloc o then a + 1 else a) rest (putV ts o.dst p.1) p.2 (logX E f o wt j (rho E ts) H p.1 ++ L) else none) =
            if chkJ E f o wt j (rho E ts) p.2 p.1 L then drawW E (LimCall cn) f ops wt (j + 1) (if isAlloc o then a + 1 else a) rest (putV ts o.dst p.1) p.2 (logX E f o wt j (rho E ts) H p.1 ++ L) else none := fun p => by
        by_cases hck : chkJ E f o wt j (rho E ts) p.2 p.1 L = true
        · simp only [hck, if_true]; exact ih _ _ _ _ _
        · simp only [hck, if_false, Bool.false_eq_true]; exact ⟨.const _, Lim_const _⟩
      refine ⟨h1.bind fun p => (hk p).1, ?_⟩
      rw [Lim_bind h1 (fun p => (hk p).1), h2]
      congr 1
      funext p
      exact (hk p).2
    · exact ih _ _ _ _ _

omit hc in
theorem regionV_eq (call : Call) (f : FuncId) (id : Nat) (ops : Array Oper) (draw : Bool) (ts : List V) (H : Heap) : regionV E call f id ops draw ts H =
    (frzTmps (E.frz f id) ts H).bind fun q => if draw then (if (E.wat f id).isEmpty = false then
      (if drawOkW E f ops (E.wat f id) then (drawW E call f ops (E.wat f id) 0 q.2.length ops.toList q.1 (q.2 ++ List.replicate (allocs ops.toList) none) []).bind fun p => some (X.nrm, p.1, p.2) else none) else
      (if drawOk E f ops then (drawV E call f ops q.2.length ops.toList q.1 (q.2 ++ List.replicate (allocs ops.toList) none)).bind fun p => some (X.nrm, p.1, p.2) else none))
    else (opsV E call f ops ops.toList q.1 q.2).bind fun p => some (X.nrm, p.1, p.2) := by
  unfold regionV
  cases frzTmps (E.frz f id) ts H with
  | none => rfl
  | some q =>
    simp only [Option.bind_some]
    split
    · split
      · split
        · cases drawW E call f ops (E.wat f id) 0 q.2.length ops.toList q.1 (q.2 ++ List.replicate (allocs ops.toList) none) [] <;> rfl
        · rfl
      · split
        · cases drawV E call f ops q.2.length ops.toList q.1 (q.2 ++ List.replicate (allocs ops.toList) none) <;> rfl
        · rfl
    · cases opsV E call f ops ops.toList q.1 q.2 <;> rfl

theorem region_mono (f : FuncId) (id : Nat) (ops : Array Oper) (draw : Bool) (ts : List V) (H : Heap) : Mono (fun n => regionV E (cn n) f id ops draw ts H) ∧ Lim (fun n => regionV E (cn n) f id ops draw ts H) = regionV E (LimCall cn) f id ops draw ts H := by
  simp only [regionV_eq]
  cases frzTmps (E.frz f id) ts H with
  | none => exact ⟨.const _, Lim_const _⟩
  | some q =>
    simp only [Option.bind_some]
    split
    · split
      · split
        · obtain ⟨h1, h2⟩ := drawW_mono (E := E) hc f ops (E.wat f id) ops.toList 0 q.2.length q.1 (q.2 ++ List.replicate (allocs ops.toList) none) []
          refine ⟨h1.bind fun p => .const _, ?_⟩
          rw [Lim_bind h1 (fun p => .const _), h2]
          congr 1; funext p; exact Lim_const _
        · exact ⟨.const _, Lim_const _⟩
      · split
        · obtain ⟨h1, h2⟩ := draw_mono (E := E) hc f ops ops.toList q.2.length q.1 (q.2 ++ List.replicate (allocs ops.toList) none)
          refine ⟨h1.bind fun p => .const _, ?_⟩
          rw [Lim_bind h1 (fun p => .const _), h2]
          congr 1; funext p; exact Lim_const _
        · exact ⟨.const _, Lim_const _⟩
    · obtain ⟨h1, h2⟩ := ops_mono (E := E) hc f ops ops.toList q.1 q.2
      refine ⟨h1.bind fun p => .const _, ?_⟩
      rw [Lim_bind h1 (fun p => .const _), h2]
      congr 1; funext p; exact Lim_const _
end

section
variable {xn : Nat → Ex} (hx : ∀ f c ts H, Mono fun n => xn n f c ts H)
include hx

noncomputable def LimEx (xn : Nat → Ex) : Ex := fun f c ts H => Lim fun n => xn n f c ts H

def fin (E : Env) (fn : Func) : X × List V × Heap → Option (V × Heap)
  | (.nrm, ts, H) | (.ret, ts, H) => (resultsV E fn ts H).map fun v => (v, H)
  | _ => none

omit hx in
theorem runFn_eq (ex : Ex) (f : FuncId) (args : List V) (H : Heap) : runFn E ex f args H = match E.P.funcs[f]? with
    | some fn => match fn.body with
      | some c => (ex f c (args ++ List.replicate (fn.ntmps - args.length) undefV) H).bind (fin E fn)
      | none => none
    | none => none := by
  unfold runFn
  cases E.P.funcs[f]? with
  | none => rfl
  | some fn =>
    simp only
    cases fn.body with
    | none => rfl
    | some c =>
      simp only
      cases ex f c (args ++ List.replicate (fn.ntmps - args.length) undefV) H with
      | none => rfl
      | some r =>
        obtain ⟨x, ts, H'⟩ := r
        cases x <;> simp only [Option.bind_some, fin] <;> cases resultsV E fn ts H' <;> rfl

theorem run_mono (f : FuncId) (args : List V) (H : Heap) : Mono (fun n => runFn E (xn n) f args H) ∧ Lim (fun n => runFn E (xn n) f args H) = runFn E (LimEx xn) f args H := by
  simp only [runFn_eq]
  cases E.P.funcs[f]? with
  | none => exact ⟨.const _, Lim_const _⟩
  | some fn =>
    simp only
    cases fn.body with
    | none => exact ⟨.const _, Lim_const _⟩
    | some c =>
      simp only
      refine ⟨(hx _ _ _ _).bind fun p => .const _, ?_⟩
      rw [Lim_bind (hx _ _ _ _) (fun p => .const _)]
      simp only [Lim_const]
      rfl

omit hx in
theorem callFn_eq (ex : Ex) (f : FuncId) (args : List V) (H : Heap) : callFn E ex f args H = match E.ext f with
    | some g => if V.pureL args then (g args).map fun v => (v, H) else none
    | none => match E.mode f with
      | .inl => runFn E ex f args H
      | .ro => (runFn E ex f args (roH H)).bind fun p => if p.1.scalar then some (p.1, H) else none
      | .mv => (frzList (frzV 12) H args).bind fun q => if V.pureL q.1 then (runFn E ex f q.1 []).bind fun p => (frzV 12 p.2 p.1).bind fun r => if r.1.pure then some (r.1, q.2) else none else none
      | .snap => if V.pureL args then (runFn E ex f args []).bind fun p => (frzV 12 p.2 p.1).bind fun r => if r.1.pure then some (r.1, H) else none
        else (mapO (snapV 12 H) args).bind fun as => (runFn E ex f as []).bind fun p => if p.1.scalar then some (p.1, H) else none := by
  unfold callFn
  cases E.ext f with
  | some g => rfl
  | none =>
    simp only
    cases E.mode f with
    | inl => rfl
    | ro => cases runFn E ex f args (roH H) <;> rfl
    | mv =>
      simp only
      cases frzList (frzV 12) H args with
      | none => rfl
      | some q =>
        simp only [Option.bind_some]
        split
        · cases runFn E ex f q.1 [] with
          | none => rfl
          | some p => simp only [Option.bind_some]; cases frzV 12 p.2 p.1 <;> rfl
        · rfl
    | snap =>
      simp only
      split
      · cases runFn E ex f args [] with
        | none => rfl
        | some p => simp only [Option.bind_some]; cases frzV 12 p.2 p.1 <;> rfl
      · cases mapO (snapV 12 H) args with
        | none => rfl
        | some as => simp only [Option.bind_some]; cases runFn E ex f as [] <;> rfl

theorem call_mono (f : FuncId) (args : List V) (H : Heap) : Mono (fun n => callFn E (xn n) f args H) ∧ Lim (fun n => callFn E (xn n) f args H) = callFn E (LimEx xn) f args H := by
  simp only [callFn_eq]
  cases E.ext f with
  | some g => exact ⟨.const _, Lim_const _⟩
  | none =>
    simp only
    have hr := run_mono (E := E) hx f
    cases E.mode f with
    | inl => exact hr _ _
    | ro =>
      refine ⟨(hr _ _).1.bind fun p => .const _, ?_⟩
      simp only
      rw [Lim_bind (hr _ _).1 (fun p => .const _), (hr _ _).2]
      simp only [Lim_const]
    | mv =>
      simp only
      cases frzList (frzV 12) H args with
      | none => exact ⟨.const _, Lim_const _⟩
      | some q =>
        simp only [Option.bind_some]
        split
        · refine ⟨(hr _ _).1.bind fun p => .const _, ?_⟩
          rw [Lim_bind (hr _ _).1 (fun p => .const _), (hr _ _).2]
          simp only [Lim_const]
        · exact ⟨.const _, Lim_const _⟩
    | snap =>
      simp only
      split
      · refine ⟨(hr _ _).1.bind fun p => .const _, ?_⟩
        rw [Lim_bind (hr _ _).1 (fun p => .const _), (hr _ _).2]
        simp only [Lim_const]
      · cases mapO (snapV 12 H) args with
        | none => exact ⟨.const _, Lim_const _⟩
        | some as =>
          simp only [Option.bind_some]
          refine ⟨(hr _ _).1.bind fun p => .const _, ?_⟩
          rw [Lim_bind (hr _ _).1 (fun p => .const _), (hr _ _).2]
          simp only [Lim_const]
end

def seqK (E : Env) (n : Nat) (f : FuncId) (c : Code) : X × List V × Heap → R
  | (.nrm, ts, H) => aexec E n f c ts H
  | r => some r

def blockK (id : Nat) : X × List V × Heap → R
  | (.exit j, ts, H) => if j = id then some (.nrm, ts, H) else some (.exit j, ts, H)
  | r => some r

theorem aexec_succ (n : Nat) (f : FuncId) (c : Code) (ts : List V) (H : Heap) : aexec E (n + 1) f c ts H = match c with
    | .skip => some (.nrm, ts, H)
    | .region id ops draw => regionV E (acall E n) f id ops draw ts H
    | .seq a b => (aexec E n f a ts H).bind (seqK E n f b)
    | .cond c a b => match rho E ts c with
      | some (.bool true) => aexec E n f a ts H
      | some (.bool false) => aexec E n f b ts H
      | _ => none
    | .block id c => (aexec E n f c ts H).bind (blockK id)
    | .loop c => (aexec E n f c ts H).bind (seqK E n f (.loop c))
    | .exit id => some (.exit id, ts, H)
    | .ret => some (.ret, ts, H)
    | _ => none := by
  cases c with
  | seq a b =>
    simp only [aexec]
    cases aexec E n f a ts H with
    | none => rfl
    | some r => obtain ⟨x, t, h⟩ := r; cases x <;> rfl
  | block id c =>
    simp only [aexec]
    cases aexec E n f c ts H with
    | none => rfl
    | some r => obtain ⟨x, t, h⟩ := r; cases x <;> rfl
  | loop c =>
    simp only [aexec]
    cases aexec E n f c ts H with
    | none => rfl
    | some r => obtain ⟨x, t, h⟩ := r; cases x <;> rfl
  | _ => rfl

theorem aexec_mono : ∀ n, ∀ f c ts H r, aexec E n f c ts H = some r → aexec E (n + 1) f c ts H = some r
  | 0, f, c, ts, H, r, h => by simp [aexec] at h
  | n + 1, f, c, ts, H, r, h => by
    have ih := aexec_mono n
    have seqm : ∀ c p r, seqK E n f c p = some r → seqK E (n + 1) f c p = some r := fun c p r h => by
      obtain ⟨x, t, h'⟩ := p
      cases x with
      | nrm => exact ih _ _ _ _ _ h
      | exit id => exact h
      | ret => exact h
    rw [aexec_succ] at h ⊢
    cases c with
    | region id ops draw =>
      simp only at h ⊢
      -- the two bounds, as a chain of two
      let xn : Nat → Ex := fun k => if k = 0 then aexec E n else aexec E (n + 1)
      have hx : ∀ f c ts H, Mono fun k => xn k f c ts H := fun f c ts H k r hk => by
        simp only [xn] at hk ⊢
        rw [if_neg (by omega)]
        split at hk
        · exact ih _ _ _ _ _ hk
        · exact hk
      have hc : ∀ g args H, Mono fun k => callFn E (xn k) g args H := fun g args H => (call_mono hx g args H).1
      have := (region_mono (E := E) (cn := fun k => callFn E (xn k)) hc f id ops draw ts H).1 0 r
      simp only [xn, if_true] at this
      have hacall : acall E n = callFn E (aexec E n) := rfl
      have := this (by rw [hacall] at h; exact h)
      have hacall' : acall E (n + 1) = callFn E (aexec E (n + 1)) := rfl
      rw [hacall']
      simpa using this
    | seq a b =>
      simp only at h ⊢
      cases hq : aexec E n f a ts H with
      | none => rw [hq] at h; cases h
      | some p => rw [hq] at h; rw [ih _ _ _ _ _ hq]; exact seqm _ _ _ h
    | cond c a b =>
      simp only at h ⊢
      split at h
      · exact ih _ _ _ _ _ h
      · exact ih _ _ _ _ _ h
      · cases h
    | block id c =>
      simp only at h ⊢
      cases hq : aexec E n f c ts H with
      | none => rw [hq] at h; cases h
      | some p => rw [hq] at h; rw [ih _ _ _ _ _ hq]; exact h
    | loop c =>
      simp only at h ⊢
      cases hq : aexec E n f c ts H with
      | none => rw [hq] at h; cases h
      | some p => rw [hq] at h; rw [ih _ _ _ _ _ hq]; exact seqm _ _ _ h
    | _ => exact h

/-- Code, without a bound on rounds. -/
noncomputable def exec (E : Env) : Ex := LimEx (aexec E)

/-- A call, without a bound on rounds. -/
noncomputable def call (E : Env) : Call := LimCall (acall E)

theorem exec_chain (f : FuncId) (c : Code) (ts : List V) (H : Heap) : Mono fun n => aexec E n f c ts H := fun n r h => aexec_mono n f c ts H r h
theorem call_chain (g : FuncId) (args : List V) (H : Heap) : Mono fun n => acall E n g args H := (call_mono (E := E) (xn := aexec E) exec_chain g args H).1

theorem call_eq (f : FuncId) (args : List V) (H : Heap) : call E f args H = callFn E (exec E) f args H := (call_mono (E := E) (xn := aexec E) exec_chain f args H).2

theorem call_of {n : Nat} {f : FuncId} {args : List V} {H : Heap} {r : V × Heap} (h : acall E n f args H = some r) : call E f args H = some r := (Lim_some (call_chain f args H)).2 ⟨n, h⟩

theorem of_call {f : FuncId} {args : List V} {H : Heap} {r : V × Heap} (h : call E f args H = some r) : ∃ n, acall E n f args H = some r := (Lim_some (call_chain f args H)).1 h

theorem exec_succ (f : FuncId) (c : Code) (ts : List V) (H : Heap) : exec E f c ts H = Lim fun n => aexec E (n + 1) f c ts H := (Lim_shift (exec_chain f c ts H)).symm

theorem seqK_lim (f : FuncId) (c : Code) (p : X × List V × Heap) : (Mono fun n => seqK E n f c p) ∧ Lim (fun n => seqK E n f c p) = match p with
    | (.nrm, ts, H) => exec E f c ts H
    | r => some r := by
  obtain ⟨x, ts, H⟩ := p
  cases x with
  | nrm => exact ⟨exec_chain f c ts H, rfl⟩
  | exit id => exact ⟨.const _, Lim_const _⟩
  | ret => exact ⟨.const _, Lim_const _⟩

theorem exec_skip (f : FuncId) (ts : List V) (H : Heap) : exec E f .skip ts H = some (.nrm, ts, H) := by
  rw [exec_succ]; simp only [aexec_succ]; exact Lim_const _
theorem exec_exit (f : FuncId) (id : Nat) (ts : List V) (H : Heap) : exec E f (.exit id) ts H = some (.exit id, ts, H) := by
  rw [exec_succ]; simp only [aexec_succ]; exact Lim_const _
theorem exec_ret (f : FuncId) (ts : List V) (H : Heap) : exec E f .ret ts H = some (.ret, ts, H) := by
  rw [exec_succ]; simp only [aexec_succ]; exact Lim_const _
theorem exec_region (f : FuncId) (id : Nat) (ops : Array Oper) (draw : Bool) (ts : List V) (H : Heap) : exec E f (.region id ops draw) ts H = regionV E (call E) f id ops draw ts H := by
  rw [exec_succ]; simp only [aexec_succ]
  exact (region_mono (E := E) (cn := acall E) call_chain f id ops draw ts H).2
theorem exec_seq (f : FuncId) (a b : Code) (ts : List V) (H : Heap) : exec E f (.seq a b) ts H = (exec E f a ts H).bind fun p => match p with
    | (.nrm, ts, H) => exec E f b ts H
    | r => some r := by
  rw [exec_succ]; simp only [aexec_succ]
  rw [Lim_bind (exec_chain f a ts H) (fun p => (seqK_lim f b p).1)]
  congr 1; funext p; exact (seqK_lim f b p).2
theorem exec_cond (f : FuncId) (c : Operand) (a b : Code) (ts : List V) (H : Heap) : exec E f (.cond c a b) ts H = match rho E ts c with
    | some (.bool true) => exec E f a ts H
    | some (.bool false) => exec E f b ts H
    | _ => none := by
  rw [exec_succ]; simp only [aexec_succ]
  split
  · rfl
  · rfl
  · exact Lim_const _
theorem exec_block (f : FuncId) (id : Nat) (c : Code) (ts : List V) (H : Heap) : exec E f (.block id c) ts H = (exec E f c ts H).bind (blockK id) := by
  rw [exec_succ]; simp only [aexec_succ]
  rw [Lim_bind (exec_chain f c ts H) (fun p => .const _)]
  congr 1; funext p; exact Lim_const _
theorem exec_loop (f : FuncId) (c : Code) (ts : List V) (H : Heap) : exec E f (.loop c) ts H = (exec E f c ts H).bind fun p => match p with
    | (.nrm, ts, H) => exec E f (.loop c) ts H
    | r => some r := by
  rw [exec_succ]; simp only [aexec_succ]
  rw [Lim_bind (exec_chain f c ts H) (fun p => (seqK_lim f (.loop c) p).1)]
  congr 1; funext p; exact (seqK_lim f (.loop c) p).2

/-- THE EVALUATOR IS SOUND. -/
theorem call_sound (hE : EnvOk E) {f : FuncId} {args : List V} {v : V} {H' : Heap} (h : call E f args [] = some (v, H')) (hv : v.flat = true) {w : World} {cargs : List Value}
    (hw : WR E w (fun b => b < w.heap.size) noMap []) (hargs : VRs w (fun b => b < w.heap.size) noMap args cargs) :
    Calls E.P f cargs.toArray w fun e w' => (∃ cv, e = .returned cv ∧ VR w (fun b => b < w.heap.size) noMap v cv) ∧ Go.RowKit.Below w.heap.size w w' := by
  obtain ⟨n, hn⟩ := of_call h
  exact acall_sound hE hn hv hw hargs

end Go.Ae

namespace Go.Ae

variable {E : Env}

abbrev AL := List (Nat × V)

def look : AL → Nat → Option V
  | [], _ => none
  | (k, v) :: r, t => if k = t then some v else look r t

theorem look_cons (k : Nat) (v : V) (r : AL) (t : Nat) : look ((k, v) :: r) t = if k = t then some v else look r t := rfl

/-- The temporaries are as the list says. -/
def Agr (n : Nat) (al : AL) (ts : List V) : Prop := ts.length = n ∧ ∀ t v, look al t = some v → ts[t]? = some v

def rhoA (E : Env) (al : AL) : Operand → Option V
  | .tmp t => look al t
  | .const v => ofVal v
  | .global g => (E.glob g).map .rp
  | .func f => some (.fn f [] [])

theorem rhoA_tmp (al : AL) (t : Tmp) : rhoA E al (.tmp t) = look al t := rfl
theorem rhoA_const (al : AL) (v : Value) : rhoA E al (.const v) = ofVal v := rfl
theorem rhoA_func (al : AL) (f : FuncId) : rhoA E al (.func f) = some (.fn f [] []) := rfl

theorem rhoA_le {n : Nat} {al : AL} {ts : List V} (h : Agr n al ts) : ∀ x v, rhoA E al x = some v → rho E ts x = some v := by
  intro x v hx
  cases x with
  | tmp t => simp only [rhoA] at hx; simp only [rho, List.getD_eq_getElem?_getD, h.2 t v hx, Option.getD_some]
  | _ => exact hx

section
variable {ρ ρ' : Operand → Option V} (hρ : ∀ x v, ρ x = some v → ρ' x = some v)
include hρ

omit hρ in
theorem mapO_mono {α β : Type} {f g : α → Option β} (hf : ∀ x v, f x = some v → g x = some v) : ∀ {l : List α} {r : List β}, mapO f l = some r → mapO g l = some r
  | [], r, h => h
  | a :: l, r, h => by
    simp only [mapO] at h ⊢
    split at h
    · rename_i b hb
      split at h
      · rename_i bs hbs
        rw [hf _ _ hb, mapO_mono hf hbs]; exact h
      · cases h
    · cases h

theorem optO_mono : ∀ {o : Option Operand} {r : Option V}, optO ρ o = some r → optO ρ' o = some r
  | none, r, h => h
  | some a, r, h => by
    simp only [optO] at h ⊢
    split at h
    · rename_i b hb; rw [hρ _ _ hb]; exact h
    · cases h

theorem partsO_mono : ∀ {l : List (Nat × Operand)} {r : List (Nat × V)}, partsO ρ l = some r → partsO ρ' l = some r
  | [], r, h => h
  | (i, o) :: l, r, h => by
    simp only [partsO] at h ⊢
    split at h
    · rename_i v l' hv hl
      rw [hρ _ _ hv, partsO_mono hl]; exact h
    · cases h

theorem qop_mono {H : Heap} {op : Op} {u : V} (h : qop E H ρ op = some u) : qop E H ρ' op = some u := by
  cases op with
  | move x | assign x => exact hρ _ _ h
  | pick c a b =>
    simp only [qop] at h ⊢
    split at h
    · rename_i hc; rw [hρ _ _ hc]; exact hρ _ _ h
    · rename_i hc; rw [hρ _ _ hc]; exact hρ _ _ h
    · cases h
  | load t a =>
    simp only [qop] at h ⊢
    cases ha : ρ a with
    | none => rw [ha] at h; cases tinf E.P t <;> simp at h
    | some v => rw [ha] at h; rw [hρ _ _ ha]; exact h
  | nilCheck x | unOp _ _ x | convert _ _ x | extract x _ | typeAssert x _ _ _ =>
    simp only [qop] at h ⊢
    cases ha : ρ x with
    | none => rw [ha] at h; cases h
    | some v => rw [ha] at h; rw [hρ _ _ ha]; exact h
  | binOp op t x y _ =>
    simp only [qop] at h ⊢
    cases ha : ρ x with
    | none => rw [ha] at h; cases h
    | some v =>
      cases hb : ρ y with
      | none => rw [ha, hb] at h; cases h
      | some v' => rw [ha, hb] at h; rw [hρ _ _ ha, hρ _ _ hb]; exact h
  | makeInterface t x =>
    simp only [qop] at h ⊢
    cases ha : ρ x with
    | none => rw [ha] at h; cases tinf E.P t <;> simp at h
    | some v => rw [ha] at h; rw [hρ _ _ ha]; exact h
  | makeFunc fn first captured =>
    cases fn with
    | func f =>
      simp only [qop] at h ⊢
      cases ha : mapO ρ first.toList with
      | none => rw [ha] at h; cases h
      | some v =>
        cases hb : mapO ρ captured.toList with
        | none => rw [ha, hb] at h; cases h
        | some v' => rw [ha, hb] at h; rw [mapO_mono hρ ha, mapO_mono hρ hb]; exact h
    | _ => simp only [qop] at h; cases h
  | slice t x lo hi mx =>
    simp only [qop] at h ⊢
    split at h
    · rename_i v l h' m h1 h2 h3 h4
      rw [hρ _ _ h1, optO_mono hρ h2, optO_mono hρ h3, optO_mono hρ h4]; exact h
    · cases h
  | fieldAddr s x f | field s x f =>
    simp only [qop] at h ⊢
    cases ha : ρ x with
    | none => rw [ha] at h; cases h
    | some v => rw [ha] at h; rw [hρ _ _ ha]; exact h
  | indexAddr t x i | index t x i =>
    simp only [qop] at h ⊢
    cases ha : ρ x with
    | none => rw [ha] at h; cases h
    | some v =>
      cases hb : ρ i with
      | none => rw [ha, hb] at h; cases h
      | some v' => rw [ha, hb] at h; rw [hρ _ _ ha, hρ _ _ hb]; exact h
  | lookup t x i ok =>
    simp only [qop] at h ⊢
    split at h
    · rename_i ks vs n ha hb
      rw [hρ _ _ ha, hρ _ _ hb]; exact h
    · cases h
  | build t parts =>
    simp only [qop] at h ⊢
    split at h
    · rename_i l hl; rw [partsO_mono hρ hl]; exact h
    · cases h
  | call c =>
    obtain ⟨callee, args, argTypes⟩ := c
    cases callee with
    | builtin b =>
      simp only [qop] at h ⊢
      split at h
      · rename_i l hl; rw [mapO_mono hρ hl]; exact h
      · cases h
    | _ => simp only [qop] at h; cases h
  | _ => simp only [qop] at h; cases h

theorem calleeV_mono {op : Op} {u : Option (FuncId × List V)} (h : calleeV ρ op = some u) : calleeV ρ' op = some u := by
  cases op with
  | call c =>
    obtain ⟨callee, args, argTypes⟩ := c
    cases callee with
    | value g =>
      simp only [calleeV] at h ⊢
      split at h
      · rename_i f first cap as h1 h2
        rw [hρ _ _ h1, mapO_mono hρ h2]; exact h
      · cases h
    | _ => exact h
  | _ => exact h

theorem eop_mono {f : FuncId} {dst : Option Tmp} {H : Heap} {op : Op} {u : V × Heap} (h : eop E f dst H ρ op = some u) : eop E f dst H ρ' op = some u := by
  cases op with
  | alloc e => exact h
  | box e x =>
    simp only [eop] at h ⊢
    cases ha : ρ x with
    | none => rw [ha] at h; cases h
    | some v => rw [ha] at h; rw [hρ _ _ ha]; exact h
  | buildSlice t len parts =>
    simp only [eop] at h ⊢
    cases ha : partsO ρ parts.toList with
    | none => rw [ha] at h; split at h <;> simp_all
    | some v => rw [ha] at h; rw [partsO_mono hρ ha]; exact h
  | makeSlice t len cap =>
    simp only [eop] at h ⊢
    cases ha : ρ len with
    | none => rw [ha] at h; split at h <;> simp_all
    | some v =>
      cases hb : ρ cap with
      | none => rw [ha, hb] at h; split at h <;> simp_all
      | some v' => rw [ha, hb] at h; rw [hρ _ _ ha, hρ _ _ hb]; exact h
  | store t a x =>
    simp only [eop] at h ⊢
    cases ha : ρ a with
    | none => rw [ha] at h; split at h <;> simp_all
    | some v =>
      cases hb : ρ x with
      | none => rw [ha, hb] at h; split at h <;> simp_all
      | some v' => rw [ha, hb] at h; rw [hρ _ _ ha, hρ _ _ hb]; exact h
  | convert src dst x =>
    simp only [eop] at h ⊢
    cases ha : ρ x with
    | none => rw [ha] at h; cases h
    | some v => rw [ha] at h; rw [hρ _ _ ha]; exact h
  | call c =>
    simp only [eop] at h ⊢
    cases ha : mapO ρ c.args.toList with
    | none => rw [ha] at h; split at h <;> simp_all
    | some v => rw [ha] at h; rw [mapO_mono hρ ha]; exact h
  | _ => simp only [eop] at h; cases h

theorem nop_mono {op : Op} {u : V} (h : nop E ρ op = some u) : nop E ρ' op = some u := by
  cases op with
  | alloc e => exact h
  | box e x =>
    simp only [nop] at h ⊢
    cases ha : ρ x with
    | none => rw [ha] at h; cases h
    | some v => rw [ha] at h; rw [hρ _ _ ha]; exact h
  | buildSlice t len parts =>
    simp only [nop] at h ⊢
    cases ha : partsO ρ parts.toList with
    | none => rw [ha] at h; split at h <;> simp_all
    | some v => rw [ha] at h; rw [partsO_mono hρ ha]; exact h
  | makeSlice t len cap =>
    simp only [nop] at h ⊢
    cases ha : ρ len with
    | none => rw [ha] at h; split at h <;> simp_all
    | some v =>
      cases hb : ρ cap with
      | none => rw [ha, hb] at h; split at h <;> simp_all
      | some v' => rw [ha, hb] at h; rw [hρ _ _ ha, hρ _ _ hb]; exact h
  | convert src dst x =>
    simp only [nop] at h ⊢
    cases ha : ρ x with
    | none => rw [ha] at h; cases h
    | some v => rw [ha] at h; rw [hρ _ _ ha]; exact h
  | _ => simp only [nop] at h; cases h
end

def stepR0 (E : Env) (call : Call) (f : FuncId) (o : Oper) (ρ : Operand → Option V) (H : Heap) : Option (V × Heap) :=
  match calleeV ρ o.op with
  | none => none
  | some (some (g, args)) => callI E call g args H
  | some none =>
    if isE E.P o.op then eop E f o.dst H ρ o.op
    else (qop E H ρ o.op).map fun v => (v, H)

def stepR (E : Env) (call : Call) (f : FuncId) (o : Oper) (ρ : Operand → Option V) (H : Heap) : Option (V × Heap) := fzR E f o.dst o.op (stepR0 E call f o ρ H)

theorem stepR0_mono {call : Call} {f : FuncId} {o : Oper} {H : Heap} {ρ ρ' : Operand → Option V} (hρ : ∀ x v, ρ x = some v → ρ' x = some v) {u : V × Heap} (h : stepR0 E call f o ρ H = some u) : stepR0 E call f o ρ' H = some u := by
  unfold stepR0 at h ⊢
  cases hc : calleeV ρ o.op with
  | none => rw [hc] at h; cases h
  | some x =>
    rw [hc] at h; rw [calleeV_mono hρ hc]
    cases x with
    | some p => exact h
    | none =>
      simp only at h ⊢
      split at h
      · rename_i hq; rw [if_pos hq]; exact eop_mono hρ h
      · rename_i hq; rw [if_neg hq]
        cases hv : qop E H ρ o.op with
        | none => rw [hv] at h; cases h
        | some v => rw [hv] at h; rw [qop_mono hρ hv]; exact h

theorem stepR_mono {call : Call} {f : FuncId} {o : Oper} {H : Heap} {ρ ρ' : Operand → Option V} (hρ : ∀ x v, ρ x = some v → ρ' x = some v) {u : V × Heap} (h : stepR E call f o ρ H = some u) : stepR E call f o ρ' H = some u := by
  unfold stepR at h ⊢
  cases h0 : stepR0 E call f o ρ H with
  | none =>
    rw [h0] at h
    unfold fzR at h
    split at h <;> cases h
  | some q => rw [h0] at h; rw [stepR0_mono hρ h0]; exact h

def stepDR (E : Env) (call : Call) (f : FuncId) (slot : Nat) (o : Oper) (ρ : Operand → Option V) (H : Heap) : Option (V × Heap) :=
  match kdOf E f o with
  | .a => match o.op with
    | .alloc e => match tinf E.P e, H[slot]? with
      | some i, some none => if allOne i.zero.cells then some (.mp slot 0 0, H.set slot (newBlk 0 i.zero.cells)) else none
      | _, _ => none
    | _ => none
  | .n => if isE E.P o.op then (nop E ρ o.op).map fun v => (v, H) else stepR E call f o ρ H
  | .l => if quietArgs E ρ o.op then stepR E call f o ρ H else none
  | .e => stepR E call f o ρ H

theorem quietArgs_mono {o : Oper} {ρ ρ' : Operand → Option V} (hρ : ∀ x v, ρ x = some v → ρ' x = some v) (hc : calleeV ρ o.op ≠ none) : quietArgs E ρ' o.op = quietArgs E ρ o.op := by
  unfold quietArgs
  cases hq : calleeV ρ o.op with
  | none => exact absurd hq hc
  | some x => rw [calleeV_mono hρ hq]

theorem calleeV_of_step {call : Call} {f : FuncId} {o : Oper} {ρ : Operand → Option V} {H : Heap} {u : V × Heap} (h : stepR E call f o ρ H = some u) : calleeV ρ o.op ≠ none := by
  intro hc
  unfold stepR stepR0 at h
  rw [hc] at h
  unfold fzR at h
  split at h <;> cases h

theorem stepDR_mono {call : Call} {f : FuncId} {s : Nat} {o : Oper} {H : Heap} {ρ ρ' : Operand → Option V} (hρ : ∀ x v, ρ x = some v → ρ' x = some v) {u : V × Heap} (h : stepDR E call f s o ρ H = some u) : stepDR E call f s o ρ' H = some u := by
  unfold stepDR at h ⊢
  cases hk : kdOf E f o with
  | a => rw [hk] at h; exact h
  | n =>
    rw [hk] at h
    simp only at h ⊢
    split at h
    · rename_i hq; rw [if_pos hq]
      cases hv : nop E ρ o.op with
      | none => rw [hv] at h; cases h
      | some v => rw [hv] at h; rw [nop_mono hρ hv]; exact h
    · rename_i hq; rw [if_neg hq]; exact stepR_mono hρ h
  | l =>
    rw [hk] at h
    simp only at h ⊢
    split at h
    · rename_i hq
      rw [quietArgs_mono hρ (calleeV_of_step h), if_pos hq]
      exact stepR_mono hρ h
    · cases h
  | e => rw [hk] at h; exact stepR_mono hρ h

/-- Is the operation wanted? -/
def wantedA (ops : Array Oper) (al : AL) (o : Oper) : Option Bool :=
  match o.guard with
  | none => some true
  | some (j, want) => match (ops[j]?).bind (·.dst) with
    | some d => match look al d with
      | some (.bool b) => some (b == want)
      | some _ => some false
      | none => none
    | none => some false

theorem wantedA_eq {n : Nat} {al : AL} {ts : List V} (h : Agr n al ts) {ops : Array Oper} {o : Oper} {b : Bool} (hb : wantedA ops al o = some b) : wantedV ops ts o = b := by
  unfold wantedA at hb
  unfold wantedV
  cases hg : o.guard with
  | none => rw [hg] at hb; simpa using hb
  | some p =>
    obtain ⟨j, want⟩ := p
    rw [hg] at hb
    simp only at hb ⊢
    cases hd : (ops[j]?).bind (·.dst) with
    | none => rw [hd] at hb; simpa using hb
    | some d =>
      rw [hd] at hb
      simp only at hb ⊢
      cases hl : look al d with
      | none => rw [hl] at hb; cases hb
      | some v =>
        rw [hl] at hb
        rw [h.2 d v hl]
        cases v <;> simpa using hb

def putA (n : Nat) (al : AL) (d : Option Tmp) (v : V) : Option AL :=
  match d with
  | some d => if d < n then some ((d, v) :: al) else none
  | none => some al

theorem Agr.put {n : Nat} {al al' : AL} {ts : List V} (h : Agr n al ts) {d : Option Tmp} {v : V} (hp : putA n al d v = some al') : Agr n al' (putV ts d v) := by
  cases d with
  | none => simp only [putA, Option.some.injEq] at hp; subst hp; exact h
  | some d =>
    simp only [putA] at hp
    split at hp
    · rename_i hd
      injection hp with hp; subst hp
      refine ⟨by simp [putV, h.1], fun t u hu => ?_⟩
      simp only [look] at hu
      simp only [putV]
      split at hu
      · rename_i hq; subst hq; injection hu with hu; subst hu
        simp [h.1, hd]
      · rename_i hq
        rw [List.getElem?_set_ne hq]
        exact h.2 t u hu
    · cases hp

/-- What is known, cut down to some temporaries. -/
def keepA (al : AL) : List Nat → Option AL
  | [] => some []
  | t :: r => match look al t with
    | some v => match keepA al r with
      | some l => some ((t, v) :: l)
      | none => none
    | none => none

theorem keepA_look {al : AL} : ∀ {l : List Nat} {al' : AL}, keepA al l = some al' → ∀ t v, look al' t = some v → look al t = some v
  | [], al', h, t, v, hv => by simp only [keepA, Option.some.injEq] at h; subst h; cases hv
  | k :: r, al', h, t, v, hv => by
    simp only [keepA] at h
    split at h
    · rename_i u hu
      split at h
      · rename_i l hl
        injection h with h; subst h
        simp only [look] at hv
        split at hv
        · rename_i hq; subst hq; rw [← hv]; exact hu
        · exact keepA_look hl t v hv
      · cases h
    · cases h

theorem Agr.keep {n : Nat} {al al' : AL} {ts : List V} (h : Agr n al ts) {l : List Nat} (hk : keepA al l = some al') : Agr n al' ts := ⟨h.1, fun t v hv => h.2 t v (keepA_look hk t v hv)⟩

/-- The operations of a region in the text's order, over what is known. -/
def opsA (E : Env) (call : Call) (f : FuncId) (n : Nat) (ops : Array Oper) : List Oper → AL → Heap → Option (AL × Heap)
  | [], al, H => some (al, H)
  | o :: rest, al, H => match wantedA ops al o with
    | some true => match stepR E call f o (rhoA E al) H with
      | some (v, H') => match putA n al o.dst v with
        | some al' => opsA E call f n ops rest al' H'
        | none => none
      | none => none
    | some false => match putA n al o.dst undefV with
      | some al' => opsA E call f n ops rest al' H
      | none => none
    | none => none

theorem opsA_sound {call : Call} {f : FuncId} {n : Nat} {ops : Array Oper} : ∀ {l : List Oper} {al al' : AL} {H H' : Heap} {ts : List V}, opsA E call f n ops l al H = some (al', H') → Agr n al ts →
    ∃ ts', opsV E call f ops l ts H = some (ts', H') ∧ Agr n al' ts'
  | [], al, al', H, H', ts, h, ha => by
    simp only [opsA, Option.some.injEq, Prod.mk.injEq] at h
    obtain ⟨rfl, rfl⟩ := h
    exact ⟨ts, rfl, ha⟩
  | o :: rest, al, al', H, H', ts, h, ha => by
    simp only [opsA] at h
    simp only [opsV_cons]
    split at h
    · rename_i hw
      rw [wantedA_eq ha hw, if_pos rfl]
      split at h
      · rename_i v H1 hs
        split at h
        · rename_i al1 hp
          have hs' : stepV E call f o ts H = some (v, H1) := stepR_mono (rhoA_le ha) hs
          rw [hs']
          exact opsA_sound h (ha.put hp)
        · cases h
      · cases h
    · rename_i hw
      rw [wantedA_eq ha hw, if_neg (by decide)]
      split at h
      · rename_i al1 hp
        exact opsA_sound h (ha.put hp)
      · cases h
    · cases h

def drawA (E : Env) (call : Call) (f : FuncId) (n : Nat) (ops : Array Oper) : Nat → List Oper → AL → Heap → Option (AL × Heap)
  | _, [], al, H => some (al, H)
  | a, o :: rest, al, H => match wantedA ops al o with
    | some true => match stepDR E call f a o (rhoA E al) H with
      | some (v, H') => match putA n al o.dst v with
        | some al' => drawA E call f n ops (if isAlloc o then a + 1 else a) rest al' H'
        | none => none
      | none => none
    | some false => match putA n al o.dst undefV with
      | some al' => drawA E call f n ops (if isAlloc o then a + 1 else a) rest al' H
      | none => none
    | none => none

theorem drawA_sound {call : Call} {f : FuncId} {n : Nat} {ops : Array Oper} : ∀ {l : List Oper} {a : Nat} {al al' : AL} {H H' : Heap} {ts : List V}, drawA E call f n ops a l al H = some (al', H') → Agr n al ts →
    ∃ ts', drawV E call f ops a l ts H = some (ts', H') ∧ Agr n al' ts'
  | [], a, al, al', H, H', ts, h, ha => by
    simp only [drawA, Option.some.injEq, Prod.mk.injEq] at h
    obtain ⟨rfl, rfl⟩ := h
    exact ⟨ts, rfl, ha⟩
  | o :: rest, a, al, al', H, H', ts, h, ha => by
    simp only [drawA] at h
    simp only [drawV_cons]
    split at h
    · rename_i hw
      rw [wantedA_eq ha hw, if_pos rfl]
      split at h
      · rename_i v H1 hs
        split at h
        · rename_i al1 hp
          have hs' : stepD E call f a o ts H = some (v, H1) := stepDR_mono (rhoA_le ha) hs
          rw [hs']
          exact drawA_sound h (ha.put hp)
        · cases h
      · cases h
    · rename_i hw
      rw [wantedA_eq ha hw, if_neg (by decide)]
      split at h
      · rename_i al1 hp
        exact drawA_sound h (ha.put hp)
      · cases h
    · cases h

/-- What an operation adds to the log. -/
def logB (wt : Wt) (j : Nat) (op : Op) (ρ : Operand → Option V) (H : Heap) (v : V) (L : Log) : Log :=
  match op with
  | .load t a => if wt.any (fun x => x.2.contains j) then (match ρ a with
    | some av => .ld j t av v :: L
    | none => L) else L
  | _ => if wt.any (fun x => x.2.contains j) then .hp j H :: L else L

/-- What is watched reads as it did. -/
def chkB (E : Env) (wt : Wt) (j : Nat) (op : Op) (ρ : Operand → Option V) (H : Heap) (v : V) (L : Log) : Bool :=
  match op with
  | .load t a => match ρ a with
    | some av => (wOf wt j).isEmpty || chkL E (wOf wt j) j t av v L
    | none => false
  | _ => (wOf wt j).isEmpty || chkE E (wOf wt j) j H L

theorem chkE_nil {j : Nat} {H : Heap} {L : Log} : chkE E [] j H L = true := by
  unfold chkE
  rw [List.all_eq_true]
  intro x _
  cases x <;> rfl
theorem chkL_nil {j : Nat} {t : TypeId} {av v : V} {L : Log} : chkL E [] j t av v L = true := by
  unfold chkL
  rw [List.all_eq_true]
  intro x _
  cases x <;> rfl

theorem chkB_sound {f : FuncId} {n : Nat} {o : Oper} {wt : Wt} {j : Nat} {al : AL} {ts : List V} (ha : Agr n al ts) {H H0 : Heap} {v : V} {L L' : Log} (hs : LogLe L' L) (h : chkB E wt j o.op (rhoA E al) H v L = true) :
    chkJ E f o wt j (rho E ts) H v L' = true ∧ LogLe (logX E f o wt j (rho E ts) H0 v ++ L') (logB wt j o.op (rhoA E al) H0 v L) := by
  unfold chkB at h
  unfold chkJ logX logB
  cases ho : o.op with
  | load t a =>
    rw [ho] at h
    simp only at h ⊢
    cases hr : rhoA E al a with
    | none => rw [hr] at h; cases h
    | some av =>
      rw [hr] at h
      rw [rhoA_le ha _ _ hr]
      simp only at h ⊢
      refine ⟨?_, ?_⟩
      · rw [Bool.or_eq_true] at h
        rcases h with h | h
        · rw [List.isEmpty_iff.1 h]; exact chkL_nil
        · exact chkL_le hs h
      · split
        · exact .append (.refl [_]) hs
        · exact hs
  | _ =>
    rw [ho] at h
    simp only at h ⊢
    refine ⟨?_, ?_⟩
    · split
      · rw [Bool.or_eq_true] at h
        rcases h with h | h
        · rw [List.isEmpty_iff.1 h]; exact chkE_nil
        · exact chkE_le (.refl _) hs h
      · rfl
    · split
      · split
        · exact .append (.refl [_]) hs
        · exact hs.trans (LogLe.right (L := [LogE.hp j H0]))
      · exact hs

def drawB (E : Env) (call : Call) (f : FuncId) (n : Nat) (ops : Array Oper) (wt : Wt) : Nat → Nat → List Oper → AL → Heap → Log → Option (AL × Heap)
  | _, _, [], al, H, _ => some (al, H)
  | j, a, o :: rest, al, H, L => match wantedA ops al o with
    | some true => match stepDR E call f a o (rhoA E al) H with
      | some (v, H') => if chkB E wt j o.op (rhoA E al) H' v L then (match putA n al o.dst v with
          | some al' => drawB E call f n ops wt (j + 1) (if isAlloc o then a + 1 else a) rest al' H' (logB wt j o.op (rhoA E al) H v L)
          | none => none) else none
      | none => none
    | some false => match putA n al o.dst undefV with
      | some al' => drawB E call f n ops wt (j + 1) (if isAlloc o then a + 1 else a) rest al' H L
      | none => none
    | none => none

theorem drawB_sound {call : Call} {f : FuncId} {n : Nat} {ops : Array Oper} {wt : Wt} : ∀ {l : List Oper} {j a : Nat} {al al' : AL} {H H' : Heap} {L L' : Log} {ts : List V}, LogLe L' L → drawB E call f n ops wt j a l al H L = some (al', H') → Agr n al ts →
    ∃ ts', drawW E call f ops wt j a l ts H L' = some (ts', H') ∧ Agr n al' ts'
  | [], j, a, al, al', H, H', L, L', ts, _, h, ha => by
    simp only [drawB, Option.some.injEq, Prod.mk.injEq] at h
    obtain ⟨rfl, rfl⟩ := h
    exact ⟨ts, rfl, ha⟩
  | o :: rest, j, a, al, al', H, H', L, L', ts, hl, h, ha => by
    simp only [drawB] at h
    simp only [drawW_cons]
    split at h
    · rename_i hw
      rw [wantedA_eq ha hw, if_pos rfl]
      split at h
      · rename_i v H1 hs
        by_cases hck : chkB E wt j o.op (rhoA E al) H1 v L = true
        · rw [if_pos hck] at h
          split at h
          · rename_i al1 hp
            have hs' : stepD E call f a o ts H = some (v, H1) := stepDR_mono (rhoA_le ha) hs
            obtain ⟨c1, c2⟩ := chkB_sound (f := f) (H0 := H) ha hl hck
            rw [hs']
            simp only [Option.bind_some]
            rw [if_pos c1]
            exact drawB_sound c2 h (ha.put hp)
          · cases h
        · rw [if_neg hck] at h; cases h
      · cases h
    · rename_i hw
      rw [wantedA_eq ha hw, if_neg (by decide)]
      split at h
      · rename_i al1 hp
        exact drawB_sound hl h (ha.put hp)
      · cases h
    · cases h

abbrev Post := X → AL → Heap → Prop

/-- Code runs to an end that is right. -/
def W (E : Env) (f : FuncId) (n : Nat) (c : Code) (al : AL) (H : Heap) (K : Post) : Prop :=
  ∀ ts, Agr n al ts → ∃ x ts' al' H', exec E f c ts H = some (x, ts', H') ∧ Agr n al' ts' ∧ K x al' H'

variable {f : FuncId} {n : Nat} {al : AL} {H : Heap} {K : Post}

theorem W.mono {c : Code} {K' : Post} (h : W E f n c al H K) (hk : ∀ x al H, K x al H → K' x al H) : W E f n c al H K' := fun ts ha => by
  obtain ⟨x, ts', al', H', h1, h2, h3⟩ := h ts ha
  exact ⟨x, ts', al', H', h1, h2, hk _ _ _ h3⟩

theorem w_keep {c : Code} (l : List Nat) {al' : AL} (hk : keepA al l = some al') (h : W E f n c al' H K) : W E f n c al H K := fun ts ha => h ts (ha.keep hk)

def kseq (E : Env) (f : FuncId) (n : Nat) (b : Code) (K : Post) : Post
  | .nrm, al, H => W E f n b al H K
  | x, al, H => K x al H

theorem kseq_exit {id : Nat} {b : Code} (h : K (.exit id) al H) : kseq E f n b K (.exit id) al H := h
theorem kseq_ret {b : Code} (h : K .ret al H) : kseq E f n b K .ret al H := h

theorem w_seq {a b : Code} (h : W E f n a al H (kseq E f n b K)) : W E f n (.seq a b) al H K := fun ts ha => by
  obtain ⟨x, ts', al', H', h1, h2, h3⟩ := h ts ha
  rw [exec_seq, h1]
  cases x with
  | nrm =>
    obtain ⟨x2, ts2, al2, H2, g1, g2, g3⟩ := h3 ts' h2
    exact ⟨x2, ts2, al2, H2, g1, g2, g3⟩
  | _ => exact ⟨_, _, _, _, rfl, h2, h3⟩

theorem w_skip (h : K .nrm al H) : W E f n .skip al H K := fun ts ha => ⟨_, _, _, _, exec_skip .., ha, h⟩
theorem w_exit {id : Nat} (h : K (.exit id) al H) : W E f n (.exit id) al H K := fun ts ha => ⟨_, _, _, _, exec_exit .., ha, h⟩
theorem w_ret (h : K .ret al H) : W E f n .ret al H K := fun ts ha => ⟨_, _, _, _, exec_ret .., ha, h⟩

theorem w_region (l : List Nat) {id : Nat} {ops : Array Oper} {al1 al2 : AL} {H1 : Heap} (hf : E.frz f id = []) (h : opsA E (call E) f n ops ops.toList al H = some (al1, H1)) (hk : keepA al1 l = some al2) (k : K .nrm al2 H1) : W E f n (.region id ops false) al H K := fun ts ha => by
  obtain ⟨ts', h1, h2⟩ := opsA_sound h ha
  refine ⟨.nrm, ts', al2, H1, ?_, h2.keep hk, k⟩
  rw [exec_region, regionV_eq, hf]
  simp only [frzTmps, Option.bind_some, Bool.false_eq_true, if_false, h1]

theorem w_draw (l : List Nat) {id : Nat} {ops : Array Oper} {al1 al2 : AL} {H1 : Heap} (hf : E.frz f id = []) (hwt : E.wat f id = []) (hok : drawOk E f ops = true) (h : drawA E (call E) f n ops H.length ops.toList al (H ++ List.replicate (allocs ops.toList) none) = some (al1, H1)) (hk : keepA al1 l = some al2) (k : K .nrm al2 H1) : W E f n (.region id ops true) al H K := fun ts ha => by
  obtain ⟨ts', h1, h2⟩ := drawA_sound h ha
  refine ⟨.nrm, ts', al2, H1, ?_, h2.keep hk, k⟩
  rw [exec_region, regionV_eq, hf, hwt]
  simp only [frzTmps, Option.bind_some, if_true, hok, List.isEmpty_nil, Bool.true_eq_false, if_false, h1]

/-- What a region's operations come to, cut down to what is looked at later. -/
def After (r : Option (AL × Heap)) (l : List Nat) (Q : AL → Heap → Prop) : Prop := ∃ al1 H1 al2, r = some (al1, H1) ∧ keepA al1 l = some al2 ∧ Q al2 H1

theorem after_some {l : List Nat} {al2 : AL} {Q : AL → Heap → Prop} (hk : keepA al l = some al2) (q : Q al2 H) : After (some (al, H)) l Q := ⟨_, _, _, rfl, hk, q⟩

def After0 (r : Option (AL × Heap)) (Q : AL → Heap → Prop) : Prop := ∃ al1 H1, r = some (al1, H1) ∧ Q al1 H1
theorem after0 {Q : AL → Heap → Prop} (q : Q al H) : After0 (some (al, H)) Q := ⟨_, _, rfl, q⟩

theorem w_reg0 {id : Nat} {ops : Array Oper} (hf : E.frz f id = []) (h : ∀ Q : AL → Heap → Prop, (∀ al2 H2, K .nrm al2 H2 → Q al2 H2) → After0 (opsA E (call E) f n ops ops.toList al H) Q) : W E f n (.region id ops false) al H K := fun ts ha => by
  obtain ⟨al1, H1, h1, k⟩ := h (K .nrm) fun _ _ h => h
  obtain ⟨ts', g1, g2⟩ := opsA_sound h1 ha
  refine ⟨.nrm, ts', al1, H1, ?_, g2, k⟩
  rw [exec_region, regionV_eq, hf]
  simp only [frzTmps, Option.bind_some, Bool.false_eq_true, if_false, g1]

theorem w_drw0 {id : Nat} {ops : Array Oper} (hf : E.frz f id = []) (hwt : E.wat f id = []) (hok : drawOk E f ops = true) (m : Nat) (hm : allocs ops.toList = m) (h : ∀ Q : AL → Heap → Prop, (∀ al2 H2, K .nrm al2 H2 → Q al2 H2) → After0 (drawA E (call E) f n ops H.length ops.toList al (H ++ List.replicate m none)) Q) : W E f n (.region id ops true) al H K := fun ts ha => by
  subst hm
  obtain ⟨al1, H1, h1, k⟩ := h (K .nrm) fun _ _ h => h
  obtain ⟨ts', g1, g2⟩ := drawA_sound h1 ha
  refine ⟨.nrm, ts', al1, H1, ?_, g2, k⟩
  rw [exec_region, regionV_eq, hf, hwt]
  simp only [frzTmps, Option.bind_some, if_true, hok, List.isEmpty_nil, Bool.true_eq_false, if_false, g1]

theorem w_reg (l : List Nat) {id : Nat} {ops : Array Oper} (hf : E.frz f id = []) (h : ∀ Q : AL → Heap → Prop, (∀ al2 H2, K .nrm al2 H2 → Q al2 H2) → After (opsA E (call E) f n ops ops.toList al H) l Q) : W E f n (.region id ops false) al H K := by
  obtain ⟨al1, H1, al2, h1, h2, h3⟩ := h (K .nrm) fun _ _ h => h
  exact w_region l hf h1 h2 h3

theorem w_drw (l : List Nat) {id : Nat} {ops : Array Oper} (hf : E.frz f id = []) (hwt : E.wat f id = []) (hok : drawOk E f ops = true) (m : Nat) (hm : allocs ops.toList = m) (h : ∀ Q : AL → Heap → Prop, (∀ al2 H2, K .nrm al2 H2 → Q al2 H2) → After (drawA E (call E) f n ops H.length ops.toList al (H ++ List.replicate m none)) l Q) : W E f n (.region id ops true) al H K := by
  subst hm
  obtain ⟨al1, H1, al2, h1, h2, h3⟩ := h (K .nrm) fun _ _ h => h
  exact w_draw l hf hwt hok h1 h2 h3

/-- A region that draws, with loads that are watched. -/
theorem w_drwW (l : List Nat) {id : Nat} {ops : Array Oper} (wt : Wt) (hf : E.frz f id = []) (hwt : E.wat f id = wt) (hne : wt.isEmpty = false) (hok : drawOkW E f ops wt = true) (m : Nat) (hm : allocs ops.toList = m) (h : ∀ Q : AL → Heap → Prop, (∀ al2 H2, K .nrm al2 H2 → Q al2 H2) → After (drawB E (call E) f n ops wt 0 H.length ops.toList al (H ++ List.replicate m none) []) l Q) : W E f n (.region id ops true) al H K := fun ts ha => by
  subst hm
  obtain ⟨al1, H1, al2, h1, h2, h3⟩ := h (K .nrm) fun _ _ h => h
  obtain ⟨ts', g1, g2⟩ := drawB_sound (LogLe.refl _) h1 ha
  refine ⟨.nrm, ts', al2, H1, ?_, g2.keep h2, h3⟩
  rw [exec_region, regionV_eq, hf, hwt]
  simp only [frzTmps, Option.bind_some, if_true, hok, hne, g1]

theorem w_cond {c : Operand} {a b : Code} (v : Bool) (hc : rhoA E al c = some (.bool v)) (h1 : v = true → W E f n a al H K) (h2 : v = false → W E f n b al H K) : W E f n (.cond c a b) al H K := fun ts ha => by
  rw [exec_cond, rhoA_le ha _ _ hc]
  cases v with
  | true => exact h1 rfl ts ha
  | false => exact h2 rfl ts ha

def kblock (id : Nat) (K : Post) : Post
  | .exit j, al, H => if j = id then K .nrm al H else K (.exit j) al H
  | x, al, H => K x al H

theorem w_block {id : Nat} {c : Code} (h : W E f n c al H (kblock id K)) : W E f n (.block id c) al H K := fun ts ha => by
  obtain ⟨x, ts', al', H', h1, h2, h3⟩ := h ts ha
  rw [exec_block, h1]
  simp only [Option.bind_some]
  cases x with
  | exit j =>
    simp only [blockK, kblock] at h3 ⊢
    split at h3
    · rename_i hq; rw [if_pos hq]; exact ⟨_, _, _, _, rfl, h2, h3⟩
    · rename_i hq; rw [if_neg hq]; exact ⟨_, _, _, _, rfl, h2, h3⟩
  | _ => exact ⟨_, _, _, _, rfl, h2, h3⟩

theorem kblock_exit {id : Nat} (h : K .nrm al H) : kblock id K (.exit id) al H := by simp only [kblock, if_true]; exact h
theorem kblock_pass {id j : Nat} (hj : j ≠ id) (h : K (.exit j) al H) : kblock id K (.exit j) al H := by simp only [kblock, if_neg hj]; exact h

theorem kblock_nrm {id : Nat} (h : K .nrm al H) : kblock id K .nrm al H := h
theorem kblock_ret {id : Nat} (h : K .ret al H) : kblock id K .ret al H := h

def kloop (I : Nat → AL → Heap → Prop) (m : Nat) (K : Post) : Post
  | .nrm, al, H => ∃ m', m' < m ∧ I m' al H
  | x, al, H => K x al H

theorem kloop_exit {I : Nat → AL → Heap → Prop} {m id : Nat} (h : K (.exit id) al H) : kloop I m K (.exit id) al H := h
theorem kloop_ret {I : Nat → AL → Heap → Prop} {m : Nat} (h : K .ret al H) : kloop I m K .ret al H := h
theorem kloop_back {I : Nat → AL → Heap → Prop} {m : Nat} (m' : Nat) (hm : m' < m) (h : I m' al H) : kloop I m K .nrm al H := ⟨m', hm, h⟩

/-- A loop, by rounds. -/
theorem w_loop {c : Code} (I : Nat → AL → Heap → Prop) (m : Nat) (h0 : I m al H)
    (step : ∀ m al H, I m al H → W E f n c al H (kloop I m K)) : W E f n (.loop c) al H K := by
  induction m using Nat.strongRecOn generalizing al H with
  | ind m ih =>
    intro ts ha
    obtain ⟨x, ts', al', H', h1, h2, h3⟩ := step m al H h0 ts ha
    rw [exec_loop, h1]
    cases x with
    | nrm =>
      obtain ⟨m', hm, hi⟩ := h3
      exact ih m' hm hi ts' h2
    | _ => exact ⟨_, _, _, _, rfl, h2, h3⟩

def alOf : Nat → List V → AL
  | _, [] => []
  | k, v :: r => (k, v) :: alOf (k + 1) r

theorem look_alOf : ∀ (args : List V) (k t : Nat) (v : V), look (alOf k args) t = some v → k ≤ t ∧ args[t - k]? = some v
  | [], _, _, _, h => by cases h
  | a :: r, k, t, v, h => by
    simp only [alOf, look] at h
    split at h
    · rename_i hq; subst hq; simpa using h
    · rename_i hq
      obtain ⟨h1, h2⟩ := look_alOf r (k + 1) t v h
      refine ⟨by omega, ?_⟩
      have : t - k = (t - (k + 1)) + 1 := by omega
      rw [this]; simpa using h2

theorem Agr.args {args : List V} {n : Nat} (hn : args.length ≤ n) : Agr n (alOf 0 args) (args ++ List.replicate (n - args.length) undefV) := by
  refine ⟨by simp; omega, fun t v h => ?_⟩
  obtain ⟨_, h2⟩ := look_alOf args 0 t v h
  rw [Nat.sub_zero] at h2
  rw [List.getElem?_append_left (List.getElem?_eq_some_iff.1 h2).1]
  exact h2

def resultA (E : Env) (al : AL) (H : Heap) : ResultVar → Option V
  | .tmp t => look al t
  | .cell a t => match tinf E.P t, look al a with
    | some i, some v => match behind H v with
      | some cs => loadCs i cs
      | none => none
    | _, _ => none

def resultsA (E : Env) (fn : Func) (al : AL) (H : Heap) : Option V :=
  match fn.results.toList with
  | [r] => resultA E al H r
  | l => (mapO (resultA E al H) l).map .tup

theorem resultA_le {ts : List V} (ha : Agr n al ts) : ∀ r v, resultA E al H r = some v → resultV E ts H r = some v := by
  intro r v h
  cases r with
  | tmp t => simp only [resultA] at h; simp only [resultV, List.getD_eq_getElem?_getD, ha.2 t v h, Option.getD_some]
  | cell a t =>
    simp only [resultA] at h
    simp only [resultV]
    split at h
    · rename_i i u h1 h2
      rw [h1, List.getD_eq_getElem?_getD, ha.2 a u h2, Option.getD_some]
      cases hb : behind H u with
      | none => rw [hb] at h; cases h
      | some cs => rw [hb] at h; exact h
    · cases h

theorem mapO_le {α β : Type} {f g : α → Option β} (hf : ∀ x v, f x = some v → g x = some v) : ∀ {l : List α} {r : List β}, mapO f l = some r → mapO g l = some r
  | [], r, h => h
  | a :: l, r, h => by
    simp only [mapO] at h ⊢
    split at h
    · rename_i b hb
      split at h
      · rename_i bs hbs
        rw [hf _ _ hb, mapO_le hf hbs]; exact h
      · cases h
    · cases h

theorem resultsA_le {ts : List V} (ha : Agr n al ts) {fn : Func} {v : V} (h : resultsA E fn al H = some v) : resultsV E fn ts H = some v := by
  unfold resultsA at h
  unfold resultsV
  split at h
  · rename_i r hr
    rw [hr]; exact resultA_le ha r v h
  · rename_i hr
    cases hm : mapO (resultA E al H) fn.results.toList with
    | none => rw [hm] at h; cases h
    | some l =>
      rw [hm] at h
      have := mapO_le (resultA_le (E := E) (H := H) ha) hm
      split
      · rename_i r hq; exact absurd hq (hr r)
      · rw [this]; exact h

/-- The function, run from nothing over immutable arguments, returns v. -/
def Runs (E : Env) (f : FuncId) (args : List V) (v : V) : Prop := ∃ v0 H' H'', runFn E (exec E) f args [] = some (v0, H') ∧ frzV 12 H' v0 = some (v, H'') ∧ v.pure = true ∧ (v.scalar = true → v0 = v)

theorem run_of_W {fn : Func} {c : Code} (hf : E.P.funcs[f]? = some fn) (hc : fn.body = some c) {args : List V} (hn : args.length ≤ fn.ntmps)
    (h : W E f fn.ntmps c (alOf 0 args) H fun x al' H' => (x = .ret ∨ x = .nrm) ∧ ∃ v, resultsA E fn al' H' = some v ∧ K .ret [(0, v)] H') : ∃ v H', runFn E (exec E) f args H = some (v, H') ∧ K .ret [(0, v)] H' := by
  obtain ⟨x, ts', al', H', h1, h2, h3, v, h4, h5⟩ := h _ (Agr.args hn)
  refine ⟨v, H', ?_, h5⟩
  rw [runFn_eq, hf]
  simp only [hc, h1, Option.bind_some]
  rcases h3 with rfl | rfl <;> simp only [fin, resultsA_le h2 h4, Option.map_some]

theorem call_pure (he : E.ext f = none) (hm : E.mode f = .snap ∨ E.mode f = .mv) {args : List V} (hp : V.pureL args = true) {v : V} (h : Runs E f args v) (H : Heap) : call E f args H = some (v, H) := by
  obtain ⟨v0, H', H'', h1, h2, h3, _⟩ := h
  rw [call_eq, callFn_eq, he]
  simp only
  rcases hm with hm | hm
  · simp only [hm, hp, if_true, h1, Option.bind_some, h2, h3]
  · simp only [hm, frzList_pure 11 args H hp, Option.bind_some, hp, if_true, h1, h2, h3]

theorem call_inl (he : E.ext f = none) (hm : E.mode f = .inl) (args : List V) (H : Heap) : call E f args H = runFn E (exec E) f args H := by
  rw [call_eq, callFn_eq, he]
  simp only [hm]

theorem call_ro (he : E.ext f = none) (hm : E.mode f = .ro) {args : List V} {v : V} {H H' : Heap} (h : runFn E (exec E) f args (roH H) = some (v, H')) (hv : v.scalar = true) : call E f args H = some (v, H) := by
  rw [call_eq, callFn_eq, he]
  simp only [hm, h, Option.bind_some, hv, if_true]

theorem run_W {fn : Func} {c : Code} {m : Nat} (hf : E.P.funcs[f]? = some fn) (hc : fn.body = some c) (hm : fn.ntmps = m) {args : List V} (hn : args.length ≤ m) {v : V} {H1 : Heap}
    (h : W E f m c (alOf 0 args) H fun x al' H' => x = .ret ∧ resultsA E fn al' H' = some v ∧ H' = H1) : runFn E (exec E) f args H = some (v, H1) := by
  subst hm
  obtain ⟨v', H', h1, h2, h3⟩ := run_of_W (K := fun _ al H' => look al 0 = some v ∧ H' = H1) hf hc hn (h.mono fun x al H' hk => by
    obtain ⟨rfl, h1, h2⟩ := hk
    exact ⟨.inl rfl, v, h1, rfl, h2⟩)
  simp only [look, if_true, Option.some.injEq] at h2
  rw [h1, h2, h3]

theorem call_snap (he : E.ext f = none) (hm : E.mode f = .snap) {args as : List V} (hp : V.pureL args = false) (hs : mapO (snapV 12 H) args = some as) {v : V} (h : Runs E f as v) (hv : v.scalar = true) : call E f args H = some (v, H) := by
  obtain ⟨v0, H', H'', h1, h2, h3, h4⟩ := h
  rw [call_eq, callFn_eq, he]
  simp only [hm, hp, Bool.false_eq_true, if_false, hs, Option.bind_some, h1, h4 hv, hv, if_true]

theorem call_mv (he : E.ext f = none) (hm : E.mode f = .mv) {args as : List V} {H1 : Heap} (hs : frzList (frzV 12) H args = some (as, H1)) (hp : V.pureL as = true) {v : V} (h : Runs E f as v) : call E f args H = some (v, H1) := by
  obtain ⟨v0, H', H'', h1, h2, h3, h4⟩ := h
  rw [call_eq, callFn_eq, he]
  simp only [hm, hs, Option.bind_some, hp, if_true, h1, h2, h3]

end Go.Ae
