/-
  Regions that draw their order: the evaluator's one order speaks for all.
-/
import Derived.Test.YtobammkdioeknaaAe2
import Derived.Orders
set_option linter.unusedVariables false
set_option linter.unusedSimpArgs false
namespace Go.Ae

variable {E : Env}

/-- ρ and ρ' are one at what the operation looks at. -/
theorem mapO_congr {α β : Type} {f g : α → Option β} : ∀ {l : List α}, (∀ x ∈ l, f x = g x) → mapO f l = mapO g l
  | [], _ => rfl
  | x :: r, h => by
    have h2 : mapO f r = mapO g r := mapO_congr (fun y hy => h y (List.mem_cons_of_mem _ hy))
    simp only [mapO, h x (by simp), h2]

theorem optO_congr {α β : Type} {f g : α → Option β} {o : Option α} (h : ∀ x ∈ o.toList, f x = g x) : optO f o = optO g o := by
  cases o with
  | none => rfl
  | some a => simp only [optO, h a (by simp)]

theorem partsO_congr {ρ ρ' : Operand → Option V} : ∀ {l : List (Nat × Operand)}, (∀ x ∈ l.map (·.2), ρ x = ρ' x) → partsO ρ l = partsO ρ' l
  | [], _ => rfl
  | (i, x) :: r, h => by simp only [partsO, h x (by simp), partsO_congr (l := r) (fun y hy => h y (by simp at hy ⊢; exact .inr hy))]

theorem qop_congr {H : Heap} {ρ ρ' : Operand → Option V} {op : Op} (h : ∀ x ∈ op.operands.toList, ρ x = ρ' x) : qop E H ρ op = qop E H ρ' op := by
  cases op with
  | makeFunc fn first captured =>
    cases fn <;> simp only [qop]
    rw [mapO_congr (l := first.toList) (fun x hx => h x (by simp [Op.operands] at hx ⊢; exact .inl hx)), mapO_congr (l := captured.toList) (fun x hx => h x (by simp [Op.operands] at hx ⊢; exact .inr hx))]
  | slice t x lo hi mx =>
    simp only [qop]
    rw [h x (by simp [Op.operands]), optO_congr (o := lo) (fun y hy => h y (by simp [Op.operands] at hy ⊢; simp [hy])), optO_congr (o := hi) (fun y hy => h y (by simp [Op.operands] at hy ⊢; simp [hy])), optO_congr (o := mx) (fun y hy => h y (by simp [Op.operands] at hy ⊢; simp [hy]))]
  | build t parts =>
    simp only [qop]
    rw [partsO_congr (fun x hx => h x (by simpa [Op.operands] using hx))]
  | call c =>
    obtain ⟨callee, args, argTypes⟩ := c
    simp only [qop]
    cases callee <;> simp only
    rw [mapO_congr (l := args.toList) (fun x hx => h x (by simp [Op.operands, Call.operands] at hx ⊢; exact hx))]
  | _ => simp only [qop] <;> (try simp only [Op.operands, List.mem_cons, List.mem_nil_iff, or_false, forall_eq_or_imp, forall_eq] at h) <;> simp [h]

theorem calleeV_congr {ρ ρ' : Operand → Option V} {op : Op} (h : ∀ x ∈ op.operands.toList, ρ x = ρ' x) : calleeV ρ op = calleeV ρ' op := by
  cases op with
  | call c =>
    obtain ⟨callee, args, argTypes⟩ := c
    simp only [calleeV]
    cases callee <;> simp only
    rename_i g
    rw [h g (by simp [Op.operands, Call.operands]), mapO_congr (l := args.toList) (fun x hx => h x (by simp [Op.operands, Call.operands] at hx ⊢; exact .inr hx))]
  | _ => rfl

theorem eop_congr {f : FuncId} {dst : Option Tmp} {H : Heap} {ρ ρ' : Operand → Option V} {op : Op} (h : ∀ x ∈ op.operands.toList, ρ x = ρ' x) : eop E f dst H ρ op = eop E f dst H ρ' op := by
  cases op with
  | buildSlice t len parts =>
    simp only [eop]
    rw [partsO_congr (fun x hx => h x (by simpa [Op.operands] using hx))]
  | call c =>
    obtain ⟨callee, args, argTypes⟩ := c
    simp only [eop]
    cases callee with
    | builtin b => rw [mapO_congr (l := args.toList) (fun x hx => h x (by simp [Op.operands, Call.operands] at hx ⊢; exact hx))]
    | value g => cases mapO ρ args.toList <;> cases mapO ρ' args.toList <;> rfl
    | invoke r m => cases mapO ρ args.toList <;> cases mapO ρ' args.toList <;> rfl
  | _ => simp only [eop] <;> (try simp only [Op.operands, List.mem_cons, List.mem_nil_iff, or_false, forall_eq_or_imp, forall_eq] at h) <;> simp [h]

theorem nop_congr {ρ ρ' : Operand → Option V} {op : Op} (h : ∀ x ∈ op.operands.toList, ρ x = ρ' x) : nop E ρ op = nop E ρ' op := by
  cases op with
  | buildSlice t len parts =>
    simp only [nop]
    rw [partsO_congr (fun x hx => h x (by simpa [Op.operands] using hx))]
  | _ => simp only [nop] <;> (try simp only [Op.operands, List.mem_cons, List.mem_nil_iff, or_false, forall_eq_or_imp, forall_eq] at h) <;> simp [h]

/-- What an operation does, looked at or not. -/
def act (E : Env) (call : Call) (f : FuncId) (ops : Array Oper) (s : Nat) (o : Oper) (ts : List V) (H : Heap) : Option (V × Heap) :=
  if wantedV ops ts o then stepD E call f s o ts H else some (undefV, H)

theorem act_congr {call : Call} {f : FuncId} {ops : Array Oper} {s : Nat} {o : Oper} {ts ts' : List V} {H : Heap} (h : ∀ t ∈ readsOf ops o, ts[t]? = ts'[t]?) : act E call f ops s o ts H = act E call f ops s o ts' H := by
  have hr : ∀ x ∈ o.op.operands.toList, rho E ts x = rho E ts' x := fun x hx => by
    cases x with
    | tmp t =>
      have := h t (by unfold readsOf; simp only [List.mem_append, List.mem_filterMap]; exact .inl ⟨_, hx, rfl⟩)
      simp [rho, List.getD_eq_getElem?_getD, this]
    | _ => rfl
  have hw : wantedV ops ts o = wantedV ops ts' o := by
    unfold wantedV
    cases hg : o.guard with
    | none => rfl
    | some p =>
      obtain ⟨j, want⟩ := p
      simp only
      cases hd : (ops[j]?).bind (·.dst) with
      | none => rfl
      | some d =>
        have := h d (by unfold readsOf; simp only [hg, List.mem_append]; exact .inr (by simp [hd]))
        simp [this]
  unfold act
  rw [hw]
  have hs : stepD E call f s o ts H = stepD E call f s o ts' H := by
    have hv : stepV E call f o ts H = stepV E call f o ts' H := by
      unfold stepV
      rw [calleeV_congr hr, qop_congr hr, eop_congr hr]
    unfold stepD
    rw [hv, nop_congr hr]
    have hq : quietArgs E (rho E ts) o.op = quietArgs E (rho E ts') o.op := by unfold quietArgs; rw [calleeV_congr hr]
    rw [hq]
  rw [hs]

end Go.Ae

namespace Go.Ae

variable {E : Env}

/-- Every block reads in H' as in H. -/
def More (H H' : Heap) : Prop := ∀ (b ver : Nat) (cs : List V), getBlk H b ver = some cs → getBlk H' b ver = some cs

/-- A call that may be taken at any time. -/
def CallStays (E : Env) (call : Call) : Prop :=
  ∀ (g : FuncId) (args : List V) (H : Heap) (v : V) (H1 : Heap), call g args H = some (v, H1) → (E.mode g = .snap ∨ (E.mode g = .mv ∧ V.pureL args = true)) → H1 = H ∧ ∀ H', More H H' → call g args H' = some (v, H')

theorem n_kind {call : Call} {f : FuncId} {s : Nat} {o : Oper} {ts : List V} (hk : kdOf E f o = .n) : ∃ r : Option V, ∀ H, stepD E call f s o ts H = r.map fun v => (v, H) := by
  unfold stepD
  rw [hk]
  simp only
  obtain ⟨dst, op, type, pos, after, guard⟩ := o
  simp only at hk ⊢
  by_cases hE : isE E.P op = true
  · exact ⟨nop E (rho E ts) op, fun H => by rw [if_pos hE]⟩
  · have hE : isE E.P op = false := by simpa using hE
    cases op with
    | call c =>
      obtain ⟨callee, args, argTypes⟩ := c
      simp only [kdOf] at hk
      cases callee with
      | builtin b =>
        refine ⟨qop E [] (rho E ts) (.call ⟨.builtin b, args, argTypes⟩), fun H => ?_⟩
        rw [if_neg (by simp [hE])]
        simp only [stepV, calleeV, hE, Bool.false_eq_true, if_false, qop]
      | value g =>
        exfalso
        cases g <;> simp only at hk <;> first | cases hk | (split at hk <;> cases hk)
      | invoke r m => cases hk
    | convert src dst' x =>
      exfalso
      simp only [kdOf] at hk
      have : isE E.P (.convert src dst' (.tmp 0)) = false := by rw [← hE]; rfl
      rw [this] at hk
      simp at hk
    | load => simp [kdOf] at hk
    | slice => simp [kdOf] at hk
    | alloc => simp [kdOf] at hk
    | box => simp [isE] at hE
    | buildSlice => simp [isE] at hE
    | makeSlice => simp [isE] at hE
    | store => simp [isE] at hE
    | move x => exact ⟨qop E [] (rho E ts) (.move x), fun H => by rw [if_neg (by simp [hE])]; simp only [stepV, calleeV, hE, Bool.false_eq_true, if_false, qop]⟩
    | assign x => exact ⟨qop E [] (rho E ts) (.assign x), fun H => by rw [if_neg (by simp [hE])]; simp only [stepV, calleeV, hE, Bool.false_eq_true, if_false, qop]⟩
    | pick c x y => exact ⟨qop E [] (rho E ts) (.pick c x y), fun H => by rw [if_neg (by simp [hE])]; simp only [stepV, calleeV, hE, Bool.false_eq_true, if_false, qop]⟩
    | nilCheck x => exact ⟨qop E [] (rho E ts) (.nilCheck x), fun H => by rw [if_neg (by simp [hE])]; simp only [stepV, calleeV, hE, Bool.false_eq_true, if_false, qop]⟩
    | binOp op t x y yt => exact ⟨qop E [] (rho E ts) (.binOp op t x y yt), fun H => by rw [if_neg (by simp [hE])]; simp only [stepV, calleeV, hE, Bool.false_eq_true, if_false, qop]⟩
    | unOp op t x => exact ⟨qop E [] (rho E ts) (.unOp op t x), fun H => by rw [if_neg (by simp [hE])]; simp only [stepV, calleeV, hE, Bool.false_eq_true, if_false, qop]⟩
    | makeInterface t x => exact ⟨qop E [] (rho E ts) (.makeInterface t x), fun H => by rw [if_neg (by simp [hE])]; simp only [stepV, calleeV, hE, Bool.false_eq_true, if_false, qop]⟩
    | makeFunc fn x y => exact ⟨qop E [] (rho E ts) (.makeFunc fn x y), fun H => by rw [if_neg (by simp [hE])]; cases fn <;> simp only [stepV, calleeV, hE, Bool.false_eq_true, if_false, qop]⟩
    | fieldAddr t x i => exact ⟨qop E [] (rho E ts) (.fieldAddr t x i), fun H => by rw [if_neg (by simp [hE])]; simp only [stepV, calleeV, hE, Bool.false_eq_true, if_false, qop]⟩
    | field t x i => exact ⟨qop E [] (rho E ts) (.field t x i), fun H => by rw [if_neg (by simp [hE])]; simp only [stepV, calleeV, hE, Bool.false_eq_true, if_false, qop]⟩
    | indexAddr t x i => exact ⟨qop E [] (rho E ts) (.indexAddr t x i), fun H => by rw [if_neg (by simp [hE])]; simp only [stepV, calleeV, hE, Bool.false_eq_true, if_false, qop]⟩
    | index t x i => exact ⟨qop E [] (rho E ts) (.index t x i), fun H => by rw [if_neg (by simp [hE])]; simp only [stepV, calleeV, hE, Bool.false_eq_true, if_false, qop]⟩
    | typeAssert x t u ok => exact ⟨qop E [] (rho E ts) (.typeAssert x t u ok), fun H => by rw [if_neg (by simp [hE])]; simp only [stepV, calleeV, hE, Bool.false_eq_true, if_false, qop]⟩
    | extract x i => exact ⟨qop E [] (rho E ts) (.extract x i), fun H => by rw [if_neg (by simp [hE])]; simp only [stepV, calleeV, hE, Bool.false_eq_true, if_false, qop]⟩
    | build t ps => exact ⟨qop E [] (rho E ts) (.build t ps), fun H => by rw [if_neg (by simp [hE])]; simp only [stepV, calleeV, hE, Bool.false_eq_true, if_false, qop]⟩
    | _ => simp [kdOf] at hk

theorem behind_more {H H' : Heap} (hm : More H H') {v : V} {cs : List V} (h : behind H v = some cs) : behind H' v = some cs := by
  cases v <;> simp only [behind] at h ⊢ <;> try exact h
  rename_i b ver off
  cases hg : getBlk H b ver with
  | none => rw [hg] at h; cases h
  | some c => rw [hm _ _ _ hg]; rw [hg] at h; exact h

theorem elems_more {H H' : Heap} (hm : More H H') {v : V} {els : List (List V)} (h : elemsOf H v = some els) : elemsOf H' v = some els := by
  cases v <;> simp only [elemsOf] at h ⊢ <;> try exact h
  rename_i sz b ver off len full
  cases hg : getBlk H b ver with
  | none => rw [hg] at h; cases h
  | some c => rw [hm _ _ _ hg]; rw [hg] at h; exact h

theorem slice_more {P : Program} {H H' : Heap} (hm : More H H') {t : TypeId} {x v : V} {lo hi mx : Option V} (h : sliceV P H t x lo hi mx = some v) : sliceV P H' t x lo hi mx = some v := by
  unfold sliceV at h ⊢
  split at h
  · exact h
  · exact h
  · rename_i n e _ _ _ hi'
    split at h
    · rename_i s l hh f hs hc
      split at h
      · exact h
      · rename_i b ver off
        cases hg : getBlk H b ver with
        | none => rw [hg] at h; cases h
        | some c => simp only [hm _ _ _ hg]; simp only [hg] at h; exact h
      · cases h
    · cases h
  · cases h

theorem qop_more {H H' : Heap} (hm : More H H') {ρ : Operand → Option V} {op : Op} {v : V} (h : qop E H ρ op = some v) : qop E H' ρ op = some v := by
  cases op with
  | load t x =>
    simp only [qop] at h ⊢
    split at h
    · rename_i i u hi hx
      split at h
      · rename_i cs hb
        simp only [behind_more hm hb]; exact h
      · cases h
    · cases h
  | slice t x lo hi mx =>
    simp only [qop] at h ⊢
    split at h
    · exact slice_more hm h
    · cases h
  | convert src dst x =>
    simp only [qop] at h ⊢
    split at h
    · exact h
    · exact h
    · rename_i u hn1 hn2 hx
      split at h
      · split at h
        · rename_i els he hel
          simp only [elems_more hm hel, he]; exact h
        · cases h
      · cases h
    · cases h
  | makeFunc fn a c => cases fn <;> exact h
  | _ => exact h

theorem l_kind {call : Call} (hst : CallStays E call) {f : FuncId} {s : Nat} {o : Oper} {ts : List V} {H H1 : Heap} {v : V} (hk : kdOf E f o = .l) (h : stepD E call f s o ts H = some (v, H1)) :
    H1 = H ∧ ∀ s' H', More H H' → stepD E call f s' o ts H' = some (v, H') := by
  unfold stepD at h ⊢
  rw [hk] at h ⊢
  simp only at h ⊢
  split at h
  · rename_i hq
    simp only [hq, if_true]
    have plain : (∀ c, o.op ≠ .call c) → isE E.P o.op = false → H1 = H ∧ ∀ (_ : Nat) H', More H H' → stepV E call f o ts H' = some (v, H') := fun hn hE => by
      have hcal : calleeV (rho E ts) o.op = some none := by
        cases ho : o.op <;> first | rfl | exact absurd ho (hn _)
      simp only [stepV, hcal, hE, Bool.false_eq_true, if_false] at h ⊢
      cases hv : qop E H (rho E ts) o.op with
      | none => rw [hv] at h; cases h
      | some u =>
        rw [hv] at h; injection h with h; injection h with h h'; subst h; subst h'
        exact ⟨rfl, fun _ H' hm => by rw [qop_more hm hv]; rfl⟩
    obtain ⟨dst, op, type, pos, after, guard⟩ := o
    cases op with
    | load => exact plain (by simp) rfl
    | slice => exact plain (by simp) rfl
    | convert src dst' x =>
      refine plain (by simp) ?_
      simp only [kdOf] at hk
      have e : isE E.P (.convert src dst' (.tmp 0)) = isE E.P (.convert src dst' x) := rfl
      rw [e] at hk
      cases hE : isE E.P (.convert src dst' x) with
      | false => rfl
      | true =>
        rw [hE] at hk
        simp only [if_true] at hk
        split at hk
        · split at hk <;> cases hk
        · cases hk
    | call c =>
      obtain ⟨callee, args, argTypes⟩ := c
      simp only [kdOf] at hk
      split at hk
      · cases hk
      · cases hk
      · cases hk
      · rename_i g
        split at hk
        · rename_i hmode
          simp only [stepV, calleeV, rho] at h ⊢
          simp only [quietArgs, calleeV, rho] at hq
          cases ha : mapO (rho E ts) args.toList with
          | none => rw [ha] at h; cases h
          | some as =>
            rw [ha] at h hq
            simp only at h hq ⊢
            have hcond : E.mode g = .snap ∨ (E.mode g = .mv ∧ V.pureL ([] ++ as ++ []) = true) := by
              rcases hmode with hmo | hmo
              · exact .inl hmo
              · refine .inr ⟨hmo, ?_⟩
                simpa [hmo] using hq
            obtain ⟨r1, r2⟩ := hst g _ H v H1 h hcond
            exact ⟨r1, fun _ H' hm => r2 H' hm⟩
        · cases hk
      · cases hk
    | box => simp only [kdOf] at hk; split at hk <;> first | cases hk | (split at hk <;> cases hk)
    | buildSlice => simp only [kdOf] at hk; split at hk <;> first | cases hk | (split at hk <;> cases hk)
    | makeSlice => simp only [kdOf] at hk; split at hk <;> first | cases hk | (split at hk <;> cases hk)
    | _ => simp [kdOf] at hk
  · cases h

end Go.Ae

namespace Go.Ae

variable {E : Env}

theorem putV_comm {ts : List V} {a b : Option Tmp} {u v : V} (h : ∀ d, a = some d → b ≠ some d) : putV (putV ts a u) b v = putV (putV ts b v) a u := by
  cases a with
  | none => rfl
  | some d =>
    cases b with
    | none => rfl
    | some d' =>
      simp only [putV]
      exact List.set_comm _ _ (fun q => h d rfl (by rw [q]))

theorem putV_get {ts : List V} {a : Option Tmp} {u : V} {t : Tmp} (h : a ≠ some t) : (putV ts a u)[t]? = ts[t]? := by
  cases a with
  | none => rfl
  | some d => exact List.getElem?_set_ne (fun q => h (by rw [q]))

theorem apart_spec {ops : Array Oper} {a b : Oper} (h : apartV ops a b = true) : (∀ d, a.dst = some d → d ∉ readsOf ops b ∧ b.dst ≠ some d) ∧ (∀ d, b.dst = some d → d ∉ readsOf ops a) := by
  unfold apartV at h
  simp only [Bool.and_eq_true] at h
  refine ⟨fun d hd => ?_, fun d hd => ?_⟩
  · rw [hd] at h; simpa using h.1
  · have := h.2; rw [hd] at this; simpa using this

theorem isAlloc_spec {o : Oper} (h : isAlloc o = true) : ∃ e, o.op = .alloc e := by
  unfold isAlloc at h
  split at h
  · rename_i e he; exact ⟨e, he⟩
  · cases h

theorem kd_alloc {f : FuncId} {o : Oper} : kdOf E f o = .a ↔ isAlloc o = true := by
  constructor
  · intro hk
    unfold isAlloc
    unfold kdOf at hk
    cases ho : o.op <;> rw [ho] at hk <;> simp only at hk ⊢ <;> first
      | cases hk
      | (split at hk <;> first | cases hk | (split at hk <;> cases hk))
      | (split at hk <;> split at hk <;> first | cases hk | (split at hk <;> cases hk))
      | skip
    all_goals (split at hk <;> first | cases hk | (split at hk <;> first | cases hk | (split at hk <;> cases hk)))
  · intro h
    obtain ⟨e, he⟩ := isAlloc_spec h
    unfold kdOf; rw [he]

theorem a_kind {call : Call} {f : FuncId} {s : Nat} {o : Oper} {ts : List V} {H H1 : Heap} {v : V} (hk : kdOf E f o = .a) (h : stepD E call f s o ts H = some (v, H1)) :
    ∃ e i, o.op = .alloc e ∧ tinf E.P e = some i ∧ allOne i.zero.cells = true ∧ H[s]? = some none ∧ v = .mp s 0 0 ∧ H1 = H.set s (newBlk 0 i.zero.cells) ∧ ∀ H', H'[s]? = some none → stepD E call f s o ts H' = some (.mp s 0 0, H'.set s (newBlk 0 i.zero.cells)) := by
  obtain ⟨e, he⟩ := isAlloc_spec (kd_alloc.1 hk)
  unfold stepD at h ⊢
  rw [hk] at h ⊢
  simp only [he] at h ⊢
  split at h
  · rename_i i hi hs
    split at h
    · rename_i h1
      injection h with h; injection h with h h'; subst h; subst h'
      exact ⟨e, i, rfl, hi, h1, hs, rfl, rfl, fun H' hs' => by simp only [hi, hs']; rw [if_pos h1]⟩
    · cases h
  · cases h

theorem more_set {H : Heap} {s : Nat} {x : Option Blk} (h : H[s]? = some none) : More H (H.set s x) := by
  intro b ver cs hg
  unfold getBlk at hg ⊢
  by_cases hq : s = b
  · subst hq; rw [h] at hg; cases hg
  · rw [List.getElem?_set_ne hq]; exact hg

/-- Two operations, unordered: the other order gives the same. -/
theorem swap_one {call : Call} (hst : CallStays E call) {f : FuncId} {ops : Array Oper} {si sj : Nat} {oi oj : Oper} (hss : isAlloc oi = true → isAlloc oj = true → si ≠ sj)
    (hap : apartV ops oi oj = true) (hpk : pairOk (kdOf E f oi) (kdOf E f oj) = true) {ts : List V} {H H1 H2 : Heap} {vi vj : V}
    (h1 : act E call f ops si oi ts H = some (vi, H1)) (h2 : act E call f ops sj oj (putV ts oi.dst vi) H1 = some (vj, H2)) :
    ∃ H1', act E call f ops sj oj ts H = some (vj, H1') ∧ act E call f ops si oi (putV ts oj.dst vj) H1' = some (vi, H2) ∧ putV (putV ts oi.dst vi) oj.dst vj = putV (putV ts oj.dst vj) oi.dst vi := by
  obtain ⟨ha1, ha2⟩ := apart_spec hap
  have e2 : ∀ H, act E call f ops sj oj (putV ts oi.dst vi) H = act E call f ops sj oj ts H := fun H => act_congr (fun t ht => putV_get (fun q => (ha1 t q).1 ht))
  have e1 : ∀ H, act E call f ops si oi (putV ts oj.dst vj) H = act E call f ops si oi ts H := fun H => act_congr (fun t ht => putV_get (fun q => ha2 t q ht))
  rw [e2] at h2
  have hc : putV (putV ts oi.dst vi) oj.dst vj = putV (putV ts oj.dst vj) oi.dst vi := putV_comm (fun d hd => (ha1 d hd).2)
  suffices hs : ∃ H1', act E call f ops sj oj ts H = some (vj, H1') ∧ act E call f ops si oi ts H1' = some (vi, H2) by
    obtain ⟨H1', q1, q2⟩ := hs
    exact ⟨H1', q1, by rw [e1]; exact q2, hc⟩
  have neutral : ∀ (s : Nat) (o : Oper), (wantedV ops ts o = false ∨ kdOf E f o = .n) → ∃ r : Option V, ∀ H, act E call f ops s o ts H = r.map fun v => (v, H) := fun s o ho => by
    unfold act
    rcases ho with ho | ho
    · exact ⟨some undefV, fun H => by rw [ho]; rfl⟩
    · by_cases hw : wantedV ops ts o = true
      · obtain ⟨r, hr⟩ := n_kind (call := call) (s := s) (ts := ts) ho
        exact ⟨r, fun H => by rw [hw]; exact hr H⟩
      · exact ⟨some undefV, fun H => by rw [if_neg hw]; rfl⟩
  by_cases hni : wantedV ops ts oi = false ∨ kdOf E f oi = .n
  · obtain ⟨r, hr⟩ := neutral si oi hni
    rw [hr] at h1
    cases r with
    | none => cases h1
    | some u =>
      injection h1 with h1; injection h1 with q1 q2; subst q1; subst q2
      exact ⟨H2, h2, by rw [hr]; rfl⟩
  · by_cases hnj : wantedV ops ts oj = false ∨ kdOf E f oj = .n
    · obtain ⟨r, hr⟩ := neutral sj oj hnj
      rw [hr] at h2
      cases r with
      | none => cases h2
      | some u =>
        injection h2 with h2; injection h2 with q1 q2; subst q1; subst q2
        exact ⟨H, by rw [hr]; rfl, h1⟩
    · simp only [not_or] at hni hnj
      have wi : wantedV ops ts oi = true := by simpa using hni.1
      have wj : wantedV ops ts oj = true := by simpa using hnj.1
      have ai : ∀ H, act E call f ops si oi ts H = stepD E call f si oi ts H := fun H => by unfold act; rw [if_pos wi]
      have aj : ∀ H, act E call f ops sj oj ts H = stepD E call f sj oj ts H := fun H => by unfold act; rw [if_pos wj]
      rw [ai] at h1; rw [aj] at h2
      cases hki : kdOf E f oi with
      | n => exact absurd hki hni.2
      | e => rw [hki] at hpk; cases hkj : kdOf E f oj <;> rw [hkj] at hpk <;> first | exact absurd hkj hnj.2 | cases hpk
      | l =>
        obtain ⟨rfl, hl⟩ := l_kind hst hki h1
        cases hkj : kdOf E f oj with
        | n => exact absurd hkj hnj.2
        | e => rw [hki, hkj] at hpk; cases hpk
        | l =>
          obtain ⟨rfl, _⟩ := l_kind hst hkj h2
          exact ⟨_, by rw [aj]; exact h2, by rw [ai]; exact h1⟩
        | a =>
          obtain ⟨e, i, _, _, _, hs, rfl, rfl, _⟩ := a_kind hkj h2
          exact ⟨_, by rw [aj]; exact h2, by rw [ai]; exact hl si _ (more_set hs)⟩
      | a =>
        cases hkj : kdOf E f oj with
        | n => exact absurd hkj hnj.2
        | e => rw [hki, hkj] at hpk; cases hpk
        | l => rw [hki, hkj] at hpk; cases hpk
        | a =>
          have hne := hss (kd_alloc.1 hki) (kd_alloc.1 hkj)
          obtain ⟨e, i, _, _, _, hs, rfl, rfl, hi'⟩ := a_kind hki h1
          obtain ⟨e', i', _, _, _, hs', rfl, rfl, hj'⟩ := a_kind hkj h2
          rw [List.getElem?_set_ne hne] at hs'
          refine ⟨_, by rw [aj]; exact hj' H hs', ?_⟩
          rw [ai, hi' _ (by rw [List.getElem?_set_ne (Ne.symm hne)]; exact hs)]
          rw [List.set_comm _ _ hne]

/-- Where the variable that operation i makes lies. -/
def slotOf (ops : Array Oper) (base i : Nat) : Nat := base + allocs (ops.toList.take i)

def oneIdx (E : Env) (call : Call) (f : FuncId) (ops : Array Oper) (base i : Nat) (ts : List V) (H : Heap) : Option (List V × Heap) :=
  match ops[i]? with
  | none => some (ts, H)
  | some o => match act E call f ops (slotOf ops base i) o ts H with
    | some (v, H') => some (putV ts o.dst v, H')
    | none => none

def runIdx (E : Env) (call : Call) (f : FuncId) (ops : Array Oper) (base : Nat) : List Nat → List V → Heap → Option (List V × Heap)
  | [], ts, H => some (ts, H)
  | i :: r, ts, H => match oneIdx E call f ops base i ts H with
    | some (ts', H') => runIdx E call f ops base r ts' H'
    | none => none

theorem slot_succ {ops : Array Oper} {base k : Nat} {o : Oper} (h : ops[k]? = some o) : slotOf ops base (k + 1) = if isAlloc o then slotOf ops base k + 1 else slotOf ops base k := by
  have hk : k < ops.toList.length := by simpa using (Array.getElem?_eq_some_iff.1 h).1
  have he : ops.toList[k] = o := by
    have := (Array.getElem?_eq_some_iff.1 h).2
    simpa using this
  unfold slotOf allocs
  rw [List.take_succ_eq_append_getElem hk, he, List.filter_append, List.length_append]
  by_cases ha : isAlloc o = true
  · simp [ha]; omega
  · simp [ha]

theorem slot_mono {ops : Array Oper} {base : Nat} {i j : Nat} {oi : Oper} (hi : ops[i]? = some oi) (ha : isAlloc oi = true) (hij : i < j) : slotOf ops base i < slotOf ops base j := by
  have h1 := slot_succ (base := base) hi
  rw [if_pos ha] at h1
  have h2 : slotOf ops base (i + 1) ≤ slotOf ops base j := by
    unfold slotOf allocs
    have : (ops.toList.take (i + 1)).Sublist (ops.toList.take j) := List.take_sublist_take_left (by omega)
    have := (this.filter isAlloc).length_le
    omega
  omega

theorem drawV_run {call : Call} {f : FuncId} {ops : Array Oper} {base : Nat} : ∀ (l : List Oper) (k : Nat) (ts : List V) (H : Heap), (∀ j, l[j]? = ops[k + j]?) →
    drawV E call f ops (slotOf ops base k) l ts H = runIdx E call f ops base (List.range' k l.length) ts H
  | [], k, ts, H, _ => rfl
  | o :: rest, k, ts, H, h => by
    have h0 : ops[k]? = some o := by simpa using (h 0).symm
    have ih := fun ts H => drawV_run (call := call) (f := f) (base := base) rest (k + 1) ts H (fun j => by have := h (j + 1); simpa [Nat.add_assoc, Nat.add_comm 1 j] using this)
    simp only [slot_succ h0] at ih
    simp only [drawV, List.length_cons, List.range'_succ, runIdx, oneIdx, h0, act]
    by_cases hw : wantedV ops ts o = true
    · simp only [hw, if_true]
      cases stepD E call f (slotOf ops base k) o ts H with
      | none => rfl
      | some p => obtain ⟨v, H'⟩ := p; exact ih _ _
    · simp only [hw, if_false, Bool.false_eq_true]
      exact ih _ _

end Go.Ae

namespace Go.Ae

variable {E : Env}

/-- Later operations that no edge orders may come up first. -/
theorem move_front {call : Call} (hst : CallStays E call) {f : FuncId} {ops : Array Oper} {base i : Nat} (hi : i < ops.size) : ∀ (pre : List Nat) (post : List Nat) (ts : List V) (H : Heap) (res : List V × Heap),
    (∀ p ∈ pre, p < i ∧ apartV ops (ops.getD p default) (ops.getD i default) = true ∧ pairOk (kdOf E f (ops.getD p default)) (kdOf E f (ops.getD i default)) = true) →
    runIdx E call f ops base (pre ++ i :: post) ts H = some res → runIdx E call f ops base (i :: (pre ++ post)) ts H = some res
  | [], post, ts, H, res, _, h => h
  | p :: r, post, ts, H, res, hp, h => by
    obtain ⟨hpi, hap, hpk⟩ := hp p (by simp)
    have hps : p < ops.size := by omega
    have ep : ops[p]? = some (ops.getD p default) := by simp [Array.getD, hps]
    have ei : ops[i]? = some (ops.getD i default) := by simp [Array.getD, hi]
    simp only [List.cons_append, runIdx] at h
    cases h1 : oneIdx E call f ops base p ts H with
    | none => rw [h1] at h; cases h
    | some q =>
      obtain ⟨ts1, H1⟩ := q
      rw [h1] at h
      simp only at h
      have h := move_front hst hi r post ts1 H1 res (fun x hx => hp x (by simp [hx])) h
      simp only [runIdx] at h
      cases h2 : oneIdx E call f ops base i ts1 H1 with
      | none => rw [h2] at h; cases h
      | some q =>
        obtain ⟨ts2, H2⟩ := q
        rw [h2] at h
        simp only at h
        unfold oneIdx at h1 h2
        rw [ep] at h1
        rw [ei] at h2
        simp only at h1 h2
        cases a1 : act E call f ops (slotOf ops base p) (ops.getD p default) ts H with
        | none => rw [a1] at h1; cases h1
        | some u =>
          obtain ⟨vp, Hp⟩ := u
          rw [a1] at h1
          injection h1 with h1; injection h1 with q1 q2; subst q1; subst q2
          cases a2 : act E call f ops (slotOf ops base i) (ops.getD i default) (putV ts (ops.getD p default).dst vp) Hp with
          | none => rw [a2] at h2; cases h2
          | some u =>
            obtain ⟨vi, Hi⟩ := u
            rw [a2] at h2
            injection h2 with h2; injection h2 with q1 q2; subst q1; subst q2
            obtain ⟨H1', s1, s2, s3⟩ := swap_one hst (fun q1 q2 => Nat.ne_of_lt (slot_mono ep q1 hpi)) hap hpk a1 a2
            simp only [runIdx, oneIdx, ei, ep, List.cons_append, s1, s2]
            rw [← s3]
            exact h

/-- The operations that have not come up yet. -/
def rem (ops : Array Oper) (listed : Array Bool) : List Nat := (List.range ops.size).filter fun i => !listed.getD i true

/-- Nothing has come up ahead of what it waits for. -/
def Closed (ops : Array Oper) (listed : Array Bool) : Prop :=
  ∀ j o, ops[j]? = some o → listed.getD j true = true → ∀ e ∈ o.after.toList, Region.binds .any e = true → listed.getD e.on false = true

theorem drawOk_edges {f : FuncId} {ops : Array Oper} (h : drawOk E f ops = true) {j : Nat} {o : Oper} (hj : ops[j]? = some o) : ∀ e ∈ o.after.toList, Region.binds .any e = true → e.on < j := by
  have hjs : j < ops.size := (Array.getElem?_eq_some_iff.1 hj).1
  have ho : ops.getD j default = o := by
    have := (Array.getElem?_eq_some_iff.1 hj).2
    simp [Array.getD, hjs, this]
  unfold drawOk at h
  rw [List.all_eq_true] at h
  have := h j (by simpa using hjs)
  simp only [Bool.and_eq_true] at this
  rw [ho, List.all_eq_true] at this
  intro e he hb
  have := this.1 e he
  simpa [hb] using this

theorem drawOk_pair {f : FuncId} {ops : Array Oper} (h : drawOk E f ops = true) {i j : Nat} (hj : j < ops.size) (hij : i < j) :
    ordV (Region.before ops) i j = true ∨ (apartV ops (ops.getD i default) (ops.getD j default) = true ∧ pairOk (kdOf E f (ops.getD i default)) (kdOf E f (ops.getD j default)) = true) := by
  unfold drawOk at h
  rw [List.all_eq_true] at h
  have := h j (by simpa using hj)
  simp only [Bool.and_eq_true] at this
  have := (List.all_eq_true.1 this.2) i (by simpa using hij)
  simpa [Bool.or_eq_true, Bool.and_eq_true] using this

theorem before_size (ops : Array Oper) : (Region.before ops).size = ops.size := by
  unfold Region.before
  rw [← Array.foldl_toList]
  have : ∀ (l : List Oper) (acc : Array Nat), (l.foldl (fun acc o => acc.push (o.after.foldl (fun s e => if Region.binds .any e then s ||| 2 ^ e.on ||| acc.getD e.on 0 else s) 0)) acc).size = acc.size + l.length := by
    intro l
    induction l with
    | nil => intro acc; simp
    | cons o r ih => intro acc; simp only [List.foldl_cons, List.length_cons]; rw [ih]; simp; omega
  rw [this]; simp

theorem before_get (ops : Array Oper) {j : Nat} {o : Oper} (hj : ops[j]? = some o) (hlt : ∀ e ∈ o.after.toList, Region.binds .any e = true → e.on < j) :
    (Region.before ops).getD j 0 = o.after.toList.foldl (fun s e => if Region.binds .any e then s ||| 2 ^ e.on ||| (Region.before ops).getD e.on 0 else s) 0 := by
  have key : ∀ (l pre : List Oper) (acc : Array Nat), acc.size = pre.length → ∀ (k : Nat), k < acc.size → (l.foldl (fun acc o => acc.push (o.after.foldl (fun s e => if Region.binds .any e then s ||| 2 ^ e.on ||| acc.getD e.on 0 else s) 0)) acc).getD k 0 = acc.getD k 0 := by
    intro l
    induction l with
    | nil => intro pre acc _ k _; rfl
    | cons o r ih =>
      intro pre acc hs k hk
      simp only [List.foldl_cons]
      rw [ih (pre ++ [o]) _ (by simp [hs]) k (by simp; omega)]
      simp [Array.getD, Nat.lt_succ_of_lt hk, hk, Array.getElem_push]
  have split : ∀ (l : List Oper), ∀ (k : Nat), k < l.length → ∃ a b, l = a ++ l.getD k default :: b ∧ a.length = k := fun l k hk =>
    ⟨l.take k, l.drop (k + 1), by
      have : l.getD k default = l[k] := by simp [List.getD, hk]
      rw [this, List.getElem_cons_drop, List.take_append_drop], by simp; omega⟩
  have hjs : j < ops.size := (Array.getElem?_eq_some_iff.1 hj).1
  obtain ⟨a, b, hab, hal⟩ := split ops.toList j (by simpa using hjs)
  have ho : ops.toList.getD j default = o := by
    have := (Array.getElem?_eq_some_iff.1 hj).2
    simp [List.getD, hjs, this]
  rw [ho] at hab
  unfold Region.before
  rw [← Array.foldl_toList, hab, List.foldl_append, List.foldl_cons]
  generalize hacc : a.foldl (fun acc o => acc.push (o.after.foldl (fun s e => if Region.binds .any e then s ||| 2 ^ e.on ||| acc.getD e.on 0 else s) 0)) (#[] : Array Nat) = acc
  have hsz : acc.size = j := by
    have h2 : ∀ (l : List Oper) (acc : Array Nat), (l.foldl (fun acc o => acc.push (o.after.foldl (fun s e => if Region.binds .any e then s ||| 2 ^ e.on ||| acc.getD e.on 0 else s) 0)) acc).size = acc.size + l.length := by
      intro l
      induction l with
      | nil => intro acc; simp
      | cons o r ih => intro acc; simp only [List.foldl_cons, List.length_cons]; rw [ih]; simp; omega
    rw [← hacc, h2]; simp [hal]
  generalize hx : o.after.foldl (fun s e => if Region.binds .any e then s ||| 2 ^ e.on ||| acc.getD e.on 0 else s) 0 = x
  rw [key b (a ++ [o]) (acc.push x) (by simp [hsz, hal]) j (by simp [hsz])]
  have : (acc.push x).getD j 0 = x := by simp [Array.getD, ← hsz]
  rw [this]
  have fcongr : ∀ (es : List Edge), (∀ e ∈ es, Region.binds .any e = true → e.on < j) → ∀ s, es.foldl (fun s e => if Region.binds .any e then s ||| 2 ^ e.on ||| acc.getD e.on 0 else s) s =
      es.foldl (fun s e => if Region.binds .any e then s ||| 2 ^ e.on ||| (b.foldl (fun acc o => acc.push (o.after.foldl (fun s e => if Region.binds .any e then s ||| 2 ^ e.on ||| acc.getD e.on 0 else s) 0)) (acc.push x)).getD e.on 0 else s) s := by
    intro es
    induction es with
    | nil => intro _ s; rfl
    | cons e r ih =>
      intro h s
      simp only [List.foldl_cons]
      by_cases hb : Region.binds .any e = true
      · have hlt := h e (by simp) hb
        simp only [hb, if_true]
        rw [key b (a ++ [o]) (acc.push x) (by simp [hsz, hal]) e.on (by simp [hsz]; omega)]
        have : (acc.push x).getD e.on 0 = acc.getD e.on 0 := by
          simp [Array.getD, hsz, hlt, Nat.lt_succ_of_lt hlt, Array.getElem_push]
        rw [this]
        exact ih (fun e he => h e (by simp [he])) _
      · simp only [hb, if_false, Bool.false_eq_true]
        exact ih (fun e he => h e (by simp [he])) _
  refine Eq.trans ?_ (fcongr _ hlt 0)
  rw [← hx, ← Array.foldl_toList]

theorem fold_bit (g : Nat → Nat) (i : Nat) : ∀ (es : List Edge) (s : Nat), (es.foldl (fun s e => if Region.binds .any e then s ||| 2 ^ e.on ||| g e.on else s) s).testBit i = true →
    s.testBit i = true ∨ ∃ e ∈ es, Region.binds .any e = true ∧ (i = e.on ∨ (g e.on).testBit i = true)
  | [], s, h => .inl h
  | e :: r, s, h => by
    simp only [List.foldl_cons] at h
    rcases fold_bit g i r _ h with h | ⟨e', he', hb, h⟩
    · by_cases hb : Region.binds .any e = true
      · simp only [hb, if_true, Nat.testBit_or, Bool.or_eq_true, Nat.testBit_two_pow, decide_eq_true_eq] at h
        rcases h with (h | h) | h
        · exact .inl h
        · exact .inr ⟨e, by simp, hb, .inl h.symm⟩
        · exact .inr ⟨e, by simp, hb, .inr h⟩
      · simp only [hb, if_false, Bool.false_eq_true] at h; exact .inl h
    · exact .inr ⟨e', by simp [he'], hb, h⟩

/-- What an operation waits for, directly or not, has come up before it may. -/
theorem waits_listed {f : FuncId} {ops : Array Oper} (hok : drawOk E f ops = true) {listed : Array Bool} (hcl : Closed ops listed) (i : Nat) : ∀ (n j : Nat) (o : Oper), j ≤ n → ops[j]? = some o →
    (∀ e ∈ o.after.toList, Region.binds .any e = true → listed.getD e.on false = true) → ((Region.before ops).getD j 0).testBit i = true → listed.getD i false = true
  | 0, j, o, hjn, hj, hr, hb => by
    rw [before_get ops hj (drawOk_edges hok hj)] at hb
    rcases fold_bit (fun k => (Region.before ops).getD k 0) i _ _ hb with h | ⟨e, he, hbi, h⟩
    · simp at h
    · have := drawOk_edges hok hj e he hbi; omega
  | n + 1, j, o, hjn, hj, hr, hb => by
    rw [before_get ops hj (drawOk_edges hok hj)] at hb
    rcases fold_bit (fun k => (Region.before ops).getD k 0) i _ _ hb with h | ⟨e, he, hbi, h⟩
    · simp at h
    · rcases h with rfl | h
      · exact hr e he hbi
      · have hlt := drawOk_edges hok hj e he hbi
        have hjs : j < ops.size := (Array.getElem?_eq_some_iff.1 hj).1
        have hes : e.on < ops.size := by omega
        have hl := hr e he hbi
        have hls : listed.getD e.on true = true := by
          unfold Array.getD at hl ⊢
          split at hl
          · rename_i hq; rw [dif_pos hq]; exact hl
          · cases hl
        exact waits_listed hok hcl i n e.on ops[e.on] (by omega) (by simp [hes]) (hcl e.on ops[e.on] (by simp [hes]) hls) h

end Go.Ae

namespace Go.Ae

variable {E : Env} {w : World} {F : Nat → Prop} {μ : Nat → Nat → Option (Nat × Nat)} {H : Heap}

theorem stepD_sound (hE : EnvOk E) {call : Call} (hcall : CallOk E call) (hw : WR E w F μ H) {a : Act} {ts : List V} (ht : VRa w F μ ts a.tmps) {f : FuncId} {s : Nat} {o : Oper} {v : V} {H' : Heap}
    (h : stepD E call f s o ts H = some (v, H')) (hs : isAlloc o = true → ∀ n, μ s n = none) {next : Act → World → Prop} {Q : Exit → Act → World → Prop}
    (hn : ∀ cv w' F' μ', WR E w' F' μ' H' → KeepB w F μ H w' F' μ' H' → (∀ b, (isAlloc o = true → b ≠ s) → H[b]? = some none → H'[b]? = some none ∧ ∀ n, μ' b n = μ b n) → VR w' F' μ' v cv → next (a.put o.dst cv) w') : o.wp E.P a w next Q := by
  have gen : stepV E call f o ts H = some (v, H') → o.wp E.P a w next Q := fun hv =>
    step_sound hE hcall hw ht hv (fun cv w' F' μ' k1 k2 k3 => hn cv w' F' μ' k1 k2.toKeepB (fun b _ hb => k2.dead b hb) k3)
  cases hk : kdOf E f o with
  | a =>
    obtain ⟨e, i, he, hi, h1, hsn, rfl, rfl, _⟩ := a_kind hk h
    have hal := kd_alloc.1 hk
    have hμ := hs hal
    obtain ⟨zv, hz1, hz2⟩ := run_zero (w := w) (F := F) (μ := μ) hi
    have hrun : (execOp a.eval o).run E.P w = .ok (.value (.pointer (some ⟨w.heap.size, 0, none⟩))) { w with heap := w.heap.push (.cells zv.cells e) } := by
      simp [execOp, he, Instr.alloc, hz1, newVar, run_newRow]
    unfold Oper.wp
    rw [hrun, Oper.upon_value]
    have hx : Ext w { w with heap := w.heap.push (.cells zv.cells e) } := Ext.push w _
    have hw1 := hx.wr hw
    have hkk : Keep w F μ H { w with heap := w.heap.push (.cells zv.cells e) } F μ H := hx.keep
    have hlt := dead_lt hsn
    have hc := VRa_of_list (cvs := zv.cells) (vs := i.zero.cells) hz2.cells
    have hnew : ∀ (i' v' : Nat) (ro : Bool) (cs' : List V) (s' : Nat), H[i']? = some (some (v', ro, cs')) → μ i' v' ≠ some (w.heap.size, s') := fun i' v' ro cs' s' q1 q2 => by
      obtain ⟨c', s'', ar, e', fr', g1, g2, _⟩ := hw.live i' v' ro cs' q1
      rw [q2] at g1; injection g1 with g1; injection g1 with g1 _; subst g1
      exact Nat.lt_irrefl _ (Array.getElem?_eq_some_iff.1 g2).1
    have hH : ∀ (i' : Nat) (blk : Blk), (H.set s (newBlk 0 i.zero.cells))[i']? = some (some blk) → (i' = s ∧ blk = (0, false, i.zero.cells)) ∨ (i' ≠ s ∧ H[i']? = some (some blk)) := fun i' blk hi' => by
      by_cases hq : i' = s
      · subst hq; rw [List.getElem?_set_self hlt] at hi'; injection hi' with hi'; injection hi' with hi'; exact .inl ⟨rfl, hi'.symm⟩
      · exact .inr ⟨hq, by rwa [List.getElem?_set_ne (Ne.symm hq)] at hi'⟩
    refine hn _ _ F (upd μ s 0 (w.heap.size, 0)) ?_ ?_ ?_ ?_
    · refine hw1.put (b := s) (ver := 0) (cells := i.zero.cells) (cb := w.heap.size) (sh := 0) (arr := zv.cells) (e := e) (fr := (0, 0)) (by simp) (by simpa using hlt) hH (.inl (hμ 0)) (fun v _ => hμ v) (by simp)
        (fun q => Nat.lt_irrefl _ (hw.fz _ q)) nofr (by rw [hc.1]; omega) (fun j c hj => ?_) (fun i' v' ro cs' s' _ q => hnew i' v' ro cs' s' q)
      rw [Nat.zero_add]
      exact ⟨hkk.vr hw (hc.2 j c hj), one_of h1 hj⟩
    · refine ⟨hkk.os, hkk.tape, hkk.output, hkk.size, hkk.fz, upd_le (.inl (hμ 0)), hkk.blk, hkk.shape, by simp, fun c hlt' ho => ?_, fun _ _ h => .inl h⟩
      obtain ⟨i', v', cs', s', q1, q2⟩ := ho
      rcases hH i' _ q1 with ⟨rfl, q⟩ | ⟨q3, q4⟩
      · injection q with q _; subst q
        rw [upd_at] at q2; injection q2 with q2; injection q2 with q2 _; subst q2
        omega
      · rw [upd_ne (fun q => q3 q.1)] at q2
        exact ⟨i', v', cs', s', q4, q2⟩
    · intro b hb hbn
      have hne := hb hal
      exact ⟨by rw [List.getElem?_set_ne (Ne.symm hne)]; exact hbn, fun n => upd_ne (fun q => hne q.1)⟩
    · exact .mp s 0 0 _ 0 (upd_at _ _ _)
  | n =>
    unfold stepD at h
    rw [hk] at h
    simp only at h
    split at h
    · cases hv : nop E (rho E ts) o.op with
      | none => rw [hv] at h; cases h
      | some u =>
        rw [hv] at h; injection h with h; injection h with h h'; subst h; subst h'
        obtain ⟨w', F', k1, k2, cv, r1, r2⟩ := nop_sound hw ht hv
        unfold Oper.wp
        rw [r1, Oper.upon_value]
        exact hn cv w' F' μ k1 k2.toKeepB (fun b _ hb => k2.dead b hb) r2
    · exact gen h
  | l =>
    unfold stepD at h
    rw [hk] at h
    simp only at h
    split at h
    · exact gen h
    · cases h
  | e =>
    unfold stepD at h
    rw [hk] at h
    exact gen h

theorem mem_rem {ops : Array Oper} {listed : Array Bool} {i : Nat} : i ∈ rem ops listed ↔ i < ops.size ∧ listed.getD i true = false := by
  unfold rem
  simp

theorem rem_sorted (ops : Array Oper) (listed : Array Bool) : (rem ops listed).Pairwise (· < ·) := by
  unfold rem
  exact List.Pairwise.filter _ List.pairwise_lt_range

theorem rem_set {ops : Array Oper} {listed : Array Bool} (hl : listed.size = ops.size) {i : Nat} {pre post : List Nat} (h : rem ops listed = pre ++ i :: post) : rem ops (listed.setIfInBounds i true) = pre ++ post := by
  have hi : i < ops.size ∧ listed.getD i true = false := mem_rem.1 (by rw [h]; simp)
  have hs := rem_sorted ops listed
  have h1 : rem ops (listed.setIfInBounds i true) = (rem ops listed).filter (fun k => k != i) := by
    unfold rem
    rw [List.filter_filter]
    apply List.filter_congr
    intro k hk
    have hk : k < ops.size := by simpa using hk
    by_cases hq : k = i
    · subst hq; simp [Array.getD, hl, hk]
    · have : (listed.setIfInBounds i true).getD k true = listed.getD k true := by
        rw [Array.getD_eq_getD_getElem?, Array.getD_eq_getD_getElem?, Array.getElem?_setIfInBounds_ne (Ne.symm hq)]
      rw [this]; simp [hq]
  rw [h1, h, List.filter_append, List.filter_cons]
  rw [h] at hs
  rw [List.pairwise_append] at hs
  obtain ⟨_, hs2, hs3⟩ := hs
  rw [List.pairwise_cons] at hs2
  have e1 : pre.filter (fun k => k != i) = pre := List.filter_eq_self.2 (fun k hk => by have := hs3 k hk i (by simp); simp; omega)
  have e2 : post.filter (fun k => k != i) = post := List.filter_eq_self.2 (fun k hk => by have := hs2.1 k hk; simp; omega)
  rw [e1, e2]; simp

set_option maxHeartbeats 400000 in
theorem any_sound (hE : EnvOk E) {call : Call} (hcall : CallOk E call) (hst : CallStays E call) {f : FuncId} {ops : Array Oper} (hok : drawOk E f ops = true) {base : Nat} {ts' : List V} {H' : Heap} {Q : Exit → Act → World → Prop} :
    ∀ (fuel : Nat) (listed : Array Bool) {w : World} {F : Nat → Prop} {μ : Nat → Nat → Option (Nat × Nat)} {H : Heap} {a : Act} {ts : List V}, listed.size = ops.size → Closed ops listed → (rem ops listed).length ≤ fuel →
      runIdx E call f ops base (rem ops listed) ts H = some (ts', H') → WR E w F μ H → VRa w F μ ts a.tmps →
      (∀ i o, i ∈ rem ops listed → ops[i]? = some o → isAlloc o = true → H[slotOf ops base i]? = some none ∧ ∀ n, μ (slotOf ops base i) n = none) →
      (∀ a' w' F' μ', WR E w' F' μ' H' → KeepB w F μ H w' F' μ' H' → (∀ b, b < base → H[b]? = some none → H'[b]? = some none ∧ ∀ n, μ' b n = μ b n) → VRa w' F' μ' ts' a'.tmps → a'.defers = a.defers → Q .normal a' w') →
      wpAny E.P .any ops Q fuel listed a w := by
  intro fuel
  have done : ∀ (listed : Array Bool) {w : World} {F : Nat → Prop} {μ : Nat → Nat → Option (Nat × Nat)} {H : Heap} {a : Act} {ts : List V}, rem ops listed = [] →
      runIdx E call f ops base (rem ops listed) ts H = some (ts', H') → WR E w F μ H → VRa w F μ ts a.tmps →
      (∀ a' w' F' μ', WR E w' F' μ' H' → KeepB w F μ H w' F' μ' H' → (∀ b, b < base → H[b]? = some none → H'[b]? = some none ∧ ∀ n, μ' b n = μ b n) → VRa w' F' μ' ts' a'.tmps → a'.defers = a.defers → Q .normal a' w') → Q .normal a w := by
    intro listed w F μ H a ts hr hrun hw ht hq
    rw [hr] at hrun
    simp only [runIdx, Option.some.injEq, Prod.mk.injEq] at hrun
    obtain ⟨rfl, rfl⟩ := hrun
    exact hq a w F μ hw (.refl ..) (fun b _ hb => ⟨hb, fun _ => rfl⟩) ht rfl
  have noready : ∀ listed : Array Bool, listed.size = ops.size → Region.ready .any ops listed = [] → rem ops listed = [] := by
    intro listed hl hr
    cases hrem : rem ops listed with
    | nil => rfl
    | cons i post =>
      exfalso
      have hi := mem_rem.1 (show i ∈ rem ops listed by rw [hrem]; simp)
      have hs := rem_sorted ops listed
      rw [hrem, List.pairwise_cons] at hs
      have : i ∈ Region.ready .any ops listed := by
        unfold Region.ready
        simp only [List.mem_filter, List.mem_range, Bool.and_eq_true]
        refine ⟨hi.1, by simp [hi.2], ?_⟩
        have ho : ops[i]? = some ops[i] := by simp [hi.1]
        rw [ho]
        simp only [Option.map_some, Option.getD_some]
        rw [← Array.all_toList, List.all_eq_true]
        intro e he
        by_cases hb : Region.binds .any e = true
        · have hlt := drawOk_edges hok ho e he hb
          have hlist : listed.getD e.on true = true := by
            cases hq : listed.getD e.on true with
            | true => rfl
            | false =>
              have hm : e.on ∈ rem ops listed := mem_rem.2 ⟨by omega, hq⟩
              rw [hrem] at hm
              rcases List.mem_cons.1 hm with h | h
              · omega
              · have := hs.1 _ h; omega
          have : listed.getD e.on false = true := by
            have hes : e.on < listed.size := by omega
            simp only [Array.getD, hes, dite_true] at hlist ⊢
            exact hlist
          simp [this]
        · simp [hb]
      rw [hr] at this
      cases this
  induction fuel with
  | zero =>
    intro listed w F μ H a ts hl hcl hlen hrun hw ht hslot hq
    have hr : rem ops listed = [] := List.eq_nil_of_length_eq_zero (by omega)
    refine ⟨?_, done listed hr hrun hw ht hq⟩
    cases hrd : Region.ready .any ops listed with
    | nil => rfl
    | cons i r =>
      have hi : i ∈ Region.ready .any ops listed := by rw [hrd]; simp
      unfold Region.ready at hi
      simp only [List.mem_filter, List.mem_range, Bool.and_eq_true] at hi
      have : i ∈ rem ops listed := mem_rem.2 ⟨hi.1, by simpa using hi.2.1⟩
      rw [hr] at this; cases this
  | succ fuel ih =>
    intro listed w F μ H a ts hl hcl hlen hrun hw ht hslot hq
    refine ⟨fun hr => done listed (noready listed hl hr) hrun hw ht hq, fun i hi => ?_⟩
    unfold Region.ready at hi
    simp only [List.mem_filter, List.mem_range, Bool.and_eq_true] at hi
    obtain ⟨his, hiu, hie⟩ := hi
    have hei : ops[i]? = some ops[i] := by simp [his]
    have hed : ops.getD i default = ops[i] := by simp [Array.getD, his]
    rw [hei] at hie
    simp only [Option.map_some, Option.getD_some] at hie
    have hready : ∀ e ∈ (ops[i]).after.toList, Region.binds .any e = true → listed.getD e.on false = true := fun e he hb => by
      rw [← Array.all_toList, List.all_eq_true] at hie
      have := hie e he
      simpa [hb] using this
    have him : i ∈ rem ops listed := mem_rem.2 ⟨his, by simpa using hiu⟩
    obtain ⟨pre, post, hpp⟩ := List.append_of_mem him
    have hs := rem_sorted ops listed
    rw [hpp, List.pairwise_append] at hs
    have hpre : ∀ p ∈ pre, p < i := fun p hp => hs.2.2 p hp i (by simp)
    have hfront : ∀ p ∈ pre, p < i ∧ apartV ops (ops.getD p default) (ops.getD i default) = true ∧ pairOk (kdOf E f (ops.getD p default)) (kdOf E f (ops.getD i default)) = true := fun p hp => by
      have hpi := hpre p hp
      refine ⟨hpi, ?_⟩
      rcases drawOk_pair hok his hpi with ho | ho
      · exfalso
        unfold ordV at ho
        rw [if_pos hpi] at ho
        have hl1 := waits_listed hok hcl p i i ops[i] (Nat.le_refl _) hei hready ho
        have hpm := mem_rem.1 (show p ∈ rem ops listed by rw [hpp]; simp [hp])
        have hps : p < listed.size := by omega
        have h2 := hpm.2
        simp only [Array.getD, hps, dite_true] at hl1 h2
        rw [hl1] at h2; cases h2
      · exact ho
    rw [hpp] at hrun
    have hrun2 := move_front hst his pre post ts H _ hfront hrun
    have hset := rem_set hl hpp
    have hcl' : Closed ops (listed.setIfInBounds i true) := fun j o hj hlj e he hb => by
      have hle : ∀ k, listed.getD k false = true → (listed.setIfInBounds i true).getD k false = true := fun k hk => by
        by_cases hq : k = i
        · subst hq; simp [Array.getD, hl, his]
        · rw [Array.getD_eq_getD_getElem?, Array.getElem?_setIfInBounds_ne (Ne.symm hq), ← Array.getD_eq_getD_getElem?]; exact hk
      by_cases hq : j = i
      · subst hq
        rw [hei] at hj; injection hj with hj; subst hj
        exact hle _ (hready e he hb)
      · rw [Array.getD_eq_getD_getElem?, Array.getElem?_setIfInBounds_ne (Ne.symm hq), ← Array.getD_eq_getD_getElem?] at hlj
        exact hle _ (hcl j o hj hlj e he hb)
    have hlen' : (rem ops (listed.setIfInBounds i true)).length ≤ fuel := by
      rw [hset]; rw [hpp] at hlen; simp at hlen ⊢; omega
    have hsub : ∀ k, k ∈ rem ops (listed.setIfInBounds i true) → k ∈ rem ops listed ∧ k ≠ i := fun k hk => by
      rw [hset] at hk
      refine ⟨by rw [hpp]; simp at hk ⊢; rcases hk with h | h <;> simp [h], fun q => ?_⟩
      subst q
      rcases List.mem_append.1 hk with h | h
      · have := hpre k h; omega
      · have := (List.pairwise_cons.1 hs.2.1).1 k h; omega
    simp only [runIdx, oneIdx, hei] at hrun2
    unfold wpOp
    rw [hei]
    simp only
    rw [wanted_eq ht]
    unfold act at hrun2
    by_cases hwant : wantedV ops ts ops[i] = true
    · rw [if_pos hwant] at hrun2 ⊢
      left
      cases hd : stepD E call f (slotOf ops base i) ops[i] ts H with
      | none => rw [hd] at hrun2; cases hrun2
      | some q =>
        obtain ⟨v, H1⟩ := q
        rw [hd] at hrun2
        simp only at hrun2
        refine stepD_sound hE hcall hw ht hd (fun hal => (hslot i _ him hei hal).2) (fun cv w1 F1 μ1 k1 k2 k3 k4 => ?_)
        have hslotne : ∀ k ok, k ≠ i → ops[k]? = some ok → isAlloc ok = true → isAlloc ops[i] = true → slotOf ops base k ≠ slotOf ops base i := fun k ok hki hk hak hai => by
          rcases Nat.lt_or_gt_of_ne hki with h | h
          · exact Nat.ne_of_lt (slot_mono hk hak h)
          · exact Ne.symm (Nat.ne_of_lt (slot_mono hei hai h))
        refine ih _ (by simpa using hl) hcl' hlen' (by rw [hset]; exact hrun2) k1 ((ht.mono fun _ _ h => k2.vr hw h).put _ k4) (fun k ok hk hok' hal => ?_) (fun a' w' F' μ' q1 q2 q3 q4 q5 => ?_)
        · obtain ⟨hkr, hki⟩ := hsub k hk
          obtain ⟨s1, s2⟩ := hslot k ok hkr hok' hal
          obtain ⟨d1, d2⟩ := k3 (slotOf ops base k) (fun hai => hslotne k ok hki hok' hal hai) s1
          exact ⟨d1, fun n => (d2 n).trans (s2 n)⟩
        · refine hq a' w' F' μ' q1 (k2.trans q2) (fun b hb hbn => ?_) q4 (by rw [q5, put_defers])
          obtain ⟨d1, d2⟩ := k3 b (fun _ => by unfold slotOf; omega) hbn
          obtain ⟨d3, d4⟩ := q3 b hb d1
          exact ⟨d3, fun n => (d4 n).trans (d2 n)⟩
    · rw [if_neg hwant] at hrun2 ⊢
      simp only at hrun2
      refine ih _ (by simpa using hl) hcl' hlen' (by rw [hset]; exact hrun2) hw (ht.put _ .undef) (fun k ok hk hok' hal => hslot k ok (hsub k hk).1 hok' hal) (fun a' w' F' μ' q1 q2 q3 q4 q5 => hq a' w' F' μ' q1 q2 q3 q4 (by rw [q5, put_defers]))

end Go.Ae

namespace Go.Ae

variable {E : Env} {w : World} {F : Nat → Prop} {μ : Nat → Nat → Option (Nat × Nat)} {H : Heap}

theorem region_sound (hE : EnvOk E) {call : Call} (hcall : CallOk E call) (hst : CallStays E call) {f : FuncId} {id : Nat} {ops : Array Oper} {draw : Bool} {ts ts' : List V} {H' : Heap} {x : X}
    (h : regionV E call f id ops draw ts H = some (x, ts', H')) (hw : WR E w F μ H) {a : Act} (ht : VRa w F μ ts a.tmps) {Q : Exit → Act → World → Prop}
    (hq : ∀ a' w' F' μ', WR E w' F' μ' H' → Keep w F μ H w' F' μ' H' → VRa w' F' μ' ts' a'.tmps → a'.defers = a.defers → Q .normal a' w') : x = .nrm ∧ (Code.region id ops draw).wp E.P Q a w := by
  unfold regionV at h
  split at h
  · rename_i ts1 H1 hf
    obtain ⟨F1, w1, k1, t1⟩ := frzTmps_sound _ hf hw ht
    split at h
    · rename_i hd
      subst hd
      split at h
      · rename_i hok
        split at h
        · rename_i ts2 H2 hrun
          injection h with h; injection h with h h'; injection h' with h' h''; subst h; subst h'; subst h''
          refine ⟨rfl, ?_⟩
          -- one draw; a place for each variable that the region makes
          let wd : World := { w with drawn := w.drawn + 1 }
          have hx : Ext w wd := Ext.drew w _
          have w1' := hx.wr w1
          have kx : Keep w F1 μ H1 wd F1 μ H1 := hx.keep
          let n := allocs ops.toList
          have hnone : ∀ (i : Nat) (blk : Blk), (H1 ++ List.replicate n none)[i]? = some (some blk) → H1[i]? = some (some blk) := fun i blk hi => by
            rw [List.getElem?_append] at hi
            split at hi
            · exact hi
            · rw [List.getElem?_replicate] at hi
              split at hi <;> cases hi
          have w2 : WR E wd F1 μ (H1 ++ List.replicate n none) := w1'.less (by simp) hnone
          have kb : KeepB wd F1 μ H1 wd F1 μ (H1 ++ List.replicate n none) := by
            refine ⟨rfl, rfl, rfl, Nat.le_refl _, fun _ h => h, fun _ _ _ h => h, fun _ _ _ => rfl, fun _ _ _ h => h, by simp, fun cb _ ho => ?_, fun _ _ h => .inl h⟩
            obtain ⟨b, v, cs, sh, q1, q2⟩ := ho
            exact ⟨b, v, cs, sh, hnone _ _ q1, q2⟩
          have hsl0 : slotOf ops H1.length 0 = H1.length := by simp [slotOf, allocs]
          have hrun' := drawV_run (E := E) (call := call) (f := f) (ops := ops) (base := H1.length) ops.toList 0 ts1 (H1 ++ List.replicate n none) (fun j => by simp)
          rw [hsl0, hrun] at hrun'
          refine wp_region_any hE.mixed ?_
          have hrem : rem ops (Array.replicate ops.size false) = List.range ops.size := by
            unfold rem
            apply List.filter_eq_self.2
            intro i hi
            have : i < ops.size := by simpa using hi
            simp [Array.getD, this]
          refine any_sound hE hcall hst hok (base := H1.length) (ts' := ts2) (H' := H2) ops.size (Array.replicate ops.size false) (w := wd) (F := F1) (μ := μ) (H := H1 ++ List.replicate n none) (ts := ts1) (by simp) ?_ ?_ ?_ w2 (t1.mono fun _ _ h => kx.vr w1 h) ?_ ?_
          · intro j o hj hlj
            have : j < ops.size := (Array.getElem?_eq_some_iff.1 hj).1
            simp [Array.getD, this] at hlj
          · rw [hrem]; simp
          · rw [hrem, List.range_eq_range']
            simpa using hrun'.symm
          · intro i o hi hio hal
            have hlt : slotOf ops H1.length i < H1.length + n := by
              have his : i < ops.size := (Array.getElem?_eq_some_iff.1 hio).1
              have h1 := slot_succ (base := H1.length) hio
              rw [if_pos hal] at h1
              have h2 : slotOf ops H1.length (i + 1) ≤ H1.length + n := by
                unfold slotOf
                have : allocs (ops.toList.take (i + 1)) ≤ n := ((List.take_sublist _ _).filter isAlloc).length_le
                omega
              omega
            have hge : H1.length ≤ slotOf ops H1.length i := by unfold slotOf; omega
            refine ⟨?_, fun m => ?_⟩
            · rw [List.getElem?_append_right hge, List.getElem?_replicate, if_pos (by omega)]
            · cases hq : μ (slotOf ops H1.length i) m with
              | none => rfl
              | some r => have := w1.dom _ _ _ hq; omega
          · intro a' w' F' μ' q1 q2 q3 q4 q5
            refine hq a' w' F' μ' q1 (k1.trans ⟨(kx.toKeepB.trans kb).trans q2, fun b hb => ?_⟩) q4 q5
            have hbl := dead_lt hb
            exact q3 b hbl (by rw [List.getElem?_append_left hbl]; exact hb)
        · cases h
      · cases h
    · rename_i hd
      have hd : draw = false := by simpa using hd
      subst hd
      split at h
      · rename_i ts2 H2 hrun
        injection h with h; injection h with h h'; injection h' with h' h''; subst h; subst h'; subst h''
        refine ⟨rfl, wp_region_list ?_⟩
        exact ops_sound hE hcall _ hrun w1 t1 (fun a' w' F' μ' q1 q2 q3 q4 => hq a' w' F' μ' q1 (k1.trans q2) q3 q4)
      · cases h
  · cases h

theorem getD_tmp {ts : List V} {a : Array Value} (ht : VRa w F μ ts a) (t : Nat) : VR w F μ (ts.getD t undefV) (a.getD t undef) := by
  rw [List.getD_eq_getElem?_getD]
  cases hx : ts[t]? with
  | some v => exact ht.2 t v hx
  | none =>
    have : a.size ≤ t := by rw [ht.1]; exact List.getElem?_eq_none_iff.1 hx
    have e : a.getD t undef = undef := by simp [Array.getD, Nat.not_lt.2 this]
    rw [e]; exact .undef

theorem results_sound (hw : WR E w F μ H) {fn : Func} {ts : List V} {tmps : Array Value} (ht : VRa w F μ ts tmps) {v : V} (h : resultsV E fn ts H = some v) :
    ∃ cv, (results fn tmps).run E.P w = .ok cv w ∧ VR w F μ v cv := by
  let g : ResultVar → Sem Value := fun
    | .tmp t => Pure.pure (tmps.getD t undef)
    | .cell a t => do loadVar t (← asAddr (tmps.getD a undef))
  have one : ∀ (r : ResultVar) (u : V), resultV E ts H r = some u → ∃ cv, (g r).run E.P w = .ok cv w ∧ VR w F μ u cv := fun r u hr => by
    cases r with
    | tmp t =>
      simp only [resultV, Option.some.injEq] at hr; subst hr
      exact ⟨_, rfl, getD_tmp ht t⟩
    | cell a t =>
      simp only [resultV] at hr
      split at hr
      · rename_i i cs hi hb
        obtain ⟨b, off, q1, q2⟩ := behind_sound hw hb (getD_tmp ht a)
        obtain ⟨cv, r1, r2⟩ := loadCs_sound hi q2 hr
        refine ⟨cv, ?_, r2⟩
        show (do loadVar t (← asAddr (tmps.getD a undef)) : Sem Value).run E.P w = _
        rw [q1]
        simpa [asAddr] using r1
      · cases hr
  have all : ∀ (l : List ResultVar) (us : List V), mapO (resultV E ts H) l = some us → ∃ cvs, (l.mapM g).run E.P w = .ok cvs w ∧ VRs w F μ us cvs := by
    intro l
    induction l with
    | nil => intro us hu; simp only [mapO, Option.some.injEq] at hu; subst hu; exact ⟨[], rfl, .nil⟩
    | cons r l ih =>
      intro us hu
      simp only [mapO] at hu
      split at hu
      · rename_i b hb
        split at hu
        · rename_i bs hbs
          injection hu with hu; subst hu
          obtain ⟨cv, r1, r2⟩ := one r b hb
          obtain ⟨cvs, r3, r4⟩ := ih bs hbs
          exact ⟨cv :: cvs, by simp only [List.mapM_cons, Sem.run_bind, r1, Result.andThen_ok, r3, Sem.run_pure], .cons r2 r4⟩
        · cases hu
      · cases hu
  have hdef : results fn tmps = (do let vs ← fn.results.mapM g; Pure.pure (if h : vs.size = 1 then vs[0] else .tuple vs)) := rfl
  have hm : ∀ us, mapO (resultV E ts H) fn.results.toList = some us → ∃ cvs, (fn.results.mapM g).run E.P w = .ok cvs.toArray w ∧ VRs w F μ us cvs := fun us hu => by
    obtain ⟨cvs, r1, r2⟩ := all _ us hu
    exact ⟨cvs, by rw [Array.mapM_eq_mapM_toList, Sem.run_map, r1]; rfl, r2⟩
  unfold resultsV at h
  split at h
  · rename_i r hr
    have hu : mapO (resultV E ts H) fn.results.toList = some [v] := by rw [hr]; simp only [mapO, h]
    obtain ⟨cvs, r1, r2⟩ := hm _ hu
    obtain ⟨cv, r, rfl, q1, q2⟩ := r2.head
    have := q2.none; subst this
    refine ⟨cv, ?_, q1⟩
    rw [hdef]
    simp only [Sem.run_bind, r1, Result.andThen_ok, Sem.run_pure]
    rfl
  · rename_i hne
    cases hu : mapO (resultV E ts H) fn.results.toList with
    | none => rw [hu] at h; cases h
    | some us =>
      rw [hu] at h; injection h with h; subst h
      obtain ⟨cvs, r1, r2⟩ := hm _ hu
      refine ⟨.tuple cvs.toArray, ?_, VR.tup_iff.2 ⟨_, rfl, r2.arr⟩⟩
      rw [hdef]
      simp only [Sem.run_bind, r1, Result.andThen_ok, Sem.run_pure]
      have hl : cvs.length ≠ 1 := by
        intro hq
        have h1 : us.length = 1 := by rw [← r2.1]; exact hq
        have h2 : ∀ {l : List ResultVar} {us : List V}, mapO (resultV E ts H) l = some us → us.length = l.length := by
          intro l
          induction l with
          | nil => intro us h; simp only [mapO, Option.some.injEq] at h; subst h; rfl
          | cons a r ih =>
            intro us h
            simp only [mapO] at h
            split at h
            · split at h
              · rename_i bs hbs
                injection h with h; subst h
                simp [ih hbs]
              · cases h
            · cases h
        have h3 := h2 hu
        rw [h1] at h3
        cases hl : fn.results.toList with
        | nil => rw [hl] at h3; cases h3
        | cons r l =>
          rw [hl] at h3
          cases l with
          | nil => exact hne r hl
          | cons _ _ => simp at h3
      rw [dif_neg (by simpa using hl)]

/-- How a way out of the evaluator reads in the machine. -/
def X.conv : X → Exit
  | .nrm => .normal
  | .exit id => .exit id
  | .ret => .ret

abbrev Ex := FuncId → Code → List V → Heap → R

def ExecOk (E : Env) (ex : Ex) : Prop :=
  ∀ (f : FuncId) (c : Code) (ts : List V) (H : Heap) (x : X) (ts' : List V) (H' : Heap), ex f c ts H = some (x, ts', H') →
    ∀ (w : World) (F : Nat → Prop) (μ : Nat → Nat → Option (Nat × Nat)) (a : Act) (Q : Exit → Act → World → Prop), WR E w F μ H → VRa w F μ ts a.tmps →
      (∀ a' w' F' μ', WR E w' F' μ' H' → Keep w F μ H w' F' μ' H' → VRa w' F' μ' ts' a'.tmps → a'.defers = a.defers → Q x.conv a' w') → c.wp E.P Q a w

theorem VRs.rep (n : Nat) : VRs w F μ (List.replicate n undefV) (List.replicate n undef) :=
  ⟨by simp, fun i x hx => by
    rw [List.getElem?_replicate] at hx
    split at hx
    · rename_i hi
      injection hx with hx; subst hx
      exact ⟨undef, by simp [hi], .undef⟩
    · cases hx⟩

theorem runFn_sound {ex : Ex} (hex : ExecOk E ex) {f : FuncId} {args : List V} {v : V} {H' : Heap} (h : runFn E ex f args H = some (v, H')) :
    (∃ fn, E.P.funcs[f]? = some fn ∧ fn.body.isSome = true) ∧ ∀ (w : World) (F : Nat → Prop) (μ : Nat → Nat → Option (Nat × Nat)) (cargs : List Value), WR E w F μ H → VRs w F μ args cargs → Calls E.P f cargs.toArray w (Gives E w F μ H v H') := by
  unfold runFn at h
  split at h
  · rename_i fn hf
    split at h
    · rename_i c hb
      refine ⟨⟨fn, hf, by rw [hb]; rfl⟩, fun w F μ cargs hw hargs => ?_⟩
      refine calls_of_wp hf hb ?_
      have hti : VRa w F μ (args ++ List.replicate (fn.ntmps - args.length) undefV) (cargs.toArray ++ Array.replicate (fn.ntmps - cargs.toArray.size) undef) := by
        apply VRa_of_list
        have e : (cargs.toArray ++ Array.replicate (fn.ntmps - cargs.toArray.size) undef).toList = cargs ++ List.replicate (fn.ntmps - args.length) undef := by
          simp [hargs.1]
        rw [e]
        exact hargs.append (.rep _)
      have body : ∀ (x : X) (ts' : List V) (H1 : Heap), ex f c (args ++ List.replicate (fn.ntmps - args.length) undefV) H = some (x, ts', H1) → (x = .nrm ∨ x = .ret) → resultsV E fn ts' H1 = some v → H1 = H' →
          c.wp E.P (bodyPost E.P fn (Gives E w F μ H v H')) { tmps := cargs.toArray ++ Array.replicate (fn.ntmps - cargs.toArray.size) undef, defers := [] } w := by
        intro x ts' H1 hx hxx hr hH
        subst hH
        refine hex f c _ H x ts' H1 hx w F μ _ _ hw hti (fun a' w' F' μ' q1 q2 q3 q4 => ?_)
        obtain ⟨cv, r1, r2⟩ := results_sound q1 q3 hr
        rcases hxx with rfl | rfl
        · exact ⟨q4, cv, r1, cv, F', μ', rfl, q1, q2, r2⟩
        · exact ⟨q4, cv, r1, cv, F', μ', rfl, q1, q2, r2⟩
      split at h
      · rename_i ts' H1 hx
        split at h
        · rename_i u hr
          injection h with h; injection h with h h'; subst h; subst h'
          exact body _ _ _ hx (.inl rfl) hr rfl
        · cases h
      · rename_i ts' H1 hx
        split at h
        · rename_i u hr
          injection h with h; injection h with h h'; subst h; subst h'
          exact body _ _ _ hx (.inr rfl) hr rfl
        · cases h
      · cases h
    · cases h
  · cases h

end Go.Ae

namespace Go.Ae

variable {E : Env} {w : World} {F : Nat → Prop} {μ : Nat → Nat → Option (Nat × Nat)} {H : Heap}

theorem VR.scalarAny {w' : World} {F' : Nat → Prop} {ν μ' : Nat → Nat → Option (Nat × Nat)} {v : V} {cv : Value} (h : VR w' F' ν v cv) (hs : v.scalar = true) : VR w F μ' v cv := by
  have flat : ∀ {v : V} {cv : Value}, VR w' F' ν v cv → v.flat = true → VR w F μ' v cv := fun h hf => by
    cases h <;> simp [V.flat] at hf
    · exact .int _ _
    · exact .bool _
    · exact .str _
  cases h with
  | tup cs cv hz h =>
    simp only [V.scalar] at hs
    exact .tup cs cv hz (fun i x hx => flat (h i x hx) (List.all_eq_true.1 hs x (List.mem_of_getElem? hx)))
  | int k n => exact .int k n
  | bool b => exact .bool b
  | str s => exact .str s
  | _ => simp [V.scalar, V.flat] at hs

/-- No block of the heap may be written: nothing has turned. -/
theorem KeepB.ext {w' : World} {F' : Nat → Prop} {μ' : Nat → Nat → Option (Nat × Nat)} {H' : Heap} (hk : KeepB w F μ H w' F' μ' H') (hn : ∀ cb, ¬ Own H μ cb) : Ext w w' :=
  ⟨hk.os, hk.tape, hk.output, hk.size, fun k hk' => hk.blk k hk' (hn k)⟩

theorem own_nil (cb : Nat) : ¬ Own [] μ cb := by
  rintro ⟨b, v, cs, sh, h, _⟩; simp at h

theorem own_ro (H : Heap) (cb : Nat) : ¬ Own (roH H) μ cb := by
  rintro ⟨b, v, cs, sh, h, _⟩
  unfold roH at h
  rw [List.getElem?_map] at h
  cases hq : H[b]? with
  | none => rw [hq] at h; cases h
  | some o =>
    rw [hq] at h
    cases o with
    | none => simp at h
    | some blk => obtain ⟨v', ro, cs'⟩ := blk; simp at h

/-- Over values alone. -/
theorem WR.empty (hw : WR E w F μ H) {G : Nat → Prop} (hG : ∀ b, F b → G b) (hlt : ∀ b, G b → b < w.heap.size) : WR E w G noMap [] :=
  { dom := fun _ _ _ h => by simp [noMap] at h
    fz := hlt
    live := fun b v ro cs h => by simp at h
    inj := fun b v ro cs b' v' ro' cs' cb sh sh' h => by simp at h
    glob := fun g cells hg => (hw.glob g cells hg).mono (fun b hb => ⟨hG b hb, rfl⟩) (fun _ _ _ h => h) (fun _ _ _ h => h)
    top := fun b v ro cs h => by simp at h }

theorem WR.ro (hw : WR E w F μ H) : WR E w F μ (roH H) := by
  have hH : ∀ (b ver : Nat) (ro : Bool) (cs : List V), (roH H)[b]? = some (some (ver, ro, cs)) → ∃ ro', H[b]? = some (some (ver, ro', cs)) := fun b ver ro cs h => by
    unfold roH at h
    rw [List.getElem?_map] at h
    cases hq : H[b]? with
    | none => rw [hq] at h; cases h
    | some o =>
      rw [hq] at h
      cases o with
      | none => simp at h
      | some blk =>
        obtain ⟨v', ro', cs'⟩ := blk
        simp at h
        obtain ⟨rfl, rfl, rfl⟩ := h
        exact ⟨ro', rfl⟩
  refine ⟨fun b n r h => by unfold roH; simpa using hw.dom b n r h, hw.fz, fun b ver ro cs hb => ?_, fun b v r c b' v' r' c' x s s' h1 h2 h3 h4 => ?_, hw.glob, fun b ver ro cs hb => ?_⟩
  · obtain ⟨ro', h⟩ := hH _ _ _ _ hb
    exact hw.live b ver ro' cs h
  · obtain ⟨ro1, h1⟩ := hH _ _ _ _ h1
    obtain ⟨ro2, h2⟩ := hH _ _ _ _ h2
    exact hw.inj b v ro1 c b' v' ro2 c' x s s' h1 h2 h3 h4
  · obtain ⟨ro', h⟩ := hH _ _ _ _ hb
    exact hw.top b ver ro' cs h

/-- What a call over values alone gives its caller. -/
theorem back (hw : WR E w F μ H) {w1 : World} {F2 : Nat → Prop} {μ2 : Nat → Nat → Option (Nat × Nat)} {H2 : Heap} {v : V} {cv : Value} (k1 : WR E w1 F2 μ2 H2) (k2 : KeepB w F noMap [] w1 F2 μ2 H2) (hv : VR w1 F2 μ2 v cv) (hp : v.pure = true) :
    WR E w1 F2 μ H ∧ Keep w F μ H w1 F2 μ H ∧ VR w1 F2 μ v cv := by
  have hx : Ext w w1 := k2.ext own_nil
  have hw1 := hx.wr hw
  have hk : Keep w F μ H w1 F μ H := hx.keep
  refine ⟨hw1.freeze k2.fz k1.fz (fun b ver ro cs cb sh hb hm hq => ?_), ⟨⟨hk.os, hk.tape, hk.output, hk.size, k2.fz, hk.map, hk.blk, hk.shape, hk.len, hk.own, fun cb hlt h => ?_⟩, hk.dead⟩, hv.anyMap hp μ⟩
  · obtain ⟨cb', sh', arr, e, fr, g1, g2, _⟩ := hw.live b ver ro cs hb
    rw [hm] at g1; injection g1 with g1; injection g1 with g1 _; subst g1
    rcases k2.frz cb (Array.getElem?_eq_some_iff.1 g2).1 hq with h | h
    · exact h
    · exact absurd h (own_nil cb)
  · rcases k2.frz cb hlt h with h | h
    · exact .inl h
    · exact absurd h (own_nil cb)

theorem pureCall_sound (hE : EnvOk E) {ex : Ex} (hex : ExecOk E ex) {f : FuncId} {args : List V} {v v' : V} {H1 H2 : Heap} (hp : V.pureL args = true) (h : runFn E ex f args [] = some (v, H1)) (hf : frzV 12 H1 v = some (v', H2)) (hp' : v'.pure = true) :
    (∃ fn, E.P.funcs[f]? = some fn ∧ fn.body.isSome = true) ∧ ∀ (w : World) (F : Nat → Prop) (μ : Nat → Nat → Option (Nat × Nat)) (H : Heap) (cargs : List Value), WR E w F μ H → VRs w F μ args cargs → Calls E.P f cargs.toArray w (Gives E w F μ H v' H) := by
  obtain ⟨a1, a2⟩ := runFn_sound hex h
  refine ⟨a1, fun w F μ H cargs hw hargs => ?_⟩
  have := hE.mixed
  refine (a2 w F noMap cargs (hw.empty (fun _ h => h) hw.fz) (hargs.anyMap hp noMap)).mono ?_
  rintro e w1 ⟨cv, F1, μ1, rfl, k1, k2, k3⟩
  obtain ⟨F2, b1, b2, b3⟩ := frz_sound 12 H1 F1 v v' H2 cv hf k1 k3
  obtain ⟨c1, c2, c3⟩ := back hw b1 (k2.trans b2).toKeepB b3 hp'
  exact ⟨cv, F2, μ, rfl, c1, c2, c3⟩

theorem frzList_pure (d : Nat) : ∀ (vs : List V) (H : Heap), V.pureL vs = true → frzList (frzV (d + 1)) H vs = some (vs, H)
  | [], H, _ => rfl
  | v :: r, H, hp => by
    simp only [V.pureL, Bool.and_eq_true] at hp
    have h1 : frzV (d + 1) H v = some (v, H) := by simp only [frzV]; rw [if_pos hp.1]
    simp only [frzList, h1, frzList_pure d r H hp.2]

theorem callFn_ok (hE : EnvOk E) {ex : Ex} (hex : ExecOk E ex) : CallOk E (callFn E ex) := by
  intro f args H v H' h
  unfold callFn at h
  split at h
  · -- a function that is not entered
    rename_i g hg
    split at h
    · rename_i hp
      cases hga : g args with
      | none => rw [hga] at h; cases h
      | some u =>
        rw [hga] at h; injection h with h; injection h with h h'; subst h; subst h'
        obtain ⟨e1, e2, e3⟩ := hE.ext f g hg args u hp hga
        refine ⟨e2, fun w F μ cargs hw hargs => ?_⟩
        refine (e3 w F cargs (hw.empty (fun _ h => h) hw.fz) (hargs.anyMap hp noMap)).mono ?_
        rintro e w1 ⟨cv, F1, μ1, rfl, k1, k2, k3⟩
        obtain ⟨c1, c2, c3⟩ := back hw k1 k2.toKeepB k3 e1
        exact ⟨cv, F1, μ, rfl, c1, c2, c3⟩
    · cases h
  · split at h
    · exact runFn_sound hex h
    · -- the heap only read
      split at h
      · rename_i u H1 hr
        split at h
        · rename_i hs
          injection h with h; injection h with h h'; subst h; subst h'
          obtain ⟨a1, a2⟩ := runFn_sound hex hr
          refine ⟨a1, fun w F μ cargs hw hargs => ?_⟩
          refine (a2 w F μ cargs hw.ro hargs).mono ?_
          rintro e w1 ⟨cv, F1, μ1, rfl, k1, k2, k3⟩
          have hx := k2.toKeepB.ext (own_ro H)
          exact ⟨cv, F, μ, rfl, hx.wr hw, hx.keep, k3.scalarAny hs⟩
        · cases h
      · cases h
    · -- the arguments made immutable
      split at h
      · rename_i args' H1 hf
        split at h
        · rename_i hp
          split at h
          · rename_i u H2 hr
            split at h
            · rename_i u' H3 hfu
              split at h
              · rename_i hpu
                injection h with h; injection h with h h'; subst h; subst h'
                obtain ⟨a1, a2⟩ := pureCall_sound hE hex hp hr hfu hpu
                refine ⟨a1, fun w F μ cargs hw hargs => ?_⟩
                obtain ⟨F1, b1, b2, b3⟩ := frzList_sound (frz_sound 12) _ _ _ _ _ _ hf hw hargs
                refine (a2 w F1 μ H1 cargs b1 b3).mono ?_
                rintro e w1 ⟨cv, F2, μ2, rfl, k1, k2, k3⟩
                exact ⟨cv, F2, μ2, rfl, k1, b2.trans k2, k3⟩
              · cases h
            · cases h
          · cases h
        · cases h
      · cases h
    · split at h
      · rename_i hp
        split at h
        · rename_i u H2 hr
          split at h
          · rename_i u' H3 hfu
            split at h
            · rename_i hpu
              injection h with h; injection h with h h'; subst h; subst h'
              obtain ⟨a1, a2⟩ := pureCall_sound hE hex hp hr hfu hpu
              exact ⟨a1, fun w F μ cargs hw hargs => a2 w F μ H cargs hw hargs⟩
            · cases h
          · cases h
        · cases h
      · split at h
        · rename_i args' hs
          split at h
          · rename_i u H2 hr
            split at h
            · rename_i hsc
              injection h with h; injection h with h h'; subst h; subst h'
              obtain ⟨a1, a2⟩ := runFn_sound hex hr
              refine ⟨a1, fun w F μ cargs hw hargs => ?_⟩
              have hlt : ∀ b, Lent F μ H b → b < w.heap.size := fun b hb => by
                rcases hb with hb | ⟨b', ver, ro, cs, sh, q1, q2⟩
                · exact hw.fz b hb
                · obtain ⟨cb, sh', arr, e, fr, g1, g2, _⟩ := hw.live b' ver ro cs q1
                  rw [q2] at g1; injection g1 with g1; injection g1 with g1 _; subst g1
                  exact (Array.getElem?_eq_some_iff.1 g2).1
              have hargs' := mapO_vals (fun v v' cv h hv => snap_sound hw noMap 12 v v' cv h hv) hs hargs
              refine (a2 w (Lent F μ H) noMap cargs (hw.empty (fun _ h => .inl h) hlt) hargs').mono ?_
              rintro e w1 ⟨cv, F1, μ1, rfl, k1, k2, k3⟩
              have hx := k2.toKeepB.ext own_nil
              exact ⟨cv, F, μ, rfl, hx.wr hw, hx.keep, k3.scalarAny hsc⟩
            · cases h
          · cases h
        · cases h

theorem snap_more {H H' : Heap} (hm : More H H') : ∀ (d : Nat) (v v' : V), snapV d H v = some v' → snapV d H' v = some v'
  | 0, v, v', h => by simp [snapV] at h
  | d + 1, v, v', h => by
    have ih := snap_more hm d
    have l1 : ∀ {vs vs' : List V}, mapO (snapV d H) vs = some vs' → mapO (snapV d H') vs = some vs' := by
      intro vs
      induction vs with
      | nil => intro vs' h; exact h
      | cons x r ihr =>
        intro vs' h
        simp only [mapO] at h ⊢
        split at h
        · rename_i b hb
          split at h
          · rename_i bs hbs
            simp only [ih _ _ hb, ihr hbs]; exact h
          · cases h
        · cases h
    have l2 : ∀ {vs vs' : List (List V)}, mapO (mapO (snapV d H)) vs = some vs' → mapO (mapO (snapV d H')) vs = some vs' := by
      intro vs
      induction vs with
      | nil => intro vs' h; exact h
      | cons x r ihr =>
        intro vs' h
        simp only [mapO] at h ⊢
        split at h
        · rename_i b hb
          split at h
          · rename_i bs hbs
            simp only [l1 hb, ihr hbs]; exact h
          · cases h
        · cases h
    simp only [snapV] at h ⊢
    split at h
    · rename_i hp; rw [if_pos hp]; exact h
    · rename_i hp
      rw [if_neg hp]
      split at h
      · split at h
        · rename_i cs hg
          simp only [hm _ _ _ hg]
          split at h
          · rename_i hc
            rw [if_pos hc]
            cases hq : mapO (mapO (snapV d H)) (chunk _ _ (cs.drop _)) with
            | none => rw [hq] at h; cases h
            | some els => rw [l2 hq]; rw [hq] at h; exact h
          · cases h
        · cases h
      · split at h
        · rename_i cs hg
          simp only [hm _ _ _ hg]
          cases hq : mapO (snapV d H) (cs.drop _) with
          | none => rw [hq] at h; cases h
          | some els => rw [l1 hq]; rw [hq] at h; exact h
        · cases h
      · rename_i full els
        cases hq : mapO (mapO (snapV d H)) els with
        | none => rw [hq] at h; cases h
        | some els => rw [l2 hq]; rw [hq] at h; exact h
      · rename_i cs
        cases hq : mapO (snapV d H) cs with
        | none => rw [hq] at h; cases h
        | some els => rw [l1 hq]; rw [hq] at h; exact h
      · rename_i cs
        cases hq : mapO (snapV d H) cs with
        | none => rw [hq] at h; cases h
        | some els => rw [l1 hq]; rw [hq] at h; exact h
      · rename_i cs
        cases hq : mapO (snapV d H) cs with
        | none => rw [hq] at h; cases h
        | some els => rw [l1 hq]; rw [hq] at h; exact h
      · rename_i f a c
        split at h
        · rename_i a' c' h1 h2
          simp only [l1 h1, l1 h2]; exact h
        · cases h
      · rename_i t u
        cases hq : snapV d H u with
        | none => rw [hq] at h; cases h
        | some u' => rw [ih _ _ hq]; rw [hq] at h; exact h
      · cases h

theorem mapO_more {f g : V → Option V} (hfg : ∀ v v', f v = some v' → g v = some v') : ∀ {vs vs' : List V}, mapO f vs = some vs' → mapO g vs = some vs'
  | [], vs', h => h
  | x :: r, vs', h => by
    simp only [mapO] at h ⊢
    split at h
    · rename_i b hb
      split at h
      · rename_i bs hbs
        simp only [hfg _ _ hb, mapO_more hfg hbs]; exact h
      · cases h
    · cases h

theorem callFn_stays {ex : Ex} : CallStays E (callFn E ex) := by
  intro f args H v H1 h hmode
  unfold callFn at h ⊢
  split at h
  · rename_i g hg
    split at h
    · rename_i hp
      cases hga : g args with
      | none => rw [hga] at h; cases h
      | some u =>
        rw [hga] at h; injection h with h; injection h with h h'; subst h; subst h'
        exact ⟨rfl, fun H' _ => by rw [if_pos hp]; rfl⟩
    · cases h
  · rename_i hg
    rcases hmode with hm | ⟨hm, hp⟩
    · rw [hm] at h ⊢
      simp only at h ⊢
      split at h
      · rename_i hp
        simp only [hp, if_true]
        split at h
        · rename_i u H2 hr
          split at h
          · rename_i u' H3 hfu
            split at h
            · rename_i hpu
              injection h with h; injection h with h h'; subst h; subst h'
              exact ⟨rfl, fun H' _ => by simp only [hr, hfu, hpu, if_true]⟩
            · cases h
          · cases h
        · cases h
      · rename_i hp
        simp only [hp, if_false, Bool.false_eq_true]
        split at h
        · rename_i args' hs
          split at h
          · rename_i u H2 hr
            split at h
            · rename_i hsc
              injection h with h; injection h with h h'; subst h; subst h'
              exact ⟨rfl, fun H' hmore => by rw [mapO_more (snap_more hmore 12) hs]; simp only [hr, hsc, if_true]⟩
            · cases h
          · cases h
        · cases h
    · rw [hm] at h ⊢
      simp only at h ⊢
      have e1 : ∀ H, frzList (frzV 12) H args = some (args, H) := fun H => frzList_pure 11 args H hp
      rw [e1] at h
      simp only [hp, if_true] at h
      split at h
      · rename_i u H2 hr
        split at h
        · rename_i u' H3 hfu
          split at h
          · rename_i hpu
            injection h with h; injection h with h h'; subst h; subst h'
            exact ⟨rfl, fun H' _ => by rw [e1]; simp only [hp, if_true, hr, hfu, hpu]⟩
          · cases h
        · cases h
      · cases h

end Go.Ae

namespace Go.Ae

variable {E : Env}

theorem exec_sound (hE : EnvOk E) : ∀ n : Nat, ExecOk E (aexec E n) ∧ ∀ (f : FuncId) (c : Code) (ts : List V) (H : Heap) (x : X) (ts' : List V) (H' : Heap), aexec E n f (.loop c) ts H = some (x, ts', H') →
    ∀ (w : World) (F : Nat → Prop) (μ : Nat → Nat → Option (Nat × Nat)) (a : Act) (Q : Exit → Act → World → Prop), WR E w F μ H → VRa w F μ ts a.tmps →
      (∀ a' w' F' μ', WR E w' F' μ' H' → Keep w F μ H w' F' μ' H' → VRa w' F' μ' ts' a'.tmps → a'.defers = a.defers → Q x.conv a' w') → Code.rounds E.P c Q n a w
  | 0 => ⟨fun f c ts H x ts' H' h => by simp [aexec] at h, fun f c ts H x ts' H' h => by simp [aexec] at h⟩
  | n + 1 => by
    obtain ⟨ih, ihl⟩ := exec_sound hE n
    have loop : ∀ (f : FuncId) (c : Code) (ts : List V) (H : Heap) (x : X) (ts' : List V) (H' : Heap), aexec E (n + 1) f (.loop c) ts H = some (x, ts', H') →
        ∀ (w : World) (F : Nat → Prop) (μ : Nat → Nat → Option (Nat × Nat)) (a : Act) (Q : Exit → Act → World → Prop), WR E w F μ H → VRa w F μ ts a.tmps →
          (∀ a' w' F' μ', WR E w' F' μ' H' → Keep w F μ H w' F' μ' H' → VRa w' F' μ' ts' a'.tmps → a'.defers = a.defers → Q x.conv a' w') → Code.rounds E.P c Q (n + 1) a w := by
      intro f c ts H x ts' H' h w F μ a Q hw ht hq
      rw [rounds_succ]
      simp only [aexec] at h
      cases hc : aexec E n f c ts H with
      | none => rw [hc] at h; cases h
      | some r =>
        obtain ⟨y, t1, H1⟩ := r
        rw [hc] at h
        refine ih f c ts H y t1 H1 hc w F μ a _ hw ht (fun a' w' F' μ' q1 q2 q3 q4 => ?_)
        cases y with
        | nrm =>
          simp only at h
          show Code.rounds E.P c Q n a' w'
          exact ihl f c t1 H1 x ts' H' h w' F' μ' a' Q q1 q3 (fun a'' w'' F'' μ'' p1 p2 p3 p4 => hq a'' w'' F'' μ'' p1 (q2.trans p2) p3 (p4.trans q4))
        | exit id =>
          simp only [Option.some.injEq, Prod.mk.injEq] at h
          obtain ⟨rfl, rfl, rfl⟩ := h
          exact hq a' w' F' μ' q1 q2 q3 q4
        | ret =>
          simp only [Option.some.injEq, Prod.mk.injEq] at h
          obtain ⟨rfl, rfl, rfl⟩ := h
          exact hq a' w' F' μ' q1 q2 q3 q4
    refine ⟨?_, loop⟩
    intro f c ts H x ts' H' h w F μ a Q hw ht hq
    cases c with
    | skip =>
      simp only [aexec, Option.some.injEq, Prod.mk.injEq] at h
      obtain ⟨rfl, rfl, rfl⟩ := h
      exact wp_skip (hq a w F μ hw (.refl ..) ht rfl)
    | region id ops draw =>
      simp only [aexec] at h
      have := region_sound hE (callFn_ok hE ih) callFn_stays h hw (a := a) ht (Q := Q)
      have hx : x = .nrm := by
        unfold regionV at h
        split at h
        · split at h
          · split at h
            · split at h
              · injection h with h; injection h with h _; exact h.symm
              · cases h
            · cases h
          · split at h
            · injection h with h; injection h with h _; exact h.symm
            · cases h
        · cases h
      subst hx
      exact (this hq).2
    | seq c1 c2 =>
      simp only [aexec] at h
      refine wp_seq ?_
      cases hc : aexec E n f c1 ts H with
      | none => rw [hc] at h; cases h
      | some r =>
        obtain ⟨y, t1, H1⟩ := r
        rw [hc] at h
        refine ih f c1 ts H y t1 H1 hc w F μ a _ hw ht (fun a' w' F' μ' q1 q2 q3 q4 => ?_)
        cases y with
        | nrm =>
          simp only at h
          exact ih f c2 t1 H1 x ts' H' h w' F' μ' a' Q q1 q3 (fun a'' w'' F'' μ'' p1 p2 p3 p4 => hq a'' w'' F'' μ'' p1 (q2.trans p2) p3 (p4.trans q4))
        | exit id =>
          simp only [Option.some.injEq, Prod.mk.injEq] at h
          obtain ⟨rfl, rfl, rfl⟩ := h
          exact hq a' w' F' μ' q1 q2 q3 q4
        | ret =>
          simp only [Option.some.injEq, Prod.mk.injEq] at h
          obtain ⟨rfl, rfl, rfl⟩ := h
          exact hq a' w' F' μ' q1 q2 q3 q4
    | cond c c1 c2 =>
      simp only [aexec] at h
      split at h
      · rename_i hc
        have hr := rho_sound hw ht hc
        have hcv : a.eval c = .bool true := by cases hq : a.eval c <;> rw [hq] at hr <;> cases hr; rfl
        exact wp_cond_true hcv (ih f c1 ts H x ts' H' h w F μ a Q hw ht hq)
      · rename_i hc
        have hr := rho_sound hw ht hc
        have hcv : a.eval c = .bool false := by cases hq : a.eval c <;> rw [hq] at hr <;> cases hr; rfl
        exact wp_cond_false hcv (ih f c2 ts H x ts' H' h w F μ a Q hw ht hq)
      · cases h
    | block id c =>
      simp only [aexec] at h
      refine wp_block ?_
      cases hc : aexec E n f c ts H with
      | none => rw [hc] at h; cases h
      | some r =>
        obtain ⟨y, t1, H1⟩ := r
        rw [hc] at h
        refine ih f c ts H y t1 H1 hc w F μ a _ hw ht (fun a' w' F' μ' q1 q2 q3 q4 => ?_)
        cases y with
        | nrm =>
          simp only [Option.some.injEq, Prod.mk.injEq] at h
          obtain ⟨rfl, rfl, rfl⟩ := h
          exact hq a' w' F' μ' q1 q2 q3 q4
        | exit j =>
          simp only at h
          show Exit.inBlock id Q (.exit j) a' w'
          simp only [Exit.inBlock]
          split at h
          · rename_i hj
            injection h with h; injection h with h h'; injection h' with h' h''; subst h; subst h'; subst h''
            rw [if_pos hj]
            exact hq a' w' F' μ' q1 q2 q3 q4
          · rename_i hj
            injection h with h; injection h with h h'; injection h' with h' h''; subst h; subst h'; subst h''
            rw [if_neg hj]
            exact hq a' w' F' μ' q1 q2 q3 q4
        | ret =>
          simp only [Option.some.injEq, Prod.mk.injEq] at h
          obtain ⟨rfl, rfl, rfl⟩ := h
          exact hq a' w' F' μ' q1 q2 q3 q4
    | loop c => exact wp_loop_rounds (n + 1) (loop f c ts H x ts' H' h w F μ a Q hw ht hq)
    | exit id =>
      simp only [aexec, Option.some.injEq, Prod.mk.injEq] at h
      obtain ⟨rfl, rfl, rfl⟩ := h
      exact wp_exit (hq a w F μ hw (.refl ..) ht rfl)
    | ret =>
      simp only [aexec, Option.some.injEq, Prod.mk.injEq] at h
      obtain ⟨rfl, rfl, rfl⟩ := h
      exact wp_ret (hq a w F μ hw (.refl ..) ht rfl)
    | _ => simp [aexec] at h

theorem acall_ok (hE : EnvOk E) (n : Nat) : CallOk E (acall E n) := callFn_ok hE (exec_sound hE n).1

/-- THE EVALUATOR IS SOUND: a call over values alone, whose result is a plain number, bool or string. -/
theorem acall_sound (hE : EnvOk E) {n : Nat} {f : FuncId} {args : List V} {v : V} {H' : Heap} (h : acall E n f args [] = some (v, H')) (hv : v.flat = true) {w : World} {cargs : List Value}
    (hw : WR E w (fun b => b < w.heap.size) noMap []) (hargs : VRs w (fun b => b < w.heap.size) noMap args cargs) :
    Calls E.P f cargs.toArray w fun e w' => (∃ cv, e = .returned cv ∧ VR w (fun b => b < w.heap.size) noMap v cv) ∧ Go.RowKit.Below w.heap.size w w' := by
  obtain ⟨_, hc⟩ := acall_ok hE n f args [] v H' h
  refine (hc w _ noMap cargs hw hargs).mono ?_
  rintro e w' ⟨cv, F', μ', rfl, k1, k2, k3⟩
  have hx := k2.toKeepB.ext own_nil
  exact ⟨⟨cv, rfl, k3.scalarAny (by cases v <;> simp_all [V.flat, V.scalar])⟩, hx.os, hx.tape, hx.output, hx.size, hx.blk⟩

end Go.Ae
