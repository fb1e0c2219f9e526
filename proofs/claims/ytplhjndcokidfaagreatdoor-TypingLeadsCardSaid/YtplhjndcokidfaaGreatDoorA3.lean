/-
  Regions that draw their order: the evaluator's one order speaks for all.
-/
import Derived.Test.YtplhjndcokidfaaGreatDoorA2
import Derived.Orders
set_option linter.unusedVariables false
set_option linter.unusedSimpArgs false
namespace Go.Ae

variable {E : Env}

/-- ρ and ρ' are one at what the operation looks at. -/
theorem mapO_congr {α β : Type} {f g : α → Option β} : ∀ {l : List α}, (∀ x ∈ l, f x = g x) → mapO f l = mapO g l
  | [], _ => rfl
  | x :: r, h => by
    have h2 : mapO f r = mapO g r := mapO_congr (fun y hy => h y (List.mem_cons_of_mem _ hy))
    simp only [mapO, h x (by simp), h2]

theorem optO_congr {α β : Type} {f g : α → Option β} {o : Option α} (h : ∀ x ∈ o.toList, f x = g x) : optO f o = optO g o := by
  cases o with
  | none => rfl
  | some a => simp only [optO, h a (by simp)]

theorem partsO_congr {ρ ρ' : Operand → Option V} : ∀ {l : List (Nat × Operand)}, (∀ x ∈ l.map (·.2), ρ x = ρ' x) → partsO ρ l = partsO ρ' l
  | [], _ => rfl
  | (i, x) :: r, h => by simp only [partsO, h x (by simp), partsO_congr (l := r) (fun y hy => h y (by simp at hy ⊢; exact .inr hy))]

theorem qop_congr {H : Heap} {ρ ρ' : Operand → Option V} {op : Op} (h : ∀ x ∈ op.operands.toList, ρ x = ρ' x) : qop E H ρ op = qop E H ρ' op := by
  cases op with
  | makeFunc fn first captured =>
    cases fn <;> simp only [qop]
    rw [mapO_congr (l := first.toList) (fun x hx => h x (by simp [Op.operands] at hx ⊢; exact .inl hx)), mapO_congr (l := captured.toList) (fun x hx => h x (by simp [Op.operands] at hx ⊢; exact .inr hx))]
  | slice t x lo hi mx =>
    simp only [qop]
    rw [h x (by simp [Op.operands]), optO_congr (o := lo) (fun y hy => h y (by simp [Op.operands] at hy ⊢; simp [hy])), optO_congr (o := hi) (fun y hy => h y (by simp [Op.operands] at hy ⊢; simp [hy])), optO_congr (o := mx) (fun y hy => h y (by simp [Op.operands] at hy ⊢; simp [hy]))]
  | build t parts =>
    simp only [qop]
    rw [partsO_congr (fun x hx => h x (by simpa [Op.operands] using hx))]
  | call c =>
    obtain ⟨callee, args, argTypes⟩ := c
    simp only [qop]
    cases callee <;> simp only
    rw [mapO_congr (l := args.toList) (fun x hx => h x (by simp [Op.operands, Call.operands] at hx ⊢; exact hx))]
  | _ => simp only [qop] <;> (try simp only [Op.operands, List.mem_cons, List.mem_nil_iff, or_false, forall_eq_or_imp, forall_eq] at h) <;> simp [h]

theorem calleeV_congr {ρ ρ' : Operand → Option V} {op : Op} (h : ∀ x ∈ op.operands.toList, ρ x = ρ' x) : calleeV ρ op = calleeV ρ' op := by
  cases op with
  | call c =>
    obtain ⟨callee, args, argTypes⟩ := c
    simp only [calleeV]
    cases callee <;> simp only
    rename_i g
    rw [h g (by simp [Op.operands, Call.operands]), mapO_congr (l := args.toList) (fun x hx => h x (by simp [Op.operands, Call.operands] at hx ⊢; exact .inr hx))]
  | _ => rfl

theorem eop_congr {f : FuncId} {dst : Option Tmp} {H : Heap} {ρ ρ' : Operand → Option V} {op : Op} (h : ∀ x ∈ op.operands.toList, ρ x = ρ' x) : eop E f dst H ρ op = eop E f dst H ρ' op := by
  cases op with
  | buildSlice t len parts =>
    simp only [eop]
    rw [partsO_congr (fun x hx => h x (by simpa [Op.operands] using hx))]
  | call c =>
    obtain ⟨callee, args, argTypes⟩ := c
    simp only [eop]
    cases callee with
    | builtin b => rw [mapO_congr (l := args.toList) (fun x hx => h x (by simp [Op.operands, Call.operands] at hx ⊢; exact hx))]
    | value g => cases mapO ρ args.toList <;> cases mapO ρ' args.toList <;> rfl
    | invoke r m => cases mapO ρ args.toList <;> cases mapO ρ' args.toList <;> rfl
  | _ => simp only [eop] <;> (try simp only [Op.operands, List.mem_cons, List.mem_nil_iff, or_false, forall_eq_or_imp, forall_eq] at h) <;> simp [h]

theorem nop_congr {ρ ρ' : Operand → Option V} {op : Op} (h : ∀ x ∈ op.operands.toList, ρ x = ρ' x) : nop E ρ op = nop E ρ' op := by
  cases op with
  | buildSlice t len parts =>
    simp only [nop]
    rw [partsO_congr (fun x hx => h x (by simpa [Op.operands] using hx))]
  | _ => simp only [nop] <;> (try simp only [Op.operands, List.mem_cons, List.mem_nil_iff, or_false, forall_eq_or_imp, forall_eq] at h) <;> simp [h]

/-- What an operation does, looked at or not. -/
def act (E : Env) (call : Call) (f : FuncId) (ops : Array Oper) (s : Nat) (o : Oper) (ts : List V) (H : Heap) : Option (V × Heap) :=
  if wantedV ops ts o then stepD E call f s o ts H else some (undefV, H)

theorem act_congr {call : Call} {f : FuncId} {ops : Array Oper} {s : Nat} {o : Oper} {ts ts' : List V} {H : Heap} (h : ∀ t ∈ readsOf ops o, ts[t]? = ts'[t]?) : act E call f ops s o ts H = act E call f ops s o ts' H := by
  have hr : ∀ x ∈ o.op.operands.toList, rho E ts x = rho E ts' x := fun x hx => by
    cases x with
    | tmp t =>
      have := h t (by unfold readsOf; simp only [List.mem_append, List.mem_filterMap]; exact .inl ⟨_, hx, rfl⟩)
      simp [rho, List.getD_eq_getElem?_getD, this]
    | _ => rfl
  have hw : wantedV ops ts o = wantedV ops ts' o := by
    unfold wantedV
    cases hg : o.guard with
    | none => rfl
    | some p =>
      obtain ⟨j, want⟩ := p
      simp only
      cases hd : (ops[j]?).bind (·.dst) with
      | none => rfl
      | some d =>
        have := h d (by unfold readsOf; simp only [hg, List.mem_append]; exact .inr (by simp [hd]))
        simp [this]
  unfold act
  rw [hw]
  have hs : stepD E call f s o ts H = stepD E call f s o ts' H := by
    have hv : stepV E call f o ts H = stepV E call f o ts' H := by
      unfold stepV stepV0
      rw [calleeV_congr hr, qop_congr hr, eop_congr hr]
    unfold stepD
    rw [hv, nop_congr hr]
    have hq : quietArgs E (rho E ts) o.op = quietArgs E (rho E ts') o.op := by unfold quietArgs; rw [calleeV_congr hr]
    rw [hq]
  rw [hs]

end Go.Ae

namespace Go.Ae

variable {E : Env}

/-- Every block reads in H' as in H. -/
def More (H H' : Heap) : Prop := ∀ (b ver : Nat) (cs : List V), getBlk H b ver = some cs → getBlk H' b ver = some cs

/-- A call that may be taken at any time. -/
def CallStays (E : Env) (call : Call) : Prop :=
  ∀ (g : FuncId) (args : List V) (H : Heap) (v : V) (H1 : Heap), call g args H = some (v, H1) → (E.mode g = .snap ∨ (E.mode g = .mv ∧ V.pureL args = true)) → H1 = H ∧ ∀ H', More H H' → call g args H' = some (v, H')

theorem stepV_eq0 {call : Call} {f : FuncId} {o : Oper} {ts : List V} {H : Heap} (h : (isCall o.op && E.fzd f o.dst) = false) : stepV E call f o ts H = stepV0 E call f o ts H := by
  unfold stepV fzR; rw [if_neg (by simp [h])]

theorem n_kind {call : Call} {f : FuncId} {s : Nat} {o : Oper} {ts : List V} (hk : kdOf E f o = .n) : ∃ r : Option V, ∀ H, stepD E call f s o ts H = r.map fun v => (v, H) := by
  unfold stepD
  rw [hk]
  simp only
  obtain ⟨dst, op, type, pos, after, guard⟩ := o
  simp only at hk ⊢
  by_cases hE : isE E.P op = true
  · exact ⟨nop E (rho E ts) op, fun H => by rw [if_pos hE]⟩
  · have hE : isE E.P op = false := by simpa using hE
    cases op with
    | call c =>
      obtain ⟨callee, args, argTypes⟩ := c
      simp only [kdOf] at hk
      cases hfz : E.fzd f dst with
      | true => rw [hfz] at hk; cases hk
      | false =>
      rw [hfz] at hk
      simp only [Bool.false_eq_true, if_false] at hk
      cases callee with
      | builtin b =>
        refine ⟨qop E [] (rho E ts) (.call ⟨.builtin b, args, argTypes⟩), fun H => ?_⟩
        rw [if_neg (by simp [hE]), stepV_eq0 (by simp [hfz])]
        simp only [stepV0, calleeV, hE, Bool.false_eq_true, if_false, qop]
      | value g =>
        exfalso
        cases g <;> simp only at hk <;> first | cases hk | (split at hk <;> cases hk)
      | invoke r m => cases hk
    | convert src dst' x =>
      exfalso
      simp only [kdOf] at hk
      have : isE E.P (.convert src dst' (.tmp 0)) = false := by rw [← hE]; rfl
      rw [this] at hk
      simp at hk
    | load => simp [kdOf] at hk
    | slice t y lo hi mx =>
      simp only [kdOf] at hk
      split at hk
      · rename_i a b c ht
        refine ⟨qop E [] (rho E ts) (.slice t y lo hi mx), fun H => ?_⟩
        rw [if_neg (by simp [hE]), stepV_eq0 rfl]
        simp only [stepV0, calleeV, hE, Bool.false_eq_true, if_false, qop, sliceV, ht]
      · cases hk
    | alloc => simp [kdOf] at hk
    | box => simp [isE] at hE
    | buildSlice => simp [isE] at hE
    | makeSlice => simp [isE] at hE
    | store => simp [isE] at hE
    | move x => exact ⟨qop E [] (rho E ts) (.move x), fun H => by rw [if_neg (by simp [hE]), stepV_eq0 rfl]; simp only [stepV0, calleeV, hE, Bool.false_eq_true, if_false, qop]⟩
    | assign x => exact ⟨qop E [] (rho E ts) (.assign x), fun H => by rw [if_neg (by simp [hE]), stepV_eq0 rfl]; simp only [stepV0, calleeV, hE, Bool.false_eq_true, if_false, qop]⟩
    | pick c x y => exact ⟨qop E [] (rho E ts) (.pick c x y), fun H => by rw [if_neg (by simp [hE]), stepV_eq0 rfl]; simp only [stepV0, calleeV, hE, Bool.false_eq_true, if_false, qop]⟩
    | nilCheck x => exact ⟨qop E [] (rho E ts) (.nilCheck x), fun H => by rw [if_neg (by simp [hE]), stepV_eq0 rfl]; simp only [stepV0, calleeV, hE, Bool.false_eq_true, if_false, qop]⟩
    | binOp op t x y yt => exact ⟨qop E [] (rho E ts) (.binOp op t x y yt), fun H => by rw [if_neg (by simp [hE]), stepV_eq0 rfl]; simp only [stepV0, calleeV, hE, Bool.false_eq_true, if_false, qop]⟩
    | unOp op t x => exact ⟨qop E [] (rho E ts) (.unOp op t x), fun H => by rw [if_neg (by simp [hE]), stepV_eq0 rfl]; simp only [stepV0, calleeV, hE, Bool.false_eq_true, if_false, qop]⟩
    | makeInterface t x => exact ⟨qop E [] (rho E ts) (.makeInterface t x), fun H => by rw [if_neg (by simp [hE]), stepV_eq0 rfl]; simp only [stepV0, calleeV, hE, Bool.false_eq_true, if_false, qop]⟩
    | makeFunc fn x y => exact ⟨qop E [] (rho E ts) (.makeFunc fn x y), fun H => by rw [if_neg (by simp [hE]), stepV_eq0 rfl]; cases fn <;> simp only [stepV0, calleeV, hE, Bool.false_eq_true, if_false, qop]⟩
    | fieldAddr t x i => exact ⟨qop E [] (rho E ts) (.fieldAddr t x i), fun H => by rw [if_neg (by simp [hE]), stepV_eq0 rfl]; simp only [stepV0, calleeV, hE, Bool.false_eq_true, if_false, qop]⟩
    | field t x i => exact ⟨qop E [] (rho E ts) (.field t x i), fun H => by rw [if_neg (by simp [hE]), stepV_eq0 rfl]; simp only [stepV0, calleeV, hE, Bool.false_eq_true, if_false, qop]⟩
    | indexAddr t x i => exact ⟨qop E [] (rho E ts) (.indexAddr t x i), fun H => by rw [if_neg (by simp [hE]), stepV_eq0 rfl]; simp only [stepV0, calleeV, hE, Bool.false_eq_true, if_false, qop]⟩
    | index t x i => exact ⟨qop E [] (rho E ts) (.index t x i), fun H => by rw [if_neg (by simp [hE]), stepV_eq0 rfl]; simp only [stepV0, calleeV, hE, Bool.false_eq_true, if_false, qop]⟩
    | typeAssert x t u ok => exact ⟨qop E [] (rho E ts) (.typeAssert x t u ok), fun H => by rw [if_neg (by simp [hE]), stepV_eq0 rfl]; simp only [stepV0, calleeV, hE, Bool.false_eq_true, if_false, qop]⟩
    | extract x i => exact ⟨qop E [] (rho E ts) (.extract x i), fun H => by rw [if_neg (by simp [hE]), stepV_eq0 rfl]; simp only [stepV0, calleeV, hE, Bool.false_eq_true, if_false, qop]⟩
    | build t ps => exact ⟨qop E [] (rho E ts) (.build t ps), fun H => by rw [if_neg (by simp [hE]), stepV_eq0 rfl]; simp only [stepV0, calleeV, hE, Bool.false_eq_true, if_false, qop]⟩
    | _ => simp [kdOf] at hk

theorem behind_more {H H' : Heap} (hm : More H H') {v : V} {cs : List V} (h : behind H v = some cs) : behind H' v = some cs := by
  cases v <;> simp only [behind] at h ⊢ <;> try exact h
  rename_i b ver off
  cases hg : getBlk H b ver with
  | none => rw [hg] at h; cases h
  | some c => rw [hm _ _ _ hg]; rw [hg] at h; exact h

theorem elems_more {H H' : Heap} (hm : More H H') {v : V} {els : List (List V)} (h : elemsOf H v = some els) : elemsOf H' v = some els := by
  cases v <;> simp only [elemsOf] at h ⊢ <;> try exact h
  rename_i sz b ver off len full
  cases hg : getBlk H b ver with
  | none => rw [hg] at h; cases h
  | some c => rw [hm _ _ _ hg]; rw [hg] at h; exact h

theorem slice_more {P : Program} {H H' : Heap} (hm : More H H') {t : TypeId} {x v : V} {lo hi mx : Option V} (h : sliceV P H t x lo hi mx = some v) : sliceV P H' t x lo hi mx = some v := by
  unfold sliceV at h ⊢
  split at h
  · exact h
  · exact h
  · rename_i n e _ _ _ hi'
    split at h
    · rename_i s l hh f hs hc
      split at h
      · exact h
      · rename_i b ver off
        cases hg : getBlk H b ver with
        | none => rw [hg] at h; cases h
        | some c => simp only [hm _ _ _ hg]; simp only [hg] at h; exact h
      · cases h
    · cases h
  · cases h

theorem qop_more {H H' : Heap} (hm : More H H') {ρ : Operand → Option V} {op : Op} {v : V} (h : qop E H ρ op = some v) : qop E H' ρ op = some v := by
  cases op with
  | load t x =>
    simp only [qop] at h ⊢
    split at h
    · rename_i i u hi hx
      split at h
      · rename_i cs hb
        simp only [behind_more hm hb]; exact h
      · cases h
    · cases h
  | slice t x lo hi mx =>
    simp only [qop] at h ⊢
    split at h
    · exact slice_more hm h
    · cases h
  | convert src dst x =>
    simp only [qop] at h ⊢
    split at h
    · exact h
    · exact h
    · exact h
    · rename_i u hn1 hn2 hn3 hx
      split at h
      · split at h
        · rename_i els he hel
          simp only [elems_more hm hel, he]; exact h
        · cases h
      · cases h
    · cases h
  | makeFunc fn a c => cases fn <;> exact h
  | _ => exact h

theorem l_kind {call : Call} (hst : CallStays E call) {f : FuncId} {s : Nat} {o : Oper} {ts : List V} {H H1 : Heap} {v : V} (hk : kdOf E f o = .l) (h : stepD E call f s o ts H = some (v, H1)) :
    H1 = H ∧ ∀ s' H', More H H' → stepD E call f s' o ts H' = some (v, H') := by
  unfold stepD at h ⊢
  rw [hk] at h ⊢
  simp only at h ⊢
  split at h
  · rename_i hq
    simp only [hq, if_true]
    have plain : (∀ c, o.op ≠ .call c) → isE E.P o.op = false → H1 = H ∧ ∀ (_ : Nat) H', More H H' → stepV E call f o ts H' = some (v, H') := fun hn hE => by
      have hcal : calleeV (rho E ts) o.op = some none := by
        cases ho : o.op <;> first | rfl | exact absurd ho (hn _)
      have hnc : isCall o.op = false := by
        cases ho : o.op <;> first | rfl | exact absurd ho (hn _)
      have e0 : ∀ H, stepV E call f o ts H = stepV0 E call f o ts H := fun H => stepV_eq0 (by rw [hnc]; rfl)
      simp only [e0] at h ⊢
      simp only [stepV0, hcal, hE, Bool.false_eq_true, if_false] at h ⊢
      cases hv : qop E H (rho E ts) o.op with
      | none => rw [hv] at h; cases h
      | some u =>
        rw [hv] at h; injection h with h; injection h with h h'; subst h; subst h'
        exact ⟨rfl, fun _ H' hm => by rw [qop_more hm hv]; rfl⟩
    obtain ⟨dst, op, type, pos, after, guard⟩ := o
    cases op with
    | load => exact plain (by simp) rfl
    | slice => exact plain (by simp) rfl
    | convert src dst' x =>
      refine plain (by simp) ?_
      simp only [kdOf] at hk
      have e : isE E.P (.convert src dst' (.tmp 0)) = isE E.P (.convert src dst' x) := rfl
      rw [e] at hk
      cases hE : isE E.P (.convert src dst' x) with
      | false => rfl
      | true =>
        rw [hE] at hk
        simp only [if_true] at hk
        split at hk
        · split at hk <;> cases hk
        · cases hk
    | call c =>
      obtain ⟨callee, args, argTypes⟩ := c
      simp only [kdOf] at hk
      cases hfz : E.fzd f dst with
      | true => rw [hfz] at hk; cases hk
      | false =>
      rw [hfz] at hk
      simp only [Bool.false_eq_true, if_false] at hk
      have e0 : ∀ H, stepV E call f ⟨dst, .call ⟨callee, args, argTypes⟩, type, pos, after, guard⟩ ts H = stepV0 E call f ⟨dst, .call ⟨callee, args, argTypes⟩, type, pos, after, guard⟩ ts H := fun H => stepV_eq0 (by simp [hfz])
      simp only [e0] at h ⊢
      split at hk
      · cases hk
      · cases hk
      · cases hk
      · cases hk
      · rename_i g
        split at hk
        · rename_i hmode
          obtain ⟨hid, hmode⟩ := hmode
          have hid' : ¬(E.idf g = true) := by rw [hid]; simp
          simp only [stepV0, calleeV, rho, callI, if_neg hid'] at h ⊢
          simp only [quietArgs, calleeV, rho] at hq
          cases ha : mapO (rho E ts) args.toList with
          | none => rw [ha] at h; cases h
          | some as =>
            rw [ha] at h hq
            simp only at h hq ⊢
            have hcond : E.mode g = .snap ∨ (E.mode g = .mv ∧ V.pureL ([] ++ as ++ []) = true) := by
              rcases hmode with hmo | hmo
              · exact .inl hmo
              · refine .inr ⟨hmo, ?_⟩
                simpa [hmo] using hq
            rw [if_neg hid'] at h
            obtain ⟨r1, r2⟩ := hst g _ H v H1 h hcond
            exact ⟨r1, fun _ H' hm => by rw [if_neg hid']; exact r2 H' hm⟩
        · cases hk
      · cases hk
    | box => simp only [kdOf] at hk; split at hk <;> first | cases hk | (split at hk <;> cases hk)
    | buildSlice => simp only [kdOf] at hk; split at hk <;> first | cases hk | (split at hk <;> cases hk)
    | makeSlice => simp only [kdOf] at hk; split at hk <;> first | cases hk | (split at hk <;> cases hk)
    | _ => simp [kdOf] at hk
  · cases h

end Go.Ae

namespace Go.Ae

variable {E : Env}

theorem putV_comm {ts : List V} {a b : Option Tmp} {u v : V} (h : ∀ d, a = some d → b ≠ some d) : putV (putV ts a u) b v = putV (putV ts b v) a u := by
  cases a with
  | none => rfl
  | some d =>
    cases b with
    | none => rfl
    | some d' =>
      simp only [putV]
      exact List.set_comm _ _ (fun q => h d rfl (by rw [q]))

theorem putV_get {ts : List V} {a : Option Tmp} {u : V} {t : Tmp} (h : a ≠ some t) : (putV ts a u)[t]? = ts[t]? := by
  cases a with
  | none => rfl
  | some d => exact List.getElem?_set_ne (fun q => h (by rw [q]))

theorem apart_spec {ops : Array Oper} {a b : Oper} (h : apartV ops a b = true) : (∀ d, a.dst = some d → d ∉ readsOf ops b ∧ b.dst ≠ some d) ∧ (∀ d, b.dst = some d → d ∉ readsOf ops a) := by
  unfold apartV at h
  simp only [Bool.and_eq_true] at h
  refine ⟨fun d hd => ?_, fun d hd => ?_⟩
  · rw [hd] at h; simpa using h.1
  · have := h.2; rw [hd] at this; simpa using this

theorem isAlloc_spec {o : Oper} (h : isAlloc o = true) : ∃ e, o.op = .alloc e := by
  unfold isAlloc at h
  split at h
  · rename_i e he; exact ⟨e, he⟩
  · cases h

theorem kd_alloc {f : FuncId} {o : Oper} : kdOf E f o = .a ↔ isAlloc o = true := by
  constructor
  · intro hk
    unfold isAlloc
    unfold kdOf at hk
    cases ho : o.op <;> rw [ho] at hk <;> simp only at hk ⊢ <;> first
      | cases hk
      | (split at hk <;> first | cases hk | (split at hk <;> cases hk))
      | (split at hk <;> split at hk <;> first | cases hk | (split at hk <;> cases hk))
      | skip
    all_goals (split at hk <;> first | cases hk | (split at hk <;> first | cases hk | (split at hk <;> cases hk)))
  · intro h
    obtain ⟨e, he⟩ := isAlloc_spec h
    unfold kdOf; rw [he]

theorem a_kind {call : Call} {f : FuncId} {s : Nat} {o : Oper} {ts : List V} {H H1 : Heap} {v : V} (hk : kdOf E f o = .a) (h : stepD E call f s o ts H = some (v, H1)) :
    ∃ e i, o.op = .alloc e ∧ tinf E.P e = some i ∧ allOne i.zero.cells = true ∧ H[s]? = some none ∧ v = .mp s 0 0 ∧ H1 = H.set s (newBlk 0 i.zero.cells) ∧ ∀ H', H'[s]? = some none → stepD E call f s o ts H' = some (.mp s 0 0, H'.set s (newBlk 0 i.zero.cells)) := by
  obtain ⟨e, he⟩ := isAlloc_spec (kd_alloc.1 hk)
  unfold stepD at h ⊢
  rw [hk] at h ⊢
  simp only [he] at h ⊢
  split at h
  · rename_i i hi hs
    split at h
    · rename_i h1
      injection h with h; injection h with h h'; subst h; subst h'
      exact ⟨e, i, rfl, hi, h1, hs, rfl, rfl, fun H' hs' => by simp only [hi, hs']; rw [if_pos h1]⟩
    · cases h
  · cases h

theorem more_set {H : Heap} {s : Nat} {x : Option Blk} (h : H[s]? = some none) : More H (H.set s x) := by
  intro b ver cs hg
  unfold getBlk at hg ⊢
  by_cases hq : s = b
  · subst hq; rw [h] at hg; cases hg
  · rw [List.getElem?_set_ne hq]; exact hg

/-- Two operations, unordered: the other order gives the same. -/
theorem swap_one {call : Call} (hst : CallStays E call) {f : FuncId} {ops : Array Oper} {si sj : Nat} {oi oj : Oper} (hss : isAlloc oi = true → isAlloc oj = true → si ≠ sj)
    (hap : apartV ops oi oj = true) (hpk : pairOk (kdOf E f oi) (kdOf E f oj) = true) {ts : List V} {H H1 H2 : Heap} {vi vj : V}
    (h1 : act E call f ops si oi ts H = some (vi, H1)) (h2 : act E call f ops sj oj (putV ts oi.dst vi) H1 = some (vj, H2)) :
    ∃ H1', act E call f ops sj oj ts H = some (vj, H1') ∧ act E call f ops si oi (putV ts oj.dst vj) H1' = some (vi, H2) ∧ putV (putV ts oi.dst vi) oj.dst vj = putV (putV ts oj.dst vj) oi.dst vi := by
  obtain ⟨ha1, ha2⟩ := apart_spec hap
  have e2 : ∀ H, act E call f ops sj oj (putV ts oi.dst vi) H = act E call f ops sj oj ts H := fun H => act_congr (fun t ht => putV_get (fun q => (ha1 t q).1 ht))
  have e1 : ∀ H, act E call f ops si oi (putV ts oj.dst vj) H = act E call f ops si oi ts H := fun H => act_congr (fun t ht => putV_get (fun q => ha2 t q ht))
  rw [e2] at h2
  have hc : putV (putV ts oi.dst vi) oj.dst vj = putV (putV ts oj.dst vj) oi.dst vi := putV_comm (fun d hd => (ha1 d hd).2)
  suffices hs : ∃ H1', act E call f ops sj oj ts H = some (vj, H1') ∧ act E call f ops si oi ts H1' = some (vi, H2) by
    obtain ⟨H1', q1, q2⟩ := hs
    exact ⟨H1', q1, by rw [e1]; exact q2, hc⟩
  have neutral : ∀ (s : Nat) (o : Oper), (wantedV ops ts o = false ∨ kdOf E f o = .n) → ∃ r : Option V, ∀ H, act E call f ops s o ts H = r.map fun v => (v, H) := fun s o ho => by
    unfold act
    rcases ho with ho | ho
    · exact ⟨some undefV, fun H => by rw [ho]; rfl⟩
    · by_cases hw : wantedV ops ts o = true
      · obtain ⟨r, hr⟩ := n_kind (call := call) (s := s) (ts := ts) ho
        exact ⟨r, fun H => by rw [hw]; exact hr H⟩
      · exact ⟨some undefV, fun H => by rw [if_neg hw]; rfl⟩
  by_cases hni : wantedV ops ts oi = false ∨ kdOf E f oi = .n
  · obtain ⟨r, hr⟩ := neutral si oi hni
    rw [hr] at h1
    cases r with
    | none => cases h1
    | some u =>
      injection h1 with h1; injection h1 with q1 q2; subst q1; subst q2
      exact ⟨H2, h2, by rw [hr]; rfl⟩
  · by_cases hnj : wantedV ops ts oj = false ∨ kdOf E f oj = .n
    · obtain ⟨r, hr⟩ := neutral sj oj hnj
      rw [hr] at h2
      cases r with
      | none => cases h2
      | some u =>
        injection h2 with h2; injection h2 with q1 q2; subst q1; subst q2
        exact ⟨H, by rw [hr]; rfl, h1⟩
    · simp only [not_or] at hni hnj
      have wi : wantedV ops ts oi = true := by simpa using hni.1
      have wj : wantedV ops ts oj = true := by simpa using hnj.1
      have ai : ∀ H, act E call f ops si oi ts H = stepD E call f si oi ts H := fun H => by unfold act; rw [if_pos wi]
      have aj : ∀ H, act E call f ops sj oj ts H = stepD E call f sj oj ts H := fun H => by unfold act; rw [if_pos wj]
      rw [ai] at h1; rw [aj] at h2
      cases hki : kdOf E f oi with
      | n => exact absurd hki hni.2
      | e => rw [hki] at hpk; cases hkj : kdOf E f oj <;> rw [hkj] at hpk <;> first | exact absurd hkj hnj.2 | cases hpk
      | l =>
        obtain ⟨rfl, hl⟩ := l_kind hst hki h1
        cases hkj : kdOf E f oj with
        | n => exact absurd hkj hnj.2
        | e => rw [hki, hkj] at hpk; cases hpk
        | l =>
          obtain ⟨rfl, _⟩ := l_kind hst hkj h2
          exact ⟨_, by rw [aj]; exact h2, by rw [ai]; exact h1⟩
        | a =>
          obtain ⟨e, i, _, _, _, hs, rfl, rfl, _⟩ := a_kind hkj h2
          exact ⟨_, by rw [aj]; exact h2, by rw [ai]; exact hl si _ (more_set hs)⟩
      | a =>
        cases hkj : kdOf E f oj with
        | n => exact absurd hkj hnj.2
        | e => rw [hki, hkj] at hpk; cases hpk
        | l => rw [hki, hkj] at hpk; cases hpk
        | a =>
          have hne := hss (kd_alloc.1 hki) (kd_alloc.1 hkj)
          obtain ⟨e, i, _, _, _, hs, rfl, rfl, hi'⟩ := a_kind hki h1
          obtain ⟨e', i', _, _, _, hs', rfl, rfl, hj'⟩ := a_kind hkj h2
          rw [List.getElem?_set_ne hne] at hs'
          refine ⟨_, by rw [aj]; exact hj' H hs', ?_⟩
          rw [ai, hi' _ (by rw [List.getElem?_set_ne (Ne.symm hne)]; exact hs)]
          rw [List.set_comm _ _ hne]

/-- Where the variable that operation i makes lies. -/
def slotOf (ops : Array Oper) (base i : Nat) : Nat := base + allocs (ops.toList.take i)

def oneIdx (E : Env) (call : Call) (f : FuncId) (ops : Array Oper) (base i : Nat) (ts : List V) (H : Heap) : Option (List V × Heap) :=
  match ops[i]? with
  | none => some (ts, H)
  | some o => match act E call f ops (slotOf ops base i) o ts H with
    | some (v, H') => some (putV ts o.dst v, H')
    | none => none

def runIdx (E : Env) (call : Call) (f : FuncId) (ops : Array Oper) (base : Nat) : List Nat → List V → Heap → Option (List V × Heap)
  | [], ts, H => some (ts, H)
  | i :: r, ts, H => match oneIdx E call f ops base i ts H with
    | some (ts', H') => runIdx E call f ops base r ts' H'
    | none => none

theorem slot_succ {ops : Array Oper} {base k : Nat} {o : Oper} (h : ops[k]? = some o) : slotOf ops base (k + 1) = if isAlloc o then slotOf ops base k + 1 else slotOf ops base k := by
  have hk : k < ops.toList.length := by simpa using (Array.getElem?_eq_some_iff.1 h).1
  have he : ops.toList[k] = o := by
    have := (Array.getElem?_eq_some_iff.1 h).2
    simpa using this
  unfold slotOf allocs
  rw [List.take_succ_eq_append_getElem hk, he, List.filter_append, List.length_append]
  by_cases ha : isAlloc o = true
  · simp [ha]; omega
  · simp [ha]

theorem slot_mono {ops : Array Oper} {base : Nat} {i j : Nat} {oi : Oper} (hi : ops[i]? = some oi) (ha : isAlloc oi = true) (hij : i < j) : slotOf ops base i < slotOf ops base j := by
  have h1 := slot_succ (base := base) hi
  rw [if_pos ha] at h1
  have h2 : slotOf ops base (i + 1) ≤ slotOf ops base j := by
    unfold slotOf allocs
    have : (ops.toList.take (i + 1)).Sublist (ops.toList.take j) := List.take_sublist_take_left (by omega)
    have := (this.filter isAlloc).length_le
    omega
  omega

theorem drawV_run {call : Call} {f : FuncId} {ops : Array Oper} {base : Nat} : ∀ (l : List Oper) (k : Nat) (ts : List V) (H : Heap), (∀ j, l[j]? = ops[k + j]?) →
    drawV E call f ops (slotOf ops base k) l ts H = runIdx E call f ops base (List.range' k l.length) ts H
  | [], k, ts, H, _ => rfl
  | o :: rest, k, ts, H, h => by
    have h0 : ops[k]? = some o := by simpa using (h 0).symm
    have ih := fun ts H => drawV_run (call := call) (f := f) (base := base) rest (k + 1) ts H (fun j => by have := h (j + 1); simpa [Nat.add_assoc, Nat.add_comm 1 j] using this)
    simp only [slot_succ h0] at ih
    simp only [drawV, List.length_cons, List.range'_succ, runIdx, oneIdx, h0, act]
    by_cases hw : wantedV ops ts o = true
    · simp only [hw, if_true]
      cases stepD E call f (slotOf ops base k) o ts H with
      | none => rfl
      | some p => obtain ⟨v, H'⟩ := p; exact ih _ _
    · simp only [hw, if_false, Bool.false_eq_true]
      exact ih _ _

end Go.Ae

namespace Go.Ae

variable {E : Env}

/-- Neither looked at nor written: a place that is dead. -/
def Frm {α : Type} (F : Heap → Option (α × Heap)) : Prop :=
  ∀ (H : Heap) (r : α) (H' : Heap) (s : Nat) (x : Option Blk), F H = some (r, H') → H[s]? = some none → H'[s]? = some none ∧ F (H.set s x) = some (r, H'.set s x)

/-- The same, of places other than one. -/
def FrmB {α : Type} (b : Nat) (F : Heap → Option (α × Heap)) : Prop :=
  ∀ (H : Heap) (r : α) (H' : Heap) (s : Nat) (x : Option Blk), F H = some (r, H') → H[s]? = some none → s ≠ b → H'[s]? = some none ∧ F (H.set s x) = some (r, H'.set s x)

theorem hole_lt {H : Heap} {s : Nat} (h : H[s]? = some none) : s < H.length := (List.getElem?_eq_some_iff.1 h).1

theorem Frm.none {α : Type} : Frm (fun _ => (Option.none : Option (α × Heap))) := fun _ _ _ _ _ h => by cases h
theorem FrmB.none {α : Type} {b : Nat} : FrmB b (fun _ => (Option.none : Option (α × Heap))) := fun _ _ _ _ _ h => by cases h
theorem Frm.ret {α : Type} (v : α) : Frm (fun H => some (v, H)) := fun H r H' s x h hs => by
  injection h with h; injection h with h1 h2; subst h1; subst h2; exact ⟨hs, rfl⟩
theorem Frm.map {α : Type} (o : Option α) : Frm (fun H => o.map fun v => (v, H)) := by
  cases o with
  | none => exact .none
  | some v => exact .ret v
theorem Frm.read {α : Type} {g : Heap → Option α} (hg : ∀ H H' v, More H H' → g H = some v → g H' = some v) : Frm (fun H => (g H).map fun v => (v, H)) := fun H r H' s x h hs => by
  simp only at h ⊢
  cases hv : g H with
  | none => rw [hv] at h; cases h
  | some v =>
    rw [hv] at h; injection h with h; injection h with h1 h2; subst h1; subst h2
    refine ⟨hs, ?_⟩
    rw [hg _ _ _ (more_set hs) hv]; rfl
theorem Frm.new {α : Type} (g : Nat → α) (b : Option Blk) : Frm (fun H => some (g H.length, H ++ [b])) := fun H r H' s x h hs => by
  injection h with h; injection h with h1 h2; subst h1; subst h2
  have hl := hole_lt hs
  refine ⟨by rw [List.getElem?_append_left hl]; exact hs, ?_⟩
  simp only [List.length_set]
  rw [List.set_append_left _ _ hl]
theorem Frm.ite {α : Type} {c : Prop} [Decidable c] {F G : Heap → Option (α × Heap)} (hF : Frm F) (hG : Frm G) : Frm (fun H => if c then F H else G H) := by
  by_cases h : c
  · simp only [if_pos h]; exact hF
  · simp only [if_neg h]; exact hG
theorem FrmB.ite {α : Type} {b : Nat} {c : Prop} [Decidable c] {F G : Heap → Option (α × Heap)} (hF : FrmB b F) (hG : FrmB b G) : FrmB b (fun H => if c then F H else G H) := by
  by_cases h : c
  · simp only [if_pos h]; exact hF
  · simp only [if_neg h]; exact hG
theorem FrmB.set {α : Type} {b : Nat} (r : α) (y : Option Blk) : FrmB b (fun H => some (r, H.set b y)) := fun H r' H' s x h hs hne => by
  injection h with h; injection h with h1 h2; subst h1; subst h2
  refine ⟨by rw [List.getElem?_set_ne (Ne.symm hne)]; exact hs, ?_⟩
  simp only
  rw [List.set_comm _ _ hne]
theorem FrmB.setNew {α : Type} {b : Nat} (g : Nat → α) (y z : Option Blk) : FrmB b (fun H => some (g H.length, H.set b y ++ [z])) := fun H r' H' s x h hs hne => by
  injection h with h; injection h with h1 h2; subst h1; subst h2
  have hl := hole_lt hs
  refine ⟨?_, ?_⟩
  · rw [List.getElem?_append_left (by simpa using hl), List.getElem?_set_ne (Ne.symm hne)]; exact hs
  · simp only [List.length_set]
    rw [List.set_comm _ _ hne, List.set_append_left _ _ (by simpa using hl)]
theorem Frm.toB {α : Type} {b : Nat} {F : Heap → Option (α × Heap)} (h : Frm F) : FrmB b F := fun H r H' s x hv hs _ => h H r H' s x hv hs
theorem getW_ne {H : Heap} {b ver s : Nat} {cs : List V} (h : getW H b ver = some cs) (hs : H[s]? = some none) : s ≠ b := fun q => by
  subst q; unfold getW at h; rw [hs] at h; cases h
theorem getW_set_hole {H : Heap} {b ver s : Nat} {x : Option Blk} (hne : s ≠ b) : getW (H.set s x) b ver = getW H b ver := by
  unfold getW; rw [List.getElem?_set_ne hne]

/-- The end: the value, and the heap as it is. -/
theorem fin_same {α : Type} {a r : α} {H H' : Heap} {s : Nat} {x : Option Blk} (h : some (a, H) = some (r, H')) (hs : H[s]? = some none) : H'[s]? = some none ∧ some (a, H.set s x) = some (r, H'.set s x) := by
  injection h with h; injection h with h1 h2; subst h1; subst h2; exact ⟨hs, rfl⟩
theorem fin_new {α : Type} {g : Nat → α} {r : α} {H H' : Heap} {b x : Option Blk} {s : Nat} (h : some (g H.length, H ++ [b]) = some (r, H')) (hs : H[s]? = some none) :
    H'[s]? = some none ∧ some (g (H.set s x).length, H.set s x ++ [b]) = some (r, H'.set s x) := Frm.new g b H r H' s x h hs
theorem fin_set {α : Type} {a r : α} {H H' : Heap} {b s : Nat} {x y : Option Blk} (hne : s ≠ b) (h : some (a, H.set b y) = some (r, H')) (hs : H[s]? = some none) :
    H'[s]? = some none ∧ some (a, (H.set s x).set b y) = some (r, H'.set s x) := FrmB.set a y H r H' s x h hs hne
theorem fin_setNew {α : Type} {g : Nat → α} {r : α} {H H' : Heap} {b s : Nat} {x y z : Option Blk} (hne : s ≠ b) (h : some (g H.length, H.set b y ++ [z]) = some (r, H')) (hs : H[s]? = some none) :
    H'[s]? = some none ∧ some (g (H.set s x).length, (H.set s x).set b y ++ [z]) = some (r, H'.set s x) := FrmB.setNew g y z H r H' s x h hs hne

theorem frzList_frm {f : Heap → V → Option (V × Heap)} (hf : ∀ v, Frm (fun H => f H v)) : ∀ l : List V, Frm (fun H => frzList f H l)
  | [] => .ret _
  | v :: r => fun H q H' s x h hs => by
    simp only [frzList] at h ⊢
    cases hv : f H v with
    | none => rw [hv] at h; cases h
    | some u =>
      obtain ⟨a, H1⟩ := u
      rw [hv] at h
      obtain ⟨hs1, e1⟩ := hf v H a H1 s x hv hs
      simp only at e1
      rw [e1]
      simp only at h ⊢
      cases hv2 : frzList f H1 r with
      | none => rw [hv2] at h; cases h
      | some u =>
        obtain ⟨a2, H2⟩ := u
        rw [hv2] at h
        obtain ⟨hs2, e2⟩ := frzList_frm hf r H1 a2 H2 s x hv2 hs1
        simp only at e2
        rw [e2]
        exact fin_same h hs2
theorem frzLL_frm {f : Heap → V → Option (V × Heap)} (hf : ∀ v, Frm (fun H => f H v)) : ∀ l : List (List V), Frm (fun H => frzLL f H l)
  | [] => .ret _
  | v :: r => fun H q H' s x h hs => by
    simp only [frzLL] at h ⊢
    cases hv : frzList f H v with
    | none => rw [hv] at h; cases h
    | some u =>
      obtain ⟨a, H1⟩ := u
      rw [hv] at h
      obtain ⟨hs1, e1⟩ := frzList_frm hf v H a H1 s x hv hs
      simp only at e1
      rw [e1]
      simp only at h ⊢
      cases hv2 : frzLL f H1 r with
      | none => rw [hv2] at h; cases h
      | some u =>
        obtain ⟨a2, H2⟩ := u
        rw [hv2] at h
        obtain ⟨hs2, e2⟩ := frzLL_frm hf r H1 a2 H2 s x hv2 hs1
        simp only at e2
        rw [e2]
        exact fin_same h hs2

theorem frzV_frm : ∀ (d : Nat) (v : V), Frm (fun H => frzV d H v)
  | 0, v => .none
  | d + 1, v => fun H q H' s x h hs => by
    have ih := frzV_frm d
    simp only [frzV] at h ⊢
    by_cases hp : v.pure = true
    · rw [if_pos hp] at h ⊢; exact fin_same h hs
    · rw [if_neg hp] at h ⊢
      cases v with
      | ms sz b ver off len full =>
        simp only at h ⊢
        cases hg : getW H b ver with
        | none => rw [hg] at h; cases h
        | some cs =>
          have hne := getW_ne hg hs
          rw [getW_set_hole hne, hg]
          rw [hg] at h
          simp only at h ⊢
          by_cases hc : off + len * sz ≤ cs.length ∧ 0 < sz
          · rw [if_pos hc] at h ⊢
            rw [List.set_comm _ _ hne]
            cases hv : frzLL (frzV d) (H.set b none) (chunk sz len (cs.drop off)) with
            | none => rw [hv] at h; cases h
            | some u =>
              obtain ⟨a, H1⟩ := u
              rw [hv] at h
              obtain ⟨hs1, e1⟩ := frzLL_frm ih _ _ a H1 s x hv (by rw [List.getElem?_set_ne (Ne.symm hne)]; exact hs)
              simp only at e1
              rw [e1]
              exact fin_same h hs1
          · rw [if_neg hc] at h; cases h
      | mp b ver off =>
        simp only at h ⊢
        cases hg : getW H b ver with
        | none => rw [hg] at h; cases h
        | some cs =>
          have hne := getW_ne hg hs
          rw [getW_set_hole hne, hg]
          rw [hg] at h
          simp only at h ⊢
          rw [List.set_comm _ _ hne]
          cases hv : frzList (frzV d) (H.set b none) (cs.drop off) with
          | none => rw [hv] at h; cases h
          | some u =>
            obtain ⟨a, H1⟩ := u
            rw [hv] at h
            obtain ⟨hs1, e1⟩ := frzList_frm ih _ _ a H1 s x hv (by rw [List.getElem?_set_ne (Ne.symm hne)]; exact hs)
            simp only at e1
            rw [e1]
            exact fin_same h hs1
      | sl full els =>
        simp only at h ⊢
        cases hv : frzLL (frzV d) H els with
        | none => rw [hv] at h; cases h
        | some u =>
          obtain ⟨a, H1⟩ := u
          rw [hv] at h
          obtain ⟨hs1, e1⟩ := frzLL_frm ih _ _ a H1 s x hv hs
          simp only at e1
          rw [e1]
          exact fin_same h hs1
      | rp cs =>
        simp only at h ⊢
        cases hv : frzList (frzV d) H cs with
        | none => rw [hv] at h; cases h
        | some u =>
          obtain ⟨a, H1⟩ := u
          rw [hv] at h
          obtain ⟨hs1, e1⟩ := frzList_frm ih _ _ a H1 s x hv hs
          simp only at e1
          rw [e1]
          exact fin_same h hs1
      | agg cs =>
        simp only at h ⊢
        cases hv : frzList (frzV d) H cs with
        | none => rw [hv] at h; cases h
        | some u =>
          obtain ⟨a, H1⟩ := u
          rw [hv] at h
          obtain ⟨hs1, e1⟩ := frzList_frm ih _ _ a H1 s x hv hs
          simp only at e1
          rw [e1]
          exact fin_same h hs1
      | tup cs =>
        simp only at h ⊢
        cases hv : frzList (frzV d) H cs with
        | none => rw [hv] at h; cases h
        | some u =>
          obtain ⟨a, H1⟩ := u
          rw [hv] at h
          obtain ⟨hs1, e1⟩ := frzList_frm ih _ _ a H1 s x hv hs
          simp only at e1
          rw [e1]
          exact fin_same h hs1
      | fn f a c =>
        simp only at h ⊢
        cases hv : frzList (frzV d) H a with
        | none => rw [hv] at h; cases h
        | some u =>
          obtain ⟨a1, H1⟩ := u
          rw [hv] at h
          obtain ⟨hs1, e1⟩ := frzList_frm ih _ _ a1 H1 s x hv hs
          simp only at e1
          rw [e1]
          simp only at h ⊢
          cases hv2 : frzList (frzV d) H1 c with
          | none => rw [hv2] at h; cases h
          | some u =>
            obtain ⟨a2, H2⟩ := u
            rw [hv2] at h
            obtain ⟨hs2, e2⟩ := frzList_frm ih _ _ a2 H2 s x hv2 hs1
            simp only at e2
            rw [e2]
            exact fin_same h hs2
      | ifc t v =>
        simp only at h ⊢
        cases hv : frzV d H v with
        | none => rw [hv] at h; cases h
        | some u =>
          obtain ⟨a, H1⟩ := u
          rw [hv] at h
          obtain ⟨hs1, e1⟩ := ih v _ a H1 s x hv hs
          simp only at e1
          rw [e1]
          exact fin_same h hs1
      | _ => cases h

theorem appendV_frm {P : Program} {t : TypeId} {v y : V} : Frm (fun H => appendV P H t v y) := fun H q H' s x h hs => by
  simp only [appendV] at h ⊢
  cases ht : tinf P t with
  | none => rw [ht] at h; cases h
  | some i =>
    rw [ht] at h
    obtain ⟨k, a, b, c⟩ := i
    cases k <;> try cases h
    rename_i e
    simp only at h ⊢
    cases he : tinf P e with
    | none => rw [he] at h; cases h
    | some ie =>
      rw [he] at h
      simp only at h ⊢
      cases hl : elemsOf H y with
      | none => rw [hl] at h; cases h
      | some new =>
        rw [hl] at h
        rw [elems_more (more_set hs) hl]
        cases new with
        | nil =>
          simp only at h ⊢
          cases v <;> first | exact fin_same h hs | cases h
        | cons n1 nr =>
          simp only at h ⊢
          by_cases hc : ie.size = 0 ∨ ie.bytes = 0 ∨ ie.zero.cells.length ≠ ie.size ∨ !((n1 :: nr).all fun c => decide (c.length = ie.size) && allOne c)
          · rw [if_pos hc] at h; cases h
          · rw [if_neg hc] at h ⊢
            cases v with
            | nil =>
              simp only at h ⊢
              split at h
              · rename_i hc2; rw [if_pos hc2]; exact fin_new (g := fun n => V.ms ie.size n _ 0 _ false) h hs
              · cases h
            | sl f els =>
              cases f with
              | false => cases h
              | true =>
                simp only at h ⊢
                split at h
                · rename_i hc2; rw [if_pos hc2]; exact fin_new (g := fun n => V.ms ie.size n _ 0 _ false) h hs
                · cases h
            | ms sz b ver off len full =>
              simp only at h ⊢
              cases hg : getW H b ver with
              | none => rw [hg] at h; cases h
              | some cs =>
                have hne := getW_ne hg hs
                rw [getW_set_hole hne, hg]
                rw [hg] at h
                simp only at h ⊢
                split at h
                · rename_i hc2
                  rw [if_pos hc2]
                  split at h
                  · rename_i hc3; rw [if_pos hc3]; exact fin_set hne h hs
                  · rename_i hc3; rw [if_neg hc3]; exact fin_setNew (g := fun n => V.ms sz n _ 0 _ false) hne h hs
                · cases h
            | _ => cases h

theorem appendB_frm {P : Program} {t : TypeId} {v y : V} : Frm (fun H => appendB P H t v y) := fun H q H' s x h hs => by
  simp only [appendB] at h ⊢
  cases ht : tinf P t with
  | none => rw [ht] at h; cases h
  | some i =>
    rw [ht] at h
    obtain ⟨k, a, b, c⟩ := i
    cases k <;> try cases h
    rename_i e
    simp only at h ⊢
    cases he : tinf P e with
    | none => rw [he] at h; cases h
    | some ie =>
      rw [he] at h
      simp only at h ⊢
      cases hl : elemsOf H y with
      | none => rw [hl] at h; cases h
      | some new =>
        rw [hl] at h
        rw [elems_more (more_set hs) hl]
        simp only at h ⊢
        split at h
        · cases h
        · rename_i hc
          rw [if_neg hc]
          cases v with
          | nil =>
            cases new with
            | nil => exact fin_same h hs
            | cons n1 nr =>
              simp only at h ⊢
              split at h
              · rename_i hc2; rw [if_pos hc2]; exact fin_new (g := fun n => V.mt e n _ _) h hs
              · cases h
          | mt e' b ver len =>
            simp only at h ⊢
            cases hg : getW H b ver with
            | none => rw [hg] at h; cases h
            | some cs =>
              have hne := getW_ne hg hs
              rw [getW_set_hole hne, hg]
              rw [hg] at h
              try simp only at h ⊢
              split at h
              · rename_i hc2
                rw [if_pos hc2]
                cases new with
                | nil => exact fin_same h hs
                | cons n1 nr => exact fin_set hne h hs
              · cases h
          | _ => cases h

theorem unsafeStr_frm {P : Program} {pt : TypeId} {p n : V} : Frm (fun H => unsafeStr P H pt p n) := fun H q H' s x h hs => by
  unfold unsafeStr at h ⊢
  split at h
  · exact fin_same h hs
  · split at h
    · split at h
      · rename_i ie hie
        try simp only at h ⊢
        split at h
        · rename_i cs hg
          have hne := getW_ne hg hs
          simp only [getW_set_hole hne, hg]
          split at h
          · rename_i hc
            rw [if_pos hc]
            split at h
            · rename_i bs hb
              skip
              exact fin_set hne h hs
            · cases h
          · cases h
        · cases h
      · cases h
    · cases h
  · cases h

theorem eop_frm {f : FuncId} {dst : Option Tmp} {ρ : Operand → Option V} {op : Op} : Frm (fun H => eop E f dst H ρ op) := fun H q H' s x h hs => by
  cases op with
  | alloc e =>
    simp only [eop] at h ⊢
    cases he : tinf E.P e with
    | none => rw [he] at h; cases h
    | some i =>
      rw [he] at h
      try simp only at h ⊢
      split at h
      · rename_i hc
        rw [if_pos hc]
        cases hd : E.tyd e with
        | true => rw [hd] at h; exact fin_new (g := fun n => V.tp e i.zero.cells.length n 0) h hs
        | false => rw [hd] at h; exact fin_new (g := fun n => V.mp n 0 0) h hs
      · cases h
  | box t y =>
    simp only [eop] at h ⊢
    split at h
    · rename_i v d hv
      split at h
      · rename_i hc
        simp only [if_pos hc]
        split at h
        · rename_i hw; simp only [if_pos hw]; exact fin_new (g := fun n => V.mp n 0 0) h hs
        · rename_i hw; simp only [if_neg hw]; exact fin_same h hs
      · cases h
    · cases h
  | buildSlice t len parts =>
    simp only [eop] at h ⊢
    split at h
    · rename_i e a b c l ht hl
      try simp only at h ⊢
      cases he : tinf E.P e with
      | none => rw [he] at h; cases h
      | some ie =>
        rw [he] at h
        try simp only at h ⊢
        split at h
        · rename_i hc
          rw [if_pos hc]
          split at h
          · rename_i hc2; rw [if_pos hc2]; exact fin_same h hs
          · cases h
        · rename_i hc
          rw [if_neg hc]
          split at h
          · cases h
          · rename_i hc2
            rw [if_neg hc2]
            split at h
            · rename_i cs hcs
              try simp only at h ⊢
              split at h
              · rename_i hc3; rw [if_pos hc3]; exact fin_new (g := fun n => V.ms ie.size n cs.length 0 len true) h hs
              · cases h
            · cases h
    · cases h
  | makeSlice t len cap =>
    simp only [eop] at h ⊢
    split at h
    · rename_i e a b c k1 l k2 cc ht hl hcap
      try simp only at h ⊢
      cases he : tinf E.P e with
      | none => rw [he] at h; cases h
      | some ie =>
        rw [he] at h
        try simp only at h ⊢
        split at h
        · rename_i hc
          rw [if_pos hc]
          split at h
          · rename_i hc2
            rw [if_pos hc2]
            split at h
            · rename_i hc3; rw [if_pos hc3]; exact fin_same h hs
            · rename_i hc3; rw [if_neg hc3]; exact fin_new (g := fun n => V.ms ie.size n 0 0 0 false) h hs
          · rename_i hc2
            rw [if_neg hc2]
            exact fin_new (g := fun n => V.ms ie.size n (List.replicate l.toNat ie.zero.cells).flatten.length 0 l.toNat (decide (l = cc))) h hs
        · cases h
    · cases h
  | store t a y =>
    simp only [eop] at h ⊢
    split at h
    · rename_i i b ver off v ht ha hy
      try simp only at h ⊢
      cases hg : getW H b ver with
      | none => rw [hg] at h; cases h
      | some cs =>
        have hne := getW_ne hg hs
        rw [getW_set_hole hne, hg]
        rw [hg] at h
        try simp only at h ⊢
        split at h
        · rename_i hc; rw [if_pos hc]; exact fin_set hne h hs
        · cases h
    · cases h
  | convert src d y =>
    simp only [eop] at h ⊢
    split at h
    · rename_i b i e a c g hy hi hd
      try simp only at h ⊢
      split at h
      · exact fin_new (g := fun n => V.ms 1 n b.length 0 b.length false) h hs
      · cases h
    · cases h
  | call c =>
    simp only [eop] at h ⊢
    split at h
    · rename_i v y hcal hargs
      try simp only at h ⊢
      split at h
      · rename_i t ht
        try simp only at h ⊢
        split at h
        · rename_i u hu
          try simp only at h ⊢
          split at h
          · cases h
          · skip
            split at h
            · rename_i hc; simp only [if_pos hc]; exact appendB_frm H q H' s x h hs
            · rename_i hc; simp only [if_neg hc]; exact appendV_frm H q H' s x h hs
          · cases h
        · cases h
      · cases h
    · rename_i p n hcal hargs
      try simp only at h ⊢
      split at h
      · exact unsafeStr_frm H q H' s x h hs
      · cases h
    · cases h
  | _ => simp [eop] at h

/-- A call that neither looks at nor writes places that are dead. -/
def CallFrm (call : Call) : Prop := ∀ (g : FuncId) (args : List V), Frm (fun H => call g args H)

theorem fzR_frm {f : FuncId} {d : Option Tmp} {op : Op} {F : Heap → Option (V × Heap)} (hF : Frm F) : Frm (fun H => fzR E f d op (F H)) := fun H q H' s x h hs => by
  simp only [fzR] at h ⊢
  split at h
  · rename_i hc
    rw [if_pos hc]
    cases hv : F H with
    | none => rw [hv] at h; cases h
    | some u =>
      obtain ⟨v, H1⟩ := u
      rw [hv] at h
      obtain ⟨hs1, e1⟩ := hF H v H1 s x hv hs
      rw [e1]
      exact frzV_frm 12 v H1 q H' s x h hs1
  · rename_i hc
    rw [if_neg hc]
    exact hF H q H' s x h hs

theorem stepV_frm {call : Call} (hcall : CallFrm call) {f : FuncId} {o : Oper} {ts : List V} : Frm (fun H => stepV E call f o ts H) := by
  unfold stepV
  apply fzR_frm
  intro H q H' s x h hs
  simp only [stepV0] at h ⊢
  cases hc : calleeV (rho E ts) o.op with
  | none => rw [hc] at h; cases h
  | some y =>
    rw [hc] at h
    cases y with
    | some p =>
      obtain ⟨g, args⟩ := p
      simp only [callI] at h ⊢
      by_cases hi : E.idf g = true
      · rw [if_pos hi] at h ⊢
        split at h
        · exact fin_same h hs
        · cases h
      · rw [if_neg hi] at h ⊢
        exact hcall g args H q H' s x h hs
    | none =>
      simp only at h ⊢
      by_cases hE : isE E.P o.op = true
      · rw [if_pos hE] at h ⊢
        exact eop_frm H q H' s x h hs
      · rw [if_neg hE] at h ⊢
        cases hv : qop E H (rho E ts) o.op with
        | none => rw [hv] at h; cases h
        | some v =>
          rw [hv] at h
          rw [qop_more (more_set hs) hv]
          exact fin_same h hs

end Go.Ae

namespace Go.Ae

variable {E : Env}

theorem rho_congr {ops : Array Oper} {o : Oper} {ts ts' : List V} (h : ∀ t ∈ readsOf ops o, ts[t]? = ts'[t]?) : ∀ x ∈ o.op.operands.toList, rho E ts x = rho E ts' x := fun x hx => by
  cases x with
  | tmp t =>
    have := h t (by unfold readsOf; simp only [List.mem_append, List.mem_filterMap]; exact .inl ⟨_, hx, rfl⟩)
    simp [rho, List.getD_eq_getElem?_getD, this]
  | _ => rfl

theorem wanted_congr {ops : Array Oper} {o : Oper} {ts ts' : List V} (h : ∀ t ∈ readsOf ops o, ts[t]? = ts'[t]?) : wantedV ops ts o = wantedV ops ts' o := by
  unfold wantedV
  cases hg : o.guard with
  | none => rfl
  | some p =>
    obtain ⟨j, want⟩ := p
    simp only
    cases hd : (ops[j]?).bind (·.dst) with
    | none => rfl
    | some d =>
      have := h d (by unfold readsOf; simp only [hg, List.mem_append]; exact .inr (by simp [hd]))
      simp [this]

theorem More.refl (H : Heap) : More H H := fun _ _ _ h => h
theorem More.trans {H H' H'' : Heap} (h : More H H') (h' : More H' H'') : More H H'' := fun b v cs q => h' b v cs (h b v cs q)

theorem loadAt_more {H H' : Heap} (hm : More H H') {t : TypeId} {av v : V} (h : loadAt E H t av = some v) : loadAt E H' t av = some v := by
  unfold loadAt at h ⊢
  cases ht : tinf E.P t with
  | none => rw [ht] at h; cases h
  | some i =>
    rw [ht] at h
    cases hb : behind H av with
    | none => rw [hb] at h; cases h
    | some cs =>
      rw [hb] at h
      rw [behind_more hm hb]
      exact h

theorem reads_iff {H : Heap} {t : TypeId} {av v : V} (h : reads E H t av v = true) : loadAt E H t av = some v := by
  unfold reads at h
  cases hl : loadAt E H t av with
  | none => rw [hl] at h; cases h
  | some v' => rw [hl] at h; simp only at h; rw [V.eqb_eq h]
theorem reads_of {H : Heap} {t : TypeId} {av v : V} (h : loadAt E H t av = some v) : reads E H t av v = true := by
  unfold reads; rw [h]; exact V.eqb_refl v
theorem reads_more {H H' : Heap} (hm : More H H') {t : TypeId} {av v : V} (h : reads E H t av v = true) : reads E H' t av v = true := reads_of (loadAt_more hm (reads_iff h))

/-- An entry that says no less. -/
inductive LogE.Le : LogE → LogE → Prop where
  | refl (x : LogE) : LogE.Le x x
  | hp (j : Nat) {H H' : Heap} (h : More H H') : LogE.Le (.hp j H') (.hp j H)

def LogLe (L' L : Log) : Prop := ∀ x ∈ L', ∃ y ∈ L, LogE.Le x y

theorem LogLe.refl (L : Log) : LogLe L L := fun x hx => ⟨x, hx, .refl x⟩
theorem LogLe.append {L' L M' M : Log} (h : LogLe L' L) (h' : LogLe M' M) : LogLe (L' ++ M') (L ++ M) := fun x hx => by
  rcases List.mem_append.1 hx with hx | hx
  · obtain ⟨y, h1, h2⟩ := h x hx; exact ⟨y, List.mem_append.2 (.inl h1), h2⟩
  · obtain ⟨y, h1, h2⟩ := h' x hx; exact ⟨y, List.mem_append.2 (.inr h1), h2⟩
theorem LogE.Le.trans {x y z : LogE} (h : x.Le y) (h' : y.Le z) : x.Le z := by
  cases h with
  | refl => exact h'
  | hp j hm =>
    cases h' with
    | refl => exact .hp j hm
    | hp j' hm' => exact .hp j (hm'.trans hm)
theorem LogLe.trans {L M N : Log} (h : LogLe L M) (h' : LogLe M N) : LogLe L N := fun x hx => by
  obtain ⟨y, h1, h2⟩ := h x hx
  obtain ⟨z, h3, h4⟩ := h' y h1
  exact ⟨z, h3, h2.trans h4⟩
theorem LogLe.sub {L' L : Log} (h : ∀ x ∈ L', x ∈ L) : LogLe L' L := fun x hx => ⟨x, h x hx, .refl x⟩
theorem LogLe.both {L' M' L : Log} (h : LogLe L' L) (h' : LogLe M' L) : LogLe (L' ++ M') L := fun x hx => by
  rcases List.mem_append.1 hx with hx | hx
  · exact h x hx
  · exact h' x hx
theorem LogLe.left {L M : Log} : LogLe L (L ++ M) := .sub fun x hx => List.mem_append.2 (.inl hx)
theorem LogLe.right {L M : Log} : LogLe M (L ++ M) := .sub fun x hx => List.mem_append.2 (.inr hx)

theorem chkE_le {ws : List Nat} {j : Nat} {H H' : Heap} (hm : More H H') {L L' : Log} (hs : LogLe L' L) (h : chkE E ws j H L = true) : chkE E ws j H' L' = true := by
  unfold chkE at h ⊢
  rw [List.all_eq_true] at h ⊢
  intro x hx
  obtain ⟨y, hy, hle⟩ := hs x hx
  cases hle with
  | refl =>
    have := h x hy
    cases x with
    | ld i t av v =>
      simp only [Bool.or_eq_true] at this ⊢
      rcases this with h | h
      · exact .inl h
      · exact .inr (reads_more hm h)
    | hp => rfl
  | hp j hm => rfl

theorem chkL_le {ws : List Nat} {j : Nat} {t : TypeId} {av v : V} {L L' : Log} (hs : LogLe L' L) (h : chkL E ws j t av v L = true) : chkL E ws j t av v L' = true := by
  unfold chkL at h ⊢
  rw [List.all_eq_true] at h ⊢
  intro x hx
  obtain ⟨y, hy, hle⟩ := hs x hx
  cases hle with
  | refl => exact h x hy
  | hp k hm =>
    have := h _ hy
    simp only [Bool.or_eq_true] at this ⊢
    rcases this with h | h
    · exact .inl h
    · exact .inr (reads_more hm h)

theorem chkJ_le {f : FuncId} {o : Oper} {wt : Wt} {j : Nat} {ρ : Operand → Option V} {H H' : Heap} (hm : More H H') {v : V} {L L' : Log} (hs : LogLe L' L) (h : chkJ E f o wt j ρ H v L = true) : chkJ E f o wt j ρ H' v L' = true := by
  unfold chkJ at h ⊢
  split at h
  · split at h
    · exact chkL_le hs h
    · cases h
  · split at h
    · rename_i hk; rw [if_pos hk]; exact chkE_le hm hs h
    · rename_i hk; rw [if_neg hk]

theorem chkJ_congr {f : FuncId} {ops : Array Oper} {o : Oper} {wt : Wt} {j : Nat} {ts ts' : List V} {H : Heap} {v : V} {L : Log} (h : ∀ t ∈ readsOf ops o, ts[t]? = ts'[t]?) : chkJ E f o wt j (rho E ts) H v L = chkJ E f o wt j (rho E ts') H v L := by
  unfold chkJ
  have := rho_congr (E := E) h
  split
  · rename_i t a ho
    rw [this a (by rw [ho]; simp [Op.operands])]
  · rfl

theorem isLoad_spec {o : Oper} (h : isLoad o = true) : ∃ t a, o.op = .load t a := by
  unfold isLoad at h
  split at h
  · rename_i t a ho; exact ⟨t, a, ho⟩
  · cases h

/-- Neither a load nor one that changes the heap. -/
theorem chkJ_ne {f : FuncId} {o : Oper} {wt : Wt} {j : Nat} {ρ : Operand → Option V} {H : Heap} {v : V} {L : Log} (h : kdOf E f o ≠ .e) (hl : isLoad o = false) : chkJ E f o wt j ρ H v L = true := by
  unfold chkJ
  split
  · rename_i t a ho; rw [show isLoad o = true by unfold isLoad; rw [ho]] at hl; cases hl
  · rw [if_neg h]

theorem logX_congr {f : FuncId} {ops : Array Oper} {o : Oper} {wt : Wt} {j : Nat} {ts ts' : List V} {H : Heap} {v : V} (h : ∀ t ∈ readsOf ops o, ts[t]? = ts'[t]?) : logX E f o wt j (rho E ts) H v = logX E f o wt j (rho E ts') H v := by
  unfold logX
  have := rho_congr (E := E) h
  split
  · split
    · rename_i t a ho
      rw [this a (by rw [ho]; simp [Op.operands])]
    · rfl
  · rfl

theorem logX_none {f : FuncId} {o : Oper} {wt : Wt} {j : Nat} {ρ : Operand → Option V} {H : Heap} {v : V} (h : kdOf E f o ≠ .e) (hl : isLoad o = false) : logX E f o wt j ρ H v = [] := by
  unfold logX
  split
  · split
    · rename_i t a ho; rw [show isLoad o = true by unfold isLoad; rw [ho]] at hl; cases hl
    · first | rfl | (rw [if_neg h]) | (rw [if_neg h, if_neg h])
  · rfl

theorem logX_le {f : FuncId} {o : Oper} {wt : Wt} {j : Nat} {ρ : Operand → Option V} {H H' : Heap} (hm : More H H') {v : V} : LogLe (logX E f o wt j ρ H' v) (logX E f o wt j ρ H v) := by
  unfold logX
  split
  · split
    · split
      · exact .refl _
      · exact .refl _
    · split
      · intro x hx
        simp only [List.mem_singleton] at hx
        subst hx
        exact ⟨_, by simp, .hp j hm⟩
      · exact .refl _
  · exact .refl _

theorem load_l {f : FuncId} {o : Oper} (h : isLoad o = true) : kdOf E f o = .l := by
  obtain ⟨t, a, ho⟩ := isLoad_spec h
  unfold kdOf; rw [ho]

theorem logX_heap {f : FuncId} {o : Oper} {wt : Wt} {j : Nat} {ρ : Operand → Option V} {H H' : Heap} {v : V} (h : kdOf E f o ≠ .e) : logX E f o wt j ρ H v = logX E f o wt j ρ H' v := by
  unfold logX
  split
  · split
    · rfl
    · first | rfl | (rw [if_neg h]) | (rw [if_neg h, if_neg h])
  · rfl

theorem chkJ_heap {f : FuncId} {o : Oper} {wt : Wt} {j : Nat} {ρ : Operand → Option V} {H H' : Heap} {v : V} {L : Log} (h : kdOf E f o ≠ .e) : chkJ E f o wt j ρ H v L = chkJ E f o wt j ρ H' v L := by
  unfold chkJ
  split
  · rfl
  · rw [if_neg h, if_neg h]

def oneW (E : Env) (call : Call) (f : FuncId) (ops : Array Oper) (wt : Wt) (base i : Nat) (ts : List V) (H : Heap) (L : Log) : Option (List V × Heap × Log) :=
  match ops[i]? with
  | none => some (ts, H, L)
  | some o => match act E call f ops (slotOf ops base i) o ts H with
    | some (v, H') => if wantedV ops ts o then (if chkJ E f o wt i (rho E ts) H' v L then some (putV ts o.dst v, H', logX E f o wt i (rho E ts) H v ++ L) else none) else some (putV ts o.dst v, H', L)
    | none => none

def runW (E : Env) (call : Call) (f : FuncId) (ops : Array Oper) (wt : Wt) (base : Nat) : List Nat → List V → Heap → Log → Option (List V × Heap)
  | [], ts, H, _ => some (ts, H)
  | i :: r, ts, H, L => match oneW E call f ops wt base i ts H L with
    | some (ts', H', L') => runW E call f ops wt base r ts' H' L'
    | none => none

theorem drawW_run {call : Call} {f : FuncId} {ops : Array Oper} {wt : Wt} {base : Nat} : ∀ (l : List Oper) (k : Nat) (ts : List V) (H : Heap) (L : Log), (∀ j, l[j]? = ops[k + j]?) →
    drawW E call f ops wt k (slotOf ops base k) l ts H L = runW E call f ops wt base (List.range' k l.length) ts H L
  | [], k, ts, H, L, _ => rfl
  | o :: rest, k, ts, H, L, h => by
    have h0 : ops[k]? = some o := by simpa using (h 0).symm
    have ih := fun ts H L => drawW_run (call := call) (f := f) (wt := wt) (base := base) rest (k + 1) ts H L (fun j => by have := h (j + 1); simpa [Nat.add_assoc, Nat.add_comm 1 j] using this)
    simp only [slot_succ h0] at ih
    simp only [drawW, List.length_cons, List.range'_succ, runW, oneW, h0, act]
    by_cases hw : wantedV ops ts o = true
    · simp only [hw, if_true]
      cases stepD E call f (slotOf ops base k) o ts H with
      | none => rfl
      | some p =>
        obtain ⟨v, H'⟩ := p
        simp only
        by_cases hc : chkJ E f o wt k (rho E ts) H' v L = true
        · simp only [hc, if_true]; exact ih _ _ _
        · simp only [hc, if_false, Bool.false_eq_true]
    · simp only [hw, if_false, Bool.false_eq_true]
      exact ih _ _ _

/-- No load is watched: the plain draw. -/
theorem drawW_nil {call : Call} {f : FuncId} {ops : Array Oper} : ∀ (l : List Oper) (k s : Nat) (ts : List V) (H : Heap), drawW E call f ops [] k s l ts H [] = drawV E call f ops s l ts H
  | [], _, _, _, _ => rfl
  | o :: rest, k, s, ts, H => by
    have hl : ∀ v, logX E f o [] k (rho E ts) H v = [] := fun v => rfl
    simp only [drawW, drawV, hl, List.append_nil]
    by_cases hw : wantedV ops ts o = true
    · simp only [hw, if_true]
      cases hs : stepD E call f s o ts H with
      | none => rfl
      | some p =>
        obtain ⟨v, H'⟩ := p
        have hc : chkJ E f o [] k (rho E ts) H' v [] = true := by
          unfold chkJ
          split
          · rename_i t a ho
            cases hr : rho E ts a with
            | some av => rfl
            | none =>
              exfalso
              have hk : kdOf E f o = .l := load_l (by unfold isLoad; rw [ho])
              unfold stepD at hs
              rw [hk] at hs
              have hq : quietArgs E (rho E ts) o.op = true := by rw [ho]; rfl
              simp only [hq, if_true] at hs
              rw [stepV_eq0 (by rw [ho]; rfl)] at hs
              unfold stepV0 at hs
              rw [ho] at hs
              simp only [calleeV, isE, Bool.false_eq_true, if_false, qop, hr] at hs
              cases ht : tinf E.P t <;> rw [ht] at hs <;> cases hs
          · split <;> rfl
        simp only [hc, if_true]
        exact drawW_nil rest _ _ _ _
    · simp only [hw, if_false, Bool.false_eq_true]
      exact drawW_nil rest _ _ _ _

theorem drawOkW_nil {f : FuncId} {ops : Array Oper} (h : drawOk E f ops = true) : drawOkW E f ops [] = true := by
  unfold drawOk at h
  unfold drawOkW
  rw [List.all_eq_true] at h ⊢
  intro j hj
  have := h j hj
  simp only [Bool.and_eq_true] at this ⊢
  refine ⟨this.1, ?_⟩
  have h2 := this.2
  rw [List.all_eq_true] at h2 ⊢
  intro i hi
  have := h2 i hi
  simp only [Bool.or_eq_true, Bool.and_eq_true] at this ⊢
  rcases this with h | h
  · exact .inl h
  · refine .inr ⟨h.1, ?_⟩
    unfold pairW
    rw [h.2]; rfl

theorem one_sub {call : Call} {f : FuncId} {ops : Array Oper} {wt : Wt} {base i : Nat} {ts ts1 : List V} {H H1 : Heap} {L L' L1 : Log} (hs : LogLe L' L)
    (h : oneW E call f ops wt base i ts H L = some (ts1, H1, L1)) : ∃ L1', oneW E call f ops wt base i ts H L' = some (ts1, H1, L1') ∧ LogLe L1' L1 := by
  unfold oneW at h ⊢
  cases ho : ops[i]? with
  | none => rw [ho] at h; simp only [Option.some.injEq, Prod.mk.injEq] at h; obtain ⟨rfl, rfl, rfl⟩ := h; exact ⟨L', rfl, hs⟩
  | some o =>
    rw [ho] at h
    simp only at h ⊢
    cases ha : act E call f ops (slotOf ops base i) o ts H with
    | none => rw [ha] at h; cases h
    | some u =>
      obtain ⟨v, H'⟩ := u
      rw [ha] at h
      simp only at h ⊢
      by_cases hw : wantedV ops ts o = true
      · simp only [hw, if_true] at h ⊢
        by_cases hc : chkJ E f o wt i (rho E ts) H' v L = true
        · rw [if_pos hc] at h
          simp only [Option.some.injEq, Prod.mk.injEq] at h; obtain ⟨rfl, rfl, rfl⟩ := h
          rw [if_pos (chkJ_le (.refl _) hs hc)]
          exact ⟨_, rfl, LogLe.append (.refl _) hs⟩
        · rw [if_neg hc] at h; cases h
      · simp only [hw, if_false, Bool.false_eq_true] at h ⊢
        simp only [Option.some.injEq, Prod.mk.injEq] at h; obtain ⟨rfl, rfl, rfl⟩ := h
        exact ⟨_, rfl, hs⟩

theorem run_sub {call : Call} {f : FuncId} {ops : Array Oper} {wt : Wt} {base : Nat} {res : List V × Heap} : ∀ (l : List Nat) (ts : List V) (H : Heap) (L L' : Log), LogLe L' L →
    runW E call f ops wt base l ts H L = some res → runW E call f ops wt base l ts H L' = some res
  | [], _, _, _, _, _, h => h
  | i :: r, ts, H, L, L', hs, h => by
    simp only [runW] at h ⊢
    cases h1 : oneW E call f ops wt base i ts H L with
    | none => rw [h1] at h; cases h
    | some q =>
      obtain ⟨ts1, H1, L1⟩ := q
      rw [h1] at h
      obtain ⟨L1', e, hs'⟩ := one_sub hs h1
      rw [e]
      exact run_sub r ts1 H1 L1 L1' hs' h

theorem wOf_mem {wt : Wt} {j i : Nat} (h : (wOf wt j).contains i = true) : wt.any (fun x => x.2.contains i) = true := by
  unfold wOf at h
  induction wt with
  | nil => simp at h
  | cons x r ih =>
    obtain ⟨k, l⟩ := x
    simp only [List.lookup_cons] at h
    simp only [List.any_cons, Bool.or_eq_true]
    cases hk : (j == k) with
    | true => rw [hk] at h; exact .inl h
    | false => rw [hk] at h; exact .inr (ih h)

end Go.Ae

namespace Go.Ae

variable {E : Env}

theorem logX_ld {f : FuncId} {o : Oper} {wt : Wt} {j : Nat} {ρ : Operand → Option V} {H : Heap} {v : V} (h : kdOf E f o ≠ .e) : ∀ x ∈ logX E f o wt j ρ H v, ∃ t av, x = .ld j t av v := by
  intro x hx
  unfold logX at hx
  split at hx
  · split at hx
    · split at hx
      · simp only [List.mem_singleton] at hx; exact ⟨_, _, hx⟩
      · cases hx
    · first | cases hx | (rw [if_neg h] at hx; cases hx)
  · cases hx

theorem logX_at {f : FuncId} {o : Oper} {wt : Wt} {j : Nat} {ρ : Operand → Option V} {H : Heap} {v : V} : ∀ x ∈ logX E f o wt j ρ H v, (∃ t av, x = .ld j t av v) ∨ x = .hp j H := by
  intro x hx
  unfold logX at hx
  split at hx
  · split at hx
    · split at hx
      · simp only [List.mem_singleton] at hx; exact .inl ⟨_, _, hx⟩
      · cases hx
    · split at hx
      · simp only [List.mem_singleton] at hx; exact .inr hx
      · cases hx
  · cases hx

/-- What a later operation adds is no matter to an earlier one. -/
theorem chkJ_later {f f' : FuncId} {o o' : Oper} {wt : Wt} {i p : Nat} (hpi : p < i) {ρ ρ' : Operand → Option V} {H H' : Heap} {v v' : V} {L M : Log} (hM : ∀ x ∈ M, (∃ t av u, x = .ld i t av u) ∨ ∃ K, x = .hp i K) (h : chkJ E f o wt p ρ H v L = true) : chkJ E f o wt p ρ H v (M ++ L) = true := by
  unfold chkJ at h ⊢
  have hne : ¬ i < p := by omega
  split at h
  · split at h
    · unfold chkL at h ⊢
      rw [List.all_append, Bool.and_eq_true]
      refine ⟨List.all_eq_true.2 fun x hx => ?_, h⟩
      rcases hM x hx with ⟨t, av, u, rfl⟩ | ⟨K, rfl⟩
      · rfl
      · simp [hne]
    · cases h
  · split at h
    · rename_i hk
      rw [if_pos hk]
      unfold chkE at h ⊢
      rw [List.all_append, Bool.and_eq_true]
      refine ⟨List.all_eq_true.2 fun x hx => ?_, h⟩
      rcases hM x hx with ⟨t, av, u, rfl⟩ | ⟨K, rfl⟩
      · simp [hne]
      · rfl
    · rename_i hk; rw [if_neg hk]

theorem act_stays {call : Call} (hst : CallStays E call) {f : FuncId} {ops : Array Oper} {s : Nat} {o : Oper} {ts : List V} {H H' : Heap} {v : V} (ho : wantedV ops ts o = false ∨ kdOf E f o = .n ∨ kdOf E f o = .l) (h : act E call f ops s o ts H = some (v, H')) : H' = H := by
  unfold act at h
  by_cases hw : wantedV ops ts o = true
  · rw [if_pos hw] at h
    rcases ho with ho | ho | ho
    · rw [hw] at ho; cases ho
    · obtain ⟨r, hr⟩ := n_kind (call := call) (s := s) (ts := ts) ho
      rw [hr] at h
      cases r with
      | none => cases h
      | some u => injection h with h; injection h with _ h; exact h.symm
    · exact (l_kind hst ho h).1
  · rw [if_neg hw] at h; injection h with h; injection h with _ h; exact h.symm

/-- An operation that may do anything: places that are dead. -/
theorem act_frm {call : Call} (hfr : CallFrm call) {f : FuncId} {ops : Array Oper} {s : Nat} {o : Oper} {ts : List V} (hk : kdOf E f o = .e) : Frm (fun H => act E call f ops s o ts H) := by
  unfold act
  by_cases hw : wantedV ops ts o = true
  · simp only [if_pos hw, stepD, hk]
    exact stepV_frm hfr
  · simp only [if_neg hw]
    exact .ret _

theorem act_hole {call : Call} (hst : CallStays E call) (hfr : CallFrm call) {f : FuncId} {ops : Array Oper} {s q : Nat} {o : Oper} {ts : List V} {H H' : Heap} {v : V} (h : act E call f ops s o ts H = some (v, H')) (hq : H[q]? = some none) (hne : isAlloc o = true → s ≠ q) : H'[q]? = some none := by
  by_cases hw : wantedV ops ts o = true
  · cases hk : kdOf E f o with
    | n => rw [act_stays hst (.inr (.inl hk)) h]; exact hq
    | l => rw [act_stays hst (.inr (.inr hk)) h]; exact hq
    | a =>
      unfold act at h
      rw [if_pos hw] at h
      obtain ⟨e, i, _, _, _, _, _, rfl, _⟩ := a_kind hk h
      rw [List.getElem?_set_ne (hne (kd_alloc.1 hk))]; exact hq
    | e => exact (act_frm hfr hk H v H' q none h hq).1
  · rw [act_stays hst (.inl (by simpa using hw)) h]; exact hq

/-- A load does what it does. -/
theorem load_act {call : Call} {f : FuncId} {ops : Array Oper} {s : Nat} {o : Oper} {ts : List V} (hl : isLoad o = true) (hw : wantedV ops ts o = true) : ∃ t a, o.op = .load t a ∧ ∀ H, act E call f ops s o ts H = (match rho E ts a with
    | some av => (loadAt E H t av).map fun v => (v, H)
    | none => none) := by
  obtain ⟨t, a, ho⟩ := isLoad_spec hl
  refine ⟨t, a, ho, fun H => ?_⟩
  unfold act
  rw [if_pos hw]
  unfold stepD
  rw [load_l hl]
  have hq : quietArgs E (rho E ts) o.op = true := by rw [ho]; rfl
  simp only [hq, if_true]
  rw [stepV_eq0 (by rw [ho]; rfl)]
  unfold stepV0
  rw [ho]
  simp only [calleeV, isE, Bool.false_eq_true, if_false, qop]
  cases hr : rho E ts a with
  | none => cases ht : tinf E.P t <;> rfl
  | some av =>
    simp only [loadAt]
    cases ht : tinf E.P t with
    | none => rfl
    | some ty =>
      simp only
      cases behind H av <;> rfl

/-- The pair, the other way round. -/
structure Swp (E : Env) (call : Call) (f : FuncId) (ops : Array Oper) (wt : Wt) (sp si p i : Nat) (op oi : Oper) (ts : List V) (H H1 H2 : Heap) (vp vi : V) (L : Log) : Prop where
  ex : ∃ H1', act E call f ops si oi ts H = some (vi, H1') ∧ act E call f ops sp op ts H1' = some (vp, H2) ∧
    (wantedV ops ts oi = true → chkJ E f oi wt i (rho E ts) H1' vi L = true) ∧
    (wantedV ops ts op = true → chkJ E f op wt p (rho E ts) H2 vp L = true) ∧
    LogLe (logX E f op wt p (rho E ts) H1' vp) (logX E f op wt p (rho E ts) H vp) ∧
    LogLe (logX E f oi wt i (rho E ts) H vi) (logX E f oi wt i (rho E ts) H1 vi)

theorem swp {call : Call} (hst : CallStays E call) (hfr : CallFrm call) {f : FuncId} {ops : Array Oper} {wt : Wt} {sp si p i : Nat} {op oi : Oper} (hss : isAlloc op = true → isAlloc oi = true → sp ≠ si) (hpi : p < i)
    (hap : apartV ops op oi = true) (hpk : (pairOk (kdOf E f op) (kdOf E f oi) || (isLoad op && kdOf E f oi == .e && (wOf wt i).contains p) || (kdOf E f op == .e && isLoad oi && (wOf wt i).contains p) || (kdOf E f op == .e && kdOf E f oi == .a)) = true)
    {ts : List V} {H H1 H2 : Heap} {vp vi : V} {L L1 : Log} (hh : isAlloc oi = true → H[si]? = some none)
    (a1 : act E call f ops sp op ts H = some (vp, H1)) (a2 : act E call f ops si oi ts H1 = some (vi, H2))
    (hLs : LogLe L L1) (hpw : wantedV ops ts op = true → chkJ E f op wt p (rho E ts) H1 vp L = true ∧ L1 = logX E f op wt p (rho E ts) H vp ++ L)
    (hiw : wantedV ops ts oi = true → chkJ E f oi wt i (rho E ts) H2 vi L1 = true)
    (s1' : ∀ (hA : pairOk (kdOf E f op) (kdOf E f oi) = true), ∃ H1', act E call f ops si oi ts H = some (vi, H1') ∧ act E call f ops sp op ts H1' = some (vp, H2)) : Swp E call f ops wt sp si p i op oi ts H H1 H2 vp vi L := by
  by_cases hA : pairOk (kdOf E f op) (kdOf E f oi) = true
  · obtain ⟨H1', s1, s2⟩ := s1' hA
    have hpe : kdOf E f op = .e → kdOf E f oi = .n := fun hk => by
      rw [hk] at hA
      cases hq : kdOf E f oi <;> rw [hq] at hA <;> first | rfl | cases hA
    have hie : kdOf E f oi = .e → kdOf E f op = .n := fun hk => by
      rw [hk] at hA
      cases hq : kdOf E f op <;> rw [hq] at hA <;> first | rfl | cases hA
    refine ⟨H1', s1, s2, fun hw => ?_, fun hw => ?_, ?_, ?_⟩
    · by_cases hk : kdOf E f oi = .e
      · have : H1 = H := act_stays hst (.inr (.inl (hie hk))) a1
        rw [this, s1] at a2
        injection a2 with a2; injection a2 with _ a2
        rw [a2]
        exact chkJ_le (.refl _) hLs (hiw hw)
      · rw [chkJ_heap (H' := H2) hk]
        exact chkJ_le (.refl _) hLs (hiw hw)
    · by_cases hk : kdOf E f op = .e
      · have : H2 = H1 := act_stays hst (.inr (.inl (hpe hk))) a2
        rw [this]; exact (hpw hw).1
      · rw [chkJ_heap (H' := H1) hk]; exact (hpw hw).1
    · by_cases hk : kdOf E f op = .e
      · have : H1' = H := act_stays hst (.inr (.inl (hpe hk))) s1
        rw [this]; exact .refl _
      · rw [logX_heap (H' := H) hk]; exact .refl _
    · by_cases hk : kdOf E f oi = .e
      · have : H1 = H := act_stays hst (.inr (.inl (hie hk))) a1
        rw [this]; exact .refl _
      · rw [logX_heap (H' := H1) hk]; exact .refl _
  · have hA' : pairOk (kdOf E f op) (kdOf E f oi) = false := by simpa using hA
    simp only [hA', Bool.false_or, Bool.or_eq_true, Bool.and_eq_true, beq_iff_eq] at hpk
    rcases hpk with (⟨⟨hload, hki⟩, hwm⟩ | ⟨⟨hkp, hload⟩, hwm⟩) | ⟨hkp, hki⟩
    · -- a watched load ahead
      have hkp := load_l (E := E) (f := f) hload
      have : H1 = H := act_stays hst (.inr (.inr hkp)) a1
      subst this
      have hkp' : kdOf E f op ≠ .e := by rw [hkp]; simp
      refine ⟨H2, a2, ?_, fun hw => chkJ_le (.refl _) hLs (hiw hw), fun hw => by rw [chkJ_heap (H' := H1) hkp']; exact (hpw hw).1, by rw [logX_heap (H' := H1) hkp']; exact .refl _, .refl _⟩
      by_cases hwi : wantedV ops ts oi = true
      · by_cases hwp : wantedV ops ts op = true
        · have hck := hiw hwi
          rw [(hpw hwp).2] at hck
          obtain ⟨t, x, ho, hst'⟩ := load_act (E := E) (call := call) (f := f) (s := sp) hload hwp
          rw [hst'] at a1 ⊢
          cases hr : rho E ts x with
          | none => rw [hr] at a1; cases a1
          | some av =>
            rw [hr] at a1
            simp only at a1 ⊢
            have hin : LogE.ld p t av vp ∈ logX E f op wt p (rho E ts) H1 vp := by
              unfold logX
              rw [if_pos (wOf_mem hwm), ho]
              simp only [hr]
              simp
            have hck' : chkE E (wOf wt i) i H2 (logX E f op wt p (rho E ts) H1 vp ++ L) = true := by
              unfold chkJ at hck
              split at hck
              · rename_i t' a' ho'
                rw [load_l (E := E) (f := f) (show isLoad oi = true by unfold isLoad; rw [ho'])] at hki
                cases hki
              · rw [if_pos hki] at hck; exact hck
            unfold chkE at hck'
            rw [List.all_eq_true] at hck'
            have := hck' _ (List.mem_append.2 (.inl hin))
            simp only [hwm, hpi, decide_true, Bool.and_true, Bool.not_true, Bool.false_or] at this
            rw [reads_iff this]; rfl
        · unfold act
          unfold act at a1
          rw [if_neg hwp] at a1 ⊢
          injection a1 with a1; injection a1 with a1 _; rw [a1]
      · have : H2 = H1 := act_stays hst (.inl (by simpa using hwi)) a2
        rw [this]; exact a1
    · -- a load behind one that is watched
      have hki := load_l (E := E) (f := f) hload
      have hki' : kdOf E f oi ≠ .e := by rw [hki]; simp
      have : H2 = H1 := act_stays hst (.inr (.inr hki)) a2
      subst this
      refine ⟨H, ?_, a1, fun hw => by rw [chkJ_heap (H' := H2) hki']; exact chkJ_le (.refl _) hLs (hiw hw), fun hw => (hpw hw).1, .refl _, by rw [logX_heap (H' := H2) hki']; exact .refl _⟩
      by_cases hwi : wantedV ops ts oi = true
      · by_cases hwp : wantedV ops ts op = true
        · have hck := hiw hwi
          rw [(hpw hwp).2] at hck
          obtain ⟨t, x, ho, hst'⟩ := load_act (E := E) (call := call) (f := f) (s := si) hload hwi
          rw [hst'] at a2 ⊢
          cases hr : rho E ts x with
          | none => rw [hr] at a2; cases a2
          | some av =>
            simp only
            have hin : LogE.hp p H ∈ logX E f op wt p (rho E ts) H vp := by
              unfold logX
              rw [if_pos (wOf_mem hwm)]
              cases hop : op.op with
              | load t' a' =>
                rw [load_l (E := E) (f := f) (show isLoad op = true by unfold isLoad; rw [hop])] at hkp
                cases hkp
              | _ => simp only [if_pos hkp]; simp
            have hck' : chkL E (wOf wt i) i t av vi (logX E f op wt p (rho E ts) H vp ++ L) = true := by
              unfold chkJ at hck
              rw [ho] at hck
              simp only [hr] at hck
              exact hck
            unfold chkL at hck'
            rw [List.all_eq_true] at hck'
            have := hck' _ (List.mem_append.2 (.inl hin))
            simp only [hwm, hpi, decide_true, Bool.and_true, Bool.not_true, Bool.false_or] at this
            rw [reads_iff this]; rfl
        · have : H2 = H := act_stays hst (.inl (by simpa using hwp)) a1
          rw [← this]; exact a2
      · unfold act
        unfold act at a2
        rw [if_neg hwi] at a2 ⊢
        injection a2 with a2; injection a2 with a2 _; rw [a2]
    · -- a variable that is made
      have hal := kd_alloc.1 hki
      have hh := hh hal
      have hil : isLoad oi = false := by
        cases hq : isLoad oi with
        | false => rfl
        | true => rw [load_l (E := E) (f := f) hq] at hki; cases hki
      have hki' : kdOf E f oi ≠ .e := by rw [hki]; simp
      by_cases hwi : wantedV ops ts oi = true
      · have a2' := a2
        unfold act at a2'
        rw [if_pos hwi] at a2'
        obtain ⟨e, ti, _, _, _, hsn, rfl, rfl, hre⟩ := a_kind hki a2'
        obtain ⟨f1, f2⟩ := act_frm hfr hkp H vp H1 si (newBlk 0 ti.zero.cells) a1 hh
        refine ⟨_, ?_, f2, fun _ => chkJ_ne hki' hil, fun hw => chkJ_le (more_set hsn) (.refl _) (hpw hw).1, logX_le (more_set hh), by rw [logX_none hki' hil]; exact fun x hx => by cases hx⟩
        unfold act
        rw [if_pos hwi]
        exact hre H hh
      · have : H2 = H1 := act_stays hst (.inl (by simpa using hwi)) a2
        subst this
        refine ⟨H, ?_, a1, fun _ => chkJ_ne hki' hil, fun hw => (hpw hw).1, .refl _, by rw [logX_none hki' hil]; exact fun x hx => by cases hx⟩
        unfold act
        unfold act at a2
        rw [if_neg hwi] at a2 ⊢
        injection a2 with a2; injection a2 with a2 _; rw [a2]

end Go.Ae

namespace Go.Ae

variable {E : Env}

/-- What one operation leaves. -/
theorem oneW_some {call : Call} {f : FuncId} {ops : Array Oper} {wt : Wt} {base i : Nat} {o : Oper} (ho : ops[i]? = some o) {ts ts1 : List V} {H H1 : Heap} {L L1 : Log}
    (h : oneW E call f ops wt base i ts H L = some (ts1, H1, L1)) : ∃ v, act E call f ops (slotOf ops base i) o ts H = some (v, H1) ∧ ts1 = putV ts o.dst v ∧
      (wantedV ops ts o = true → chkJ E f o wt i (rho E ts) H1 v L = true ∧ L1 = logX E f o wt i (rho E ts) H v ++ L) ∧ (wantedV ops ts o = false → L1 = L) := by
  unfold oneW at h
  rw [ho] at h
  simp only at h
  cases ha : act E call f ops (slotOf ops base i) o ts H with
  | none => rw [ha] at h; cases h
  | some u =>
    obtain ⟨v, H'⟩ := u
    rw [ha] at h
    simp only at h
    by_cases hw : wantedV ops ts o = true
    · simp only [hw, if_true] at h
      by_cases hc : chkJ E f o wt i (rho E ts) H' v L = true
      · rw [if_pos hc] at h
        simp only [Option.some.injEq, Prod.mk.injEq] at h; obtain ⟨rfl, rfl, rfl⟩ := h
        exact ⟨v, rfl, rfl, fun _ => ⟨hc, rfl⟩, fun q => by rw [hw] at q; cases q⟩
      · rw [if_neg hc] at h; cases h
    · simp only [hw, if_false, Bool.false_eq_true] at h
      simp only [Option.some.injEq, Prod.mk.injEq] at h; obtain ⟨rfl, rfl, rfl⟩ := h
      exact ⟨v, rfl, rfl, fun q => absurd q hw, fun _ => rfl⟩

theorem oneW_of {call : Call} {f : FuncId} {ops : Array Oper} {wt : Wt} {base i : Nat} {o : Oper} (ho : ops[i]? = some o) {ts : List V} {H H1 : Heap} {L : Log} {v : V}
    (ha : act E call f ops (slotOf ops base i) o ts H = some (v, H1)) (hc : wantedV ops ts o = true → chkJ E f o wt i (rho E ts) H1 v L = true) :
    oneW E call f ops wt base i ts H L = some (putV ts o.dst v, H1, (if wantedV ops ts o then logX E f o wt i (rho E ts) H v else []) ++ L) := by
  unfold oneW
  rw [ho]
  simp only [ha]
  by_cases hw : wantedV ops ts o = true
  · simp only [hw, if_true]
    rw [if_pos (hc hw)]
  · simp only [hw, if_false, Bool.false_eq_true, List.nil_append]

theorem swap_W {call : Call} (hst : CallStays E call) (hfr : CallFrm call) {f : FuncId} {ops : Array Oper} {wt : Wt} {base p i : Nat} (hi : i < ops.size) (hpi : p < i)
    (hap : apartV ops (ops.getD p default) (ops.getD i default) = true) (hpk : pairW E f ops wt p i = true) {ts ts1 ts2 : List V} {H H1 H2 : Heap} {L L1 L2 : Log} (hh : isAlloc (ops.getD i default) = true → H[slotOf ops base i]? = some none)
    (h1 : oneW E call f ops wt base p ts H L = some (ts1, H1, L1)) (h2 : oneW E call f ops wt base i ts1 H1 L1 = some (ts2, H2, L2)) :
    ∃ ts1' H1' L1' L2', oneW E call f ops wt base i ts H L = some (ts1', H1', L1') ∧ oneW E call f ops wt base p ts1' H1' L1' = some (ts2, H2, L2') ∧ LogLe L2' L2 := by
  have hps : p < ops.size := by omega
  have ep : ops[p]? = some (ops.getD p default) := by simp [Array.getD, hps]
  have ei : ops[i]? = some (ops.getD i default) := by simp [Array.getD, hi]
  unfold pairW at hpk
  generalize ops.getD p default = op at *
  generalize ops.getD i default = oi at *
  obtain ⟨ha1, ha2⟩ := apart_spec hap
  obtain ⟨vp, a1, rfl, hpw, hpu⟩ := oneW_some ep h1
  obtain ⟨vi, a2, rfl, hiw, hiu⟩ := oneW_some ei h2
  have gi : ∀ t ∈ readsOf ops oi, (putV ts op.dst vp)[t]? = ts[t]? := fun t ht => putV_get (fun q => (ha1 t q).1 ht)
  have gp : ∀ t ∈ readsOf ops op, (putV ts oi.dst vi)[t]? = ts[t]? := fun t ht => putV_get (fun q => ha2 t q ht)
  have wi := wanted_congr gi
  have wp := wanted_congr gp
  have hput : putV (putV ts op.dst vp) oi.dst vi = putV (putV ts oi.dst vi) op.dst vp := putV_comm (fun d hd => (ha1 d hd).2)
  have hss : isAlloc op = true → isAlloc oi = true → slotOf ops base p ≠ slotOf ops base i := fun q1 _ => Nat.ne_of_lt (slot_mono ep q1 hpi)
  have sw := fun hA => swap_one (ops := ops) (f := f) hst hss hap hA a1 a2
  have e1 : ∀ H, act E call f ops (slotOf ops base p) op (putV ts oi.dst vi) H = act E call f ops (slotOf ops base p) op ts H := fun H => act_congr gp
  rw [act_congr gi] at a2
  rw [wi] at hiw hiu
  have hLs : LogLe L L1 := by
    cases hw : wantedV ops ts op with
    | true => rw [(hpw hw).2]; exact .right
    | false => rw [hpu hw]; exact .refl _
  obtain ⟨H1', s1, s2, s3, s4, s5, s6⟩ := (swp (wt := wt) hst hfr hss hpi hap hpk hh a1 a2 hLs hpw (fun hw => by rw [← chkJ_congr gi]; exact (hiw hw).1) (fun hA => by
    obtain ⟨K, q1, q2, _⟩ := sw hA
    rw [e1] at q2
    exact ⟨K, q1, q2⟩)).ex
  have o1 := oneW_of (L := L) ei s1 s3
  have hM : ∀ x ∈ (if wantedV ops ts oi then logX E f oi wt i (rho E ts) H vi else []), (∃ t av u, x = LogE.ld i t av u) ∨ ∃ K, x = LogE.hp i K := fun x hx => by
    split at hx
    · rcases logX_at x hx with ⟨t, av, q⟩ | q
      · exact .inl ⟨t, av, vi, q⟩
      · exact .inr ⟨H, q⟩
    · cases hx
  have o2 := oneW_of (wt := wt) (L := (if wantedV ops ts oi then logX E f oi wt i (rho E ts) H vi else []) ++ L) ep (by rw [e1]; exact s2) (fun hw => by
    rw [wp] at hw
    rw [chkJ_congr gp]
    exact chkJ_later (f' := f) (o' := oi) (ρ' := rho E ts) (H' := H) (v' := vi) hpi hM (s4 hw))
  rw [← hput] at o2
  refine ⟨_, _, _, _, o1, o2, ?_⟩
  rw [wp, logX_congr gp]
  -- the log
  have l1 : LogLe ((if wantedV ops ts op then logX E f op wt p (rho E ts) H1' vp else []) ++ L) L1 := by
    cases hw : wantedV ops ts op with
    | true => rw [(hpw hw).2]; simp only [if_true]; exact .append s5 (.refl _)
    | false => rw [hpu hw]; simp only [Bool.false_eq_true, if_false, List.nil_append]; exact .refl _
  have l2 : LogLe ((if wantedV ops ts oi then logX E f oi wt i (rho E ts) H vi else []) ++ L1) L2 := by
    cases hw : wantedV ops ts oi with
    | true => rw [(hiw hw).2, logX_congr gi]; simp only [if_true]; exact .append s6 (.refl _)
    | false => rw [hiu hw]; simp only [Bool.false_eq_true, if_false, List.nil_append]; exact .refl _
  refine .both ?_ (.both ?_ ?_)
  · exact (LogLe.left.trans l1).trans (LogLe.right.trans l2)
  · exact LogLe.left.trans l2
  · exact (hLs).trans (LogLe.right.trans l2)

/-- Later operations that no edge orders may come up first. -/
theorem move_W {call : Call} (hst : CallStays E call) (hfr : CallFrm call) {f : FuncId} {ops : Array Oper} {wt : Wt} {base i : Nat} (hi : i < ops.size) : ∀ (pre : List Nat) (post : List Nat) (ts : List V) (H : Heap) (L : Log) (res : List V × Heap),
    (isAlloc (ops.getD i default) = true → H[slotOf ops base i]? = some none) →
    (∀ p ∈ pre, p < i ∧ apartV ops (ops.getD p default) (ops.getD i default) = true ∧ pairW E f ops wt p i = true) →
    runW E call f ops wt base (pre ++ i :: post) ts H L = some res → runW E call f ops wt base (i :: (pre ++ post)) ts H L = some res
  | [], post, ts, H, L, res, _, _, h => h
  | p :: r, post, ts, H, L, res, hh, hp, h => by
    obtain ⟨hpi, hap, hpk⟩ := hp p (by simp)
    have hps : p < ops.size := by omega
    have ep : ops[p]? = some (ops.getD p default) := by simp [Array.getD, hps]
    simp only [List.cons_append, runW] at h
    cases h1 : oneW E call f ops wt base p ts H L with
    | none => rw [h1] at h; cases h
    | some q =>
      obtain ⟨ts1, H1, L1⟩ := q
      rw [h1] at h
      simp only at h
      have hh1 : isAlloc (ops.getD i default) = true → H1[slotOf ops base i]? = some none := fun hal => by
        obtain ⟨v, ha, _⟩ := oneW_some ep h1
        exact act_hole hst hfr ha (hh hal) (fun q => Nat.ne_of_lt (slot_mono ep q hpi))
      have h := move_W hst hfr hi r post ts1 H1 L1 res hh1 (fun x hx => hp x (by simp [hx])) h
      simp only [runW] at h
      cases h2 : oneW E call f ops wt base i ts1 H1 L1 with
      | none => rw [h2] at h; cases h
      | some q =>
        obtain ⟨ts2, H2, L2⟩ := q
        rw [h2] at h
        simp only at h
        obtain ⟨ts1', H1', L1', L2', s1, s2, s3⟩ := swap_W hst hfr hi hpi hap hpk hh h1 h2
        simp only [runW, List.cons_append, s1, s2]
        exact run_sub _ _ _ _ _ s3 h

end Go.Ae

namespace Go.Ae

variable {E : Env}

/-- The operations that have not come up yet. -/
def rem (ops : Array Oper) (listed : Array Bool) : List Nat := (List.range ops.size).filter fun i => !listed.getD i true

/-- Nothing has come up ahead of what it waits for. -/
def Closed (ops : Array Oper) (listed : Array Bool) : Prop :=
  ∀ j o, ops[j]? = some o → listed.getD j true = true → ∀ e ∈ o.after.toList, Region.binds .any e = true → listed.getD e.on false = true

theorem drawOk_edges {f : FuncId} {ops : Array Oper} {wt : Wt} (h : drawOkW E f ops wt = true) {j : Nat} {o : Oper} (hj : ops[j]? = some o) : ∀ e ∈ o.after.toList, Region.binds .any e = true → e.on < j := by
  have hjs : j < ops.size := (Array.getElem?_eq_some_iff.1 hj).1
  have ho : ops.getD j default = o := by
    have := (Array.getElem?_eq_some_iff.1 hj).2
    simp [Array.getD, hjs, this]
  unfold drawOkW at h
  rw [List.all_eq_true] at h
  have := h j (by simpa using hjs)
  simp only [Bool.and_eq_true] at this
  rw [ho, List.all_eq_true] at this
  intro e he hb
  have := this.1 e he
  simpa [hb] using this

theorem drawOk_pair {f : FuncId} {ops : Array Oper} {wt : Wt} (h : drawOkW E f ops wt = true) {i j : Nat} (hj : j < ops.size) (hij : i < j) :
    ordV (Region.before ops) i j = true ∨ (apartV ops (ops.getD i default) (ops.getD j default) = true ∧ pairW E f ops wt i j = true) := by
  unfold drawOkW at h
  rw [List.all_eq_true] at h
  have := h j (by simpa using hj)
  simp only [Bool.and_eq_true] at this
  have := (List.all_eq_true.1 this.2) i (by simpa using hij)
  simpa [Bool.or_eq_true, Bool.and_eq_true] using this

theorem before_size (ops : Array Oper) : (Region.before ops).size = ops.size := by
  unfold Region.before
  rw [← Array.foldl_toList]
  have : ∀ (l : List Oper) (acc : Array Nat), (l.foldl (fun acc o => acc.push (o.after.foldl (fun s e => if Region.binds .any e then s ||| 2 ^ e.on ||| acc.getD e.on 0 else s) 0)) acc).size = acc.size + l.length := by
    intro l
    induction l with
    | nil => intro acc; simp
    | cons o r ih => intro acc; simp only [List.foldl_cons, List.length_cons]; rw [ih]; simp; omega
  rw [this]; simp

theorem before_get (ops : Array Oper) {j : Nat} {o : Oper} (hj : ops[j]? = some o) (hlt : ∀ e ∈ o.after.toList, Region.binds .any e = true → e.on < j) :
    (Region.before ops).getD j 0 = o.after.toList.foldl (fun s e => if Region.binds .any e then s ||| 2 ^ e.on ||| (Region.before ops).getD e.on 0 else s) 0 := by
  have key : ∀ (l pre : List Oper) (acc : Array Nat), acc.size = pre.length → ∀ (k : Nat), k < acc.size → (l.foldl (fun acc o => acc.push (o.after.foldl (fun s e => if Region.binds .any e then s ||| 2 ^ e.on ||| acc.getD e.on 0 else s) 0)) acc).getD k 0 = acc.getD k 0 := by
    intro l
    induction l with
    | nil => intro pre acc _ k _; rfl
    | cons o r ih =>
      intro pre acc hs k hk
      simp only [List.foldl_cons]
      rw [ih (pre ++ [o]) _ (by simp [hs]) k (by simp; omega)]
      simp [Array.getD, Nat.lt_succ_of_lt hk, hk, Array.getElem_push]
  have split : ∀ (l : List Oper), ∀ (k : Nat), k < l.length → ∃ a b, l = a ++ l.getD k default :: b ∧ a.length = k := fun l k hk =>
    ⟨l.take k, l.drop (k + 1), by
      have : l.getD k default = l[k] := by simp [List.getD, hk]
      rw [this, List.getElem_cons_drop, List.take_append_drop], by simp; omega⟩
  have hjs : j < ops.size := (Array.getElem?_eq_some_iff.1 hj).1
  obtain ⟨a, b, hab, hal⟩ := split ops.toList j (by simpa using hjs)
  have ho : ops.toList.getD j default = o := by
    have := (Array.getElem?_eq_some_iff.1 hj).2
    simp [List.getD, hjs, this]
  rw [ho] at hab
  unfold Region.before
  rw [← Array.foldl_toList, hab, List.foldl_append, List.foldl_cons]
  generalize hacc : a.foldl (fun acc o => acc.push (o.after.foldl (fun s e => if Region.binds .any e then s ||| 2 ^ e.on ||| acc.getD e.on 0 else s) 0)) (#[] : Array Nat) = acc
  have hsz : acc.size = j := by
    have h2 : ∀ (l : List Oper) (acc : Array Nat), (l.foldl (fun acc o => acc.push (o.after.foldl (fun s e => if Region.binds .any e then s ||| 2 ^ e.on ||| acc.getD e.on 0 else s) 0)) acc).size = acc.size + l.length := by
      intro l
      induction l with
      | nil => intro acc; simp
      | cons o r ih => intro acc; simp only [List.foldl_cons, List.length_cons]; rw [ih]; simp; omega
    rw [← hacc, h2]; simp [hal]
  generalize hx : o.after.foldl (fun s e => if Region.binds .any e then s ||| 2 ^ e.on ||| acc.getD e.on 0 else s) 0 = x
  rw [key b (a ++ [o]) (acc.push x) (by simp [hsz, hal]) j (by simp [hsz])]
  have : (acc.push x).getD j 0 = x := by simp [Array.getD, ← hsz]
  rw [this]
  have fcongr : ∀ (es : List Edge), (∀ e ∈ es, Region.binds .any e = true → e.on < j) → ∀ s, es.foldl (fun s e => if Region.binds .any e then s ||| 2 ^ e.on ||| acc.getD e.on 0 else s) s =
      es.foldl (fun s e => if Region.binds .any e then s ||| 2 ^ e.on ||| (b.foldl (fun acc o => acc.push (o.after.foldl (fun s e => if Region.binds .any e then s ||| 2 ^ e.on ||| acc.getD e.on 0 else s) 0)) (acc.push x)).getD e.on 0 else s) s := by
    intro es
    induction es with
    | nil => intro _ s; rfl
    | cons e r ih =>
      intro h s
      simp only [List.foldl_cons]
      by_cases hb : Region.binds .any e = true
      · have hlt := h e (by simp) hb
        simp only [hb, if_true]
        rw [key b (a ++ [o]) (acc.push x) (by simp [hsz, hal]) e.on (by simp [hsz]; omega)]
        have : (acc.push x).getD e.on 0 = acc.getD e.on 0 := by
          simp [Array.getD, hsz, hlt, Nat.lt_succ_of_lt hlt, Array.getElem_push]
        rw [this]
        exact ih (fun e he => h e (by simp [he])) _
      · simp only [hb, if_false, Bool.false_eq_true]
        exact ih (fun e he => h e (by simp [he])) _
  refine Eq.trans ?_ (fcongr _ hlt 0)
  rw [← hx, ← Array.foldl_toList]

theorem fold_bit (g : Nat → Nat) (i : Nat) : ∀ (es : List Edge) (s : Nat), (es.foldl (fun s e => if Region.binds .any e then s ||| 2 ^ e.on ||| g e.on else s) s).testBit i = true →
    s.testBit i = true ∨ ∃ e ∈ es, Region.binds .any e = true ∧ (i = e.on ∨ (g e.on).testBit i = true)
  | [], s, h => .inl h
  | e :: r, s, h => by
    simp only [List.foldl_cons] at h
    rcases fold_bit g i r _ h with h | ⟨e', he', hb, h⟩
    · by_cases hb : Region.binds .any e = true
      · simp only [hb, if_true, Nat.testBit_or, Bool.or_eq_true, Nat.testBit_two_pow, decide_eq_true_eq] at h
        rcases h with (h | h) | h
        · exact .inl h
        · exact .inr ⟨e, by simp, hb, .inl h.symm⟩
        · exact .inr ⟨e, by simp, hb, .inr h⟩
      · simp only [hb, if_false, Bool.false_eq_true] at h; exact .inl h
    · exact .inr ⟨e', by simp [he'], hb, h⟩

/-- What an operation waits for, directly or not, has come up before it may. -/
theorem waits_listed {f : FuncId} {ops : Array Oper} {wt : Wt} (hok : drawOkW E f ops wt = true) {listed : Array Bool} (hcl : Closed ops listed) (i : Nat) : ∀ (n j : Nat) (o : Oper), j ≤ n → ops[j]? = some o →
    (∀ e ∈ o.after.toList, Region.binds .any e = true → listed.getD e.on false = true) → ((Region.before ops).getD j 0).testBit i = true → listed.getD i false = true
  | 0, j, o, hjn, hj, hr, hb => by
    rw [before_get ops hj (drawOk_edges hok hj)] at hb
    rcases fold_bit (fun k => (Region.before ops).getD k 0) i _ _ hb with h | ⟨e, he, hbi, h⟩
    · simp at h
    · have := drawOk_edges hok hj e he hbi; omega
  | n + 1, j, o, hjn, hj, hr, hb => by
    rw [before_get ops hj (drawOk_edges hok hj)] at hb
    rcases fold_bit (fun k => (Region.before ops).getD k 0) i _ _ hb with h | ⟨e, he, hbi, h⟩
    · simp at h
    · rcases h with rfl | h
      · exact hr e he hbi
      · have hlt := drawOk_edges hok hj e he hbi
        have hjs : j < ops.size := (Array.getElem?_eq_some_iff.1 hj).1
        have hes : e.on < ops.size := by omega
        have hl := hr e he hbi
        have hls : listed.getD e.on true = true := by
          unfold Array.getD at hl ⊢
          split at hl
          · rename_i hq; rw [dif_pos hq]; exact hl
          · cases hl
        exact waits_listed hok hcl i n e.on ops[e.on] (by omega) (by simp [hes]) (hcl e.on ops[e.on] (by simp [hes]) hls) h

end Go.Ae

namespace Go.Ae

variable {E : Env} {w : World} {F : Nat → Prop} {μ : Nat → Nat → Option (Nat × Nat)} {H : Heap}

theorem stepD_sound (hE : EnvOk E) {call : Call} (hcall : CallOk E call) (hw : WR E w F μ H) {a : Act} {ts : List V} (ht : VRa w F μ ts a.tmps) {f : FuncId} {s : Nat} {o : Oper} {v : V} {H' : Heap}
    (h : stepD E call f s o ts H = some (v, H')) (hs : isAlloc o = true → ∀ n, μ s n = none) {next : Act → World → Prop} {Q : Exit → Act → World → Prop}
    (hn : ∀ cv w' F' μ', WR E w' F' μ' H' → KeepB w F μ H w' F' μ' H' → (∀ b, (isAlloc o = true → b ≠ s) → H[b]? = some none → H'[b]? = some none ∧ ∀ n, μ' b n = μ b n) → VR w' F' μ' v cv → next (a.put o.dst cv) w') : o.wp E.P a w next Q := by
  have gen : stepV E call f o ts H = some (v, H') → o.wp E.P a w next Q := fun hv =>
    step_sound hE hcall hw ht hv (fun cv w' F' μ' k1 k2 k3 => hn cv w' F' μ' k1 k2.toKeepB (fun b _ hb => k2.dead b hb) k3)
  cases hk : kdOf E f o with
  | a =>
    obtain ⟨e, i, he, hi, h1, hsn, rfl, rfl, _⟩ := a_kind hk h
    have hal := kd_alloc.1 hk
    have hμ := hs hal
    obtain ⟨zv, hz1, hz2⟩ := run_zero (w := w) (F := F) (μ := μ) hi
    have hrun : (execOp a.eval o).run E.P w = .ok (.value (.pointer (some ⟨w.heap.size, 0, none⟩))) { w with heap := w.heap.push (.cells zv.cells e) } := by
      simp [execOp, he, Instr.alloc, hz1, newVar, run_newRow]
    unfold Oper.wp
    rw [hrun, Oper.upon_value]
    have hx : Ext w { w with heap := w.heap.push (.cells zv.cells e) } := Ext.push w _
    have hw1 := hx.wr hw
    have hkk : Keep w F μ H { w with heap := w.heap.push (.cells zv.cells e) } F μ H := hx.keep
    have hlt := dead_lt hsn
    have hc := VRa_of_list (cvs := zv.cells) (vs := i.zero.cells) hz2.cells
    have hnew : ∀ (i' v' : Nat) (ro : Bool) (cs' : List V) (s' : Nat), H[i']? = some (some (v', ro, cs')) → μ i' v' ≠ some (w.heap.size, s') := fun i' v' ro cs' s' q1 q2 => by
      obtain ⟨c', s'', ar, e', fr', g1, g2, _⟩ := hw.live i' v' ro cs' q1
      rw [q2] at g1; injection g1 with g1; injection g1 with g1 _; subst g1
      exact Nat.lt_irrefl _ (Array.getElem?_eq_some_iff.1 g2).1
    have hH : ∀ (i' : Nat) (blk : Blk), (H.set s (newBlk 0 i.zero.cells))[i']? = some (some blk) → (i' = s ∧ blk = (0, false, i.zero.cells)) ∨ (i' ≠ s ∧ H[i']? = some (some blk)) := fun i' blk hi' => by
      by_cases hq : i' = s
      · subst hq; rw [List.getElem?_set_self hlt] at hi'; injection hi' with hi'; injection hi' with hi'; exact .inl ⟨rfl, hi'.symm⟩
      · exact .inr ⟨hq, by rwa [List.getElem?_set_ne (Ne.symm hq)] at hi'⟩
    refine hn _ _ F (upd μ s 0 (w.heap.size, 0)) ?_ ?_ ?_ ?_
    · refine hw1.put (b := s) (ver := 0) (cells := i.zero.cells) (cb := w.heap.size) (sh := 0) (arr := zv.cells) (e := e) (fr := (0, 0)) (by simp) (by simpa using hlt) hH (.inl (hμ 0)) (fun v _ => hμ v) (by simp)
        (fun q => Nat.lt_irrefl _ (hw.fz _ q)) nofr (by rw [hc.1]; omega) (fun j c hj => ?_) (fun i' v' ro cs' s' _ q => hnew i' v' ro cs' s' q)
      rw [Nat.zero_add]
      exact ⟨hkk.vr hw (hc.2 j c hj), one_of h1 hj⟩
    · refine ⟨hkk.os, hkk.tape, hkk.output, hkk.size, hkk.fz, upd_le (.inl (hμ 0)), hkk.blk, hkk.shape, by simp, fun c hlt' ho => ?_, fun _ _ h => .inl h⟩
      obtain ⟨i', v', cs', s', q1, q2⟩ := ho
      rcases hH i' _ q1 with ⟨rfl, q⟩ | ⟨q3, q4⟩
      · injection q with q _; subst q
        rw [upd_at] at q2; injection q2 with q2; injection q2 with q2 _; subst q2
        omega
      · rw [upd_ne (fun q => q3 q.1)] at q2
        exact ⟨i', v', cs', s', q4, q2⟩
    · intro b hb hbn
      have hne := hb hal
      exact ⟨by rw [List.getElem?_set_ne (Ne.symm hne)]; exact hbn, fun n => upd_ne (fun q => hne q.1)⟩
    · exact .mp s 0 0 _ 0 (upd_at _ _ _)
  | n =>
    unfold stepD at h
    rw [hk] at h
    simp only at h
    split at h
    · cases hv : nop E (rho E ts) o.op with
      | none => rw [hv] at h; cases h
      | some u =>
        rw [hv] at h; injection h with h; injection h with h h'; subst h; subst h'
        obtain ⟨w', F', k1, k2, cv, r1, r2⟩ := nop_sound hw ht hv
        unfold Oper.wp
        rw [r1, Oper.upon_value]
        exact hn cv w' F' μ k1 k2.toKeepB (fun b _ hb => k2.dead b hb) r2
    · exact gen h
  | l =>
    unfold stepD at h
    rw [hk] at h
    simp only at h
    split at h
    · exact gen h
    · cases h
  | e =>
    unfold stepD at h
    rw [hk] at h
    exact gen h

theorem mem_rem {ops : Array Oper} {listed : Array Bool} {i : Nat} : i ∈ rem ops listed ↔ i < ops.size ∧ listed.getD i true = false := by
  unfold rem
  simp

theorem rem_sorted (ops : Array Oper) (listed : Array Bool) : (rem ops listed).Pairwise (· < ·) := by
  unfold rem
  exact List.Pairwise.filter _ List.pairwise_lt_range

theorem rem_set {ops : Array Oper} {listed : Array Bool} (hl : listed.size = ops.size) {i : Nat} {pre post : List Nat} (h : rem ops listed = pre ++ i :: post) : rem ops (listed.setIfInBounds i true) = pre ++ post := by
  have hi : i < ops.size ∧ listed.getD i true = false := mem_rem.1 (by rw [h]; simp)
  have hs := rem_sorted ops listed
  have h1 : rem ops (listed.setIfInBounds i true) = (rem ops listed).filter (fun k => k != i) := by
    unfold rem
    rw [List.filter_filter]
    apply List.filter_congr
    intro k hk
    have hk : k < ops.size := by simpa using hk
    by_cases hq : k = i
    · subst hq; simp [Array.getD, hl, hk]
    · have : (listed.setIfInBounds i true).getD k true = listed.getD k true := by
        rw [Array.getD_eq_getD_getElem?, Array.getD_eq_getD_getElem?, Array.getElem?_setIfInBounds_ne (Ne.symm hq)]
      rw [this]; simp [hq]
  rw [h1, h, List.filter_append, List.filter_cons]
  rw [h] at hs
  rw [List.pairwise_append] at hs
  obtain ⟨_, hs2, hs3⟩ := hs
  rw [List.pairwise_cons] at hs2
  have e1 : pre.filter (fun k => k != i) = pre := List.filter_eq_self.2 (fun k hk => by have := hs3 k hk i (by simp); simp; omega)
  have e2 : post.filter (fun k => k != i) = post := List.filter_eq_self.2 (fun k hk => by have := hs2.1 k hk; simp; omega)
  rw [e1, e2]; simp

set_option maxHeartbeats 400000 in
theorem any_sound (hE : EnvOk E) {call : Call} (hcall : CallOk E call) (hst : CallStays E call) (hfr : CallFrm call) {f : FuncId} {ops : Array Oper} {wt : Wt} (hok : drawOkW E f ops wt = true) {base : Nat} {ts' : List V} {H' : Heap} {Q : Exit → Act → World → Prop} :
    ∀ (fuel : Nat) (listed : Array Bool) {w : World} {F : Nat → Prop} {μ : Nat → Nat → Option (Nat × Nat)} {H : Heap} {L : Log} {a : Act} {ts : List V}, listed.size = ops.size → Closed ops listed → (rem ops listed).length ≤ fuel →
      runW E call f ops wt base (rem ops listed) ts H L = some (ts', H') → WR E w F μ H → VRa w F μ ts a.tmps →
      (∀ i o, i ∈ rem ops listed → ops[i]? = some o → isAlloc o = true → H[slotOf ops base i]? = some none ∧ ∀ n, μ (slotOf ops base i) n = none) →
      (∀ a' w' F' μ', WR E w' F' μ' H' → KeepB w F μ H w' F' μ' H' → (∀ b, b < base → H[b]? = some none → H'[b]? = some none ∧ ∀ n, μ' b n = μ b n) → VRa w' F' μ' ts' a'.tmps → a'.defers = a.defers → Q .normal a' w') →
      wpAny E.P .any ops Q fuel listed a w := by
  intro fuel
  have done : ∀ (listed : Array Bool) {w : World} {F : Nat → Prop} {μ : Nat → Nat → Option (Nat × Nat)} {H : Heap} {L : Log} {a : Act} {ts : List V}, rem ops listed = [] →
      runW E call f ops wt base (rem ops listed) ts H L = some (ts', H') → WR E w F μ H → VRa w F μ ts a.tmps →
      (∀ a' w' F' μ', WR E w' F' μ' H' → KeepB w F μ H w' F' μ' H' → (∀ b, b < base → H[b]? = some none → H'[b]? = some none ∧ ∀ n, μ' b n = μ b n) → VRa w' F' μ' ts' a'.tmps → a'.defers = a.defers → Q .normal a' w') → Q .normal a w := by
    intro listed w F μ H L a ts hr hrun hw ht hq
    rw [hr] at hrun
    simp only [runW, Option.some.injEq, Prod.mk.injEq] at hrun
    obtain ⟨rfl, rfl⟩ := hrun
    exact hq a w F μ hw (.refl ..) (fun b _ hb => ⟨hb, fun _ => rfl⟩) ht rfl
  have noready : ∀ listed : Array Bool, listed.size = ops.size → Region.ready .any ops listed = [] → rem ops listed = [] := by
    intro listed hl hr
    cases hrem : rem ops listed with
    | nil => rfl
    | cons i post =>
      exfalso
      have hi := mem_rem.1 (show i ∈ rem ops listed by rw [hrem]; simp)
      have hs := rem_sorted ops listed
      rw [hrem, List.pairwise_cons] at hs
      have : i ∈ Region.ready .any ops listed := by
        unfold Region.ready
        simp only [List.mem_filter, List.mem_range, Bool.and_eq_true]
        refine ⟨hi.1, by simp [hi.2], ?_⟩
        have ho : ops[i]? = some ops[i] := by simp [hi.1]
        rw [ho]
        simp only [Option.map_some, Option.getD_some]
        rw [← Array.all_toList, List.all_eq_true]
        intro e he
        by_cases hb : Region.binds .any e = true
        · have hlt := drawOk_edges hok ho e he hb
          have hlist : listed.getD e.on true = true := by
            cases hq : listed.getD e.on true with
            | true => rfl
            | false =>
              have hm : e.on ∈ rem ops listed := mem_rem.2 ⟨by omega, hq⟩
              rw [hrem] at hm
              rcases List.mem_cons.1 hm with h | h
              · omega
              · have := hs.1 _ h; omega
          have : listed.getD e.on false = true := by
            have hes : e.on < listed.size := by omega
            simp only [Array.getD, hes, dite_true] at hlist ⊢
            exact hlist
          simp [this]
        · simp [hb]
      rw [hr] at this
      cases this
  induction fuel with
  | zero =>
    intro listed w F μ H L a ts hl hcl hlen hrun hw ht hslot hq
    have hr : rem ops listed = [] := List.eq_nil_of_length_eq_zero (by omega)
    refine ⟨?_, done listed hr hrun hw ht hq⟩
    cases hrd : Region.ready .any ops listed with
    | nil => rfl
    | cons i r =>
      have hi : i ∈ Region.ready .any ops listed := by rw [hrd]; simp
      unfold Region.ready at hi
      simp only [List.mem_filter, List.mem_range, Bool.and_eq_true] at hi
      have : i ∈ rem ops listed := mem_rem.2 ⟨hi.1, by simpa using hi.2.1⟩
      rw [hr] at this; cases this
  | succ fuel ih =>
    intro listed w F μ H L a ts hl hcl hlen hrun hw ht hslot hq
    refine ⟨fun hr => done listed (noready listed hl hr) hrun hw ht hq, fun i hi => ?_⟩
    unfold Region.ready at hi
    simp only [List.mem_filter, List.mem_range, Bool.and_eq_true] at hi
    obtain ⟨his, hiu, hie⟩ := hi
    have hei : ops[i]? = some ops[i] := by simp [his]
    have hed : ops.getD i default = ops[i] := by simp [Array.getD, his]
    rw [hei] at hie
    simp only [Option.map_some, Option.getD_some] at hie
    have hready : ∀ e ∈ (ops[i]).after.toList, Region.binds .any e = true → listed.getD e.on false = true := fun e he hb => by
      rw [← Array.all_toList, List.all_eq_true] at hie
      have := hie e he
      simpa [hb] using this
    have him : i ∈ rem ops listed := mem_rem.2 ⟨his, by simpa using hiu⟩
    obtain ⟨pre, post, hpp⟩ := List.append_of_mem him
    have hs := rem_sorted ops listed
    rw [hpp, List.pairwise_append] at hs
    have hpre : ∀ p ∈ pre, p < i := fun p hp => hs.2.2 p hp i (by simp)
    have hfront : ∀ p ∈ pre, p < i ∧ apartV ops (ops.getD p default) (ops.getD i default) = true ∧ pairW E f ops wt p i = true := fun p hp => by
      have hpi := hpre p hp
      refine ⟨hpi, ?_⟩
      rcases drawOk_pair hok his hpi with ho | ho
      · exfalso
        unfold ordV at ho
        rw [if_pos hpi] at ho
        have hl1 := waits_listed hok hcl p i i ops[i] (Nat.le_refl _) hei hready ho
        have hpm := mem_rem.1 (show p ∈ rem ops listed by rw [hpp]; simp [hp])
        have hps : p < listed.size := by omega
        have h2 := hpm.2
        simp only [Array.getD, hps, dite_true] at hl1 h2
        rw [hl1] at h2; cases h2
      · exact ho
    rw [hpp] at hrun
    have hrun2 := move_W hst hfr his pre post ts H L _ (fun hal => (hslot i _ him hei (by rw [← hed]; exact hal)).1) hfront hrun
    have hset := rem_set hl hpp
    have hcl' : Closed ops (listed.setIfInBounds i true) := fun j o hj hlj e he hb => by
      have hle : ∀ k, listed.getD k false = true → (listed.setIfInBounds i true).getD k false = true := fun k hk => by
        by_cases hq : k = i
        · subst hq; simp [Array.getD, hl, his]
        · rw [Array.getD_eq_getD_getElem?, Array.getElem?_setIfInBounds_ne (Ne.symm hq), ← Array.getD_eq_getD_getElem?]; exact hk
      by_cases hq : j = i
      · subst hq
        rw [hei] at hj; injection hj with hj; subst hj
        exact hle _ (hready e he hb)
      · rw [Array.getD_eq_getD_getElem?, Array.getElem?_setIfInBounds_ne (Ne.symm hq), ← Array.getD_eq_getD_getElem?] at hlj
        exact hle _ (hcl j o hj hlj e he hb)
    have hlen' : (rem ops (listed.setIfInBounds i true)).length ≤ fuel := by
      rw [hset]; rw [hpp] at hlen; simp at hlen ⊢; omega
    have hsub : ∀ k, k ∈ rem ops (listed.setIfInBounds i true) → k ∈ rem ops listed ∧ k ≠ i := fun k hk => by
      rw [hset] at hk
      refine ⟨by rw [hpp]; simp at hk ⊢; rcases hk with h | h <;> simp [h], fun q => ?_⟩
      subst q
      rcases List.mem_append.1 hk with h | h
      · have := hpre k h; omega
      · have := (List.pairwise_cons.1 hs.2.1).1 k h; omega
    simp only [runW, oneW, hei] at hrun2
    unfold wpOp
    rw [hei]
    simp only
    rw [wanted_eq ht]
    unfold act at hrun2
    by_cases hwant : wantedV ops ts ops[i] = true
    · rw [if_pos hwant] at hrun2 ⊢
      left
      cases hd : stepD E call f (slotOf ops base i) ops[i] ts H with
      | none => rw [hd] at hrun2; cases hrun2
      | some q =>
        obtain ⟨v, H1⟩ := q
        rw [hd] at hrun2
        simp only [hwant, if_true] at hrun2
        by_cases hck : chkJ E f ops[i] wt i (rho E ts) H1 v L = true
        case neg => rw [if_neg hck] at hrun2; cases hrun2
        rw [if_pos hck] at hrun2
        simp only at hrun2
        refine stepD_sound hE hcall hw ht hd (fun hal => (hslot i _ him hei hal).2) (fun cv w1 F1 μ1 k1 k2 k3 k4 => ?_)
        have hslotne : ∀ k ok, k ≠ i → ops[k]? = some ok → isAlloc ok = true → isAlloc ops[i] = true → slotOf ops base k ≠ slotOf ops base i := fun k ok hki hk hak hai => by
          rcases Nat.lt_or_gt_of_ne hki with h | h
          · exact Nat.ne_of_lt (slot_mono hk hak h)
          · exact Ne.symm (Nat.ne_of_lt (slot_mono hei hai h))
        refine ih _ (by simpa using hl) hcl' hlen' (by rw [hset]; exact hrun2) k1 ((ht.mono fun _ _ h => k2.vr hw h).put _ k4) (fun k ok hk hok' hal => ?_) (fun a' w' F' μ' q1 q2 q3 q4 q5 => ?_)
        · obtain ⟨hkr, hki⟩ := hsub k hk
          obtain ⟨s1, s2⟩ := hslot k ok hkr hok' hal
          obtain ⟨d1, d2⟩ := k3 (slotOf ops base k) (fun hai => hslotne k ok hki hok' hal hai) s1
          exact ⟨d1, fun n => (d2 n).trans (s2 n)⟩
        · refine hq a' w' F' μ' q1 (k2.trans q2) (fun b hb hbn => ?_) q4 (by rw [q5, put_defers])
          obtain ⟨d1, d2⟩ := k3 b (fun _ => by unfold slotOf; omega) hbn
          obtain ⟨d3, d4⟩ := q3 b hb d1
          exact ⟨d3, fun n => (d4 n).trans (d2 n)⟩
    · rw [if_neg hwant] at hrun2 ⊢
      simp only [hwant, if_false, Bool.false_eq_true] at hrun2
      refine ih _ (by simpa using hl) hcl' hlen' (by rw [hset]; exact hrun2) hw (ht.put _ .undef) (fun k ok hk hok' hal => hslot k ok (hsub k hk).1 hok' hal) (fun a' w' F' μ' q1 q2 q3 q4 q5 => hq a' w' F' μ' q1 q2 q3 q4 (by rw [q5, put_defers]))

end Go.Ae

namespace Go.Ae

variable {E : Env} {w : World} {F : Nat → Prop} {μ : Nat → Nat → Option (Nat × Nat)} {H : Heap}

/-- A region that draws its order, with loads that are watched. -/
theorem draw_sound (hE : EnvOk E) {call : Call} (hcall : CallOk E call) (hst : CallStays E call) (hfr : CallFrm call) {f : FuncId} {id : Nat} {ops : Array Oper} {wt : Wt} (hok : drawOkW E f ops wt = true) {ts1 ts2 : List V} {H1 H2 : Heap}
    (hrun : drawW E call f ops wt 0 H1.length ops.toList ts1 (H1 ++ List.replicate (allocs ops.toList) none) [] = some (ts2, H2)) {F1 : Nat → Prop} (w1 : WR E w F1 μ H1) (k1 : Keep w F μ H w F1 μ H1) {a : Act} (t1 : VRa w F1 μ ts1 a.tmps) {Q : Exit → Act → World → Prop}
    (hq : ∀ a' w' F' μ', WR E w' F' μ' H2 → Keep w F μ H w' F' μ' H2 → VRa w' F' μ' ts2 a'.tmps → a'.defers = a.defers → Q .normal a' w') : (Code.region id ops true).wp E.P Q a w := by
  -- one draw; a place for each variable that the region makes
  let wd : World := { w with drawn := w.drawn + 1 }
  have hx : Ext w wd := Ext.drew w _
  have w1' := hx.wr w1
  have kx : Keep w F1 μ H1 wd F1 μ H1 := hx.keep
  let n := allocs ops.toList
  have hnone : ∀ (i : Nat) (blk : Blk), (H1 ++ List.replicate n none)[i]? = some (some blk) → H1[i]? = some (some blk) := fun i blk hi => by
    rw [List.getElem?_append] at hi
    split at hi
    · exact hi
    · rw [List.getElem?_replicate] at hi
      split at hi <;> cases hi
  have w2 : WR E wd F1 μ (H1 ++ List.replicate n none) := w1'.less (by simp) hnone
  have kb : KeepB wd F1 μ H1 wd F1 μ (H1 ++ List.replicate n none) := by
    refine ⟨rfl, rfl, rfl, Nat.le_refl _, fun _ h => h, fun _ _ _ h => h, fun _ _ _ => rfl, fun _ _ _ h => h, by simp, fun cb _ ho => ?_, fun _ _ h => .inl h⟩
    obtain ⟨b, v, cs, sh, q1, q2⟩ := ho
    exact ⟨b, v, cs, sh, hnone _ _ q1, q2⟩
  have hsl0 : slotOf ops H1.length 0 = H1.length := by simp [slotOf, allocs]
  have hrun' := drawW_run (E := E) (call := call) (f := f) (ops := ops) (wt := wt) (base := H1.length) ops.toList 0 ts1 (H1 ++ List.replicate n none) [] (fun j => by simp)
  rw [hsl0, hrun] at hrun'
  refine wp_region_any hE.mixed ?_
  have hrem : rem ops (Array.replicate ops.size false) = List.range ops.size := by
    unfold rem
    apply List.filter_eq_self.2
    intro i hi
    have : i < ops.size := by simpa using hi
    simp [Array.getD, this]
  refine any_sound hE hcall hst hfr hok (base := H1.length) (ts' := ts2) (H' := H2) ops.size (Array.replicate ops.size false) (w := wd) (F := F1) (μ := μ) (H := H1 ++ List.replicate n none) (L := []) (ts := ts1) (by simp) ?_ ?_ ?_ w2 (t1.mono fun _ _ h => kx.vr w1 h) ?_ ?_
  · intro j o hj hlj
    have : j < ops.size := (Array.getElem?_eq_some_iff.1 hj).1
    simp [Array.getD, this] at hlj
  · rw [hrem]; simp
  · rw [hrem, List.range_eq_range']
    simpa using hrun'.symm
  · intro i o hi hio hal
    have hlt : slotOf ops H1.length i < H1.length + n := by
      have his : i < ops.size := (Array.getElem?_eq_some_iff.1 hio).1
      have h1 := slot_succ (base := H1.length) hio
      rw [if_pos hal] at h1
      have h2 : slotOf ops H1.length (i + 1) ≤ H1.length + n := by
        unfold slotOf
        have : allocs (ops.toList.take (i + 1)) ≤ n := ((List.take_sublist _ _).filter isAlloc).length_le
        omega
      omega
    have hge : H1.length ≤ slotOf ops H1.length i := by unfold slotOf; omega
    refine ⟨?_, fun m => ?_⟩
    · rw [List.getElem?_append_right hge, List.getElem?_replicate, if_pos (by omega)]
    · cases hq : μ (slotOf ops H1.length i) m with
      | none => rfl
      | some r => have := w1.dom _ _ _ hq; omega
  · intro a' w' F' μ' q1 q2 q3 q4 q5
    refine hq a' w' F' μ' q1 (k1.trans ⟨(kx.toKeepB.trans kb).trans q2, fun b hb => ?_⟩) q4 q5
    have hbl := dead_lt hb
    exact q3 b hbl (by rw [List.getElem?_append_left hbl]; exact hb)


theorem region_sound (hE : EnvOk E) {call : Call} (hcall : CallOk E call) (hst : CallStays E call) (hfr : CallFrm call) {f : FuncId} {id : Nat} {ops : Array Oper} {draw : Bool} {ts ts' : List V} {H' : Heap} {x : X}
    (h : regionV E call f id ops draw ts H = some (x, ts', H')) (hw : WR E w F μ H) {a : Act} (ht : VRa w F μ ts a.tmps) {Q : Exit → Act → World → Prop}
    (hq : ∀ a' w' F' μ', WR E w' F' μ' H' → Keep w F μ H w' F' μ' H' → VRa w' F' μ' ts' a'.tmps → a'.defers = a.defers → Q .normal a' w') : x = .nrm ∧ (Code.region id ops draw).wp E.P Q a w := by
  unfold regionV at h
  split at h
  · rename_i ts1 H1 hf
    obtain ⟨F1, w1, k1, t1⟩ := frzTmps_sound _ hf hw ht
    split at h
    · rename_i hd
      subst hd
      split at h
      · split at h
        · rename_i hok
          split at h
          · rename_i ts2 H2 hrun
            injection h with h; injection h with h h'; injection h' with h' h''; subst h; subst h'; subst h''
            exact ⟨rfl, draw_sound hE hcall hst hfr hok hrun w1 k1 t1 hq⟩
          · cases h
        · cases h
      · split at h
        · rename_i hok
          split at h
          · rename_i ts2 H2 hrun
            injection h with h; injection h with h h'; injection h' with h' h''; subst h; subst h'; subst h''
            exact ⟨rfl, draw_sound hE hcall hst hfr (drawOkW_nil hok) ((drawW_nil _ _ _ _ _).trans hrun) w1 k1 t1 hq⟩
          · cases h
        · cases h
    · rename_i hd
      have hd : draw = false := by simpa using hd
      subst hd
      split at h
      · rename_i ts2 H2 hrun
        injection h with h; injection h with h h'; injection h' with h' h''; subst h; subst h'; subst h''
        refine ⟨rfl, wp_region_list ?_⟩
        exact ops_sound hE hcall _ hrun w1 t1 (fun a' w' F' μ' q1 q2 q3 q4 => hq a' w' F' μ' q1 (k1.trans q2) q3 q4)
      · cases h
  · cases h

theorem getD_tmp {ts : List V} {a : Array Value} (ht : VRa w F μ ts a) (t : Nat) : VR w F μ (ts.getD t undefV) (a.getD t undef) := by
  rw [List.getD_eq_getElem?_getD]
  cases hx : ts[t]? with
  | some v => exact ht.2 t v hx
  | none =>
    have : a.size ≤ t := by rw [ht.1]; exact List.getElem?_eq_none_iff.1 hx
    have e : a.getD t undef = undef := by simp [Array.getD, Nat.not_lt.2 this]
    rw [e]; exact .undef

theorem results_sound (hw : WR E w F μ H) {fn : Func} {ts : List V} {tmps : Array Value} (ht : VRa w F μ ts tmps) {v : V} (h : resultsV E fn ts H = some v) :
    ∃ cv, (results fn tmps).run E.P w = .ok cv w ∧ VR w F μ v cv := by
  let g : ResultVar → Sem Value := fun
    | .tmp t => Pure.pure (tmps.getD t undef)
    | .cell a t => do loadVar t (← asAddr (tmps.getD a undef))
  have one : ∀ (r : ResultVar) (u : V), resultV E ts H r = some u → ∃ cv, (g r).run E.P w = .ok cv w ∧ VR w F μ u cv := fun r u hr => by
    cases r with
    | tmp t =>
      simp only [resultV, Option.some.injEq] at hr; subst hr
      exact ⟨_, rfl, getD_tmp ht t⟩
    | cell a t =>
      simp only [resultV] at hr
      split at hr
      · rename_i i cs hi hb
        obtain ⟨b, off, q1, q2⟩ := behind_sound hw hb (getD_tmp ht a)
        obtain ⟨cv, r1, r2⟩ := loadCs_sound hi q2 hr
        refine ⟨cv, ?_, r2⟩
        show (do loadVar t (← asAddr (tmps.getD a undef)) : Sem Value).run E.P w = _
        rw [q1]
        simpa [asAddr] using r1
      · cases hr
  have all : ∀ (l : List ResultVar) (us : List V), mapO (resultV E ts H) l = some us → ∃ cvs, (l.mapM g).run E.P w = .ok cvs w ∧ VRs w F μ us cvs := by
    intro l
    induction l with
    | nil => intro us hu; simp only [mapO, Option.some.injEq] at hu; subst hu; exact ⟨[], rfl, .nil⟩
    | cons r l ih =>
      intro us hu
      simp only [mapO] at hu
      split at hu
      · rename_i b hb
        split at hu
        · rename_i bs hbs
          injection hu with hu; subst hu
          obtain ⟨cv, r1, r2⟩ := one r b hb
          obtain ⟨cvs, r3, r4⟩ := ih bs hbs
          exact ⟨cv :: cvs, by simp only [List.mapM_cons, Sem.run_bind, r1, Result.andThen_ok, r3, Sem.run_pure], .cons r2 r4⟩
        · cases hu
      · cases hu
  have hdef : results fn tmps = (do let vs ← fn.results.mapM g; Pure.pure (if h : vs.size = 1 then vs[0] else .tuple vs)) := rfl
  have hm : ∀ us, mapO (resultV E ts H) fn.results.toList = some us → ∃ cvs, (fn.results.mapM g).run E.P w = .ok cvs.toArray w ∧ VRs w F μ us cvs := fun us hu => by
    obtain ⟨cvs, r1, r2⟩ := all _ us hu
    exact ⟨cvs, by rw [Array.mapM_eq_mapM_toList, Sem.run_map, r1]; rfl, r2⟩
  unfold resultsV at h
  split at h
  · rename_i r hr
    have hu : mapO (resultV E ts H) fn.results.toList = some [v] := by rw [hr]; simp only [mapO, h]
    obtain ⟨cvs, r1, r2⟩ := hm _ hu
    obtain ⟨cv, r, rfl, q1, q2⟩ := r2.head
    have := q2.none; subst this
    refine ⟨cv, ?_, q1⟩
    rw [hdef]
    simp only [Sem.run_bind, r1, Result.andThen_ok, Sem.run_pure]
    rfl
  · rename_i hne
    cases hu : mapO (resultV E ts H) fn.results.toList with
    | none => rw [hu] at h; cases h
    | some us =>
      rw [hu] at h; injection h with h; subst h
      obtain ⟨cvs, r1, r2⟩ := hm _ hu
      refine ⟨.tuple cvs.toArray, ?_, VR.tup_iff.2 ⟨_, rfl, r2.arr⟩⟩
      rw [hdef]
      simp only [Sem.run_bind, r1, Result.andThen_ok, Sem.run_pure]
      have hl : cvs.length ≠ 1 := by
        intro hq
        have h1 : us.length = 1 := by rw [← r2.1]; exact hq
        have h2 : ∀ {l : List ResultVar} {us : List V}, mapO (resultV E ts H) l = some us → us.length = l.length := by
          intro l
          induction l with
          | nil => intro us h; simp only [mapO, Option.some.injEq] at h; subst h; rfl
          | cons a r ih =>
            intro us h
            simp only [mapO] at h
            split at h
            · split at h
              · rename_i bs hbs
                injection h with h; subst h
                simp [ih hbs]
              · cases h
            · cases h
        have h3 := h2 hu
        rw [h1] at h3
        cases hl : fn.results.toList with
        | nil => rw [hl] at h3; cases h3
        | cons r l =>
          rw [hl] at h3
          cases l with
          | nil => exact hne r hl
          | cons _ _ => simp at h3
      rw [dif_neg (by simpa using hl)]

/-- How a way out of the evaluator reads in the machine. -/
def X.conv : X → Exit
  | .nrm => .normal
  | .exit id => .exit id
  | .ret => .ret

abbrev Ex := FuncId → Code → List V → Heap → R

def ExecOk (E : Env) (ex : Ex) : Prop :=
  ∀ (f : FuncId) (c : Code) (ts : List V) (H : Heap) (x : X) (ts' : List V) (H' : Heap), ex f c ts H = some (x, ts', H') →
    ∀ (w : World) (F : Nat → Prop) (μ : Nat → Nat → Option (Nat × Nat)) (a : Act) (Q : Exit → Act → World → Prop), WR E w F μ H → VRa w F μ ts a.tmps →
      (∀ a' w' F' μ', WR E w' F' μ' H' → Keep w F μ H w' F' μ' H' → VRa w' F' μ' ts' a'.tmps → a'.defers = a.defers → Q x.conv a' w') → c.wp E.P Q a w

theorem VRs.rep (n : Nat) : VRs w F μ (List.replicate n undefV) (List.replicate n undef) :=
  ⟨by simp, fun i x hx => by
    rw [List.getElem?_replicate] at hx
    split at hx
    · rename_i hi
      injection hx with hx; subst hx
      exact ⟨undef, by simp [hi], .undef⟩
    · cases hx⟩

theorem runFn_sound {ex : Ex} (hex : ExecOk E ex) {f : FuncId} {args : List V} {v : V} {H' : Heap} (h : runFn E ex f args H = some (v, H')) :
    (∃ fn, E.P.funcs[f]? = some fn ∧ fn.body.isSome = true) ∧ ∀ (w : World) (F : Nat → Prop) (μ : Nat → Nat → Option (Nat × Nat)) (cargs : List Value), WR E w F μ H → VRs w F μ args cargs → Calls E.P f cargs.toArray w (Gives E w F μ H v H') := by
  unfold runFn at h
  split at h
  · rename_i fn hf
    split at h
    · rename_i c hb
      refine ⟨⟨fn, hf, by rw [hb]; rfl⟩, fun w F μ cargs hw hargs => ?_⟩
      refine calls_of_wp hf hb ?_
      have hti : VRa w F μ (args ++ List.replicate (fn.ntmps - args.length) undefV) (cargs.toArray ++ Array.replicate (fn.ntmps - cargs.toArray.size) undef) := by
        apply VRa_of_list
        have e : (cargs.toArray ++ Array.replicate (fn.ntmps - cargs.toArray.size) undef).toList = cargs ++ List.replicate (fn.ntmps - args.length) undef := by
          simp [hargs.1]
        rw [e]
        exact hargs.append (.rep _)
      have body : ∀ (x : X) (ts' : List V) (H1 : Heap), ex f c (args ++ List.replicate (fn.ntmps - args.length) undefV) H = some (x, ts', H1) → (x = .nrm ∨ x = .ret) → resultsV E fn ts' H1 = some v → H1 = H' →
          c.wp E.P (bodyPost E.P fn (Gives E w F μ H v H')) { tmps := cargs.toArray ++ Array.replicate (fn.ntmps - cargs.toArray.size) undef, defers := [] } w := by
        intro x ts' H1 hx hxx hr hH
        subst hH
        refine hex f c _ H x ts' H1 hx w F μ _ _ hw hti (fun a' w' F' μ' q1 q2 q3 q4 => ?_)
        obtain ⟨cv, r1, r2⟩ := results_sound q1 q3 hr
        rcases hxx with rfl | rfl
        · exact ⟨q4, cv, r1, cv, F', μ', rfl, q1, q2, r2⟩
        · exact ⟨q4, cv, r1, cv, F', μ', rfl, q1, q2, r2⟩
      split at h
      · rename_i ts' H1 hx
        split at h
        · rename_i u hr
          injection h with h; injection h with h h'; subst h; subst h'
          exact body _ _ _ hx (.inl rfl) hr rfl
        · cases h
      · rename_i ts' H1 hx
        split at h
        · rename_i u hr
          injection h with h; injection h with h h'; subst h; subst h'
          exact body _ _ _ hx (.inr rfl) hr rfl
        · cases h
      · cases h
    · cases h
  · cases h

end Go.Ae

namespace Go.Ae

variable {E : Env} {w : World} {F : Nat → Prop} {μ : Nat → Nat → Option (Nat × Nat)} {H : Heap}

theorem VR.scalarAny {w' : World} {F' : Nat → Prop} {ν μ' : Nat → Nat → Option (Nat × Nat)} {v : V} {cv : Value} (h : VR w' F' ν v cv) (hs : v.scalar = true) : VR w F μ' v cv := by
  have flat : ∀ {v : V} {cv : Value}, VR w' F' ν v cv → v.flat = true → VR w F μ' v cv := fun h hf => by
    cases h <;> simp [V.flat] at hf
    · exact .int _ _
    · exact .bool _
    · exact .str _
  cases h with
  | tup cs cv hz h =>
    simp only [V.scalar] at hs
    exact .tup cs cv hz (fun i x hx => flat (h i x hx) (List.all_eq_true.1 hs x (List.mem_of_getElem? hx)))
  | int k n => exact .int k n
  | bool b => exact .bool b
  | str s => exact .str s
  | _ => simp [V.scalar, V.flat] at hs

/-- No block of the heap may be written: nothing has turned. -/
theorem KeepB.ext {w' : World} {F' : Nat → Prop} {μ' : Nat → Nat → Option (Nat × Nat)} {H' : Heap} (hk : KeepB w F μ H w' F' μ' H') (hn : ∀ cb, ¬ Own H μ cb) : Ext w w' :=
  ⟨hk.os, hk.tape, hk.output, hk.size, fun k hk' => hk.blk k hk' (hn k)⟩

theorem own_nil (cb : Nat) : ¬ Own [] μ cb := by
  rintro ⟨b, v, cs, sh, h, _⟩; simp at h

theorem own_ro (H : Heap) (cb : Nat) : ¬ Own (roH H) μ cb := by
  rintro ⟨b, v, cs, sh, h, _⟩
  unfold roH at h
  rw [List.getElem?_map] at h
  cases hq : H[b]? with
  | none => rw [hq] at h; cases h
  | some o =>
    rw [hq] at h
    cases o with
    | none => simp at h
    | some blk => obtain ⟨v', ro, cs'⟩ := blk; simp at h

/-- Over values alone. -/
theorem WR.empty (hw : WR E w F μ H) {G : Nat → Prop} (hG : ∀ b, F b → G b) (hlt : ∀ b, G b → b < w.heap.size) : WR E w G noMap [] :=
  { dom := fun _ _ _ h => by simp [noMap] at h
    fz := hlt
    live := fun b v ro cs h => by simp at h
    inj := fun b v ro cs b' v' ro' cs' cb sh sh' h => by simp at h
    glob := fun g cells hg => (hw.glob g cells hg).mono (fun b hb => ⟨hG b hb, rfl⟩) (fun _ _ _ h => h) (fun _ _ _ h => h)
    top := fun b v ro cs h => by simp at h }

theorem WR.ro (hw : WR E w F μ H) : WR E w F μ (roH H) := by
  have hH : ∀ (b ver : Nat) (ro : Bool) (cs : List V), (roH H)[b]? = some (some (ver, ro, cs)) → ∃ ro', H[b]? = some (some (ver, ro', cs)) := fun b ver ro cs h => by
    unfold roH at h
    rw [List.getElem?_map] at h
    cases hq : H[b]? with
    | none => rw [hq] at h; cases h
    | some o =>
      rw [hq] at h
      cases o with
      | none => simp at h
      | some blk =>
        obtain ⟨v', ro', cs'⟩ := blk
        simp at h
        obtain ⟨rfl, rfl, rfl⟩ := h
        exact ⟨ro', rfl⟩
  refine ⟨fun b n r h => by unfold roH; simpa using hw.dom b n r h, hw.fz, fun b ver ro cs hb => ?_, fun b v r c b' v' r' c' x s s' h1 h2 h3 h4 => ?_, hw.glob, fun b ver ro cs hb => ?_⟩
  · obtain ⟨ro', h⟩ := hH _ _ _ _ hb
    exact hw.live b ver ro' cs h
  · obtain ⟨ro1, h1⟩ := hH _ _ _ _ h1
    obtain ⟨ro2, h2⟩ := hH _ _ _ _ h2
    exact hw.inj b v ro1 c b' v' ro2 c' x s s' h1 h2 h3 h4
  · obtain ⟨ro', h⟩ := hH _ _ _ _ hb
    exact hw.top b ver ro' cs h

/-- What a call over values alone gives its caller. -/
theorem back (hw : WR E w F μ H) {w1 : World} {F2 : Nat → Prop} {μ2 : Nat → Nat → Option (Nat × Nat)} {H2 : Heap} {v : V} {cv : Value} (k1 : WR E w1 F2 μ2 H2) (k2 : KeepB w F noMap [] w1 F2 μ2 H2) (hv : VR w1 F2 μ2 v cv) (hp : v.pure = true) :
    WR E w1 F2 μ H ∧ Keep w F μ H w1 F2 μ H ∧ VR w1 F2 μ v cv := by
  have hx : Ext w w1 := k2.ext own_nil
  have hw1 := hx.wr hw
  have hk : Keep w F μ H w1 F μ H := hx.keep
  refine ⟨hw1.freeze k2.fz k1.fz (fun b ver ro cs cb sh hb hm hq => ?_), ⟨⟨hk.os, hk.tape, hk.output, hk.size, k2.fz, hk.map, hk.blk, hk.shape, hk.len, hk.own, fun cb hlt h => ?_⟩, hk.dead⟩, hv.anyMap hp μ⟩
  · obtain ⟨cb', sh', arr, e, fr, g1, g2, _⟩ := hw.live b ver ro cs hb
    rw [hm] at g1; injection g1 with g1; injection g1 with g1 _; subst g1
    rcases k2.frz cb (Array.getElem?_eq_some_iff.1 g2).1 hq with h | h
    · exact h
    · exact absurd h (own_nil cb)
  · rcases k2.frz cb hlt h with h | h
    · exact .inl h
    · exact absurd h (own_nil cb)

theorem pureCall_sound (hE : EnvOk E) {ex : Ex} (hex : ExecOk E ex) {f : FuncId} {args : List V} {v v' : V} {H1 H2 : Heap} (hp : V.pureL args = true) (h : runFn E ex f args [] = some (v, H1)) (hf : frzV 12 H1 v = some (v', H2)) (hp' : v'.pure = true) :
    (∃ fn, E.P.funcs[f]? = some fn ∧ fn.body.isSome = true) ∧ ∀ (w : World) (F : Nat → Prop) (μ : Nat → Nat → Option (Nat × Nat)) (H : Heap) (cargs : List Value), WR E w F μ H → VRs w F μ args cargs → Calls E.P f cargs.toArray w (Gives E w F μ H v' H) := by
  obtain ⟨a1, a2⟩ := runFn_sound hex h
  refine ⟨a1, fun w F μ H cargs hw hargs => ?_⟩
  have := hE.mixed
  refine (a2 w F noMap cargs (hw.empty (fun _ h => h) hw.fz) (hargs.anyMap hp noMap)).mono ?_
  rintro e w1 ⟨cv, F1, μ1, rfl, k1, k2, k3⟩
  obtain ⟨F2, b1, b2, b3⟩ := frz_sound 12 H1 F1 v v' H2 cv hf k1 k3
  obtain ⟨c1, c2, c3⟩ := back hw b1 (k2.trans b2).toKeepB b3 hp'
  exact ⟨cv, F2, μ, rfl, c1, c2, c3⟩

theorem frzList_pure (d : Nat) : ∀ (vs : List V) (H : Heap), V.pureL vs = true → frzList (frzV (d + 1)) H vs = some (vs, H)
  | [], H, _ => rfl
  | v :: r, H, hp => by
    simp only [V.pureL, Bool.and_eq_true] at hp
    have h1 : frzV (d + 1) H v = some (v, H) := by simp only [frzV]; rw [if_pos hp.1]
    simp only [frzList, h1, frzList_pure d r H hp.2]

theorem callFn_ok (hE : EnvOk E) {ex : Ex} (hex : ExecOk E ex) : CallOk E (callFn E ex) := by
  intro f args H v H' h
  unfold callFn at h
  split at h
  · -- a function that is not entered
    rename_i g hg
    split at h
    · rename_i hp
      cases hga : g args with
      | none => rw [hga] at h; cases h
      | some u =>
        rw [hga] at h; injection h with h; injection h with h h'; subst h; subst h'
        obtain ⟨e1, e2, e3⟩ := hE.ext f g hg args u hp hga
        refine ⟨e2, fun w F μ cargs hw hargs => ?_⟩
        refine (e3 w F cargs (hw.empty (fun _ h => h) hw.fz) (hargs.anyMap hp noMap)).mono ?_
        rintro e w1 ⟨cv, F1, μ1, rfl, k1, k2, k3⟩
        obtain ⟨c1, c2, c3⟩ := back hw k1 k2.toKeepB k3 e1
        exact ⟨cv, F1, μ, rfl, c1, c2, c3⟩
    · cases h
  · split at h
    · exact runFn_sound hex h
    · -- the heap only read
      split at h
      · rename_i u H1 hr
        split at h
        · rename_i hs
          injection h with h; injection h with h h'; subst h; subst h'
          obtain ⟨a1, a2⟩ := runFn_sound hex hr
          refine ⟨a1, fun w F μ cargs hw hargs => ?_⟩
          refine (a2 w F μ cargs hw.ro hargs).mono ?_
          rintro e w1 ⟨cv, F1, μ1, rfl, k1, k2, k3⟩
          have hx := k2.toKeepB.ext (own_ro H)
          exact ⟨cv, F, μ, rfl, hx.wr hw, hx.keep, k3.scalarAny hs⟩
        · cases h
      · cases h
    · -- the arguments made immutable
      split at h
      · rename_i args' H1 hf
        split at h
        · rename_i hp
          split at h
          · rename_i u H2 hr
            split at h
            · rename_i u' H3 hfu
              split at h
              · rename_i hpu
                injection h with h; injection h with h h'; subst h; subst h'
                obtain ⟨a1, a2⟩ := pureCall_sound hE hex hp hr hfu hpu
                refine ⟨a1, fun w F μ cargs hw hargs => ?_⟩
                obtain ⟨F1, b1, b2, b3⟩ := frzList_sound (frz_sound 12) _ _ _ _ _ _ hf hw hargs
                refine (a2 w F1 μ H1 cargs b1 b3).mono ?_
                rintro e w1 ⟨cv, F2, μ2, rfl, k1, k2, k3⟩
                exact ⟨cv, F2, μ2, rfl, k1, b2.trans k2, k3⟩
              · cases h
            · cases h
          · cases h
        · cases h
      · cases h
    · split at h
      · rename_i hp
        split at h
        · rename_i u H2 hr
          split at h
          · rename_i u' H3 hfu
            split at h
            · rename_i hpu
              injection h with h; injection h with h h'; subst h; subst h'
              obtain ⟨a1, a2⟩ := pureCall_sound hE hex hp hr hfu hpu
              exact ⟨a1, fun w F μ cargs hw hargs => a2 w F μ H cargs hw hargs⟩
            · cases h
          · cases h
        · cases h
      · split at h
        · rename_i args' hs
          split at h
          · rename_i u H2 hr
            split at h
            · rename_i hsc
              injection h with h; injection h with h h'; subst h; subst h'
              obtain ⟨a1, a2⟩ := runFn_sound hex hr
              refine ⟨a1, fun w F μ cargs hw hargs => ?_⟩
              have hlt : ∀ b, Lent F μ H b → b < w.heap.size := fun b hb => by
                rcases hb with hb | ⟨b', ver, ro, cs, sh, q1, q2⟩
                · exact hw.fz b hb
                · obtain ⟨cb, sh', arr, e, fr, g1, g2, _⟩ := hw.live b' ver ro cs q1
                  rw [q2] at g1; injection g1 with g1; injection g1 with g1 _; subst g1
                  exact (Array.getElem?_eq_some_iff.1 g2).1
              have hargs' := mapO_vals (fun v v' cv h hv => snap_sound hw noMap 12 v v' cv h hv) hs hargs
              refine (a2 w (Lent F μ H) noMap cargs (hw.empty (fun _ h => .inl h) hlt) hargs').mono ?_
              rintro e w1 ⟨cv, F1, μ1, rfl, k1, k2, k3⟩
              have hx := k2.toKeepB.ext own_nil
              exact ⟨cv, F, μ, rfl, hx.wr hw, hx.keep, k3.scalarAny hsc⟩
            · cases h
          · cases h
        · cases h

theorem snap_more {H H' : Heap} (hm : More H H') : ∀ (d : Nat) (v v' : V), snapV d H v = some v' → snapV d H' v = some v'
  | 0, v, v', h => by simp [snapV] at h
  | d + 1, v, v', h => by
    have ih := snap_more hm d
    have l1 : ∀ {vs vs' : List V}, mapO (snapV d H) vs = some vs' → mapO (snapV d H') vs = some vs' := by
      intro vs
      induction vs with
      | nil => intro vs' h; exact h
      | cons x r ihr =>
        intro vs' h
        simp only [mapO] at h ⊢
        split at h
        · rename_i b hb
          split at h
          · rename_i bs hbs
            simp only [ih _ _ hb, ihr hbs]; exact h
          · cases h
        · cases h
    have l2 : ∀ {vs vs' : List (List V)}, mapO (mapO (snapV d H)) vs = some vs' → mapO (mapO (snapV d H')) vs = some vs' := by
      intro vs
      induction vs with
      | nil => intro vs' h; exact h
      | cons x r ihr =>
        intro vs' h
        simp only [mapO] at h ⊢
        split at h
        · rename_i b hb
          split at h
          · rename_i bs hbs
            simp only [l1 hb, ihr hbs]; exact h
          · cases h
        · cases h
    simp only [snapV] at h ⊢
    split at h
    · rename_i hp; rw [if_pos hp]; exact h
    · rename_i hp
      rw [if_neg hp]
      split at h
      · split at h
        · rename_i cs hg
          simp only [hm _ _ _ hg]
          split at h
          · rename_i hc
            rw [if_pos hc]
            cases hq : mapO (mapO (snapV d H)) (chunk _ _ (cs.drop _)) with
            | none => rw [hq] at h; cases h
            | some els => rw [l2 hq]; rw [hq] at h; exact h
          · cases h
        · cases h
      · split at h
        · rename_i cs hg
          simp only [hm _ _ _ hg]
          cases hq : mapO (snapV d H) (cs.drop _) with
          | none => rw [hq] at h; cases h
          | some els => rw [l1 hq]; rw [hq] at h; exact h
        · cases h
      · rename_i full els
        cases hq : mapO (mapO (snapV d H)) els with
        | none => rw [hq] at h; cases h
        | some els => rw [l2 hq]; rw [hq] at h; exact h
      · rename_i cs
        cases hq : mapO (snapV d H) cs with
        | none => rw [hq] at h; cases h
        | some els => rw [l1 hq]; rw [hq] at h; exact h
      · rename_i cs
        cases hq : mapO (snapV d H) cs with
        | none => rw [hq] at h; cases h
        | some els => rw [l1 hq]; rw [hq] at h; exact h
      · rename_i cs
        cases hq : mapO (snapV d H) cs with
        | none => rw [hq] at h; cases h
        | some els => rw [l1 hq]; rw [hq] at h; exact h
      · rename_i f a c
        split at h
        · rename_i a' c' h1 h2
          simp only [l1 h1, l1 h2]; exact h
        · cases h
      · rename_i t u
        cases hq : snapV d H u with
        | none => rw [hq] at h; cases h
        | some u' => rw [ih _ _ hq]; rw [hq] at h; exact h
      · cases h

theorem mapO_more {f g : V → Option V} (hfg : ∀ v v', f v = some v' → g v = some v') : ∀ {vs vs' : List V}, mapO f vs = some vs' → mapO g vs = some vs'
  | [], vs', h => h
  | x :: r, vs', h => by
    simp only [mapO] at h ⊢
    split at h
    · rename_i b hb
      split at h
      · rename_i bs hbs
        simp only [hfg _ _ hb, mapO_more hfg hbs]; exact h
      · cases h
    · cases h

theorem callFn_stays {ex : Ex} : CallStays E (callFn E ex) := by
  intro f args H v H1 h hmode
  unfold callFn at h ⊢
  split at h
  · rename_i g hg
    split at h
    · rename_i hp
      cases hga : g args with
      | none => rw [hga] at h; cases h
      | some u =>
        rw [hga] at h; injection h with h; injection h with h h'; subst h; subst h'
        exact ⟨rfl, fun H' _ => by rw [if_pos hp]; rfl⟩
    · cases h
  · rename_i hg
    rcases hmode with hm | ⟨hm, hp⟩
    · rw [hm] at h ⊢
      simp only at h ⊢
      split at h
      · rename_i hp
        simp only [hp, if_true]
        split at h
        · rename_i u H2 hr
          split at h
          · rename_i u' H3 hfu
            split at h
            · rename_i hpu
              injection h with h; injection h with h h'; subst h; subst h'
              exact ⟨rfl, fun H' _ => by simp only [hr, hfu, hpu, if_true]⟩
            · cases h
          · cases h
        · cases h
      · rename_i hp
        simp only [hp, if_false, Bool.false_eq_true]
        split at h
        · rename_i args' hs
          split at h
          · rename_i u H2 hr
            split at h
            · rename_i hsc
              injection h with h; injection h with h h'; subst h; subst h'
              exact ⟨rfl, fun H' hmore => by rw [mapO_more (snap_more hmore 12) hs]; simp only [hr, hsc, if_true]⟩
            · cases h
          · cases h
        · cases h
    · rw [hm] at h ⊢
      simp only at h ⊢
      have e1 : ∀ H, frzList (frzV 12) H args = some (args, H) := fun H => frzList_pure 11 args H hp
      rw [e1] at h
      simp only [hp, if_true] at h
      split at h
      · rename_i u H2 hr
        split at h
        · rename_i u' H3 hfu
          split at h
          · rename_i hpu
            injection h with h; injection h with h h'; subst h; subst h'
            exact ⟨rfl, fun H' _ => by rw [e1]; simp only [hp, if_true, hr, hfu, hpu]⟩
          · cases h
        · cases h
      · cases h

end Go.Ae

namespace Go.Ae

variable {E : Env}

theorem opsV_frm {call : Call} (hcall : CallFrm call) {f : FuncId} {ops : Array Oper} : ∀ (l : List Oper) (ts : List V), Frm (fun H => opsV E call f ops l ts H)
  | [], ts => .ret _
  | o :: rest, ts => fun H q H' s x h hs => by
    simp only [opsV] at h ⊢
    by_cases hw : wantedV ops ts o = true
    · rw [if_pos hw] at h ⊢
      cases hv : stepV E call f o ts H with
      | none => rw [hv] at h; cases h
      | some u =>
        obtain ⟨v, H1⟩ := u
        rw [hv] at h
        obtain ⟨h1, e1⟩ := stepV_frm hcall H v H1 s x hv hs
        simp only at e1
        rw [e1]
        exact opsV_frm hcall rest _ H1 q H' s x h h1
    · rw [if_neg hw] at h ⊢
      exact opsV_frm hcall rest _ H q H' s x h hs

theorem quiet_same {call : Call} {f : FuncId} {a : Nat} {o : Oper} {ts : List V} (hk : kdOf E f o ≠ .a) : (∀ H, stepD E call f a o ts H = (nop E (rho E ts) o.op).map fun v => (v, H)) ∨ (∀ H, stepD E call f a o ts H = stepV E call f o ts H) ∨ (∀ H, stepD E call f a o ts H = none) := by
  unfold stepD
  cases hq : kdOf E f o with
  | a => exact absurd hq hk
  | n =>
    simp only
    by_cases hE : isE E.P o.op = true
    · exact .inl fun H => by rw [if_pos hE]
    · exact .inr (.inl fun H => by rw [if_neg hE])
  | l =>
    simp only
    by_cases hE : quietArgs E (rho E ts) o.op = true
    · exact .inr (.inl fun H => by rw [if_pos hE])
    · exact .inr (.inr fun H => by rw [if_neg hE])
  | e => exact .inr (.inl fun H => rfl)

theorem stepD_frm {call : Call} (hcall : CallFrm call) {f : FuncId} {a : Nat} {o : Oper} {ts : List V} {H H' : Heap} {v : V} {s : Nat} {x : Option Blk} (hsa : s < a) (h : stepD E call f a o ts H = some (v, H')) (hs : H[s]? = some none) :
    H'[s]? = some none ∧ stepD E call f a o ts (H.set s x) = some (v, H'.set s x) := by
  by_cases hk : kdOf E f o = .a
  · obtain ⟨e, i, _, _, _, hsn, rfl, rfl, hre⟩ := a_kind hk h
    have hne : s ≠ a := by omega
    refine ⟨by rw [List.getElem?_set_ne (Ne.symm hne)]; exact hs, ?_⟩
    rw [hre _ (by rw [List.getElem?_set_ne hne]; exact hsn), List.set_comm _ _ hne]
  · rcases quiet_same (E := E) (call := call) (a := a) (ts := ts) hk with h1 | h1 | h1
    · rw [h1] at h ⊢
      exact Frm.map _ H v H' s x h hs
    · rw [h1] at h ⊢
      exact stepV_frm hcall H v H' s x h hs
    · rw [h1] at h; cases h

theorem drawV_frm {call : Call} (hcall : CallFrm call) {f : FuncId} {ops : Array Oper} : ∀ (l : List Oper) (a : Nat) (ts : List V) (H : Heap) (q : List V) (H' : Heap) (s : Nat) (x : Option Blk), s < a → drawV E call f ops a l ts H = some (q, H') → H[s]? = some none →
    H'[s]? = some none ∧ drawV E call f ops a l ts (H.set s x) = some (q, H'.set s x)
  | [], a, ts, H, q, H', s, x, _, h, hs => fin_same h hs
  | o :: rest, a, ts, H, q, H', s, x, hsa, h, hs => by
    simp only [drawV] at h ⊢
    have hsa' : s < (if isAlloc o = true then a + 1 else a) := by split <;> omega
    by_cases hw : wantedV ops ts o = true
    · rw [if_pos hw] at h ⊢
      cases hv : stepD E call f a o ts H with
      | none => rw [hv] at h; cases h
      | some u =>
        obtain ⟨v, H1⟩ := u
        rw [hv] at h
        obtain ⟨h1, e1⟩ := stepD_frm (x := x) hcall hsa hv hs
        rw [e1]
        exact drawV_frm hcall rest _ _ H1 q H' s x hsa' h h1
    · rw [if_neg hw] at h ⊢
      exact drawV_frm hcall rest _ _ H q H' s x hsa' h hs

theorem drawW_le {call : Call} {f : FuncId} {ops : Array Oper} {wt : Wt} : ∀ (l : List Oper) (j a : Nat) (ts : List V) (H : Heap) (L L' : Log) (res : List V × Heap), LogLe L' L → drawW E call f ops wt j a l ts H L = some res → drawW E call f ops wt j a l ts H L' = some res
  | [], _, _, _, _, _, _, _, _, h => h
  | o :: rest, j, a, ts, H, L, L', res, hs, h => by
    simp only [drawW] at h ⊢
    by_cases hw : wantedV ops ts o = true
    · rw [if_pos hw] at h ⊢
      cases hv : stepD E call f a o ts H with
      | none => rw [hv] at h; cases h
      | some u =>
        obtain ⟨v, H1⟩ := u
        rw [hv] at h
        simp only at h ⊢
        by_cases hc : chkJ E f o wt j (rho E ts) H1 v L = true
        · rw [if_pos hc] at h
          rw [if_pos (chkJ_le (.refl _) hs hc)]
          exact drawW_le rest _ _ _ _ _ _ _ (.append (.refl _) hs) h
        · rw [if_neg hc] at h; cases h
    · rw [if_neg hw] at h ⊢
      exact drawW_le rest _ _ _ _ _ _ _ hs h

theorem drawW_frm {call : Call} (hcall : CallFrm call) {f : FuncId} {ops : Array Oper} {wt : Wt} : ∀ (l : List Oper) (j a : Nat) (ts : List V) (H : Heap) (L : Log) (q : List V) (H' : Heap) (s : Nat) (x : Option Blk), s < a → drawW E call f ops wt j a l ts H L = some (q, H') → H[s]? = some none →
    H'[s]? = some none ∧ drawW E call f ops wt j a l ts (H.set s x) L = some (q, H'.set s x)
  | [], j, a, ts, H, L, q, H', s, x, _, h, hs => fin_same h hs
  | o :: rest, j, a, ts, H, L, q, H', s, x, hsa, h, hs => by
    simp only [drawW] at h ⊢
    have hsa' : s < (if isAlloc o = true then a + 1 else a) := by split <;> omega
    by_cases hw : wantedV ops ts o = true
    · rw [if_pos hw] at h ⊢
      cases hv : stepD E call f a o ts H with
      | none => rw [hv] at h; cases h
      | some u =>
        obtain ⟨v, H1⟩ := u
        rw [hv] at h
        obtain ⟨h1, e1⟩ := stepD_frm (x := x) hcall hsa hv hs
        rw [e1]
        simp only at h ⊢
        by_cases hc : chkJ E f o wt j (rho E ts) H1 v L = true
        · rw [if_pos hc] at h
          rw [if_pos (chkJ_le (more_set h1) (.refl _) hc)]
          obtain ⟨g1, g2⟩ := drawW_frm hcall rest _ _ _ H1 _ q H' s x hsa' h h1
          exact ⟨g1, drawW_le rest _ _ _ _ _ _ _ (.append (logX_le (more_set hs)) (.refl _)) g2⟩
        · rw [if_neg hc] at h; cases h
    · rw [if_neg hw] at h ⊢
      exact drawW_frm hcall rest _ _ _ H _ q H' s x hsa' h hs

theorem frzTmps_frm : ∀ (l : List Tmp) (ts : List V), Frm (fun H => frzTmps l ts H)
  | [], ts => .ret _
  | t :: r, ts => fun H q H' s x h hs => by
    simp only [frzTmps] at h ⊢
    cases hv : frzV 12 H (ts.getD t undefV) with
    | none => rw [hv] at h; cases h
    | some u =>
      obtain ⟨v, H1⟩ := u
      rw [hv] at h
      obtain ⟨h1, e1⟩ := frzV_frm 12 _ H v H1 s x hv hs
      simp only at e1
      rw [e1]
      exact frzTmps_frm r _ H1 q H' s x h h1

/-- The same of code. -/
def FrmR (F : Heap → R) : Prop :=
  ∀ (H : Heap) (y : X) (ts : List V) (H' : Heap) (s : Nat) (x : Option Blk), F H = some (y, ts, H') → H[s]? = some none → H'[s]? = some none ∧ F (H.set s x) = some (y, ts, H'.set s x)

theorem FrmR.ret {y : X} {ts : List V} : FrmR (fun H => some (y, ts, H)) := fun H y' ts' H' s x h hs => by
  simp only [Option.some.injEq, Prod.mk.injEq] at h
  obtain ⟨rfl, rfl, rfl⟩ := h
  exact ⟨hs, rfl⟩

theorem region_frm {call : Call} (hcall : CallFrm call) {f : FuncId} {id : Nat} {ops : Array Oper} {draw : Bool} {ts : List V} : FrmR (fun H => regionV E call f id ops draw ts H) := fun H y q H' s x h hs => by
  simp only [regionV] at h ⊢
  cases hv : frzTmps (E.frz f id) ts H with
  | none => rw [hv] at h; cases h
  | some u =>
    obtain ⟨ts1, H1⟩ := u
    rw [hv] at h
    obtain ⟨h1, e1⟩ := frzTmps_frm _ _ H ts1 H1 s x hv hs
    simp only at e1
    rw [e1]
    simp only at h ⊢
    have hl := hole_lt h1
    have hap : (H1 ++ List.replicate (allocs ops.toList) none)[s]? = some none := by rw [List.getElem?_append_left hl]; exact h1
    by_cases hd : draw = true
    · rw [if_pos hd] at h ⊢
      simp only [List.length_set]
      rw [show H1.set s x ++ List.replicate (allocs ops.toList) none = (H1 ++ List.replicate (allocs ops.toList) none).set s x from (List.set_append_left _ _ hl).symm]
      by_cases hwt : (E.wat f id).isEmpty = false
      · rw [if_pos hwt] at h ⊢
        by_cases hok : drawOkW E f ops (E.wat f id) = true
        · rw [if_pos hok] at h ⊢
          cases hr : drawW E call f ops (E.wat f id) 0 H1.length ops.toList ts1 (H1 ++ List.replicate (allocs ops.toList) none) [] with
          | none => rw [hr] at h; cases h
          | some u =>
            obtain ⟨ts2, H2⟩ := u
            rw [hr] at h
            obtain ⟨g1, g2⟩ := drawW_frm hcall _ _ _ _ _ _ _ _ s x hl hr hap
            rw [g2]
            simp only [Option.some.injEq, Prod.mk.injEq] at h
            obtain ⟨rfl, rfl, rfl⟩ := h
            exact ⟨g1, rfl⟩
        · rw [if_neg hok] at h; cases h
      · rw [if_neg hwt] at h ⊢
        by_cases hok : drawOk E f ops = true
        · rw [if_pos hok] at h ⊢
          cases hr : drawV E call f ops H1.length ops.toList ts1 (H1 ++ List.replicate (allocs ops.toList) none) with
          | none => rw [hr] at h; cases h
          | some u =>
            obtain ⟨ts2, H2⟩ := u
            rw [hr] at h
            obtain ⟨g1, g2⟩ := drawV_frm hcall _ _ _ _ _ _ s x hl hr hap
            rw [g2]
            simp only [Option.some.injEq, Prod.mk.injEq] at h
            obtain ⟨rfl, rfl, rfl⟩ := h
            exact ⟨g1, rfl⟩
        · rw [if_neg hok] at h; cases h
    · rw [if_neg hd] at h ⊢
      cases hr : opsV E call f ops ops.toList ts1 H1 with
      | none => rw [hr] at h; cases h
      | some u =>
        obtain ⟨ts2, H2⟩ := u
        rw [hr] at h
        obtain ⟨g1, g2⟩ := opsV_frm hcall _ _ H1 ts2 H2 s x hr h1
        simp only at g2
        rw [g2]
        simp only [Option.some.injEq, Prod.mk.injEq] at h
        obtain ⟨rfl, rfl, rfl⟩ := h
        exact ⟨g1, rfl⟩

theorem resultV_more {H H' : Heap} (hm : More H H') {ts : List V} {r : ResultVar} {v : V} (h : resultV E ts H r = some v) : resultV E ts H' r = some v := by
  cases r with
  | tmp t => exact h
  | cell a t =>
    simp only [resultV] at h ⊢
    cases ht : tinf E.P t with
    | none => rw [ht] at h; cases h
    | some i =>
      rw [ht] at h
      cases hb : behind H (ts.getD a undefV) with
      | none => rw [hb] at h; cases h
      | some cs => rw [hb] at h; rw [behind_more hm hb]; exact h

theorem mapO_mono2 {α β : Type} {f g : α → Option β} (hfg : ∀ a b, f a = some b → g a = some b) : ∀ {l : List α} {r : List β}, mapO f l = some r → mapO g l = some r
  | [], r, h => h
  | a :: l, r, h => by
    simp only [mapO] at h ⊢
    cases hv : f a with
    | none => rw [hv] at h; cases h
    | some b =>
      rw [hv] at h
      rw [hfg a b hv]
      simp only at h ⊢
      cases hv2 : mapO f l with
      | none => rw [hv2] at h; cases h
      | some bs => rw [hv2] at h; rw [mapO_mono2 hfg hv2]; exact h

theorem results_more {H H' : Heap} (hm : More H H') {fn : Func} {ts : List V} {v : V} (h : resultsV E fn ts H = some v) : resultsV E fn ts H' = some v := by
  unfold resultsV at h ⊢
  split at h
  · exact resultV_more hm h
  · cases hv : mapO (resultV E ts H) fn.results.toList with
    | none => rw [hv] at h; cases h
    | some l => rw [hv] at h; rw [mapO_mono2 (fun r v h => resultV_more hm h) hv]; exact h

def ExFrm (ex : Ex) : Prop := ∀ (f : FuncId) (c : Code) (ts : List V), FrmR (fun H => ex f c ts H)

theorem runFn_frm {ex : Ex} (hex : ExFrm ex) {f : FuncId} {args : List V} : Frm (fun H => runFn E ex f args H) := fun H q H' s x h hs => by
  simp only [runFn] at h ⊢
  cases hf : E.P.funcs[f]? with
  | none => rw [hf] at h; cases h
  | some fn =>
    rw [hf] at h
    simp only at h ⊢
    cases hb : fn.body with
    | none => rw [hb] at h; cases h
    | some c =>
      rw [hb] at h
      simp only at h ⊢
      cases hv : ex f c (args ++ List.replicate (fn.ntmps - args.length) undefV) H with
      | none => rw [hv] at h; cases h
      | some u =>
        obtain ⟨y, ts, H1⟩ := u
        rw [hv] at h
        obtain ⟨h1, e1⟩ := hex f c _ H y ts H1 s x hv hs
        simp only at e1
        rw [e1]
        cases y <;> simp only at h ⊢ <;> try cases h
        all_goals
          cases hr : resultsV E fn ts H1 with
          | none => rw [hr] at h; cases h
          | some v =>
            rw [hr] at h
            rw [results_more (more_set h1) hr]
            exact fin_same h h1

theorem roH_set {H : Heap} {s : Nat} {x : Option Blk} : roH (H.set s x) = (roH H).set s (x.map fun (v, _, cs) => (v, true, cs)) := by
  unfold roH; rw [List.map_set]

theorem callFn_frm {ex : Ex} (hex : ExFrm ex) : CallFrm (callFn E ex) := fun f args H q H' s x h hs => by
  simp only [callFn] at h ⊢
  cases hx : E.ext f with
  | some g =>
    rw [hx] at h
    simp only at h ⊢
    by_cases hp : V.pureL args = true
    · rw [if_pos hp] at h ⊢
      exact Frm.map _ H q H' s x h hs
    · rw [if_neg hp] at h; cases h
  | none =>
    rw [hx] at h
    simp only at h ⊢
    cases hm : E.mode f with
    | inl =>
      rw [hm] at h
      exact runFn_frm hex H q H' s x h hs
    | ro =>
      rw [hm] at h
      simp only at h ⊢
      rw [roH_set]
      cases hv : runFn E ex f args (roH H) with
      | none => rw [hv] at h; cases h
      | some u =>
        obtain ⟨v, H1⟩ := u
        rw [hv] at h
        have hro : (roH H)[s]? = some none := by unfold roH; rw [List.getElem?_map, hs]; rfl
        obtain ⟨h1, e1⟩ := runFn_frm hex (roH H) v H1 s (x.map fun (v, _, cs) => (v, true, cs)) hv hro
        simp only at e1
        rw [e1]
        simp only at h ⊢
        by_cases hsc : v.scalar = true
        · rw [if_pos hsc] at h ⊢; exact fin_same h hs
        · rw [if_neg hsc] at h; cases h
    | mv =>
      rw [hm] at h
      simp only at h ⊢
      cases hv : frzList (frzV 12) H args with
      | none => rw [hv] at h; cases h
      | some u =>
        obtain ⟨args', H1⟩ := u
        rw [hv] at h
        obtain ⟨h1, e1⟩ := frzList_frm (frzV_frm 12) args H args' H1 s x hv hs
        simp only at e1
        rw [e1]
        simp only at h ⊢
        split at h
        · rename_i hp
          rw [if_pos hp]
          split at h
          · rename_i v H2 hr
            try simp only [hr]
            split at h
            · rename_i v' H3 hz
              try simp only [hz]
              split at h
              · rename_i hpu
                try rw [if_pos hpu]
                exact fin_same h h1
              · cases h
            · cases h
          · cases h
        · cases h
    | snap =>
      rw [hm] at h
      simp only at h ⊢
      by_cases hp : V.pureL args = true
      · rw [if_pos hp] at h ⊢
        split at h
        · rename_i v H2 hr
          try simp only [hr]
          split at h
          · rename_i v' H3 hz
            try simp only [hz]
            split at h
            · rename_i hpu
              try rw [if_pos hpu]
              exact fin_same h hs
            · cases h
          · cases h
        · cases h
      · rw [if_neg hp] at h ⊢
        cases hv : mapO (snapV 12 H) args with
        | none => rw [hv] at h; cases h
        | some args' =>
          rw [hv] at h
          rw [mapO_mono2 (fun v v' h => snap_more (more_set hs) 12 v v' h) hv]
          simp only at h ⊢
          split at h
          · rename_i v H2 hr
            try simp only [hr]
            split at h
            · rename_i hsc
              try rw [if_pos hsc]
              exact fin_same h hs
            · cases h
          · cases h

theorem exec_frm : ∀ n : Nat, ExFrm (aexec E n)
  | 0 => fun f c ts H y q H' s x h hs => by simp [aexec] at h
  | n + 1 => fun f c ts H y q H' s x h hs => by
    have ih := exec_frm n
    cases c with
    | skip => simp only [aexec] at h ⊢; exact FrmR.ret H y q H' s x h hs
    | region id ops draw => simp only [aexec] at h ⊢; exact region_frm (callFn_frm ih) H y q H' s x h hs
    | seq a b =>
      simp only [aexec] at h ⊢
      cases hv : aexec E n f a ts H with
      | none => rw [hv] at h; cases h
      | some u =>
        obtain ⟨y1, ts1, H1⟩ := u
        rw [hv] at h
        obtain ⟨h1, e1⟩ := ih f a ts H y1 ts1 H1 s x hv hs
        simp only at e1
        rw [e1]
        cases y1 with
        | nrm => exact ih f b ts1 H1 y q H' s x h h1
        | exit j => exact FrmR.ret H1 y q H' s x h h1
        | ret => exact FrmR.ret H1 y q H' s x h h1
    | cond c a b =>
      simp only [aexec] at h ⊢
      split at h
      · exact ih f a ts H y q H' s x h hs
      · exact ih f b ts H y q H' s x h hs
      · cases h
    | block id c =>
      simp only [aexec] at h ⊢
      cases hv : aexec E n f c ts H with
      | none => rw [hv] at h; cases h
      | some u =>
        obtain ⟨y1, ts1, H1⟩ := u
        rw [hv] at h
        obtain ⟨h1, e1⟩ := ih f c ts H y1 ts1 H1 s x hv hs
        simp only at e1
        rw [e1]
        cases y1 with
        | nrm => exact FrmR.ret H1 y q H' s x h h1
        | exit j =>
          simp only at h ⊢
          by_cases hj : j = id
          · rw [if_pos hj] at h ⊢; exact FrmR.ret H1 y q H' s x h h1
          · rw [if_neg hj] at h ⊢; exact FrmR.ret H1 y q H' s x h h1
        | ret => exact FrmR.ret H1 y q H' s x h h1
    | loop c =>
      simp only [aexec] at h ⊢
      cases hv : aexec E n f c ts H with
      | none => rw [hv] at h; cases h
      | some u =>
        obtain ⟨y1, ts1, H1⟩ := u
        rw [hv] at h
        obtain ⟨h1, e1⟩ := ih f c ts H y1 ts1 H1 s x hv hs
        simp only at e1
        rw [e1]
        cases y1 with
        | nrm => exact ih f (.loop c) ts1 H1 y q H' s x h h1
        | exit j => exact FrmR.ret H1 y q H' s x h h1
        | ret => exact FrmR.ret H1 y q H' s x h h1
    | exit id => simp only [aexec] at h ⊢; exact FrmR.ret H y q H' s x h hs
    | ret => simp only [aexec] at h ⊢; exact FrmR.ret H y q H' s x h hs
    | _ => simp [aexec] at h

end Go.Ae

namespace Go.Ae

variable {E : Env}

theorem exec_sound (hE : EnvOk E) : ∀ n : Nat, ExecOk E (aexec E n) ∧ ∀ (f : FuncId) (c : Code) (ts : List V) (H : Heap) (x : X) (ts' : List V) (H' : Heap), aexec E n f (.loop c) ts H = some (x, ts', H') →
    ∀ (w : World) (F : Nat → Prop) (μ : Nat → Nat → Option (Nat × Nat)) (a : Act) (Q : Exit → Act → World → Prop), WR E w F μ H → VRa w F μ ts a.tmps →
      (∀ a' w' F' μ', WR E w' F' μ' H' → Keep w F μ H w' F' μ' H' → VRa w' F' μ' ts' a'.tmps → a'.defers = a.defers → Q x.conv a' w') → Code.rounds E.P c Q n a w
  | 0 => ⟨fun f c ts H x ts' H' h => by simp [aexec] at h, fun f c ts H x ts' H' h => by simp [aexec] at h⟩
  | n + 1 => by
    obtain ⟨ih, ihl⟩ := exec_sound hE n
    have loop : ∀ (f : FuncId) (c : Code) (ts : List V) (H : Heap) (x : X) (ts' : List V) (H' : Heap), aexec E (n + 1) f (.loop c) ts H = some (x, ts', H') →
        ∀ (w : World) (F : Nat → Prop) (μ : Nat → Nat → Option (Nat × Nat)) (a : Act) (Q : Exit → Act → World → Prop), WR E w F μ H → VRa w F μ ts a.tmps →
          (∀ a' w' F' μ', WR E w' F' μ' H' → Keep w F μ H w' F' μ' H' → VRa w' F' μ' ts' a'.tmps → a'.defers = a.defers → Q x.conv a' w') → Code.rounds E.P c Q (n + 1) a w := by
      intro f c ts H x ts' H' h w F μ a Q hw ht hq
      rw [rounds_succ]
      simp only [aexec] at h
      cases hc : aexec E n f c ts H with
      | none => rw [hc] at h; cases h
      | some r =>
        obtain ⟨y, t1, H1⟩ := r
        rw [hc] at h
        refine ih f c ts H y t1 H1 hc w F μ a _ hw ht (fun a' w' F' μ' q1 q2 q3 q4 => ?_)
        cases y with
        | nrm =>
          simp only at h
          show Code.rounds E.P c Q n a' w'
          exact ihl f c t1 H1 x ts' H' h w' F' μ' a' Q q1 q3 (fun a'' w'' F'' μ'' p1 p2 p3 p4 => hq a'' w'' F'' μ'' p1 (q2.trans p2) p3 (p4.trans q4))
        | exit id =>
          simp only [Option.some.injEq, Prod.mk.injEq] at h
          obtain ⟨rfl, rfl, rfl⟩ := h
          exact hq a' w' F' μ' q1 q2 q3 q4
        | ret =>
          simp only [Option.some.injEq, Prod.mk.injEq] at h
          obtain ⟨rfl, rfl, rfl⟩ := h
          exact hq a' w' F' μ' q1 q2 q3 q4
    refine ⟨?_, loop⟩
    intro f c ts H x ts' H' h w F μ a Q hw ht hq
    cases c with
    | skip =>
      simp only [aexec, Option.some.injEq, Prod.mk.injEq] at h
      obtain ⟨rfl, rfl, rfl⟩ := h
      exact wp_skip (hq a w F μ hw (.refl ..) ht rfl)
    | region id ops draw =>
      simp only [aexec] at h
      have := region_sound hE (callFn_ok hE ih) callFn_stays (callFn_frm (exec_frm n)) h hw (a := a) ht (Q := Q)
      have hx : x = .nrm := by
        unfold regionV at h
        split at h
        · split at h
          · split at h
            · split at h
              · split at h
                · injection h with h; injection h with h _; exact h.symm
                · cases h
              · cases h
            · split at h
              · split at h
                · injection h with h; injection h with h _; exact h.symm
                · cases h
              · cases h
          · split at h
            · injection h with h; injection h with h _; exact h.symm
            · cases h
        · cases h
      subst hx
      exact (this hq).2
    | seq c1 c2 =>
      simp only [aexec] at h
      refine wp_seq ?_
      cases hc : aexec E n f c1 ts H with
      | none => rw [hc] at h; cases h
      | some r =>
        obtain ⟨y, t1, H1⟩ := r
        rw [hc] at h
        refine ih f c1 ts H y t1 H1 hc w F μ a _ hw ht (fun a' w' F' μ' q1 q2 q3 q4 => ?_)
        cases y with
        | nrm =>
          simp only at h
          exact ih f c2 t1 H1 x ts' H' h w' F' μ' a' Q q1 q3 (fun a'' w'' F'' μ'' p1 p2 p3 p4 => hq a'' w'' F'' μ'' p1 (q2.trans p2) p3 (p4.trans q4))
        | exit id =>
          simp only [Option.some.injEq, Prod.mk.injEq] at h
          obtain ⟨rfl, rfl, rfl⟩ := h
          exact hq a' w' F' μ' q1 q2 q3 q4
        | ret =>
          simp only [Option.some.injEq, Prod.mk.injEq] at h
          obtain ⟨rfl, rfl, rfl⟩ := h
          exact hq a' w' F' μ' q1 q2 q3 q4
    | cond c c1 c2 =>
      simp only [aexec] at h
      split at h
      · rename_i hc
        have hr := rho_sound hw ht hc
        have hcv : a.eval c = .bool true := by cases hq : a.eval c <;> rw [hq] at hr <;> cases hr; rfl
        exact wp_cond_true hcv (ih f c1 ts H x ts' H' h w F μ a Q hw ht hq)
      · rename_i hc
        have hr := rho_sound hw ht hc
        have hcv : a.eval c = .bool false := by cases hq : a.eval c <;> rw [hq] at hr <;> cases hr; rfl
        exact wp_cond_false hcv (ih f c2 ts H x ts' H' h w F μ a Q hw ht hq)
      · cases h
    | block id c =>
      simp only [aexec] at h
      refine wp_block ?_
      cases hc : aexec E n f c ts H with
      | none => rw [hc] at h; cases h
      | some r =>
        obtain ⟨y, t1, H1⟩ := r
        rw [hc] at h
        refine ih f c ts H y t1 H1 hc w F μ a _ hw ht (fun a' w' F' μ' q1 q2 q3 q4 => ?_)
        cases y with
        | nrm =>
          simp only [Option.some.injEq, Prod.mk.injEq] at h
          obtain ⟨rfl, rfl, rfl⟩ := h
          exact hq a' w' F' μ' q1 q2 q3 q4
        | exit j =>
          simp only at h
          show Exit.inBlock id Q (.exit j) a' w'
          simp only [Exit.inBlock]
          split at h
          · rename_i hj
            injection h with h; injection h with h h'; injection h' with h' h''; subst h; subst h'; subst h''
            rw [if_pos hj]
            exact hq a' w' F' μ' q1 q2 q3 q4
          · rename_i hj
            injection h with h; injection h with h h'; injection h' with h' h''; subst h; subst h'; subst h''
            rw [if_neg hj]
            exact hq a' w' F' μ' q1 q2 q3 q4
        | ret =>
          simp only [Option.some.injEq, Prod.mk.injEq] at h
          obtain ⟨rfl, rfl, rfl⟩ := h
          exact hq a' w' F' μ' q1 q2 q3 q4
    | loop c => exact wp_loop_rounds (n + 1) (loop f c ts H x ts' H' h w F μ a Q hw ht hq)
    | exit id =>
      simp only [aexec, Option.some.injEq, Prod.mk.injEq] at h
      obtain ⟨rfl, rfl, rfl⟩ := h
      exact wp_exit (hq a w F μ hw (.refl ..) ht rfl)
    | ret =>
      simp only [aexec, Option.some.injEq, Prod.mk.injEq] at h
      obtain ⟨rfl, rfl, rfl⟩ := h
      exact wp_ret (hq a w F μ hw (.refl ..) ht rfl)
    | _ => simp [aexec] at h

theorem acall_ok (hE : EnvOk E) (n : Nat) : CallOk E (acall E n) := callFn_ok hE (exec_sound hE n).1

/-- THE EVALUATOR IS SOUND: a call over values alone, whose result is a plain number, bool or string. -/
theorem acall_sound (hE : EnvOk E) {n : Nat} {f : FuncId} {args : List V} {v : V} {H' : Heap} (h : acall E n f args [] = some (v, H')) (hv : v.flat = true) {w : World} {cargs : List Value}
    (hw : WR E w (fun b => b < w.heap.size) noMap []) (hargs : VRs w (fun b => b < w.heap.size) noMap args cargs) :
    Calls E.P f cargs.toArray w fun e w' => (∃ cv, e = .returned cv ∧ VR w (fun b => b < w.heap.size) noMap v cv) ∧ Go.RowKit.Below w.heap.size w w' := by
  obtain ⟨_, hc⟩ := acall_ok hE n f args [] v H' h
  refine (hc w _ noMap cargs hw hargs).mono ?_
  rintro e w' ⟨cv, F', μ', rfl, k1, k2, k3⟩
  have hx := k2.toKeepB.ext own_nil
  exact ⟨⟨cv, rfl, k3.scalarAny (by cases v <;> simp_all [V.flat, V.scalar])⟩, hx.os, hx.tape, hx.output, hx.size, hx.blk⟩

end Go.Ae
