/-
 The shares of a sum.
-/
import Derived.Test.YtplhjndcokidfaaGreatDoorZ1
set_option linter.unusedVariables false
set_option linter.unusedSimpArgs false
namespace Go.Ae.Zd
open Go.Proofs

theorem MutG.more {α : Type} {e : α → List V} {n : Nat} {z : SL α} {H r : Heap} {v : V} {ys : List α} (h : MutG e n z H v ys) : MutG e n z (H ++ r) v ys := by
 rcases h with h | ⟨b, ver, h1, h2, h3⟩
 ·exact .inl h
 ·exact .inr ⟨b, ver, h1, getW_append h2, h3⟩
theorem MutG.frzD {α : Type} {e : α → List V} {n : Nat} {H : Heap} (E : Ee e n) (hn : 0 < n) {z : SL α} {v : V} {ys : List α} (h : MutG e n z H v ys) (d : Nat) : ∃ H', frzV (d + 2) H v = some (enc e (doneSL z ys), H') := by
 rcases h with ⟨rfl, rfl⟩ | ⟨b, ver, rfl, hb, hne⟩
 ·exact ⟨H, by unfold frzV; rw [if_pos (enc_pure E z)]; rfl⟩
 ·refine ⟨H.set b none, ?_⟩
  have h1 : 0 + ys.length * n ≤ (ys.map e).flatten.length ∧ 0 < n := ⟨by rw [flat_len E]; omega, hn⟩
  unfold frzV
  simp only [V.pure, Bool.false_eq_true, if_false, hb, if_pos h1, List.drop_zero, chunk_flat E]
  rw [frzLL_pure d _ _ (pureLL_map E ys), doneSL, if_neg hne]; rfl
/-- A number and a list, as results. -/
theorem frz_pair {α : Type} {e : α → List V} {n : Nat} {H : Heap} (E : Ee e n) (hn : 0 < n) {z : SL α} {v : V} {ys : List α} (h : MutG e n z H v ys) (a : Int) : ∃ H', frzV 12 H (.tup [.int .i64 a, v]) = some (.tup [.int .i64 a, enc e (doneSL z ys)], H') := by
 obtain ⟨H', hz⟩ := MutG.frzD E hn h 9
 by_cases hp : v.pure = true
 ·have : frzV 11 H v = some (v, H) := by unfold frzV; rw [if_pos hp]
  rw [this] at hz
  injection hz with hz; injection hz with hz _
  refine ⟨H, ?_⟩
  rw [← hz]
  exact frzV_pure12 (by simp [V.pure, V.pureL, hp])
 ·refine ⟨H', ?_⟩
  have h1 : frzV 11 H (.int .i64 a) = some (.int .i64 a, H) := rfl
  unfold frzV
  rw [if_neg (by simp [V.pure, V.pureL, hp])]
  simp only [frzList, h1, hz]
theorem setBlk_new {H : Heap} {x : Option Blk} {ver : Nat} {cs : List V} : setBlk (H ++ [x]) H.length ver cs = H ++ [newBlk ver cs] := by
 unfold setBlk; simp
theorem getW_new0 {H : Heap} {ver : Nat} {cs : List V} : getW (H ++ [newBlk ver cs]) H.length ver = some cs := getW_new
theorem getBlk_new0 {H : Heap} {ver : Nat} {cs : List V} : getBlk (H ++ [newBlk ver cs]) H.length ver = some cs := getBlk_new

theorem eo_buildSlice {E : Env} {f : FuncId} {k : Option Tmp} {H : Heap} {ρ : Operand → Option V} {t : TypeId} {len : Nat} {parts : Array (Nat × Operand)} : eop E f k H ρ (.buildSlice t len parts) = match tinf E.P t, partsO ρ parts.toList with
  |some ⟨.slice e, _, _, _⟩, some l => match tinf E.P e with
   |some ie =>
    if len * ie.size = 0 ∨ len * ie.size > 16777216 then (if len = 0 ∧ l.isEmpty = true then some (.sl true [], H) else none)
    else if ie.zero.cells.length ≠ ie.size then none
    else match fillV (fun i => some (i * ie.size, ie.size)) (List.replicate len ie.zero.cells).flatten l with
     |some cs => if allOne cs then some (.ms ie.size H.length cs.length 0 len true, H ++ [newBlk cs.length cs]) else none
     |none => none
   |none => none
  |_, _ => none := by
 simp only [eop]
 rfl

/-- The places of which it holds. -/
def placesF {α : Type} (p : Int → α → Bool) : Nat → List α → List Int
 |_, [] => []
 |i, a :: r => if p i a then (i : Int) :: placesF p (i + 1) r else placesF p (i + 1) r
theorem placesF_step {α : Type} {p : Int → α → Bool} {l : List α} {i : Nat} (h : i < l.length) : placesF p i (l.drop i) = if p i l[i] then (i : Int) :: placesF p (i + 1) (l.drop (i + 1)) else placesF p (i + 1) (l.drop (i + 1)) := by
 rw [List.drop_eq_getElem_cons h]; rfl
theorem placesF_len {α : Type} (p : Int → α → Bool) : ∀ (l : List α) (i : Nat), (placesF p i l).length ≤ l.length
 |[], _ => by simp [placesF]
 |a :: r, i => by
  have := placesF_len p r (i + 1)
  simp only [placesF]
  split <;> simp <;> omega

/-- A share of f, in the kind at 'other'. -/
def shP (x : SchemaT) (k other : Int) (f : FieldT) (i : Int) (g : FieldT) : Bool := decide (g.kind = 7 ∧ g.of_ = f.name ∧ upS x other i = k)

/-- diorama/typing.shares -/
theorem cSh0_runs (x : SchemaT) (k : Int) (f : FieldT) (hl : x.kinds.list.length < 4611686018427387904) (hn : f.kind ≠ 6 ∨ kIx f.of_ x.kinds.list ≤ k) : Runs LE 45 [.agg (eX x), .int .i64 k, .agg (eF f)] (.tup [.int .i64 (-1), .nil]) := by
 have hK := cKind x f.of_ hl
 refine runs_W (m := 61) Tryz.func45 rfl rfl (Nat.le_of_ble_eq_true rfl) ?_
 simp only [alOf]
 apply w_seq
 apply w_reg [1, 3, 5] rfl; intro Q hQ
 simp (disch := omega) [wrap64, wrapU, leW, wrl, buildV, fillV, splice, hK]
 apply after_some rfl; apply hQ; clear hQ Q
 apply w_seq
 apply w_reg [1, 3, 5, 8] rfl; intro Q hQ
 simp (disch := omega) [wrap64, wrapU, leW, wrl, buildV, fillV, splice, hK]
 apply after_some rfl; apply hQ; clear hQ Q
 apply w_seq
 apply w_seq
 apply w_reg [1, 3, 5, 8, 23] rfl; intro Q hQ
 simp (disch := omega) [wrap64, wrapU, leW, wrl, buildV, fillV, splice, hK]
 repeat' ((first | with_reducible apply after_guard | with_reducible apply after_guardD) <;> (intro hg; have hg' := hg; try simp at hg') <;> simp (disch := omega) [wrap64, wrapU, leW, wrl, buildV, fillV, splice, hK, *])
 all_goals (apply after_some rfl; apply hQ; clear hQ Q)
 all_goals
  skip
  apply w_cond _ rfl <;> intro hc
  ·first
   |(simp at hc; done)
   |(exfalso; simp at hc; omega)
   |try simp [Int.natCast_inj] at hc
    apply w_seq
    apply w_reg [6, 7] rfl; intro Q hQ
    simp (disch := omega) [wrap64, wrapU, leW, wrl, buildV, fillV, splice, hK]
    apply after_some rfl; apply hQ; clear hQ Q
    apply w_ret
    repeat (with_reducible (first | apply kseq_ret | apply kloop_ret | apply kcut_ret | apply kblock_ret))
    apply fin_pure rfl
    ·rfl
    ·rfl
  ·first
   |(simp at hc; done)
   |(exfalso; simp at hc; omega)

theorem cSh0 (x : SchemaT) (k : Int) (f : FieldT) (hl : x.kinds.list.length < 4611686018427387904) (hn : f.kind ≠ 6 ∨ kIx f.of_ x.kinds.list ≤ k) (H : Heap) : call LE 45 [.agg (eX x), .int .i64 k, .agg (eF f)] H = some ((.tup [.int .i64 (-1), .nil]), H) :=
 call_pure rfl (by first | exact .inl rfl | exact .inr rfl) (by simp [V.pure, enc_pure eeK, enc_pure eeF, enc_pure eeL, enc_pure eeR, enc_pure eeS, enc_pure eeI, enc_pure eeP, V.pureL, eK, eF, eX, eL, eR]) (cSh0_runs x k f hl hn) H

/-- diorama/typing.shares -/
theorem cSh1_runs (x : SchemaT) (k : Int) (f : FieldT) (q : KindT) (hs : Small x) (h0 : 0 ≤ k) (hk : f.kind = 6) (hn : k < kIx f.of_ x.kinds.list) (hq : x.kinds.list[(kIx f.of_ x.kinds.list).toNat]? = some q) (hq2 : q.fields.list.length < 1099511627776) : Runs LE 45 [.agg (eX x), .int .i64 k, .agg (eF f)] (.tup [.int .i64 (kIx f.of_ x.kinds.list), enc eI (doneSL .nil (placesF (shP x k (kIx f.of_ x.kinds.list) f) 0 q.fields.list))]) := by
 have hK := cKind x f.of_ hs.1
 have hb : (kIx f.of_ x.kinds.list).toNat < x.kinds.list.length := (List.getElem?_eq_some_iff.1 hq).1
 have hqe : x.kinds.list[(kIx f.of_ x.kinds.list).toNat] = q := by rw [List.getElem?_eq_getElem hb] at hq; injection hq
 have hU := fun (j : Int) (H : Heap) => cUp hs (kIx f.of_ x.kinds.list) j H
 refine runs_W (m := 61) Tryz.func45 rfl rfl (Nat.le_of_ble_eq_true rfl) ?_
 simp only [alOf]
 apply w_seq
 apply w_reg [1, 3, 5] rfl; intro Q hQ
 simp (disch := omega) [wrap64, wrapU, leW, wrl, buildV, fillV, splice, hK, hk, hqe, hU, eo_buildSlice]
 apply after_some rfl; apply hQ; clear hQ Q
 apply w_seq
 apply w_reg [1, 3, 5, 8] rfl; intro Q hQ
 simp (disch := omega) [wrap64, wrapU, leW, wrl, buildV, fillV, splice, hK, hk, hqe, hU, eo_buildSlice]
 apply after_some rfl; apply hQ; clear hQ Q
 apply w_seq
 apply w_seq
 apply w_reg [1, 3, 5, 8, 23] rfl; intro Q hQ
 simp (disch := omega) [wrap64, wrapU, leW, wrl, buildV, fillV, splice, hK, hk, hqe, hU, eo_buildSlice]
 repeat' ((first | with_reducible apply after_guard | with_reducible apply after_guardD) <;> (intro hg; have hg' := hg; try simp at hg') <;> simp (disch := omega) [wrap64, wrapU, leW, wrl, buildV, fillV, splice, hK, hk, hqe, hU, eo_buildSlice, *])
 all_goals (apply after_some rfl; apply hQ; clear hQ Q)
 all_goals
  skip
  apply w_cond _ rfl <;> intro hc
  ·first
   |(simp at hc; done)
   |(exfalso; simp at hc; omega)
  ·first
   |(simp at hc; done)
   |(exfalso; simp at hc; omega)
   |try simp [Int.natCast_inj] at hc
    apply w_skip
    apply w_seq
    apply w_reg [1, 3, 5, 8, 9] rfl; intro Q hQ
    simp (disch := omega) [wrap64, wrapU, leW, wrl, buildV, fillV, splice, hK, hk, hqe, hU, eo_buildSlice]
    apply after_some rfl; apply hQ; clear hQ Q
    apply w_seq
    apply w_seq
    apply w_reg [1, 3, 5, 8, 9, 29, 30, 31] rfl; intro Q hQ
    simp (disch := omega) [wrap64, wrapU, leW, wrl, buildV, fillV, splice, hK, hk, hqe, hU, eo_buildSlice]
    apply after_some rfl; apply hQ; clear hQ Q
    apply w_block
    refine w_loop (fun m al H => ∃ (i : Nat) (ys : List Int) (v : V), m = q.fields.list.length - i ∧ i ≤ q.fields.list.length ∧ MutG eI 1 .nil H v ys ∧ ys ++ placesF (shP x k (kIx f.of_ x.kinds.list) f) i (q.fields.list.drop i) = placesF (shP x k (kIx f.of_ x.kinds.list) f) 0 q.fields.list ∧ ys.length ≤ i ∧ al = [(1, .int .i64 k), (3, .rp (eX x)), (5, .rp (eF f)), (8, .int .i64 (kIx f.of_ x.kinds.list)), (9, v), (29, enc eF q.fields), (30, .int .i64 (q.fields.list.length : Int)), (31, .int .i64 (i : Int))]) (q.fields.list.length) ?_ ?_
    ·exact ⟨0, [], .nil, by simp, by omega, .inl ⟨rfl, rfl⟩, rfl, by simp, rfl⟩
    rintro m al H ⟨i, ys, v, hm, hi0, hM, hp, hy, rfl⟩
    apply w_seq
    have hAp := fun (b1 : Option Blk) (j : Int) => MutG.app LTi eeI (.inl rfl) (MutG.more (r := [b1, newBlk 1 [.int .i64 j]]) hM) (x := .ms 1 (H.length + 1) 1 0 1 true) (xs := [j]) (by
     have e : getBlk (H ++ [b1, newBlk 1 [.int .i64 j]]) (H.length + 1) 1 = some [.int .i64 j] := by
      have := getBlk_new0 (H := H ++ [b1]) (ver := 1) (cs := [.int .i64 j])
      simpa using this
     exact elems_ms eeI (by decide) (ys := [j]) e) (by simp [room]; omega)
    have hAp1 := fun (b1 : Option Blk) (j : Int) => (hAp b1 j).1
    apply w_reg [1, 3, 5, 8, 9, 29, 30, 31, 32] rfl; intro Q hQ
    simp (disch := omega) [wrap64, wrapU, leW, wrl, buildV, fillV, splice, hK, hk, hqe, hU, eo_buildSlice, getW_new0, getBlk_new0, setBlk_new, hAp1]
    apply after_some rfl; apply hQ; clear hQ Q
    apply w_seq
    apply w_cond _ rfl <;> intro hc
    ·first
     |(simp at hc; done)
     |(exfalso; simp at hc; omega)
     |try simp [Int.natCast_inj] at hc
      apply w_skip
      apply w_seq
      apply w_block
      apply w_seq
      apply w_reg [1, 3, 5, 8, 9, 10, 11, 29, 30, 31] rfl; intro Q hQ
      simp (disch := omega) [wrap64, wrapU, leW, wrl, buildV, fillV, splice, hK, hk, hqe, hU, eo_buildSlice, getW_new0, getBlk_new0, setBlk_new, hAp1]
      apply after_some rfl; apply hQ; clear hQ Q
      apply w_seq
      apply w_reg [1, 3, 5, 8, 9, 10, 29, 30, 31, 53] rfl; intro Q hQ
      simp (disch := omega) [wrap64, wrapU, leW, wrl, buildV, fillV, splice, hK, hk, hqe, hU, eo_buildSlice, getW_new0, getBlk_new0, setBlk_new, hAp1]
      repeat' ((first | with_reducible apply after_guard | with_reducible apply after_guardD) <;> (intro hg; have hg' := hg; try simp at hg') <;> simp (disch := omega) [wrap64, wrapU, leW, wrl, buildV, fillV, splice, hK, hk, hqe, hU, eo_buildSlice, getW_new0, getBlk_new0, setBlk_new, hAp1, *])
      all_goals (apply after_some rfl; apply hQ; clear hQ Q)
      all_goals
       skip
       apply w_cond _ rfl <;> intro hc
       ·first
        |(simp at hc; done)
        |(exfalso; simp at hc; omega)
        |try simp [Int.natCast_inj] at hc
         apply w_reg [1, 3, 5, 8, 9, 29, 30, 31] rfl; intro Q hQ
         simp (disch := omega) [wrap64, wrapU, leW, wrl, buildV, fillV, splice, hK, hk, hqe, hU, eo_buildSlice, getW_new0, getBlk_new0, setBlk_new, hAp1]
         apply after_some rfl; apply hQ; clear hQ Q
         apply w_reg [1, 3, 5, 8, 9, 29, 30, 31] rfl; intro Q hQ
         simp (disch := omega) [wrap64, wrapU, leW, wrl, buildV, fillV, splice, hK, hk, hqe, hU, eo_buildSlice, getW_new0, getBlk_new0, setBlk_new, hAp1]
         apply after_some rfl; apply hQ; clear hQ Q
         repeat (with_reducible apply kblock_nrm)
         have hci : i < q.fields.list.length := by assumption
         have hP : shP x k (kIx f.of_ x.kinds.list) f (i : Int) q.fields.list[i] = true := by simp [shP, *]
         refine kloop_back (q.fields.list.length - (i + 1)) (by omega) ⟨i + 1, ys ++ [(i : Int)], _, rfl, by omega, (hAp _ _).2, ?_, by simp; omega, rfl⟩
         rw [← hp, placesF_step hci, if_pos hP, List.append_assoc]; rfl
       ·first
        |(simp at hc; done)
        |(exfalso; simp at hc; omega)
        |try simp [Int.natCast_inj] at hc
         apply w_skip
         apply w_reg [1, 3, 5, 8, 9, 29, 30, 31] rfl; intro Q hQ
         simp (disch := omega) [wrap64, wrapU, leW, wrl, buildV, fillV, splice, hK, hk, hqe, hU, eo_buildSlice, getW_new0, getBlk_new0, setBlk_new, hAp1]
         apply after_some rfl; apply hQ; clear hQ Q
         repeat (with_reducible apply kblock_nrm)
         have hci : i < q.fields.list.length := by assumption
         have hP : shP x k (kIx f.of_ x.kinds.list) f (i : Int) q.fields.list[i] = false := by simp [shP, *]
         refine kloop_back (q.fields.list.length - (i + 1)) (by omega) ⟨i + 1, ys, v, rfl, by omega, MutG.more hM, ?_, by omega, rfl⟩
         rw [← hp, placesF_step hci, hP]; rfl
    ·first
     |(simp at hc; done)
     |(exfalso; simp at hc; omega)
     |try simp [Int.natCast_inj] at hc
      apply w_exit
      repeat (first | with_reducible apply kseq_exit | with_reducible apply kloop_exit | with_reducible apply kcut_exit | with_reducible apply kblock_exit | with_reducible apply kblock_pass (by decide))
      apply w_seq
      apply w_reg [6, 7] rfl; intro Q hQ
      simp (disch := omega) [wrap64, wrapU, leW, wrl, buildV, fillV, splice, hK, hk, hqe, hU, eo_buildSlice, getW_new0, getBlk_new0, setBlk_new, hAp1]
      apply after_some rfl; apply hQ; clear hQ Q
      apply w_ret
      repeat (with_reducible (first | apply kseq_ret | apply kloop_ret | apply kcut_ret | apply kblock_ret))
      have hie : i = q.fields.list.length := by omega
      subst hie
      have hp2 : ys = placesF (shP x k (kIx f.of_ x.kinds.list) f) 0 q.fields.list := by rw [← hp, List.drop_length]; simp [placesF]
      rw [← hp2]
      obtain ⟨H2, hz⟩ := frz_pair eeI (by decide) hM (kIx f.of_ x.kinds.list)
      exact fin_frz rfl hz (by simp [V.pure, V.pureL, enc_pure eeI]) (by cases doneSL SL.nil ys <;> rfl)

theorem cSh1 (x : SchemaT) (k : Int) (f : FieldT) (q : KindT) (hs : Small x) (h0 : 0 ≤ k) (hk : f.kind = 6) (hn : k < kIx f.of_ x.kinds.list) (hq : x.kinds.list[(kIx f.of_ x.kinds.list).toNat]? = some q) (hq2 : q.fields.list.length < 1099511627776) (H : Heap) : call LE 45 [.agg (eX x), .int .i64 k, .agg (eF f)] H = some ((.tup [.int .i64 (kIx f.of_ x.kinds.list), enc eI (doneSL .nil (placesF (shP x k (kIx f.of_ x.kinds.list) f) 0 q.fields.list))]), H) :=
 call_pure rfl (by first | exact .inl rfl | exact .inr rfl) (by simp [V.pure, enc_pure eeK, enc_pure eeF, enc_pure eeL, enc_pure eeR, enc_pure eeS, enc_pure eeI, enc_pure eeP, V.pureL, eK, eF, eX, eL, eR]) (cSh1_runs x k f q hs h0 hk hn hq hq2) H

end Go.Ae.Zd

namespace Go.Ae.Zd
open Go.Proofs

/-- Appending leaves the first block as it is, if it is not the list's. -/
theorem app2 {α : Type} {P : Program} {ty et : TypeId} {i : TI} {e : α → List V} {H : Heap} (T : LT P ty et i) (E : Ee e i.size) {z : SL α} (hz : Empty z) {v x : V} {ys xs : List α} (h : MutG e i.size z H v ys) (hx : elemsOf H x = some (xs.map e)) (hl : (ys.length + xs.length) * i.bytes ≤ room) (h0 : 0 < H.length) (hv : ∀ ver, v ≠ .ms i.size 0 ver 0 ys.length false) :
  appendV P H ty v x = some (apV P ty H v x, apH P ty H v x) ∧ MutG e i.size z (apH P ty H v x) (apV P ty H v x) (ys ++ xs) ∧ (apH P ty H v x)[0]? = H[0]? ∧ ∀ ver, apV P ty H v x ≠ .ms i.size 0 ver 0 (ys ++ xs).length false := by
 obtain ⟨v', H', h1, h2, h3, h4, h5⟩ := h.append T E hz hx hl
 simp only [apV, apH, h1]
 refine ⟨trivial, h2, h4 0 h0 hv, fun ver hq => ?_⟩
 rcases h5 0 ver hq with ⟨ver', h6⟩ | h6
 ·exact hv ver' h6
 ·omega
theorem getBlk_at {H : Heap} {cs : List V} (h : H[0]? = some (newBlk 0 cs)) : getBlk H 0 0 = some cs := by
 unfold getBlk; rw [h]; rfl

/-- diorama/dioramaref10.Sums -/
theorem rSh0_runs (x : SchemaT) (k j : Int) (f : FieldT) (hs : Small x) (hf : fldO x k j = some f) (hn : f.kind ≠ 6 ∨ kIx f.of_ x.kinds.list ≤ k) : Runs LE 46 [.agg (eX x), .int .i64 k, .int .i64 j] (.tup [.int .i64 (-1), .nil]) := by
 obtain ⟨h0, h1, h2, q', hq', h3, h4⟩ := fldO_of hf
 have hbk : k.toNat < x.kinds.list.length := by omega
 have hqk : x.kinds.list[k.toNat] = q' := by rw [List.getElem?_eq_getElem hbk] at hq'; injection hq'
 have hb2 : j.toNat < q'.fields.list.length := by omega
 have hfe : q'.fields.list[j.toNat] = f := by rw [List.getElem?_eq_getElem hb2] at h4; injection h4
 have hK := rKind x f.of_ hs.1
 refine runs_W (m := 76) Tryz.func46 rfl rfl (Nat.le_of_ble_eq_true rfl) ?_
 simp only [alOf]
 apply w_seq
 apply w_reg [1, 2, 3] rfl; intro Q hQ
 simp (disch := omega) [wrap64, wrapU, leW, wrl, buildV, fillV, splice, hK, hqk, hfe]
 apply after_some rfl; apply hQ; clear hQ Q
 apply w_seq
 apply w_reg [1, 3, 8] rfl; intro Q hQ
 simp (disch := omega) [wrap64, wrapU, leW, wrl, buildV, fillV, splice, hK, hqk, hfe]
 apply after_some rfl; apply hQ; clear hQ Q
 apply w_seq
 apply w_reg [1, 3, 8, 9] rfl; intro Q hQ
 simp (disch := omega) [wrap64, wrapU, leW, wrl, buildV, fillV, splice, hK, hqk, hfe]
 apply after_some rfl; apply hQ; clear hQ Q
 apply w_seq
 apply w_seq
 apply w_reg [1, 3, 8, 9, 33] rfl; intro Q hQ
 simp (disch := omega) [wrap64, wrapU, leW, wrl, buildV, fillV, splice, hK, hqk, hfe]
 repeat' ((first | with_reducible apply after_guard | with_reducible apply after_guardD) <;> (intro hg; have hg' := hg; try simp at hg') <;> simp (disch := omega) [wrap64, wrapU, leW, wrl, buildV, fillV, splice, hK, hqk, hfe, *])
 all_goals (apply after_some rfl; apply hQ; clear hQ Q)
 all_goals
  skip
  apply w_cond _ rfl <;> intro hc
  ·first
   |(simp at hc; done)
   |(exfalso; simp at hc; omega)
   |try simp [Int.natCast_inj] at hc
    apply w_seq
    apply w_reg [6, 7] rfl; intro Q hQ
    simp (disch := omega) [wrap64, wrapU, leW, wrl, buildV, fillV, splice, hK, hqk, hfe]
    apply after_some rfl; apply hQ; clear hQ Q
    apply w_ret
    repeat (with_reducible (first | apply kseq_ret | apply kloop_ret | apply kcut_ret | apply kblock_ret))
    apply fin_pure rfl
    ·rfl
    ·rfl
  ·first
   |(simp at hc; done)
   |(exfalso; simp at hc; omega)

theorem rSh0 (x : SchemaT) (k j : Int) (f : FieldT) (hs : Small x) (hf : fldO x k j = some f) (hn : f.kind ≠ 6 ∨ kIx f.of_ x.kinds.list ≤ k) (H : Heap) : call LE 46 [.agg (eX x), .int .i64 k, .int .i64 j] H = some ((.tup [.int .i64 (-1), .nil]), H) :=
 call_pure rfl (by first | exact .inl rfl | exact .inr rfl) (by simp [V.pure, enc_pure eeK, enc_pure eeF, enc_pure eeL, enc_pure eeR, enc_pure eeS, enc_pure eeI, enc_pure eeP, V.pureL, eK, eF, eX, eL, eR]) (rSh0_runs x k j f hs hf hn) H

/-- diorama/dioramaref10.Sums -/
theorem rSh1_runs (x : SchemaT) (k j : Int) (f : FieldT) (q : KindT) (hs : Small x) (hf : fldO x k j = some f) (hk : f.kind = 6) (hn : k < kIx f.of_ x.kinds.list) (hq : x.kinds.list[(kIx f.of_ x.kinds.list).toNat]? = some q) (hq2 : q.fields.list.length < 1099511627776) : Runs LE 46 [.agg (eX x), .int .i64 k, .int .i64 j] (.tup [.int .i64 (kIx f.of_ x.kinds.list), enc eI (doneSL .nil (placesF (shP x k (kIx f.of_ x.kinds.list) f) 0 q.fields.list))]) := by
 obtain ⟨h0, h1, h2, q', hq', h3, h4⟩ := fldO_of hf
 have hbk : k.toNat < x.kinds.list.length := by omega
 have hqk : x.kinds.list[k.toNat] = q' := by rw [List.getElem?_eq_getElem hbk] at hq'; injection hq'
 have hb2 : j.toNat < q'.fields.list.length := by omega
 have hfe : q'.fields.list[j.toNat] = f := by rw [List.getElem?_eq_getElem hb2] at h4; injection h4
 have hK := rKind x f.of_ hs.1
 have hb : (kIx f.of_ x.kinds.list).toNat < x.kinds.list.length := (List.getElem?_eq_some_iff.1 hq).1
 have hqe : x.kinds.list[(kIx f.of_ x.kinds.list).toNat] = q := by rw [List.getElem?_eq_getElem hb] at hq; injection hq
 have hU := fun (j : Int) (H : Heap) => rUp hs (kIx f.of_ x.kinds.list) j H
 refine runs_W (m := 76) Tryz.func46 rfl rfl (Nat.le_of_ble_eq_true rfl) ?_
 simp only [alOf]
 apply w_seq
 apply w_reg [1, 2, 3] rfl; intro Q hQ
 simp (disch := omega) [wrap64, wrapU, leW, wrl, buildV, fillV, splice, hK, hk, hqk, hfe, hqe, hU, eo_buildSlice]
 apply after_some rfl; apply hQ; clear hQ Q
 apply w_seq
 apply w_reg [1, 3, 8] rfl; intro Q hQ
 simp (disch := omega) [wrap64, wrapU, leW, wrl, buildV, fillV, splice, hK, hk, hqk, hfe, hqe, hU, eo_buildSlice]
 apply after_some rfl; apply hQ; clear hQ Q
 apply w_seq
 apply w_reg [1, 3, 8, 9] rfl; intro Q hQ
 simp (disch := omega) [wrap64, wrapU, leW, wrl, buildV, fillV, splice, hK, hk, hqk, hfe, hqe, hU, eo_buildSlice]
 apply after_some rfl; apply hQ; clear hQ Q
 apply w_seq
 apply w_seq
 apply w_reg [1, 3, 8, 9, 33] rfl; intro Q hQ
 simp (disch := omega) [wrap64, wrapU, leW, wrl, buildV, fillV, splice, hK, hk, hqk, hfe, hqe, hU, eo_buildSlice]
 repeat' ((first | with_reducible apply after_guard | with_reducible apply after_guardD) <;> (intro hg; have hg' := hg; try simp at hg') <;> simp (disch := omega) [wrap64, wrapU, leW, wrl, buildV, fillV, splice, hK, hk, hqk, hfe, hqe, hU, eo_buildSlice, *])
 all_goals (apply after_some rfl; apply hQ; clear hQ Q)
 all_goals
  skip
  apply w_cond _ rfl <;> intro hc
  ·first
   |(simp at hc; done)
   |(exfalso; simp at hc; omega)
  ·first
   |(simp at hc; done)
   |(exfalso; simp at hc; omega)
   |try simp [Int.natCast_inj] at hc
    apply w_skip
    apply w_seq
    apply w_reg [1, 3, 8, 9, 10] rfl; intro Q hQ
    simp (disch := omega) [wrap64, wrapU, leW, wrl, buildV, fillV, splice, hK, hk, hqk, hfe, hqe, hU, eo_buildSlice]
    apply after_some rfl; apply hQ; clear hQ Q
    apply w_seq
    apply w_reg [1, 3, 8, 9, 10, 11] rfl; intro Q hQ
    simp (disch := omega) [wrap64, wrapU, leW, wrl, buildV, fillV, splice, hK, hk, hqk, hfe, hqe, hU, eo_buildSlice]
    apply after_some rfl; apply hQ; clear hQ Q
    apply w_seq
    apply w_seq
    apply w_reg [1, 3, 8, 9, 10, 11, 12] rfl; intro Q hQ
    simp (disch := omega) [wrap64, wrapU, leW, wrl, buildV, fillV, splice, hK, hk, hqk, hfe, hqe, hU, eo_buildSlice]
    apply after_some rfl; apply hQ; clear hQ Q
    apply w_block
    refine w_loop (fun m al H => ∃ (i : Nat) (ys : List Int) (v : V), m = q.fields.list.length - i ∧ i ≤ q.fields.list.length ∧ MutG eI 1 .nil H v ys ∧ ys ++ placesF (shP x k (kIx f.of_ x.kinds.list) f) i (q.fields.list.drop i) = placesF (shP x k (kIx f.of_ x.kinds.list) f) 0 q.fields.list ∧ ys.length ≤ i ∧ H[0]? = some (newBlk 0 (eF f)) ∧ (∀ ver, v ≠ .ms 1 0 ver 0 ys.length false) ∧ al = [(1, .int .i64 k), (3, .rp (eX x)), (8, .mp 0 0 0), (9, .int .i64 (kIx f.of_ x.kinds.list)), (10, v), (11, enc eF q.fields), (12, .int .i64 (i : Int))]) (q.fields.list.length) ?_ ?_
    ·exact ⟨0, [], .nil, by simp, by omega, .inl ⟨rfl, rfl⟩, rfl, by simp, rfl, fun _ h => (by cases h), rfl⟩
    rintro m al H ⟨i, ys, v, hm, hi0, hM, hp, hy, hH, hv, rfl⟩
    apply w_seq
    apply w_seq
    have hHl : 0 < H.length := by
     rcases Nat.eq_zero_or_pos H.length with h | h
     ·rw [List.length_eq_zero_iff.1 h] at hH; cases hH
     ·exact h
    have hAp := fun (j : Int) => app2 LTi eeI (.inl rfl) (MutG.more (r := [newBlk 1 [.int .i64 j]]) hM) (x := .ms 1 H.length 1 0 1 true) (xs := [j]) (elems_ms eeI (by decide) (ys := [j]) getBlk_new0) (by simp [room]; omega) (by simp) hv
    have hAp1 := fun (j : Int) => (hAp j).1
    have hB0 := getBlk_at hH
    apply w_reg [1, 3, 8, 9, 10, 11, 12, 43] rfl; intro Q hQ
    simp (disch := omega) [wrap64, wrapU, leW, wrl, buildV, fillV, splice, hK, hk, hqk, hfe, hqe, hU, eo_buildSlice, getW_new0, getBlk_new0, setBlk_new, hAp1, hB0]
    apply after_some rfl; apply hQ; clear hQ Q
    apply w_cond _ rfl <;> intro hc
    ·first
     |(simp at hc; done)
     |(exfalso; simp at hc; omega)
     |try simp [Int.natCast_inj] at hc
      apply w_skip
      apply w_seq
      apply w_block
      apply w_seq
      apply w_drw [1, 3, 8, 9, 10, 11, 12, 69] rfl rfl (by kernel_rfl) 0 rfl; intro Q hQ
      simp (disch := omega) [wrap64, wrapU, leW, wrl, buildV, fillV, splice, hK, hk, hqk, hfe, hqe, hU, eo_buildSlice, getW_new0, getBlk_new0, setBlk_new, hAp1, hB0]
      repeat' ((first | with_reducible apply after_guard | with_reducible apply after_guardD) <;> (intro hg; have hg' := hg; try simp at hg') <;> simp (disch := omega) [wrap64, wrapU, leW, wrl, buildV, fillV, splice, hK, hk, hqk, hfe, hqe, hU, eo_buildSlice, getW_new0, getBlk_new0, setBlk_new, hAp1, hB0, *])
      all_goals (apply after_some rfl; apply hQ; clear hQ Q)
      all_goals
       skip
       apply w_cond _ rfl <;> intro hc
       ·first
        |(simp at hc; done)
        |(exfalso; simp at hc; omega)
        |try simp [Int.natCast_inj] at hc
         apply w_reg [1, 3, 8, 9, 10, 11, 12] rfl; intro Q hQ
         simp (disch := omega) [wrap64, wrapU, leW, wrl, buildV, fillV, splice, hK, hk, hqk, hfe, hqe, hU, eo_buildSlice, getW_new0, getBlk_new0, setBlk_new, hAp1, hB0]
         apply after_some rfl; apply hQ; clear hQ Q
         apply w_reg [1, 3, 8, 9, 10, 11, 12] rfl; intro Q hQ
         simp (disch := omega) [wrap64, wrapU, leW, wrl, buildV, fillV, splice, hK, hk, hqk, hfe, hqe, hU, eo_buildSlice, getW_new0, getBlk_new0, setBlk_new, hAp1, hB0]
         apply after_some rfl; apply hQ; clear hQ Q
         repeat (with_reducible apply kblock_nrm)
         have hci : i < q.fields.list.length := by assumption
         have hP : shP x k (kIx f.of_ x.kinds.list) f (i : Int) q.fields.list[i] = true := by simp [shP, *]
         have hA2 := hAp (i : Int)
         refine kloop_back (q.fields.list.length - (i + 1)) (by omega) ⟨i + 1, ys ++ [(i : Int)], _, rfl, by omega, hA2.2.1, ?_, by simp; omega, ?_, hA2.2.2.2, rfl⟩
         ·rw [← hp, placesF_step hci, if_pos hP, List.append_assoc]; rfl
         ·rw [hA2.2.2.1, List.getElem?_append_left hHl]; exact hH
       ·first
        |(simp at hc; done)
        |(exfalso; simp at hc; omega)
        |try simp [Int.natCast_inj] at hc
         apply w_skip
         apply w_reg [1, 3, 8, 9, 10, 11, 12] rfl; intro Q hQ
         simp (disch := omega) [wrap64, wrapU, leW, wrl, buildV, fillV, splice, hK, hk, hqk, hfe, hqe, hU, eo_buildSlice, getW_new0, getBlk_new0, setBlk_new, hAp1, hB0]
         apply after_some rfl; apply hQ; clear hQ Q
         repeat (with_reducible apply kblock_nrm)
         have hci : i < q.fields.list.length := by assumption
         have hP : shP x k (kIx f.of_ x.kinds.list) f (i : Int) q.fields.list[i] = false := by simp [shP, *]
         refine kloop_back (q.fields.list.length - (i + 1)) (by omega) ⟨i + 1, ys, v, rfl, by omega, hM, ?_, by omega, hH, hv, rfl⟩
         rw [← hp, placesF_step hci, hP]; rfl
    ·first
     |(simp at hc; done)
     |(exfalso; simp at hc; omega)
     |try simp [Int.natCast_inj] at hc
      apply w_exit
      repeat (first | with_reducible apply kseq_exit | with_reducible apply kloop_exit | with_reducible apply kcut_exit | with_reducible apply kblock_exit | with_reducible apply kblock_pass (by decide))
      apply w_seq
      apply w_reg [6, 7] rfl; intro Q hQ
      simp (disch := omega) [wrap64, wrapU, leW, wrl, buildV, fillV, splice, hK, hk, hqk, hfe, hqe, hU, eo_buildSlice, getW_new0, getBlk_new0, setBlk_new, hAp1, hB0]
      apply after_some rfl; apply hQ; clear hQ Q
      apply w_ret
      repeat (with_reducible (first | apply kseq_ret | apply kloop_ret | apply kcut_ret | apply kblock_ret))
      have hie : i = q.fields.list.length := by omega
      subst hie
      have hp2 : ys = placesF (shP x k (kIx f.of_ x.kinds.list) f) 0 q.fields.list := by rw [← hp, List.drop_length]; simp [placesF]
      rw [← hp2]
      obtain ⟨H2, hz⟩ := frz_pair eeI (by decide) hM (kIx f.of_ x.kinds.list)
      exact fin_frz rfl hz (by simp [V.pure, V.pureL, enc_pure eeI]) (by cases doneSL SL.nil ys <;> rfl)

theorem rSh1 (x : SchemaT) (k j : Int) (f : FieldT) (q : KindT) (hs : Small x) (hf : fldO x k j = some f) (hk : f.kind = 6) (hn : k < kIx f.of_ x.kinds.list) (hq : x.kinds.list[(kIx f.of_ x.kinds.list).toNat]? = some q) (hq2 : q.fields.list.length < 1099511627776) (H : Heap) : call LE 46 [.agg (eX x), .int .i64 k, .int .i64 j] H = some ((.tup [.int .i64 (kIx f.of_ x.kinds.list), enc eI (doneSL .nil (placesF (shP x k (kIx f.of_ x.kinds.list) f) 0 q.fields.list))]), H) :=
 call_pure rfl (by first | exact .inl rfl | exact .inr rfl) (by simp [V.pure, enc_pure eeK, enc_pure eeF, enc_pure eeL, enc_pure eeR, enc_pure eeS, enc_pure eeI, enc_pure eeP, V.pureL, eK, eF, eX, eL, eR]) (rSh1_runs x k j f q hs hf hk hn hq hq2) H

end Go.Ae.Zd

namespace Go.Ae.Zd
open Go.Proofs

/-- diorama/typing.Shares -/
theorem cShares0_runs (x : SchemaT) (k j : Int) (hf : fldO x k j = none) : Runs LE 13 [.agg (eX x), .int .i64 k, .int .i64 j] (.tup [.int .i64 (-1), .int .i64 (-1)]) := by
 have hA := cAt x k j
 refine runs_W (m := 35) Tryz.func13 rfl rfl (Nat.le_of_ble_eq_true rfl) ?_
 simp only [alOf]
 apply w_seq
 apply w_reg [1, 2, 3] rfl; intro Q hQ
 simp (disch := omega) [wrap64, wrapU, leW, wrl, buildV, fillV, splice, hA, hf]
 apply after_some rfl; apply hQ; clear hQ Q
 apply w_seq
 apply w_reg [1, 3, 8, 9] rfl; intro Q hQ
 simp (disch := omega) [wrap64, wrapU, leW, wrl, buildV, fillV, splice, hA, hf]
 apply after_some rfl; apply hQ; clear hQ Q
 apply w_seq
 apply w_seq
 apply w_reg [1, 3, 8, 20] rfl; intro Q hQ
 simp (disch := omega) [wrap64, wrapU, leW, wrl, buildV, fillV, splice, hA, hf]
 apply after_some rfl; apply hQ; clear hQ Q
 apply w_cond _ rfl <;> intro hc
 ·first
  |(simp at hc; done)
  |(exfalso; simp at hc; omega)
  |try simp [Int.natCast_inj] at hc
   apply w_seq
   apply w_reg [6, 7] rfl; intro Q hQ
   simp (disch := omega) [wrap64, wrapU, leW, wrl, buildV, fillV, splice, hA, hf]
   apply after_some rfl; apply hQ; clear hQ Q
   apply w_ret
   repeat (with_reducible (first | apply kseq_ret | apply kloop_ret | apply kcut_ret | apply kblock_ret))
   apply fin_pure rfl
   ·rfl
   ·rfl
 ·first
  |(simp at hc; done)
  |(exfalso; simp at hc; omega)

theorem cShares0 (x : SchemaT) (k j : Int) (hf : fldO x k j = none) (H : Heap) : call LE 13 [.agg (eX x), .int .i64 k, .int .i64 j] H = some ((.tup [.int .i64 (-1), .int .i64 (-1)]), H) :=
 call_pure rfl (by first | exact .inl rfl | exact .inr rfl) (by simp [V.pure, enc_pure eeK, enc_pure eeF, enc_pure eeL, enc_pure eeR, enc_pure eeS, enc_pure eeI, enc_pure eeP, V.pureL, eK, eF, eX, eL, eR]) (cShares0_runs x k j hf) H

/-- diorama/typing.Shares -/
theorem cShares1_runs (x : SchemaT) (k j : Int) (f : FieldT) (o : Int) (l : SL Int) (hf : fldO x k j = some f) (hS : ∀ H, call LE 45 [.agg (eX x), .int .i64 k, .agg (eF f)] H = some (.tup [.int .i64 o, enc eI l], H)) (a : Int) (hl : l.list = [a]) : Runs LE 13 [.agg (eX x), .int .i64 k, .int .i64 j] (.tup [.int .i64 o, .int .i64 a]) := by
 have hA := cAt x k j
 have hlen : l.list.length = 1 := by rw [hl]; rfl
 have hel : ∀ h, l.list[0]'h = a := fun h => by simp [hl]
 refine runs_W (m := 35) Tryz.func13 rfl rfl (Nat.le_of_ble_eq_true rfl) ?_
 simp only [alOf]
 apply w_seq
 apply w_reg [1, 2, 3] rfl; intro Q hQ
 simp (disch := omega) [wrap64, wrapU, leW, wrl, buildV, fillV, splice, hA, hf, hS, hlen, hel, eI]
 apply after_some rfl; apply hQ; clear hQ Q
 apply w_seq
 apply w_reg [1, 3, 8, 9] rfl; intro Q hQ
 simp (disch := omega) [wrap64, wrapU, leW, wrl, buildV, fillV, splice, hA, hf, hS, hlen, hel, eI]
 apply after_some rfl; apply hQ; clear hQ Q
 apply w_seq
 apply w_seq
 apply w_reg [1, 3, 8, 20] rfl; intro Q hQ
 simp (disch := omega) [wrap64, wrapU, leW, wrl, buildV, fillV, splice, hA, hf, hS, hlen, hel, eI]
 apply after_some rfl; apply hQ; clear hQ Q
 apply w_cond _ rfl <;> intro hc
 ·first
  |(simp at hc; done)
  |(exfalso; simp at hc; omega)
 ·first
  |(simp at hc; done)
  |(exfalso; simp at hc; omega)
  |try simp [Int.natCast_inj] at hc
   apply w_skip
   apply w_seq
   apply w_reg [10, 11] rfl; intro Q hQ
   simp (disch := omega) [wrap64, wrapU, leW, wrl, buildV, fillV, splice, hA, hf, hS, hlen, hel, eI]
   apply after_some rfl; apply hQ; clear hQ Q
   apply w_seq
   apply w_seq
   apply w_reg [10, 11, 30] rfl; intro Q hQ
   simp (disch := omega) [wrap64, wrapU, leW, wrl, buildV, fillV, splice, hA, hf, hS, hlen, hel, eI]
   apply after_some rfl; apply hQ; clear hQ Q
   apply w_cond _ rfl <;> intro hc
   ·first
    |(simp at hc; done)
    |(exfalso; simp at hc; omega)
   ·first
    |(simp at hc; done)
    |(exfalso; simp at hc; omega)
    |try simp [Int.natCast_inj] at hc
     apply w_skip
     apply w_seq
     apply w_drw [6, 7] rfl rfl (by kernel_rfl) 0 rfl; intro Q hQ
     simp (disch := omega) [wrap64, wrapU, leW, wrl, buildV, fillV, splice, hA, hf, hS, hlen, hel, eI]
     apply after_some rfl; apply hQ; clear hQ Q
     apply w_ret
     repeat (with_reducible (first | apply kseq_ret | apply kloop_ret | apply kcut_ret | apply kblock_ret))
     apply fin_pure rfl
     ·rfl
     ·rfl

theorem cShares1 (x : SchemaT) (k j : Int) (f : FieldT) (o : Int) (l : SL Int) (hf : fldO x k j = some f) (hS : ∀ H, call LE 45 [.agg (eX x), .int .i64 k, .agg (eF f)] H = some (.tup [.int .i64 o, enc eI l], H)) (a : Int) (hl : l.list = [a]) (H : Heap) : call LE 13 [.agg (eX x), .int .i64 k, .int .i64 j] H = some ((.tup [.int .i64 o, .int .i64 a]), H) :=
 call_pure rfl (by first | exact .inl rfl | exact .inr rfl) (by simp [V.pure, enc_pure eeK, enc_pure eeF, enc_pure eeL, enc_pure eeR, enc_pure eeS, enc_pure eeI, enc_pure eeP, V.pureL, eK, eF, eX, eL, eR]) (cShares1_runs x k j f o l hf hS a hl) H

/-- diorama/typing.Shares -/
theorem cShares2_runs (x : SchemaT) (k j : Int) (f : FieldT) (o : Int) (l : SL Int) (hf : fldO x k j = some f) (hS : ∀ H, call LE 45 [.agg (eX x), .int .i64 k, .agg (eF f)] H = some (.tup [.int .i64 o, enc eI l], H)) (hl : l.list.length ≠ 1) : Runs LE 13 [.agg (eX x), .int .i64 k, .int .i64 j] (.tup [.int .i64 (-1), .int .i64 (-1)]) := by
 have hA := cAt x k j
 refine runs_W (m := 35) Tryz.func13 rfl rfl (Nat.le_of_ble_eq_true rfl) ?_
 simp only [alOf]
 apply w_seq
 apply w_reg [1, 2, 3] rfl; intro Q hQ
 simp (disch := omega) [wrap64, wrapU, leW, wrl, buildV, fillV, splice, hA, hf, hS]
 apply after_some rfl; apply hQ; clear hQ Q
 apply w_seq
 apply w_reg [1, 3, 8, 9] rfl; intro Q hQ
 simp (disch := omega) [wrap64, wrapU, leW, wrl, buildV, fillV, splice, hA, hf, hS]
 apply after_some rfl; apply hQ; clear hQ Q
 apply w_seq
 apply w_seq
 apply w_reg [1, 3, 8, 20] rfl; intro Q hQ
 simp (disch := omega) [wrap64, wrapU, leW, wrl, buildV, fillV, splice, hA, hf, hS]
 apply after_some rfl; apply hQ; clear hQ Q
 apply w_cond _ rfl <;> intro hc
 ·first
  |(simp at hc; done)
  |(exfalso; simp at hc; omega)
 ·first
  |(simp at hc; done)
  |(exfalso; simp at hc; omega)
  |try simp [Int.natCast_inj] at hc
   apply w_skip
   apply w_seq
   apply w_reg [10, 11] rfl; intro Q hQ
   simp (disch := omega) [wrap64, wrapU, leW, wrl, buildV, fillV, splice, hA, hf, hS]
   apply after_some rfl; apply hQ; clear hQ Q
   apply w_seq
   apply w_seq
   apply w_reg [10, 11, 30] rfl; intro Q hQ
   simp (disch := omega) [wrap64, wrapU, leW, wrl, buildV, fillV, splice, hA, hf, hS]
   apply after_some rfl; apply hQ; clear hQ Q
   apply w_cond _ rfl <;> intro hc
   ·first
    |(simp at hc; done)
    |(exfalso; simp at hc; omega)
    |try simp [Int.natCast_inj] at hc
     apply w_seq
     apply w_reg [6, 7] rfl; intro Q hQ
     simp (disch := omega) [wrap64, wrapU, leW, wrl, buildV, fillV, splice, hA, hf, hS]
     apply after_some rfl; apply hQ; clear hQ Q
     apply w_ret
     repeat (with_reducible (first | apply kseq_ret | apply kloop_ret | apply kcut_ret | apply kblock_ret))
     apply fin_pure rfl
     ·rfl
     ·rfl
   ·first
    |(simp at hc; done)
    |(exfalso; simp at hc; omega)

theorem cShares2 (x : SchemaT) (k j : Int) (f : FieldT) (o : Int) (l : SL Int) (hf : fldO x k j = some f) (hS : ∀ H, call LE 45 [.agg (eX x), .int .i64 k, .agg (eF f)] H = some (.tup [.int .i64 o, enc eI l], H)) (hl : l.list.length ≠ 1) (H : Heap) : call LE 13 [.agg (eX x), .int .i64 k, .int .i64 j] H = some ((.tup [.int .i64 (-1), .int .i64 (-1)]), H) :=
 call_pure rfl (by first | exact .inl rfl | exact .inr rfl) (by simp [V.pure, enc_pure eeK, enc_pure eeF, enc_pure eeL, enc_pure eeR, enc_pure eeS, enc_pure eeI, enc_pure eeP, V.pureL, eK, eF, eX, eL, eR]) (cShares2_runs x k j f o l hf hS hl) H

/-- diorama/dioramaref10.Shares -/
theorem rShares0_runs (x : SchemaT) (k j : Int) (hf : fldO x k j = none) : Runs LE 14 [.agg (eX x), .int .i64 k, .int .i64 j] (.tup [.int .i64 (-1), .int .i64 (-1)]) := by
 have hA := rHas x k j
 refine runs_W (m := 29) Tryz.func14 rfl rfl (Nat.le_of_ble_eq_true rfl) ?_
 simp only [alOf]
 apply w_seq
 apply w_reg [1, 2, 3] rfl; intro Q hQ
 simp (disch := omega) [wrap64, wrapU, leW, wrl, buildV, fillV, splice, hA, hf]
 apply after_some rfl; apply hQ; clear hQ Q
 apply w_seq
 apply w_seq
 apply w_reg [1, 2, 3, 14] rfl; intro Q hQ
 simp (disch := omega) [wrap64, wrapU, leW, wrl, buildV, fillV, splice, hA, hf]
 apply after_some rfl; apply hQ; clear hQ Q
 apply w_cond _ rfl <;> intro hc
 ·first
  |(simp at hc; done)
  |(exfalso; simp at hc; omega)
  |try simp [Int.natCast_inj] at hc
   apply w_seq
   apply w_reg [6, 7] rfl; intro Q hQ
   simp (disch := omega) [wrap64, wrapU, leW, wrl, buildV, fillV, splice, hA, hf]
   apply after_some rfl; apply hQ; clear hQ Q
   apply w_ret
   repeat (with_reducible (first | apply kseq_ret | apply kloop_ret | apply kcut_ret | apply kblock_ret))
   apply fin_pure rfl
   ·rfl
   ·rfl
 ·first
  |(simp at hc; done)
  |(exfalso; simp at hc; omega)

theorem rShares0 (x : SchemaT) (k j : Int) (hf : fldO x k j = none) (H : Heap) : call LE 14 [.agg (eX x), .int .i64 k, .int .i64 j] H = some ((.tup [.int .i64 (-1), .int .i64 (-1)]), H) :=
 call_pure rfl (by first | exact .inl rfl | exact .inr rfl) (by simp [V.pure, enc_pure eeK, enc_pure eeF, enc_pure eeL, enc_pure eeR, enc_pure eeS, enc_pure eeI, enc_pure eeP, V.pureL, eK, eF, eX, eL, eR]) (rShares0_runs x k j hf) H

/-- diorama/dioramaref10.Shares -/
theorem rShares1_runs (x : SchemaT) (k j : Int) (f : FieldT) (o : Int) (l : SL Int) (hf : fldO x k j = some f) (hS : ∀ H, call LE 46 [.agg (eX x), .int .i64 k, .int .i64 j] H = some (.tup [.int .i64 o, enc eI l], H)) (a : Int) (hl : l.list = [a]) : Runs LE 14 [.agg (eX x), .int .i64 k, .int .i64 j] (.tup [.int .i64 o, .int .i64 a]) := by
 have hA := rHas x k j
 have hlen : l.list.length = 1 := by rw [hl]; rfl
 have hel : ∀ h, l.list[0]'h = a := fun h => by simp [hl]
 refine runs_W (m := 29) Tryz.func14 rfl rfl (Nat.le_of_ble_eq_true rfl) ?_
 simp only [alOf]
 apply w_seq
 apply w_reg [1, 2, 3] rfl; intro Q hQ
 simp (disch := omega) [wrap64, wrapU, leW, wrl, buildV, fillV, splice, hA, hf, hS, hlen, hel, eI]
 apply after_some rfl; apply hQ; clear hQ Q
 apply w_seq
 apply w_seq
 apply w_reg [1, 2, 3, 14] rfl; intro Q hQ
 simp (disch := omega) [wrap64, wrapU, leW, wrl, buildV, fillV, splice, hA, hf, hS, hlen, hel, eI]
 apply after_some rfl; apply hQ; clear hQ Q
 apply w_cond _ rfl <;> intro hc
 ·first
  |(simp at hc; done)
  |(exfalso; simp at hc; omega)
 ·first
  |(simp at hc; done)
  |(exfalso; simp at hc; omega)
  |try simp [Int.natCast_inj] at hc
   apply w_skip
   apply w_seq
   apply w_reg [8, 9] rfl; intro Q hQ
   simp (disch := omega) [wrap64, wrapU, leW, wrl, buildV, fillV, splice, hA, hf, hS, hlen, hel, eI]
   apply after_some rfl; apply hQ; clear hQ Q
   apply w_seq
   apply w_seq
   apply w_reg [8, 9, 24] rfl; intro Q hQ
   simp (disch := omega) [wrap64, wrapU, leW, wrl, buildV, fillV, splice, hA, hf, hS, hlen, hel, eI]
   apply after_some rfl; apply hQ; clear hQ Q
   apply w_cond _ rfl <;> intro hc
   ·first
    |(simp at hc; done)
    |(exfalso; simp at hc; omega)
   ·first
    |(simp at hc; done)
    |(exfalso; simp at hc; omega)
    |try simp [Int.natCast_inj] at hc
     apply w_skip
     apply w_seq
     apply w_drw [6, 7] rfl rfl (by kernel_rfl) 0 rfl; intro Q hQ
     simp (disch := omega) [wrap64, wrapU, leW, wrl, buildV, fillV, splice, hA, hf, hS, hlen, hel, eI]
     apply after_some rfl; apply hQ; clear hQ Q
     apply w_ret
     repeat (with_reducible (first | apply kseq_ret | apply kloop_ret | apply kcut_ret | apply kblock_ret))
     apply fin_pure rfl
     ·rfl
     ·rfl

theorem rShares1 (x : SchemaT) (k j : Int) (f : FieldT) (o : Int) (l : SL Int) (hf : fldO x k j = some f) (hS : ∀ H, call LE 46 [.agg (eX x), .int .i64 k, .int .i64 j] H = some (.tup [.int .i64 o, enc eI l], H)) (a : Int) (hl : l.list = [a]) (H : Heap) : call LE 14 [.agg (eX x), .int .i64 k, .int .i64 j] H = some ((.tup [.int .i64 o, .int .i64 a]), H) :=
 call_pure rfl (by first | exact .inl rfl | exact .inr rfl) (by simp [V.pure, enc_pure eeK, enc_pure eeF, enc_pure eeL, enc_pure eeR, enc_pure eeS, enc_pure eeI, enc_pure eeP, V.pureL, eK, eF, eX, eL, eR]) (rShares1_runs x k j f o l hf hS a hl) H

/-- diorama/dioramaref10.Shares -/
theorem rShares2_runs (x : SchemaT) (k j : Int) (f : FieldT) (o : Int) (l : SL Int) (hf : fldO x k j = some f) (hS : ∀ H, call LE 46 [.agg (eX x), .int .i64 k, .int .i64 j] H = some (.tup [.int .i64 o, enc eI l], H)) (hl : l.list.length ≠ 1) : Runs LE 14 [.agg (eX x), .int .i64 k, .int .i64 j] (.tup [.int .i64 (-1), .int .i64 (-1)]) := by
 have hA := rHas x k j
 refine runs_W (m := 29) Tryz.func14 rfl rfl (Nat.le_of_ble_eq_true rfl) ?_
 simp only [alOf]
 apply w_seq
 apply w_reg [1, 2, 3] rfl; intro Q hQ
 simp (disch := omega) [wrap64, wrapU, leW, wrl, buildV, fillV, splice, hA, hf, hS]
 apply after_some rfl; apply hQ; clear hQ Q
 apply w_seq
 apply w_seq
 apply w_reg [1, 2, 3, 14] rfl; intro Q hQ
 simp (disch := omega) [wrap64, wrapU, leW, wrl, buildV, fillV, splice, hA, hf, hS]
 apply after_some rfl; apply hQ; clear hQ Q
 apply w_cond _ rfl <;> intro hc
 ·first
  |(simp at hc; done)
  |(exfalso; simp at hc; omega)
 ·first
  |(simp at hc; done)
  |(exfalso; simp at hc; omega)
  |try simp [Int.natCast_inj] at hc
   apply w_skip
   apply w_seq
   apply w_reg [8, 9] rfl; intro Q hQ
   simp (disch := omega) [wrap64, wrapU, leW, wrl, buildV, fillV, splice, hA, hf, hS]
   apply after_some rfl; apply hQ; clear hQ Q
   apply w_seq
   apply w_seq
   apply w_reg [8, 9, 24] rfl; intro Q hQ
   simp (disch := omega) [wrap64, wrapU, leW, wrl, buildV, fillV, splice, hA, hf, hS]
   apply after_some rfl; apply hQ; clear hQ Q
   apply w_cond _ rfl <;> intro hc
   ·first
    |(simp at hc; done)
    |(exfalso; simp at hc; omega)
    |try simp [Int.natCast_inj] at hc
     apply w_seq
     apply w_reg [6, 7] rfl; intro Q hQ
     simp (disch := omega) [wrap64, wrapU, leW, wrl, buildV, fillV, splice, hA, hf, hS]
     apply after_some rfl; apply hQ; clear hQ Q
     apply w_ret
     repeat (with_reducible (first | apply kseq_ret | apply kloop_ret | apply kcut_ret | apply kblock_ret))
     apply fin_pure rfl
     ·rfl
     ·rfl
   ·first
    |(simp at hc; done)
    |(exfalso; simp at hc; omega)

theorem rShares2 (x : SchemaT) (k j : Int) (f : FieldT) (o : Int) (l : SL Int) (hf : fldO x k j = some f) (hS : ∀ H, call LE 46 [.agg (eX x), .int .i64 k, .int .i64 j] H = some (.tup [.int .i64 o, enc eI l], H)) (hl : l.list.length ≠ 1) (H : Heap) : call LE 14 [.agg (eX x), .int .i64 k, .int .i64 j] H = some ((.tup [.int .i64 (-1), .int .i64 (-1)]), H) :=
 call_pure rfl (by first | exact .inl rfl | exact .inr rfl) (by simp [V.pure, enc_pure eeK, enc_pure eeF, enc_pure eeL, enc_pure eeR, enc_pure eeS, enc_pure eeI, enc_pure eeP, V.pureL, eK, eF, eX, eL, eR]) (rShares2_runs x k j f o l hf hS hl) H

end Go.Ae.Zd

namespace Go.Ae.Zd
open Go.Proofs

abbrev Fit (x : SchemaT) : Prop := x.kinds.list.length < 1099511627776 ∧ ∀ q ∈ x.kinds.list, q.fields.list.length < 1099511627776
theorem Fit.small {x : SchemaT} (h : Fit x) : Small x := ⟨by have := h.1; omega, fun q hq => by have := h.2 q hq; omega⟩

/-- The kind with the shares of a field, and their places. -/
def shS (x : SchemaT) (k : Int) (f : FieldT) : Int × SL Int :=
 if f.kind ≠ 6 ∨ kIx f.of_ x.kinds.list ≤ k then (-1, .nil)
 else match x.kinds.list[(kIx f.of_ x.kinds.list).toNat]? with
  |some q => (kIx f.of_ x.kinds.list, doneSL .nil (placesF (shP x k (kIx f.of_ x.kinds.list) f) 0 q.fields.list))
  |none => (-1, .nil)

theorem other_in {x : SchemaT} {k : Int} {s : Str} (h0 : 0 ≤ k) (h : k < kIx s x.kinds.list) : ∃ q, x.kinds.list[(kIx s x.kinds.list).toNat]? = some q := by
 rcases ixF_range (fun f : KindT => decide (f.name = s)) x.kinds.list 0 with h1 | h1
 ·exfalso
  have : kIx s x.kinds.list = -1 := h1
  omega
 ·have h2 : kIx s x.kinds.list < (0 : Nat) + x.kinds.list.length := h1.2
  have hb : (kIx s x.kinds.list).toNat < x.kinds.list.length := by omega
  exact ⟨_, List.getElem?_eq_getElem hb⟩

theorem cSh {x : SchemaT} (hs : Fit x) {k : Int} (f : FieldT) (h0 : 0 ≤ k) (H : Heap) : call LE 45 [.agg (eX x), .int .i64 k, .agg (eF f)] H = some (.tup [.int .i64 (shS x k f).1, enc eI (shS x k f).2], H) := by
 unfold shS
 by_cases hn : f.kind ≠ 6 ∨ kIx f.of_ x.kinds.list ≤ k
 ·rw [if_pos hn]; exact cSh0 x k f hs.small.1 hn H
 ·rw [if_neg hn]
  have hk : f.kind = 6 := Decidable.byContradiction fun h => hn (.inl h)
  have hn2 : k < kIx f.of_ x.kinds.list := Int.not_le.1 fun h => hn (.inr h)
  obtain ⟨q, hq⟩ := other_in h0 hn2
  rw [hq]
  exact cSh1 x k f q hs.small h0 hk hn2 hq (hs.2 q (List.mem_of_getElem? hq)) H

theorem rSh {x : SchemaT} (hs : Fit x) {k j : Int} (f : FieldT) (hf : fldO x k j = some f) (H : Heap) : call LE 46 [.agg (eX x), .int .i64 k, .int .i64 j] H = some (.tup [.int .i64 (shS x k f).1, enc eI (shS x k f).2], H) := by
 have h0 := (fldO_of hf).1
 unfold shS
 by_cases hn : f.kind ≠ 6 ∨ kIx f.of_ x.kinds.list ≤ k
 ·rw [if_pos hn]; exact rSh0 x k j f hs.small hf hn H
 ·rw [if_neg hn]
  have hk : f.kind = 6 := Decidable.byContradiction fun h => hn (.inl h)
  have hn2 : k < kIx f.of_ x.kinds.list := Int.not_le.1 fun h => hn (.inr h)
  obtain ⟨q, hq⟩ := other_in h0 hn2
  rw [hq]
  exact rSh1 x k j f q hs.small hf hk hn2 hq (hs.2 q (List.mem_of_getElem? hq)) H

/-- The kind and the field of the share of a sum; -1, -1: there is none. -/
def shareS (x : SchemaT) (k j : Int) : Int × Int := match fldO x k j with
 |none => (-1, -1)
 |some f => match (shS x k f).2.list with
  |[a] => ((shS x k f).1, a)
  |_ => (-1, -1)

theorem cShares {x : SchemaT} (hs : Fit x) (k j : Int) (H : Heap) : call LE 13 [.agg (eX x), .int .i64 k, .int .i64 j] H = some (.tup [.int .i64 (shareS x k j).1, .int .i64 (shareS x k j).2], H) := by
 unfold shareS
 cases hf : fldO x k j with
 |none => exact cShares0 x k j hf H
 |some f =>
  have hS := fun H => cSh hs f (fldO_of hf).1 H
  simp only
  cases hl : (shS x k f).2.list with
  |nil => exact cShares2 x k j f _ _ hf hS (by rw [hl]; simp) H
  |cons a r =>
   cases r with
   |nil => exact cShares1 x k j f _ _ hf hS a hl H
   |cons b r => exact cShares2 x k j f _ _ hf hS (by rw [hl]; simp) H

theorem rShares {x : SchemaT} (hs : Fit x) (k j : Int) (H : Heap) : call LE 14 [.agg (eX x), .int .i64 k, .int .i64 j] H = some (.tup [.int .i64 (shareS x k j).1, .int .i64 (shareS x k j).2], H) := by
 unfold shareS
 cases hf : fldO x k j with
 |none => exact rShares0 x k j hf H
 |some f =>
  have hS := fun H => rSh hs f hf H
  simp only
  cases hl : (shS x k f).2.list with
  |nil => exact rShares2 x k j f _ _ hf hS (by rw [hl]; simp) H
  |cons a r =>
   cases r with
   |nil => exact rShares1 x k j f _ _ hf hS a hl H
   |cons b r => exact rShares2 x k j f _ _ hf hS (by rw [hl]; simp) H

end Go.Ae.Zd

namespace Go.Ae.Zd
open Go.Proofs

def Around (n most : Int) : Int := if most < 1 then 0 else (if n < 0 then - (n + 1) else n).tmod most
abbrev I64 (x : Int) : Prop := -9223372036854775808 ≤ x ∧ x ≤ 9223372036854775807
def AtN (l : List Int) (i most : Int) : Int := if 0 ≤ i then (match l[i.toNat]? with
 |some a => Around a most
 |none => 0) else 0
theorem AtN_some {l : List Int} {i most : Int} (h0 : 0 ≤ i) (h1 : i < l.length) : AtN l i most = Around (l[i.toNat]'(by omega)) most := by
 unfold AtN
 rw [if_pos h0, List.getElem?_eq_getElem (by omega)]
theorem AtN_none {l : List Int} {i most : Int} (h : i < 0 ∨ (l.length : Int) ≤ i) : AtN l i most = 0 := by
 unfold AtN
 split
 ·rw [List.getElem?_eq_none (by omega)]
 ·rfl

/-- diorama/dioramaref01.Around -/
theorem cAround_runs (n most : Int) (hn : I64 n) (hm : I64 most) : Runs LE 56 [.int .i64 n, .int .i64 most] (.int .i64 (Around n most)) := by
 obtain ⟨hn1, hn2⟩ := hn
 obtain ⟨hm1, hm2⟩ := hm
 refine runs_W (m := 15) Tryz.func56 rfl rfl (Nat.le_of_ble_eq_true rfl) ?_
 simp only [alOf]
 apply w_seq
 apply w_reg [0, 1] rfl; intro Q hQ
 simp (disch := omega) [wrap64, wrapU, leW, wrl, buildV, fillV, splice]
 apply after_some rfl; apply hQ; clear hQ Q
 apply w_seq
 apply w_seq
 apply w_reg [0, 1, 6] rfl; intro Q hQ
 simp (disch := omega) [wrap64, wrapU, leW, wrl, buildV, fillV, splice]
 apply after_some rfl; apply hQ; clear hQ Q
 apply w_cond _ rfl <;> intro hc
 ·first
  |(simp at hc; done)
  |try simp [Int.natCast_inj] at hc
   apply w_reg [0, 1] rfl; intro Q hQ
   simp (disch := omega) [wrap64, wrapU, leW, wrl, buildV, fillV, splice]
   apply after_some rfl; apply hQ; clear hQ Q
   apply w_seq
   apply w_seq
   apply w_reg [0, 1, 11] rfl; intro Q hQ
   simp (disch := omega) [wrap64, wrapU, leW, wrl, buildV, fillV, splice]
   apply after_some rfl; apply hQ; clear hQ Q
   apply w_cond _ rfl <;> intro hc
   ·first
    |(simp at hc; done)
    |try simp [Int.natCast_inj] at hc
     apply w_seq
     apply w_reg [4] rfl; intro Q hQ
     simp (disch := omega) [wrap64, wrapU, leW, wrl, buildV, fillV, splice]
     apply after_some rfl; apply hQ; clear hQ Q
     apply w_ret
     repeat (with_reducible (first | apply kseq_ret | apply kloop_ret | apply kcut_ret | apply kblock_ret))
     apply fin_pure rfl
     ·unfold Around
      first
       |rw [if_pos (by omega)]
       |(rw [if_neg (by omega), if_pos (by omega)]; first | rfl | simp | (simp [Int.neg_tmod]))
       |(rw [if_neg (by omega), if_neg (by omega)])
     ·rfl
   ·first
    |(simp at hc; done)
    |try simp [Int.natCast_inj] at hc
     apply w_skip
     apply w_seq
     apply w_reg [4] rfl; intro Q hQ
     simp (disch := omega) [wrap64, wrapU, leW, wrl, buildV, fillV, splice]
     apply after_some rfl; apply hQ; clear hQ Q
     apply w_ret
     repeat (with_reducible (first | apply kseq_ret | apply kloop_ret | apply kcut_ret | apply kblock_ret))
     apply fin_pure rfl
     ·unfold Around
      first
       |rw [if_pos (by omega)]
       |(rw [if_neg (by omega), if_pos (by omega)]; first | rfl | simp | (simp [Int.neg_tmod]))
       |(rw [if_neg (by omega), if_neg (by omega)])
     ·rfl
 ·first
  |(simp at hc; done)
  |try simp [Int.natCast_inj] at hc
   apply w_skip
   apply w_seq
   apply w_seq
   apply w_reg [0, 1, 11] rfl; intro Q hQ
   simp (disch := omega) [wrap64, wrapU, leW, wrl, buildV, fillV, splice]
   apply after_some rfl; apply hQ; clear hQ Q
   apply w_cond _ rfl <;> intro hc
   ·first
    |(simp at hc; done)
    |try simp [Int.natCast_inj] at hc
     apply w_seq
     apply w_reg [4] rfl; intro Q hQ
     simp (disch := omega) [wrap64, wrapU, leW, wrl, buildV, fillV, splice]
     apply after_some rfl; apply hQ; clear hQ Q
     apply w_ret
     repeat (with_reducible (first | apply kseq_ret | apply kloop_ret | apply kcut_ret | apply kblock_ret))
     apply fin_pure rfl
     ·unfold Around
      first
       |rw [if_pos (by omega)]
       |(rw [if_neg (by omega), if_pos (by omega)]; first | rfl | simp | (simp [Int.neg_tmod]))
       |(rw [if_neg (by omega), if_neg (by omega)])
     ·rfl
   ·first
    |(simp at hc; done)
    |try simp [Int.natCast_inj] at hc
     apply w_skip
     apply w_seq
     apply w_reg [4] rfl; intro Q hQ
     simp (disch := omega) [wrap64, wrapU, leW, wrl, buildV, fillV, splice]
     apply after_some rfl; apply hQ; clear hQ Q
     apply w_ret
     repeat (with_reducible (first | apply kseq_ret | apply kloop_ret | apply kcut_ret | apply kblock_ret))
     apply fin_pure rfl
     ·unfold Around
      first
       |rw [if_pos (by omega)]
       |(rw [if_neg (by omega), if_pos (by omega)]; first | rfl | simp | (simp [Int.neg_tmod]))
       |(rw [if_neg (by omega), if_neg (by omega)])
     ·rfl

theorem cAround (n most : Int) (hn : I64 n) (hm : I64 most) (H : Heap) : call LE 56 [.int .i64 n, .int .i64 most] H = some ((.int .i64 (Around n most)), H) :=
 call_pure rfl (by first | exact .inl rfl | exact .inr rfl) (by simp [V.pure, enc_pure eeK, enc_pure eeF, enc_pure eeL, enc_pure eeR, enc_pure eeS, enc_pure eeI, enc_pure eeP, V.pureL, eK, eF, eX, eL, eR]) (cAround_runs n most hn hm) H

/-- diorama/dioramaref01.At -/
theorem cAtN_runs (l : SL Int) (i most : Int) (hl : ∀ a ∈ l.list, I64 a) (hm : I64 most) : Runs LE 54 [enc eI l, .int .i64 i, .int .i64 most] (.int .i64 (AtN l.list i most)) := by
 have hA := fun (j : Nat) (hj : j < l.list.length) (H : Heap) => cAround l.list[j] most (hl _ (List.getElem_mem hj)) hm H
 refine runs_W (m := 21) Tryz.func54 rfl rfl (Nat.le_of_ble_eq_true rfl) ?_
 simp only [alOf]
 apply w_seq
 apply w_reg [0, 1, 2] rfl; intro Q hQ
 simp (disch := omega) [wrap64, wrapU, leW, wrl, buildV, fillV, splice, hA, eI]
 apply after_some rfl; apply hQ; clear hQ Q
 apply w_seq
 apply w_seq
 apply w_reg [0, 1, 2, 14] rfl; intro Q hQ
 simp (disch := omega) [wrap64, wrapU, leW, wrl, buildV, fillV, splice, hA, eI]
 repeat' ((first | with_reducible apply after_guard | with_reducible apply after_guardD) <;> (intro hg; have hg' := hg; try simp at hg') <;> simp (disch := omega) [wrap64, wrapU, leW, wrl, buildV, fillV, splice, hA, eI, *])
 all_goals (apply after_some rfl; apply hQ; clear hQ Q)
 all_goals
  skip
  apply w_cond _ rfl <;> intro hc
  ·first
   |(simp at hc; done)
   |try simp [Int.natCast_inj] at hc
    apply w_seq
    apply w_reg [6] rfl; intro Q hQ
    simp (disch := omega) [wrap64, wrapU, leW, wrl, buildV, fillV, splice, hA, eI]
    apply after_some rfl; apply hQ; clear hQ Q
    apply w_ret
    repeat (with_reducible (first | apply kseq_ret | apply kloop_ret | apply kcut_ret | apply kblock_ret))
    apply fin_pure rfl
    ·rw [AtN_none (by omega)]
    ·rfl
  ·first
   |(simp at hc; done)
   |try simp [Int.natCast_inj] at hc
    apply w_skip
    apply w_seq
    apply w_reg [6] rfl; intro Q hQ
    simp (disch := omega) [wrap64, wrapU, leW, wrl, buildV, fillV, splice, hA, eI]
    apply after_some rfl; apply hQ; clear hQ Q
    apply w_ret
    repeat (with_reducible (first | apply kseq_ret | apply kloop_ret | apply kcut_ret | apply kblock_ret))
    apply fin_pure rfl
    ·first
      |rw [AtN_some (by omega) (by omega)]
      |rw [AtN_none (by omega)]
    ·rfl

theorem cAtN (l : SL Int) (i most : Int) (hl : ∀ a ∈ l.list, I64 a) (hm : I64 most) (H : Heap) : call LE 54 [enc eI l, .int .i64 i, .int .i64 most] H = some ((.int .i64 (AtN l.list i most)), H) :=
 call_pure rfl (by first | exact .inl rfl | exact .inr rfl) (by simp [V.pure, enc_pure eeK, enc_pure eeF, enc_pure eeL, enc_pure eeR, enc_pure eeS, enc_pure eeI, enc_pure eeP, V.pureL, eK, eF, eX, eL, eR]) (cAtN_runs l i most hl hm) H

end Go.Ae.Zd

namespace Go.Ae.Zd
open Go.Proofs

theorem getBlk_set {H : Heap} {b ver : Nat} {cs : List V} (hb : b < H.length) : getBlk (setBlk H b ver cs) b ver = some cs := getW_blk (getW_set hb)
theorem run_L {f : FuncId} {fn : Func} {c : Code} {m : Nat} (hf : Tryz.prog.funcs[f]? = some fn) (hc : fn.body = some c) (hm : fn.ntmps = m) {args : List V} (hn : args.length ≤ m) {v : V} {H H1 : Heap}
  (h : W LE f m c (alOf 0 args) H fun x al' H' => x = .ret ∧ resultsA LE fn al' H' = some v ∧ H' = H1) : runFn LE (exec LE) f args H = some (v, H1) := run_W (E := LE) hf hc hm hn h
theorem qo_nil {E : Env} {H : Heap} {ρ : Operand → Option V} {x : Operand} : qop E H ρ (.nilCheck x) = match ρ x with
  |some (.rp cs) => some (.rp cs)
  |some (.mp b ver off) => some (.mp b ver off)
  |some (.tp t m b ver) => some (.tp t m b ver)
  |some (.fn f a c) => some (.fn f a c)
  |_ => none := rfl
attribute [simp] qo_nil
/-- The maker's block. -/
abbrev mkC (l : SL Int) (i : Int) : List V := [enc eI l, .int .i64 i]

/-- (*diorama/dioramaref09.Maker).Take -/
theorem cTake (l : SL Int) (i n : Int) {b ver : Nat} {H : Heap} (hl : ∀ a ∈ l.list, I64 a) (hn : I64 n) (hi : 0 ≤ i ∧ i < 1099511627776) (hW : getW H b ver = some (mkC l i)) : call LE 51 [.mp b ver 0, .int .i64 n] H = some (.int .i64 (AtN l.list i n), setBlk H b ver (mkC l (i + 1))) := by
 obtain ⟨hi1, hi2⟩ := hi
 have hB := getW_blk hW
 have hA := cAtN l i n hl hn
 have hS := fun (cs : List V) => getBlk_set (H := H) (b := b) (ver := ver) (cs := cs) (getW_lt hW)
 rw [call_inl rfl rfl]
 refine run_L (m := 23) Tryz.func51 rfl rfl (Nat.le_of_ble_eq_true rfl) ?_
 simp only [alOf]
 apply w_seq
 apply w_reg [0, 1] rfl; intro Q hQ
 simp (disch := omega) [wrap64, wrapU, leW, wrl, buildV, fillV, splice, hW, hB, hA, hS]
 apply after_some rfl; apply hQ; clear hQ Q
 apply w_seq
 apply w_reg [0, 1] rfl; intro Q hQ
 simp (disch := omega) [wrap64, wrapU, leW, wrl, buildV, fillV, splice, hW, hB, hA, hS]
 apply after_some rfl; apply hQ; clear hQ Q
 apply w_seq
 apply w_drw [4] rfl rfl (by kernel_rfl) 0 rfl; intro Q hQ
 simp (disch := omega) [wrap64, wrapU, leW, wrl, buildV, fillV, splice, hW, hB, hA, hS]
 apply after_some rfl; apply hQ; clear hQ Q
 apply w_ret
 repeat (with_reducible (first | apply kseq_ret | apply kloop_ret | apply kcut_ret | apply kblock_ret))
 exact ⟨rfl, rfl, rfl⟩

end Go.Ae.Zd

namespace Go.Ae.Zd
open Go.Proofs

theorem ixF_any {α : Type} (p : α → Bool) : ∀ (l : List α) (i : Nat), decide (0 ≤ ixF p i l) = l.any p
 |[], i => by simp [ixF]
 |a :: r, i => by
  have e : ixF p i (a :: r) = if p a = true then (i : Int) else ixF p (i + 1) r := rfl
  by_cases h : p a = true
  ·rw [if_pos h] at e
   rw [e, List.any_cons, h, Bool.true_or, decide_eq_true_eq]
   omega
  ·rw [if_neg h] at e
   have h' : p a = false := by simpa using h
   rw [e, List.any_cons, h', Bool.false_or]
   exact ixF_any p r (i + 1)

/-- slices.ContainsFunc[[]diorama/api.Kind,diorama/api.Kind] -/
theorem cfeK_runs {s : SL KindT} {F : FuncId} {c : List V} {p : KindT → Bool} (hi : (F == 163) = false) (hc : V.pureL c = true) (hl : s.list.length < 4611686018427387904) (hF : ∀ k ∈ s.list, ∀ H, call LE F ((.agg (eK k)) :: c) H = some (.bool (p k), H)) : Runs LE 103 [enc eK s, .fn F [] c] (.bool (s.list.any p)) := by
 have hK := fun H => ixeK (s := s) (p := p) hi hc hl hF H
 refine runs_W (m := 9) Tryz.func103 rfl rfl (Nat.le_of_ble_eq_true rfl) ?_
 simp only [alOf]
 apply w_seq
 apply w_reg [0, 1] rfl; intro Q hQ
 simp (disch := omega) [wrap64, wrapU, leW, wrl, buildV, fillV, splice, hK]
 apply after_some rfl; apply hQ; clear hQ Q
 apply w_seq
 apply w_reg [4] rfl; intro Q hQ
 simp (disch := omega) [wrap64, wrapU, leW, wrl, buildV, fillV, splice, hK]
 apply after_some rfl; apply hQ; clear hQ Q
 apply w_ret
 repeat (with_reducible (first | apply kseq_ret | apply kloop_ret | apply kcut_ret | apply kblock_ret))
 apply fin_pure rfl
 ·rw [← ixF_any p s.list 0]
 ·rfl

theorem cfeK {s : SL KindT} {F : FuncId} {c : List V} {p : KindT → Bool} (hi : (F == 163) = false) (hc : V.pureL c = true) (hl : s.list.length < 4611686018427387904) (hF : ∀ k ∈ s.list, ∀ H, call LE F ((.agg (eK k)) :: c) H = some (.bool (p k), H)) (H : Heap) : call LE 103 [enc eK s, .fn F [] c] H = some (.bool (s.list.any p), H) :=
 call_pure rfl (.inl rfl) (pureL_cons (enc_pure eeK s) (pureL_cons (by simp [V.pure, hc, V.pureL]) rfl)) (cfeK_runs hi hc hl hF) H

/-- slices.ContainsFunc[[]diorama/api.Field,diorama/api.Field] -/
theorem cfeF_runs {s : SL FieldT} {F : FuncId} {c : List V} {p : FieldT → Bool} (hi : (F == 163) = false) (hc : V.pureL c = true) (hl : s.list.length < 4611686018427387904) (hF : ∀ k ∈ s.list, ∀ H, call LE F ((.agg (eF k)) :: c) H = some (.bool (p k), H)) : Runs LE 138 [enc eF s, .fn F [] c] (.bool (s.list.any p)) := by
 have hK := fun H => ixeF (s := s) (p := p) hi hc hl hF H
 refine runs_W (m := 9) Tryz.func138 rfl rfl (Nat.le_of_ble_eq_true rfl) ?_
 simp only [alOf]
 apply w_seq
 apply w_reg [0, 1] rfl; intro Q hQ
 simp (disch := omega) [wrap64, wrapU, leW, wrl, buildV, fillV, splice, hK]
 apply after_some rfl; apply hQ; clear hQ Q
 apply w_seq
 apply w_reg [4] rfl; intro Q hQ
 simp (disch := omega) [wrap64, wrapU, leW, wrl, buildV, fillV, splice, hK]
 apply after_some rfl; apply hQ; clear hQ Q
 apply w_ret
 repeat (with_reducible (first | apply kseq_ret | apply kloop_ret | apply kcut_ret | apply kblock_ret))
 apply fin_pure rfl
 ·rw [← ixF_any p s.list 0]
 ·rfl

theorem cfeF {s : SL FieldT} {F : FuncId} {c : List V} {p : FieldT → Bool} (hi : (F == 163) = false) (hc : V.pureL c = true) (hl : s.list.length < 4611686018427387904) (hF : ∀ k ∈ s.list, ∀ H, call LE F ((.agg (eF k)) :: c) H = some (.bool (p k), H)) (H : Heap) : call LE 138 [enc eF s, .fn F [] c] H = some (.bool (s.list.any p), H) :=
 call_pure rfl (.inl rfl) (pureL_cons (enc_pure eeF s) (pureL_cons (by simp [V.pure, hc, V.pureL]) rfl)) (cfeF_runs hi hc hl hF) H

/-- slices.ContainsFunc[[]diorama/api.Life,diorama/api.Life] -/
theorem cfeL_runs {s : SL LifeT} {F : FuncId} {c : List V} {p : LifeT → Bool} (hi : (F == 163) = false) (hc : V.pureL c = true) (hl : s.list.length < 4611686018427387904) (hF : ∀ k ∈ s.list, ∀ H, call LE F ((.agg (eL k)) :: c) H = some (.bool (p k), H)) : Runs LE 33 [enc eL s, .fn F [] c] (.bool (s.list.any p)) := by
 have hK := fun H => ixeL (s := s) (p := p) hi hc hl hF H
 refine runs_W (m := 9) Tryz.func33 rfl rfl (Nat.le_of_ble_eq_true rfl) ?_
 simp only [alOf]
 apply w_seq
 apply w_reg [0, 1] rfl; intro Q hQ
 simp (disch := omega) [wrap64, wrapU, leW, wrl, buildV, fillV, splice, hK]
 apply after_some rfl; apply hQ; clear hQ Q
 apply w_seq
 apply w_reg [4] rfl; intro Q hQ
 simp (disch := omega) [wrap64, wrapU, leW, wrl, buildV, fillV, splice, hK]
 apply after_some rfl; apply hQ; clear hQ Q
 apply w_ret
 repeat (with_reducible (first | apply kseq_ret | apply kloop_ret | apply kcut_ret | apply kblock_ret))
 apply fin_pure rfl
 ·rw [← ixF_any p s.list 0]
 ·rfl

theorem cfeL {s : SL LifeT} {F : FuncId} {c : List V} {p : LifeT → Bool} (hi : (F == 163) = false) (hc : V.pureL c = true) (hl : s.list.length < 4611686018427387904) (hF : ∀ k ∈ s.list, ∀ H, call LE F ((.agg (eL k)) :: c) H = some (.bool (p k), H)) (H : Heap) : call LE 33 [enc eL s, .fn F [] c] H = some (.bool (s.list.any p), H) :=
 call_pure rfl (.inl rfl) (pureL_cons (enc_pure eeL s) (pureL_cons (by simp [V.pure, hc, V.pureL]) rfl)) (cfeL_runs hi hc hl hF) H

/-- slices.ContainsFunc[[]diorama/api.Rule,diorama/api.Rule] -/
theorem cfeR_runs {s : SL RuleT} {F : FuncId} {c : List V} {p : RuleT → Bool} (hi : (F == 163) = false) (hc : V.pureL c = true) (hl : s.list.length < 4611686018427387904) (hF : ∀ k ∈ s.list, ∀ H, call LE F ((.agg (eR k)) :: c) H = some (.bool (p k), H)) : Runs LE 87 [enc eR s, .fn F [] c] (.bool (s.list.any p)) := by
 have hK := fun H => ixeR (s := s) (p := p) hi hc hl hF H
 refine runs_W (m := 9) Tryz.func87 rfl rfl (Nat.le_of_ble_eq_true rfl) ?_
 simp only [alOf]
 apply w_seq
 apply w_reg [0, 1] rfl; intro Q hQ
 simp (disch := omega) [wrap64, wrapU, leW, wrl, buildV, fillV, splice, hK]
 apply after_some rfl; apply hQ; clear hQ Q
 apply w_seq
 apply w_reg [4] rfl; intro Q hQ
 simp (disch := omega) [wrap64, wrapU, leW, wrl, buildV, fillV, splice, hK]
 apply after_some rfl; apply hQ; clear hQ Q
 apply w_ret
 repeat (with_reducible (first | apply kseq_ret | apply kloop_ret | apply kcut_ret | apply kblock_ret))
 apply fin_pure rfl
 ·rw [← ixF_any p s.list 0]
 ·rfl

theorem cfeR {s : SL RuleT} {F : FuncId} {c : List V} {p : RuleT → Bool} (hi : (F == 163) = false) (hc : V.pureL c = true) (hl : s.list.length < 4611686018427387904) (hF : ∀ k ∈ s.list, ∀ H, call LE F ((.agg (eR k)) :: c) H = some (.bool (p k), H)) (H : Heap) : call LE 87 [enc eR s, .fn F [] c] H = some (.bool (s.list.any p), H) :=
 call_pure rfl (.inl rfl) (pureL_cons (enc_pure eeR s) (pureL_cons (by simp [V.pure, hc, V.pureL]) rfl)) (cfeR_runs hi hc hl hF) H

/-- slices.ContainsFunc[[]string,string] -/
theorem cfeS_runs {s : SL Str} {F : FuncId} {c : List V} {p : Str → Bool} (hi : (F == 163) = false) (hc : V.pureL c = true) (hl : s.list.length < 4611686018427387904) (hF : ∀ k ∈ s.list, ∀ H, call LE F ((.str k) :: c) H = some (.bool (p k), H)) : Runs LE 142 [enc eS s, .fn F [] c] (.bool (s.list.any p)) := by
 have hK := fun H => ixeS (s := s) (p := p) hi hc hl hF H
 refine runs_W (m := 9) Tryz.func142 rfl rfl (Nat.le_of_ble_eq_true rfl) ?_
 simp only [alOf]
 apply w_seq
 apply w_reg [0, 1] rfl; intro Q hQ
 simp (disch := omega) [wrap64, wrapU, leW, wrl, buildV, fillV, splice, hK]
 apply after_some rfl; apply hQ; clear hQ Q
 apply w_seq
 apply w_reg [4] rfl; intro Q hQ
 simp (disch := omega) [wrap64, wrapU, leW, wrl, buildV, fillV, splice, hK]
 apply after_some rfl; apply hQ; clear hQ Q
 apply w_ret
 repeat (with_reducible (first | apply kseq_ret | apply kloop_ret | apply kcut_ret | apply kblock_ret))
 apply fin_pure rfl
 ·rw [← ixF_any p s.list 0]
 ·rfl

theorem cfeS {s : SL Str} {F : FuncId} {c : List V} {p : Str → Bool} (hi : (F == 163) = false) (hc : V.pureL c = true) (hl : s.list.length < 4611686018427387904) (hF : ∀ k ∈ s.list, ∀ H, call LE F ((.str k) :: c) H = some (.bool (p k), H)) (H : Heap) : call LE 142 [enc eS s, .fn F [] c] H = some (.bool (s.list.any p), H) :=
 call_pure rfl (.inl rfl) (pureL_cons (enc_pure eeS s) (pureL_cons (by simp [V.pure, hc, V.pureL]) rfl)) (cfeS_runs hi hc hl hF) H

end Go.Ae.Zd

namespace Go.Ae.Zd
open Go.Proofs

theorem ixF_rng {α : Type} (p : α → Bool) : ∀ (l : List α) (i : Nat), ixF p i l = -1 ∨ (i : Int) ≤ ixF p i l ∧ ixF p i l < i + l.length
 |[], i => .inl rfl
 |a :: r, i => by
  have e : ixF p i (a :: r) = if p a = true then (i : Int) else ixF p (i + 1) r := rfl
  rw [e]
  split
  ·right; simp; omega
  ·rcases ixF_rng p r (i + 1) with h | ⟨h1, h2⟩
   ·exact .inl h
   ·right; simp; omega
theorem fIx_range (s : Str) (l : List FieldT) : -1 ≤ fIx s l ∧ fIx s l < l.length := by
 have e : fIx s l = ixF (fun k : FieldT => decide (k.name = s)) 0 l := rfl
 rcases ixF_rng (fun k : FieldT => decide (k.name = s)) l 0 with h | ⟨h1, h2⟩
 ·omega
 ·constructor <;> omega
/-- Can it be copied? -/
def copP (f : FieldT) : Bool := decide (f.kind ≠ 0 ∧ f.kind ≠ 1 ∧ f.kind ≠ 6 ∧ f.kind ≠ 7)
abbrev cIx (l : List FieldT) : Int := ixF copP 0 l
theorem cIx_range (l : List FieldT) : -1 ≤ cIx l ∧ cIx l < l.length := by
 have e : cIx l = ixF copP 0 l := rfl
 rcases ixF_rng copP l 0 with h | ⟨h1, h2⟩
 ·omega
 ·constructor <;> omega

/-- diorama/dioramaref09.has -/
theorem cHas_runs (s : SL FieldT) (nm : Str) (hl : s.list.length < 4611686018427387904) : Runs LE 96 [enc eF s, .str nm] (.int .i64 (fIx nm s.list)) := by
 refine runs_W (m := 20) Tryz.func96 rfl rfl (Nat.le_of_ble_eq_true rfl) ?_
 simp only [alOf]
 apply w_seq
 apply w_reg [0, 1] rfl; intro Q hQ
 simp (disch := omega) [wrap64, wrapU, leW, wrl, buildV, fillV, splice]
 apply after_some rfl; apply hQ; clear hQ Q
 apply w_seq
 apply w_seq
 apply w_reg [0, 1, 5] rfl; intro Q hQ
 simp (disch := omega) [wrap64, wrapU, leW, wrl, buildV, fillV, splice]
 apply after_some rfl; apply hQ; clear hQ Q
 apply w_block
 refine w_loop (fun m al H => ∃ i : Nat, m = s.list.length - i ∧ i ≤ s.list.length ∧ ixF (fun k : FieldT => decide (k.name = nm)) i (s.list.drop i) = fIx nm s.list ∧ al = [(0, enc eF s), (1, .str nm), (5, .int .i64 (i : Int))] ∧ H = []) (s.list.length) ?_ ?_
 ·exact ⟨0, by simp, by omega, rfl, rfl, rfl⟩
 rintro m al H ⟨i, hm, hi0, hs, rfl, rfl⟩
 apply w_seq
 apply w_seq
 apply w_reg [0, 1, 5, 9] rfl; intro Q hQ
 simp (disch := omega) [wrap64, wrapU, leW, wrl, buildV, fillV, splice]
 apply after_some rfl; apply hQ; clear hQ Q
 apply w_cond _ rfl <;> intro hc
 ·first
  |(simp at hc; done)
  |try simp [Int.natCast_inj] at hc
   apply w_skip
   apply w_seq
   apply w_block
   apply w_seq
   apply w_reg [0, 1, 5, 18] rfl; intro Q hQ
   simp (disch := omega) [wrap64, wrapU, leW, wrl, buildV, fillV, splice]
   apply after_some rfl; apply hQ; clear hQ Q
   apply w_cond _ rfl <;> intro hc
   ·first
    |(simp at hc; done)
    |try simp [Int.natCast_inj] at hc
     apply w_seq
     apply w_reg [4] rfl; intro Q hQ
     simp (disch := omega) [wrap64, wrapU, leW, wrl, buildV, fillV, splice]
     apply after_some rfl; apply hQ; clear hQ Q
     apply w_ret
     repeat (with_reducible (first | apply kseq_ret | apply kloop_ret | apply kcut_ret | apply kblock_ret))
     apply fin_pure rfl
     ·have hci : i < s.list.length := by assumption
      rw [← hs, ixF_step hci]
      simp [hc]
     ·rfl
   ·first
    |(simp at hc; done)
    |try simp [Int.natCast_inj] at hc
     apply w_skip
     apply w_reg [0, 1, 5] rfl; intro Q hQ
     simp (disch := omega) [wrap64, wrapU, leW, wrl, buildV, fillV, splice]
     apply after_some rfl; apply hQ; clear hQ Q
     repeat (with_reducible apply kblock_nrm)
     have hci : i < s.list.length := by assumption
     refine kloop_back (s.list.length - (i + 1)) (by omega) ⟨i + 1, rfl, by omega, ?_, rfl, rfl⟩
     rw [← hs, ixF_step hci]
     simp [hc]
 ·first
  |(simp at hc; done)
  |try simp [Int.natCast_inj] at hc
   apply w_exit
   repeat (first | with_reducible apply kseq_exit | with_reducible apply kloop_exit | with_reducible apply kcut_exit | with_reducible apply kblock_exit | with_reducible apply kblock_pass (by decide))
   apply w_seq
   apply w_reg [4] rfl; intro Q hQ
   simp (disch := omega) [wrap64, wrapU, leW, wrl, buildV, fillV, splice]
   apply after_some rfl; apply hQ; clear hQ Q
   apply w_ret
   repeat (with_reducible (first | apply kseq_ret | apply kloop_ret | apply kcut_ret | apply kblock_ret))
   apply fin_pure rfl
   ·have : i = s.list.length := by omega
    subst this
    rw [← hs, List.drop_length]
    rfl
   ·rfl

theorem cHas (s : SL FieldT) (nm : Str) (hl : s.list.length < 4611686018427387904) (H : Heap) : call LE 96 [enc eF s, .str nm] H = some ((.int .i64 (fIx nm s.list)), H) :=
 call_pure rfl (by first | exact .inl rfl | exact .inr rfl) (by simp [V.pure, enc_pure eeK, enc_pure eeF, enc_pure eeL, enc_pure eeR, enc_pure eeS, enc_pure eeI, enc_pure eeP, V.pureL, eK, eF, eX, eL, eR]) (cHas_runs s nm hl) H

/-- diorama/dioramaref09.Copied -/
theorem cCopied_runs (x : KindT) (hl : x.fields.list.length < 4611686018427387904) : Runs LE 95 [.agg (eK x)] (.int .i64 (cIx x.fields.list)) := by
 refine runs_W (m := 33) Tryz.func95 rfl rfl (Nat.le_of_ble_eq_true rfl) ?_
 simp only [alOf]
 apply w_seq
 apply w_reg [1] rfl; intro Q hQ
 simp (disch := omega) [wrap64, wrapU, leW, wrl, buildV, fillV, splice, eK]
 apply after_some rfl; apply hQ; clear hQ Q
 apply w_seq
 apply w_seq
 apply w_reg [1, 3] rfl; intro Q hQ
 simp (disch := omega) [wrap64, wrapU, leW, wrl, buildV, fillV, splice, eK]
 apply after_some rfl; apply hQ; clear hQ Q
 apply w_block
 refine w_loop (fun m al H => ∃ i : Nat, m = x.fields.list.length - i ∧ i ≤ x.fields.list.length ∧ ixF copP i (x.fields.list.drop i) = cIx x.fields.list ∧ al = [(1, .rp (eK x)), (3, .int .i64 (i : Int))] ∧ H = []) (x.fields.list.length) ?_ ?_
 ·exact ⟨0, by simp, by omega, rfl, rfl, rfl⟩
 rintro m al H ⟨i, hm, hi0, hs, rfl, rfl⟩
 apply w_seq
 apply w_seq
 apply w_reg [1, 3, 9] rfl; intro Q hQ
 simp (disch := omega) [wrap64, wrapU, leW, wrl, buildV, fillV, splice, eK]
 apply after_some rfl; apply hQ; clear hQ Q
 apply w_cond _ rfl <;> intro hc
 ·first
  |(simp at hc; done)
  |try simp [Int.natCast_inj] at hc
   apply w_skip
   apply w_seq
   apply w_block
   apply w_seq
   apply w_reg [1, 3, 4] rfl; intro Q hQ
   simp (disch := omega) [wrap64, wrapU, leW, wrl, buildV, fillV, splice, eK]
   apply after_some rfl; apply hQ; clear hQ Q
   apply w_seq
   apply w_reg [1, 3, 31] rfl; intro Q hQ
   simp (disch := omega) [wrap64, wrapU, leW, wrl, buildV, fillV, splice, eK]
   repeat' ((first | with_reducible apply after_guard | with_reducible apply after_guardD) <;> (intro hg; have hg' := hg; try simp at hg') <;> simp (disch := omega) [wrap64, wrapU, leW, wrl, buildV, fillV, splice, eK, *])
   all_goals (apply after_some rfl; apply hQ; clear hQ Q)
   all_goals
    skip
    apply w_cond _ rfl <;> intro hc
    ·first
     |(simp at hc; done)
     |try simp [Int.natCast_inj] at hc
      apply w_seq
      apply w_reg [2] rfl; intro Q hQ
      simp (disch := omega) [wrap64, wrapU, leW, wrl, buildV, fillV, splice, eK]
      apply after_some rfl; apply hQ; clear hQ Q
      apply w_ret
      repeat (with_reducible (first | apply kseq_ret | apply kloop_ret | apply kcut_ret | apply kblock_ret))
      apply fin_pure rfl
      ·have hci : i < x.fields.list.length := by assumption
       have hP : copP x.fields.list[i] = true := by simp [copP, *]
       rw [← hs, ixF_step hci, hP]
       rfl
      ·rfl
    ·first
     |(simp at hc; done)
     |try simp [Int.natCast_inj] at hc
      apply w_skip
      apply w_reg [1, 3] rfl; intro Q hQ
      simp (disch := omega) [wrap64, wrapU, leW, wrl, buildV, fillV, splice, eK]
      apply after_some rfl; apply hQ; clear hQ Q
      repeat (with_reducible apply kblock_nrm)
      have hci : i < x.fields.list.length := by assumption
      have hP : copP x.fields.list[i] = false := by simp [copP, *]
      refine kloop_back (x.fields.list.length - (i + 1)) (by omega) ⟨i + 1, rfl, by omega, ?_, rfl, rfl⟩
      rw [← hs, ixF_step hci, hP]
      rfl
 ·first
  |(simp at hc; done)
  |try simp [Int.natCast_inj] at hc
   apply w_exit
   repeat (first | with_reducible apply kseq_exit | with_reducible apply kloop_exit | with_reducible apply kcut_exit | with_reducible apply kblock_exit | with_reducible apply kblock_pass (by decide))
   apply w_seq
   apply w_reg [2] rfl; intro Q hQ
   simp (disch := omega) [wrap64, wrapU, leW, wrl, buildV, fillV, splice, eK]
   apply after_some rfl; apply hQ; clear hQ Q
   apply w_ret
   repeat (with_reducible (first | apply kseq_ret | apply kloop_ret | apply kcut_ret | apply kblock_ret))
   apply fin_pure rfl
   ·have : i = x.fields.list.length := by omega
    subst this
    rw [← hs, List.drop_length]
    rfl
   ·rfl

theorem cCopied (x : KindT) (hl : x.fields.list.length < 4611686018427387904) (H : Heap) : call LE 95 [.agg (eK x)] H = some ((.int .i64 (cIx x.fields.list)), H) :=
 call_pure rfl (by first | exact .inl rfl | exact .inr rfl) (by simp [V.pure, enc_pure eeK, enc_pure eeF, enc_pure eeL, enc_pure eeR, enc_pure eeS, enc_pure eeI, enc_pure eeP, V.pureL, eK, eF, eX, eL, eR]) (cCopied_runs x hl) H

end Go.Ae.Zd

set_option maxRecDepth 20000
set_option maxHeartbeats 4000000
namespace Go.Ae.Zd
open Go.Proofs

theorem AtN_range {l : List Int} {j n : Int} (h : 1 ≤ n) (hl : ∀ a ∈ l, I64 a) : 0 ≤ AtN l j n ∧ AtN l j n < n := by
 unfold AtN
 split
 ·split
  ·rename_i a ha
   have hm := hl a (List.mem_of_getElem? ha)
   unfold Around
   rw [if_neg (by omega)]
   have h0 : 0 ≤ (if a < 0 then -(a + 1) else a) := by split <;> omega
   exact ⟨Int.tmod_nonneg _ h0, Int.tmod_lt_of_pos _ (by omega)⟩
  ·omega
 ·omega

theorem takeHx {l : SL Int} (hl : ∀ a ∈ l.list, I64 a) {b : Nat} {H r : Heap} {u : Upd} (hb : b < H.length) (hu : okU H u) {j n : Int} (hk : lkU u b 0 (getW H b 0) = some (mkC l j)) (hj : 0 ≤ j) (hj2 : j < 1000000) (hn : -9223372036854775808 ≤ n) (hn2 : n ≤ 9223372036854775807) :
  call LE 51 [.mp b 0 0, .int .i64 n] (HX H u r) = some (.int .i64 (AtN l.list j n), HX H ((b, 0, mkC l (j + 1)) :: u) r) := by
 have hW : getW (HX H u r) b 0 = some (mkC l j) := by rw [hxW hb hu, hk]
 rw [cTake l j n hl ⟨hn, hn2⟩ ⟨hj, by omega⟩ hW, hxS hb]

/-- The four places at which a number is taken. -/
structure TakeEq (l : SL Int) (H : Heap) (b : Nat) (i : Int) : Prop where
 t0 : ∀ (r : Heap) (n : Int), -9223372036854775808 ≤ n → n ≤ 9223372036854775807 → call LE 51 [.mp b 0 0, .int .i64 n] (HX H [] r) = some (.int .i64 (AtN l.list i n), HX H [(b, 0, mkC l (i + 1))] r)
 t1 : ∀ (u : Upd) (r : Heap) (j n : Int), okU H u → 0 ≤ j → j < 1000000 → -9223372036854775808 ≤ n → n ≤ 9223372036854775807 → call LE 51 [.mp b 0 0, .int .i64 n] (HX H ((b, 0, mkC l j) :: u) r) = some (.int .i64 (AtN l.list j n), HX H ((b, 0, mkC l (j + 1)) :: u) r)
 t2 : ∀ (u : Upd) (r : Heap) (j n : Int) (b1 v1 : Nat) (c1 : List V), b1 ≠ b → b1 < H.length → okU H u → 0 ≤ j → j < 1000000 → -9223372036854775808 ≤ n → n ≤ 9223372036854775807 → call LE 51 [.mp b 0 0, .int .i64 n] (HX H ((b1, v1, c1) :: (b, 0, mkC l j) :: u) r) = some (.int .i64 (AtN l.list j n), HX H ((b, 0, mkC l (j + 1)) :: (b1, v1, c1) :: u) r)
 t3 : ∀ (r : Heap) (n : Int) (b1 v1 : Nat) (c1 : List V), b1 ≠ b → b1 < H.length → -9223372036854775808 ≤ n → n ≤ 9223372036854775807 → call LE 51 [.mp b 0 0, .int .i64 n] (HX H [(b1, v1, c1)] r) = some (.int .i64 (AtN l.list i n), HX H [(b, 0, mkC l (i + 1)), (b1, v1, c1)] r)

theorem takeEq {l : SL Int} (hl : ∀ a ∈ l.list, I64 a) {b : Nat} {H : Heap} {i : Int} (hW : getW H b 0 = some (mkC l i)) (hi : 0 ≤ i) (hi2 : i < 1000000) : TakeEq l H b i where
 t0 := fun r n h1 h2 => takeHx hl (getW_lt hW) okU_nil hW hi hi2 h1 h2
 t1 := fun u r j n hu hj hj2 h1 h2 => by rw [takeHx hl (getW_lt hW) (okU1 (getW_lt hW) hu) lkU_hit hj hj2 h1 h2, hx_dup]
 t2 := fun u r j n b1 v1 c1 hne hb1 hu hj hj2 h1 h2 => by rw [takeHx hl (getW_lt hW) (okU1 hb1 (okU1 (getW_lt hW) hu)) (by rw [lkU_ne hne, lkU_hit]) hj hj2 h1 h2, hx_dup2]
 t3 := fun r n b1 v1 c1 hne hb1 h1 h2 => takeHx hl (getW_lt hW) (okU1 hb1 okU_nil) (by rw [lkU_ne hne]; exact hW) hi hi2 h1 h2

theorem sp_alloc {E : Env} {cl : Call} {f : FuncId} {a : Nat} {d : Option Tmp} {e : TypeId} {al : AL} {H : Heap} : stepP E cl f a d (.alloc e) al H = match tinf E.P e, H[a]? with
  |some i, some none => if allOne i.zero.cells then some (.mp a 0 0, H.set a (newBlk 0 i.zero.cells)) else none
  |_, _ => none := rfl

theorem wOf_ {wt : Wt} {j : Nat} : wOf wt j = (wt.lookup j).getD [] := rfl
theorem isEmpty_n {α : Type} : ([] : List α).isEmpty = true := rfl
theorem isEmpty_c {α : Type} {a : α} {l : List α} : (a :: l).isEmpty = false := rfl
theorem lk_nil {α : Type} {j : Nat} : List.lookup j ([] : List (Nat × α)) = none := rfl
theorem lk_cons {α : Type} {j k : Nat} {v : α} {r : List (Nat × α)} : List.lookup j ((k, v) :: r) = if j = k then some v else List.lookup j r := by
 by_cases h : j = k
 ·subst h; simp [List.lookup]
 ·have h' : (j == k) = false := by simpa using h
  simp [List.lookup, h, h']
theorem no_buildSlice {E : Env} {ρ : Operand → Option V} {t : TypeId} {len : Nat} {parts : Array (Nat × Operand)} : nop E ρ (.buildSlice t len parts) = match tinf E.P t, partsO ρ parts.toList with
  |some ⟨.slice e, _, _, _⟩, some l => match tinf E.P e with
   |some ie =>
    if len * ie.size = 0 ∨ len * ie.size > 16777216 then (if len = 0 ∧ l.isEmpty = true then some (.sl true []) else none)
    else if ie.zero.cells.length ≠ ie.size then none
    else match fillV (fun i => some (i * ie.size, ie.size)) (List.replicate len ie.zero.cells).flatten l with
     |some cs => if allOne cs ∧ cs.length = len * ie.size then some (.sl true (chunk ie.size len cs)) else none
     |none => none
   |none => none
  |_, _ => none := by
 simp only [nop]
 rfl
theorem no_makeSlice {E : Env} {ρ : Operand → Option V} {t : TypeId} {x y : Operand} : nop E ρ (.makeSlice t x y) = match tinf E.P t, ρ x, ρ y with
  |some ⟨.slice e, _, _, _⟩, some (.int _ l), some (.int _ c) => match tinf E.P e with
   |some ie =>
    if 0 ≤ l ∧ l ≤ c ∧ (ie.bytes : Int) * c ≤ room ∧ c ≤ 4611686018427387904 ∧ 0 < ie.size ∧ ie.zero.cells.length = ie.size ∧ allOne ie.zero.cells then
     some (.sl (decide (l = c)) (List.replicate l.toNat ie.zero.cells))
    else none
   |none => none
  |_, _, _ => none := by
 simp only [nop]
 rfl
theorem no_box {E : Env} {ρ : Operand → Option V} {t : TypeId} {x : Operand} : nop E ρ (.box t x) = match ρ x with
  |some v => if allOne v.cells then some (.rp v.cells) else none
  |none => none := rfl
theorem encN {α : Type} {e : α → List V} : enc e SL.nil = .nil := rfl
theorem cells_ms {a b c d e : Nat} {f : Bool} : (V.ms a b c d e f).cells = [.ms a b c d e f] := rfl
theorem one_ms {a b c d e : Nat} {f : Bool} : (V.ms a b c d e f).one = true := rfl
theorem cells_sl {f : Bool} {els : List (List V)} : (V.sl f els).cells = [.sl f els] := rfl
theorem one_sl {f : Bool} {els : List (List V)} : (V.sl f els).one = true := rfl
theorem msln {P : Program} {ty et : TypeId} {ti : TI} (T : LT P ty et ti) {sz b ver off len : Nat} {full : Bool} : lenV P ty (.ms sz b ver off len full) = some len := by simp [lenV, T.hs]
theorem ofVal_str {a : Array UInt8} : ofVal (.string ⟨a⟩) = some (.str a.toList) := rfl
theorem sl_ms {P : Program} {ty et : TypeId} {ti : TI} {H : Heap} (T : LT P ty et ti) {b ver off len : Nat} {full : Bool} {i : Int} (h0 : 0 < i) (h1 : i ≤ len) :
  sliceV P H ty (.ms ti.size b ver off len full) none (some (.int .i64 i)) none = some (.ms ti.size b ver off i.toNat (full && decide (len = i.toNat))) := by
 have h2 : cutV len full none (some (.int .i64 i)) none = some (0, i.toNat, full && decide (len = i.toNat)) := by
  simp [cutV, bnd, h1, Int.le_of_lt h0]
 have h3 : ¬ 0 = i.toNat := by omega
 simp [sliceV, T.hs, h2, sizeT, T.he, h3]
/-- Appending to a list that lies behind other blocks. -/
theorem app3 {α : Type} {P : Program} {ty et : TypeId} {i : TI} {e : α → List V} {H : Heap} (T : LT P ty et i) (E : Ee e i.size) {z : SL α} (hz : Empty z) {v x : V} {ys xs : List α} (h : MutG e i.size z H v ys) (hx : elemsOf H x = some (xs.map e)) (hl : (ys.length + xs.length) * i.bytes ≤ room) {m : Nat} (hm : m ≤ H.length) (hv : ∀ bb ver, bb < m → v ≠ .ms i.size bb ver 0 ys.length false) :
  appendV P H ty v x = some (apV P ty H v x, apH P ty H v x) ∧ MutG e i.size z (apH P ty H v x) (apV P ty H v x) (ys ++ xs) ∧ H.length ≤ (apH P ty H v x).length ∧ (∀ bb, bb < m → (apH P ty H v x)[bb]? = H[bb]?) ∧ ∀ bb ver, bb < m → apV P ty H v x ≠ .ms i.size bb ver 0 (ys ++ xs).length false := by
 obtain ⟨v', H', h1, h2, h3, h4, h5⟩ := h.append T E hz hx hl
 simp only [apV, apH, h1]
 refine ⟨trivial, h2, h3, fun bb hb => h4 bb (Nat.lt_of_lt_of_le hb hm) fun ver => hv bb ver hb, fun bb ver hb hq => ?_⟩
 rcases h5 bb ver hq with ⟨ver', h6⟩ | h6
 ·exact hv bb ver' hb h6
 ·omega
theorem getW_of {H H' : Heap} {b ver : Nat} (h : H'[b]? = H[b]?) : getW H' b ver = getW H b ver := by unfold getW; rw [h]
theorem getBlk_of {H H' : Heap} {b ver : Nat} (h : H'[b]? = H[b]?) : getBlk H' b ver = getBlk H b ver := by unfold getBlk; rw [h]
theorem MutG.hx {α : Type} {e : α → List V} {n : Nat} {z : SL α} {H r : Heap} {u : Upd} {v : V} {ys : List α} (h : MutG e n z H v ys) (hv : ∀ p ∈ u, ∀ ver, v ≠ .ms n p.1 ver 0 ys.length false) : MutG e n z (HX H u r) v ys := by
 rcases h with h | ⟨b, ver, h1, h2, h3⟩
 ·exact .inl h
 ·refine .inr ⟨b, ver, h1, ?_, h3⟩
  rw [getW_of (hxG (getW_lt h2) fun p hp hq => hv p hp ver (by rw [hq]; exact h1))]
  exact h2
theorem MutG.setb {α : Type} {e : α → List V} {n : Nat} {z : SL α} {H : Heap} {b ver : Nat} {c : List V} {v : V} {ys : List α} (h : MutG e n z H v ys) (hv : ∀ ver, v ≠ .ms n b ver 0 ys.length false) : MutG e n z (setBlk H b ver c) v ys := by
 rcases h with h | ⟨b', ver', h1, h2, h3⟩
 ·exact .inl h
 ·exact .inr ⟨b', ver', h1, by rw [gW_ne (fun hq => hv ver' (by rw [hq]; exact h1))]; exact h2, h3⟩
theorem Kp.step {b m : Nat} {H0 H1 A : Heap} (h : Kp b H0 H1) (h1 : H1.length ≤ A.length) (h2 : ∀ bb, bb < m → A[bb]? = H1[bb]?) (hm : H0.length ≤ m) : Kp b H0 A :=
 ⟨Nat.le_trans h.1 h1, fun b' h3 h4 => by rw [h2 b' (Nat.lt_of_lt_of_le h3 hm)]; exact h.2 b' h3 h4⟩
theorem Kp.setb {b b' ver : Nat} {c : List V} {H0 H : Heap} (h : Kp b H0 H) (hb : H0.length ≤ b') : Kp b H0 (setBlk H b' ver c) :=
 ⟨by rw [setBlk_len]; exact h.1, fun k h1 h2 => by unfold setBlk; rw [List.getElem?_set_ne (by omega)]; exact h.2 k h1 h2⟩
theorem Kp.setn {b b' : Nat} {H0 H : Heap} (h : Kp b H0 H) (hb : H0.length ≤ b') : Kp b H0 (List.set H b' none) :=
 ⟨by rw [List.length_set]; exact h.1, fun k h1 h2 => by rw [List.getElem?_set_ne (by omega)]; exact h.2 k h1 h2⟩
theorem msix {P : Program} {ty et : TypeId} {ti : TI} (T : LT P ty et ti) {b ver off len : Nat} {full : Bool} {i : Int} (h0 : 0 ≤ i) (h1 : i < len) : indexAddrV P ty (.ms ti.size b ver off len full) i = some (.mp b ver (off + i.toNat * ti.size)) := by
 simp [indexAddrV, T.hs, sizeT, T.he, h0, h1]
theorem chunk_pre {α : Type} {e : α → List V} {n : Nat} (E : Ee e n) : ∀ (l : List α) (k : Nat), k ≤ l.length → chunk n k (l.map e).flatten = (l.take k).map e
 |l, 0, _ => by simp [chunk]
 |[], k + 1, h => by simp at h
 |a :: r, k + 1, h => by
  simp only [List.map_cons, List.flatten_cons, chunk, List.take_succ_cons]
  rw [← E.len a, List.take_left, List.drop_left, E.len a, chunk_pre E r k (by simpa using h)]
theorem frz_pre {α : Type} {e : α → List V} {n : Nat} {H : Heap} (E : Ee e n) (hn : 0 < n) (d : Nat) {b ver k : Nat} {full : Bool} {ys : List α} (h : getW H b ver = some (ys.map e).flatten) (hk : k ≤ ys.length) : frzV (d + 2) H (.ms n b ver 0 k full) = some (enc e (.mk full (ys.take k)), H.set b none) := by
 have h1 : 0 + k * n ≤ (ys.map e).flatten.length ∧ 0 < n := ⟨by rw [flat_len E, Nat.zero_add]; exact Nat.mul_le_mul_right n hk, hn⟩
 unfold frzV
 simp only [V.pure, Bool.false_eq_true, if_false, h, if_pos h1, List.drop_zero, chunk_pre E ys k hk]
 rw [frzLL_pure d _ _ (pureLL_map E _)]; rfl
theorem MutG.cells {α : Type} {e : α → List V} {n : Nat} {z : SL α} {H : Heap} {v : V} {ys : List α} (h : MutG e n z H v ys) : v.cells = [v] ∧ v.one = true := by
 rcases h with ⟨rfl, _⟩ | ⟨b, ver, rfl, _, _⟩
 ·exact ⟨cells_enc z, one_enc z⟩
 ·exact ⟨rfl, rfl⟩
theorem spl1 {ys : List Int} {j : Nat} (hj : j < ys.length) (a : Int) : splice (ys.map eI).flatten j [.int .i64 a] = ((ys.set j a).map eI).flatten := by
 have := blk_splice eeI (k := 0) hj (cs := [.int .i64 a]) (by simp) (a := a) rfl
 simpa using this

/-- Small numbers. -/
abbrev Sm (B : Int) (n : Int) : Prop := -B ≤ n ∧ n ≤ B
structure okF (f : FieldT) : Prop where
 kind : Sm 1000 f.kind
 lo : Sm 2000000 f.lo
 hi : Sm 2000000 f.hi
 words : f.words.list.length ≤ 20
 weights : f.weights.list.length ≤ 20
 wts : ∀ w ∈ f.weights.list, Sm 2000000 w

theorem run_E {f : FuncId} {fn : Func} {c : Code} {m : Nat} (hf : Tryz.prog.funcs[f]? = some fn) (hc : fn.body = some c) (hm : fn.ntmps = m) {args : List V} (hn : args.length ≤ m) {H : Heap} {Q : V → Heap → Prop}
  (h : W LE f m c (alOf 0 args) H fun x al' H' => x = .ret ∧ ∃ v, resultsA LE fn al' H' = some v ∧ Q v H') : ∃ v H', runFn LE (exec LE) f args H = some (v, H') ∧ Q v H' := by
 subst hm
 obtain ⟨v, H', h1, h2⟩ := run_of_W (E := LE) (K := fun _ al H' => ∃ v, look al 0 = some v ∧ Q v H') hf hc hn (h.mono fun x al H' hk => by
  obtain ⟨rfl, v, h1, h2⟩ := hk
  exact ⟨.inl rfl, v, h1, v, rfl, h2⟩)
 obtain ⟨v', h3, h4⟩ := h2
 simp only [look, if_true, Option.some.injEq] at h3
 subst h3
 exact ⟨v, H', h1, h4⟩

/-- A list that has been made is made immutable. -/
theorem frz_blk {α : Type} {e : α → List V} {n : Nat} {H : Heap} (E : Ee e n) (hn : 0 < n) (d : Nat) {b ver : Nat} {full : Bool} {ys : List α} (h : getW H b ver = some (ys.map e).flatten) : frzV (d + 2) H (.ms n b ver 0 ys.length full) = some (enc e (.mk full ys), H.set b none) := by
 have h1 : 0 + ys.length * n ≤ (ys.map e).flatten.length ∧ 0 < n := ⟨by rw [flat_len E]; omega, hn⟩
 unfold frzV
 simp only [V.pure, Bool.false_eq_true, if_false, h, if_pos h1, List.drop_zero, chunk_flat E]
 rw [frzLL_pure d _ _ (pureLL_map E ys)]; rfl

/-- What the maker's call leaves. -/
theorem frz_tag {H : Heap} {bb ver : Nat} {full : Bool} {nm of_ up : Str} {k lo hi : Int} {wv gv : V} {ws : SL Str} {gs : SL Int} {H2 H3 : Heap} (h : getW H bb ver = some [.str nm, .str of_, .str up, .int .i64 k, .int .i64 lo, .int .i64 hi, wv, gv])
  (hp : (wv.pure && gv.pure) = false) (h1 : frzV 11 (H.set bb none) wv = some (enc eS ws, H2)) (h2 : frzV 11 H2 gv = some (enc eI gs, H3)) : frzV 12 H (.ms 8 bb ver 0 1 full) = some (enc eF (.mk full [⟨nm, of_, up, k, lo, hi, ws, gs⟩]), H3) := by
 have e1 : ∀ (H : Heap) (v : V), v.pure = true → frzV 11 H v = some (v, H) := fun H v hv => by unfold frzV; rw [if_pos hv]
 unfold frzV
 simp only [V.pure, Bool.false_eq_true, if_false, h]
 rw [if_pos (by simp)]
 simp only [chunk, List.drop_zero, List.take_succ_cons, List.take_zero]
 simp only [frzLL, frzList, e1 _ (.str _) rfl, e1 _ (.int _ _) rfl, h1, h2]
 rfl
def Fields (l : SL Int) (i : Int) (b : Nat) (d : Int) (n : Nat) (H : Heap) (v : V) (H1 : Heap) : Prop :=
 ∃ (s : SL FieldT) (H2 : Heap) (i' : Int), frzV 12 H1 v = some (enc eF s, H2) ∧ i ≤ i' ∧ i' ≤ i + d ∧ getW H2 b 0 = some (mkC l i') ∧ Kp b H H2 ∧ s.list.length ≤ n ∧ ∀ f ∈ s.list, okF f

/-- (*diorama/dioramaref09.Maker).plain -/
theorem cPlain {l : SL Int} (hl : ∀ a ∈ l.list, I64 a) {b : Nat} {H0 : Heap} {i : Int} (hW : getW H0 b 0 = some (mkC l i)) (hi : 0 ≤ i) (hi2 : i < 100000) : ∃ v H1, call LE 97 [.mp b 0 0] H0 = some (v, H1) ∧ Fields l i b 20 2 H0 v H1 := by
 have hb := getW_lt hW
 have hB := getW_blk hW
 have hMd : LE.mode 51 = .inl := rfl
 obtain ⟨hT0, hT1, hT2, hT3⟩ := takeEq hl hW hi (by omega)
 have hr0_6 := AtN_range (j := i) (n := 6) (by omega) hl
 have hr1_11 := AtN_range (j := i + 1) (n := 11) (by omega) hl
 have hr2_20 := AtN_range (j := i + 1 + 1) (n := 20) (by omega) hl
 have hr1_3 := AtN_range (j := i + 1) (n := 3) (by omega) hl
 have hr1_400 := AtN_range (j := i + 1) (n := 400) (by omega) hl
 have hr2_60 := AtN_range (j := i + 1 + 1) (n := 60) (by omega) hl
 have hr3_3 := AtN_range (j := i + 1 + 1 + 1) (n := 3) (by omega) hl
 have hr4_30 := AtN_range (j := i + 1 + 1 + 1 + 1) (n := 30) (by omega) hl
 have hr2_4 := AtN_range (j := i + 1 + 1) (n := 4) (by omega) hl
 have hr1_5 := AtN_range (j := i + 1) (n := 5) (by omega) hl
 have hr2_10 := AtN_range (j := i + 1 + 1) (n := 10) (by omega) hl
 have hr3_5 := AtN_range (j := i + 1 + 1 + 1) (n := 5) (by omega) hl
 have hr4_10 := AtN_range (j := i + 1 + 1 + 1 + 1) (n := 10) (by omega) hl
 obtain ⟨n, hn⟩ : ∃ n : Nat, (n : Int) = 1 + AtN l.list (i + 1) 3 := ⟨(1 + AtN l.list (i + 1) 3).toNat, by omega⟩
 have hn1 : (1 + AtN l.list (i + 1) 3).toNat = n := by omega
 rw [call_inl rfl rfl, hx0 H0]
 refine run_E (m := 103) Tryz.func97 rfl rfl (Nat.le_of_ble_eq_true rfl) ?_
 simp only [alOf]
 apply w_seq
 apply w_reg [0] rfl; intro Q hQ
 simp (disch := (first | omega | (repeat (first | exact okU_nil | refine okU1 (by omega) ?_)))) [wrap64, wrapU, leW, wrl, buildV, fillV, splice, hW, hB, hMd, hT0, hT1, hT2, hT3, eo_buildSlice, ofVal_str, sl_ms LTs, hn1, msln LTs, chunk, reads, loadAt, List.getElem?_cons_zero, List.getElem?_cons_succ, hxW, hxB, hxW0, hxWn, hxB0, hxBn, hxS, hxSn, hxS0, hxTn, hxT0, hxGn, hxG0, hx_len, hx_app, hx_dup, hx_dup2, lkU_nil, lkU_hit, lkU_ne, sp_alloc, cells_ms, one_ms, cells_sl, one_sl, wOf_, lk_nil, lk_cons, isEmpty_n, isEmpty_c, no_buildSlice, no_makeSlice, no_box]
 apply after_some rfl; apply hQ; clear hQ Q
 apply w_seq
 apply w_seq
 apply w_reg [0, 10] rfl; intro Q hQ
 simp (disch := (first | omega | (repeat (first | exact okU_nil | refine okU1 (by omega) ?_)))) [wrap64, wrapU, leW, wrl, buildV, fillV, splice, hW, hB, hMd, hT0, hT1, hT2, hT3, eo_buildSlice, ofVal_str, sl_ms LTs, hn1, msln LTs, chunk, reads, loadAt, List.getElem?_cons_zero, List.getElem?_cons_succ, hxW, hxB, hxW0, hxWn, hxB0, hxBn, hxS, hxSn, hxS0, hxTn, hxT0, hxGn, hxG0, hx_len, hx_app, hx_dup, hx_dup2, lkU_nil, lkU_hit, lkU_ne, sp_alloc, cells_ms, one_ms, cells_sl, one_sl, wOf_, lk_nil, lk_cons, isEmpty_n, isEmpty_c, no_buildSlice, no_makeSlice, no_box]
 apply after_some rfl; apply hQ; clear hQ Q
 apply w_block
 apply w_seq
 apply w_reg [0, 10, 11] rfl; intro Q hQ
 simp (disch := (first | omega | (repeat (first | exact okU_nil | refine okU1 (by omega) ?_)))) [wrap64, wrapU, leW, wrl, buildV, fillV, splice, hW, hB, hMd, hT0, hT1, hT2, hT3, eo_buildSlice, ofVal_str, sl_ms LTs, hn1, msln LTs, chunk, reads, loadAt, List.getElem?_cons_zero, List.getElem?_cons_succ, hxW, hxB, hxW0, hxWn, hxB0, hxBn, hxS, hxSn, hxS0, hxTn, hxT0, hxGn, hxG0, hx_len, hx_app, hx_dup, hx_dup2, lkU_nil, lkU_hit, lkU_ne, sp_alloc, cells_ms, one_ms, cells_sl, one_sl, wOf_, lk_nil, lk_cons, isEmpty_n, isEmpty_c, no_buildSlice, no_makeSlice, no_box]
 apply after_some rfl; apply hQ; clear hQ Q
 apply w_cond _ rfl <;> intro hc
 ·first
  |(simp at hc; done)
  |try simp [Int.natCast_inj] at hc
   apply w_seq
   apply w_reg [0, 3] rfl; intro Q hQ
   simp (disch := (first | omega | (repeat (first | exact okU_nil | refine okU1 (by omega) ?_)))) [wrap64, wrapU, leW, wrl, buildV, fillV, splice, hW, hB, hMd, hT0, hT1, hT2, hT3, eo_buildSlice, ofVal_str, sl_ms LTs, hn1, msln LTs, chunk, reads, loadAt, List.getElem?_cons_zero, List.getElem?_cons_succ, hxW, hxB, hxW0, hxWn, hxB0, hxBn, hxS, hxSn, hxS0, hxTn, hxT0, hxGn, hxG0, hx_len, hx_app, hx_dup, hx_dup2, lkU_nil, lkU_hit, lkU_ne, sp_alloc, cells_ms, one_ms, cells_sl, one_sl, wOf_, lk_nil, lk_cons, isEmpty_n, isEmpty_c, no_buildSlice, no_makeSlice, no_box]
   apply after_some rfl; apply hQ; clear hQ Q
   apply w_seq
   apply w_reg [2] rfl; intro Q hQ
   simp (disch := (first | omega | (repeat (first | exact okU_nil | refine okU1 (by omega) ?_)))) [wrap64, wrapU, leW, wrl, buildV, fillV, splice, hW, hB, hMd, hT0, hT1, hT2, hT3, eo_buildSlice, ofVal_str, sl_ms LTs, hn1, msln LTs, chunk, reads, loadAt, List.getElem?_cons_zero, List.getElem?_cons_succ, hxW, hxB, hxW0, hxWn, hxB0, hxBn, hxS, hxSn, hxS0, hxTn, hxT0, hxGn, hxG0, hx_len, hx_app, hx_dup, hx_dup2, lkU_nil, lkU_hit, lkU_ne, sp_alloc, cells_ms, one_ms, cells_sl, one_sl, wOf_, lk_nil, lk_cons, isEmpty_n, isEmpty_c, no_buildSlice, no_makeSlice, no_box]
   apply after_some rfl; apply hQ; clear hQ Q
   apply w_ret
   repeat (with_reducible (first | apply kseq_ret | apply kloop_ret | apply kcut_ret | apply kblock_ret))
   refine ⟨rfl, _, rfl, ?_⟩
   rw [show HX H0 [] [] = H0 from (hx0 H0).symm]
   refine ⟨.mk true [(⟨[115, 105, 122, 101], [], [], 2, AtN l.list (i + 1) 11 - 5, AtN l.list (i + 1) 11 - 5 + AtN l.list (i + 1 + 1) 20, .nil, .nil⟩ : FieldT)], _, i + 1 + 1 + 1, frz_blk eeF (by decide) 10 (ys := [(⟨[115, 105, 122, 101], [], [], 2, AtN l.list (i + 1) 11 - 5, AtN l.list (i + 1) 11 - 5 + AtN l.list (i + 1 + 1) 20, .nil, .nil⟩ : FieldT)]) (by simp [List.getElem?_cons_zero, List.getElem?_cons_succ, hxW, hxB, hxW0, hxWn, hxB0, hxBn, hxS, hxSn, hxS0, hxTn, hxT0, hxGn, hxG0, hx_len, hx_app, hx_dup, hx_dup2, lkU_nil, lkU_hit, lkU_ne, sp_alloc, cells_ms, one_ms, cells_sl, one_sl, wOf_, lk_nil, lk_cons, isEmpty_n, isEmpty_c, no_buildSlice, no_makeSlice, no_box, eF, encN]), by omega, by omega, ?_, ?_, ?_, ?_⟩
   ·simp (disch := (first | omega | (repeat (first | exact okU_nil | refine okU1 (by omega) ?_)))) [List.getElem?_cons_zero, List.getElem?_cons_succ, hxW, hxB, hxW0, hxWn, hxB0, hxBn, hxS, hxSn, hxS0, hxTn, hxT0, hxGn, hxG0, hx_len, hx_app, hx_dup, hx_dup2, lkU_nil, lkU_hit, lkU_ne, sp_alloc, cells_ms, one_ms, cells_sl, one_sl, wOf_, lk_nil, lk_cons, isEmpty_n, isEmpty_c, no_buildSlice, no_makeSlice, no_box]
   ·rw [hxT0]; exact Kp.refl.hx (by simp)
   ·simp [SL.list_mk]
   ·intro f hf
    simp only [SL.list_mk, List.mem_cons, List.not_mem_nil, or_false] at hf
    subst hf
    exact ⟨by simp only [Sm]; omega, by simp only [Sm]; omega, by simp only [Sm]; omega, by simp [SL.list_nil], by simp [SL.list_nil], by simp [SL.list_nil]⟩
 ·first
  |(simp at hc; done)
  |try simp [Int.natCast_inj] at hc
   apply w_seq
   apply w_reg [0, 10, 23] rfl; intro Q hQ
   simp (disch := (first | omega | (repeat (first | exact okU_nil | refine okU1 (by omega) ?_)))) [wrap64, wrapU, leW, wrl, buildV, fillV, splice, hW, hB, hMd, hT0, hT1, hT2, hT3, eo_buildSlice, ofVal_str, sl_ms LTs, hn1, msln LTs, chunk, reads, loadAt, List.getElem?_cons_zero, List.getElem?_cons_succ, hxW, hxB, hxW0, hxWn, hxB0, hxBn, hxS, hxSn, hxS0, hxTn, hxT0, hxGn, hxG0, hx_len, hx_app, hx_dup, hx_dup2, lkU_nil, lkU_hit, lkU_ne, sp_alloc, cells_ms, one_ms, cells_sl, one_sl, wOf_, lk_nil, lk_cons, isEmpty_n, isEmpty_c, no_buildSlice, no_makeSlice, no_box]
   apply after_some rfl; apply hQ; clear hQ Q
   apply w_cond _ rfl <;> intro hc
   ·first
    |(simp at hc; done)
    |try simp [Int.natCast_inj] at hc
     apply w_seq
     apply w_reg [0, 4] rfl; intro Q hQ
     simp (disch := (first | omega | (repeat (first | exact okU_nil | refine okU1 (by omega) ?_)))) [wrap64, wrapU, leW, wrl, buildV, fillV, splice, hW, hB, hMd, hT0, hT1, hT2, hT3, eo_buildSlice, ofVal_str, sl_ms LTs, hn1, msln LTs, chunk, reads, loadAt, List.getElem?_cons_zero, List.getElem?_cons_succ, hxW, hxB, hxW0, hxWn, hxB0, hxBn, hxS, hxSn, hxS0, hxTn, hxT0, hxGn, hxG0, hx_len, hx_app, hx_dup, hx_dup2, lkU_nil, lkU_hit, lkU_ne, sp_alloc, cells_ms, one_ms, cells_sl, one_sl, wOf_, lk_nil, lk_cons, isEmpty_n, isEmpty_c, no_buildSlice, no_makeSlice, no_box]
     apply after_some rfl; apply hQ; clear hQ Q
     apply w_seq
     apply w_reg [0, 4, 5] rfl; intro Q hQ
     simp (disch := (first | omega | (repeat (first | exact okU_nil | refine okU1 (by omega) ?_)))) [wrap64, wrapU, leW, wrl, buildV, fillV, splice, hW, hB, hMd, hT0, hT1, hT2, hT3, eo_buildSlice, ofVal_str, sl_ms LTs, hn1, msln LTs, chunk, reads, loadAt, List.getElem?_cons_zero, List.getElem?_cons_succ, hxW, hxB, hxW0, hxWn, hxB0, hxBn, hxS, hxSn, hxS0, hxTn, hxT0, hxGn, hxG0, hx_len, hx_app, hx_dup, hx_dup2, lkU_nil, lkU_hit, lkU_ne, sp_alloc, cells_ms, one_ms, cells_sl, one_sl, wOf_, lk_nil, lk_cons, isEmpty_n, isEmpty_c, no_buildSlice, no_makeSlice, no_box]
     apply after_some rfl; apply hQ; clear hQ Q
     apply w_seq
     apply w_seq
     apply w_reg [0, 4, 5, 6] rfl; intro Q hQ
     simp (disch := (first | omega | (repeat (first | exact okU_nil | refine okU1 (by omega) ?_)))) [wrap64, wrapU, leW, wrl, buildV, fillV, splice, hW, hB, hMd, hT0, hT1, hT2, hT3, eo_buildSlice, ofVal_str, sl_ms LTs, hn1, msln LTs, chunk, reads, loadAt, List.getElem?_cons_zero, List.getElem?_cons_succ, hxW, hxB, hxW0, hxWn, hxB0, hxBn, hxS, hxSn, hxS0, hxTn, hxT0, hxGn, hxG0, hx_len, hx_app, hx_dup, hx_dup2, lkU_nil, lkU_hit, lkU_ne, sp_alloc, cells_ms, one_ms, cells_sl, one_sl, wOf_, lk_nil, lk_cons, isEmpty_n, isEmpty_c, no_buildSlice, no_makeSlice, no_box]
     apply after_some rfl; apply hQ; clear hQ Q
     apply w_block
     refine w_loop (fun m al H => ∃ (j : Nat) (i' : Int) (gv : V) (ys : List Int), m = n - j ∧ j ≤ n ∧ getW H b 0 = some (mkC l i') ∧ i + 2 ≤ i' ∧ i' ≤ i + 2 + j ∧ getW H H0.length 3 = some [V.str [114, 101, 100], V.str [103, 114, 101, 101, 110], V.str [98, 108, 117, 101]] ∧ getW H (H0.length + 1) 0 = some [V.str [116, 97, 103], V.str [], V.str [], V.int .i64 3, V.int .i64 0, V.int .i64 0, V.ms 1 H0.length 3 0 n (decide (3 = n)), gv] ∧ MutG eI 1 .nil H gv ys ∧ ys.length = j ∧ (∀ w ∈ ys, Sm 2000000 w) ∧ Kp b H0 H ∧ H0.length + 2 ≤ H.length ∧ (∀ bb ver, bb < H0.length + 2 → gv ≠ .ms 1 bb ver 0 ys.length false) ∧ al = [(0, .mp b 0 0), (4, V.ms 1 H0.length 3 0 n (decide (3 = n))), (5, .mp (H0.length + 1) 0 0), (6, .int .i64 (j : Int))]) (n) ?_ ?_
     ·refine ⟨0, i + 1 + 1, .nil, [], rfl, by omega, ?_, by omega, by omega, ?_, ?_, .nil, rfl, by simp, Kp.refl.hx (by simp), by simp [hx_len], fun _ _ _ h => (by cases h), rfl⟩
      ·simp (disch := (first | omega | (repeat (first | exact okU_nil | refine okU1 (by omega) ?_)))) [List.getElem?_cons_zero, List.getElem?_cons_succ, hxW, hxB, hxW0, hxWn, hxB0, hxBn, hxS, hxSn, hxS0, hxTn, hxT0, hxGn, hxG0, hx_len, hx_app, hx_dup, hx_dup2, lkU_nil, lkU_hit, lkU_ne, sp_alloc, cells_ms, one_ms, cells_sl, one_sl, wOf_, lk_nil, lk_cons, isEmpty_n, isEmpty_c, no_buildSlice, no_makeSlice, no_box]
      ·simp (disch := (first | omega | (repeat (first | exact okU_nil | refine okU1 (by omega) ?_)))) [List.getElem?_cons_zero, List.getElem?_cons_succ, hxW, hxB, hxW0, hxWn, hxB0, hxBn, hxS, hxSn, hxS0, hxTn, hxT0, hxGn, hxG0, hx_len, hx_app, hx_dup, hx_dup2, lkU_nil, lkU_hit, lkU_ne, sp_alloc, cells_ms, one_ms, cells_sl, one_sl, wOf_, lk_nil, lk_cons, isEmpty_n, isEmpty_c, no_buildSlice, no_makeSlice, no_box]
      ·simp (disch := (first | omega | (repeat (first | exact okU_nil | refine okU1 (by omega) ?_)))) [List.getElem?_cons_zero, List.getElem?_cons_succ, hxW, hxB, hxW0, hxWn, hxB0, hxBn, hxS, hxSn, hxS0, hxTn, hxT0, hxGn, hxG0, hx_len, hx_app, hx_dup, hx_dup2, lkU_nil, lkU_hit, lkU_ne, sp_alloc, cells_ms, one_ms, cells_sl, one_sl, wOf_, lk_nil, lk_cons, isEmpty_n, isEmpty_c, no_buildSlice, no_makeSlice, no_box]
     rintro m al H ⟨j, i', gv, ys, hm, hj, gW, gi, gi2, gS, gC, gM, gl, gw, gK, gL, gv0, rfl⟩
     have gB := getW_blk gW
     have gCB := getW_blk gC
     obtain ⟨uT0, uT1, uT2, uT3⟩ := takeEq hl gW (by omega) (by omega)
     have hr5 := AtN_range (j := i') (n := 5) (by omega) hl
     have hbL := getW_lt gW
     rw [hx0 H]
     apply w_seq
     apply w_seq
     apply w_reg [0, 4, 5, 6, 35] rfl; intro Q hQ
     simp (disch := (first | omega | (repeat (first | exact okU_nil | refine okU1 (by omega) ?_)))) [wrap64, wrapU, leW, wrl, buildV, fillV, splice, hW, hB, hMd, hT0, hT1, hT2, hT3, eo_buildSlice, ofVal_str, sl_ms LTs, hn1, msln LTs, chunk, reads, loadAt, List.getElem?_cons_zero, List.getElem?_cons_succ, hxW, hxB, hxW0, hxWn, hxB0, hxBn, hxS, hxSn, hxS0, hxTn, hxT0, hxGn, hxG0, hx_len, hx_app, hx_dup, hx_dup2, lkU_nil, lkU_hit, lkU_ne, sp_alloc, cells_ms, one_ms, cells_sl, one_sl, wOf_, lk_nil, lk_cons, isEmpty_n, isEmpty_c, no_buildSlice, no_makeSlice, no_box, gW, gB, gS, gC, gCB, uT0, uT1, uT2, uT3, gl, reads, loadAt, chunk]
     apply after_some rfl; apply hQ; clear hQ Q
     apply w_cond _ rfl <;> intro hc
     ·first
      |(simp at hc; done)
      |try simp [Int.natCast_inj] at hc
       apply w_keep [0, 4, 5, 6] rfl; apply w_skip
       apply w_seq
       apply w_block
       have hAp := app3 (H := (HX H [(b, 0, mkC l (i' + 1))] [])) (v := gv) (x := V.sl true [[.int .i64 (AtN l.list i' 5)]]) (xs := [AtN l.list i' 5]) (m := H0.length + 2) LTi eeI (.inl rfl) (MutG.hx gM (by
        intro p hp ver
        rw [List.mem_singleton.1 hp]
        exact gv0 b ver (by omega))) rfl (by simp [room]; omega) (by rw [hx_len]; omega) gv0
       obtain ⟨hA1, hA2, hA3, hA4, hA5⟩ := hAp
       have hA1' : appendV Tryz.prog (HX H [(b, 0, mkC l (i' + 1))] []) 22 gv (V.sl true [[.int .i64 (AtN l.list i' 5)]]) = _ := hA1
       have hA6 := getBlk_of (ver := 0) (hA4 (H0.length + 1) (by omega))
       have hA7 := getW_of (ver := 0) (hA4 (H0.length + 1) (by omega))
       have hA9 : (apV Tryz.prog 22 (HX H [(b, 0, mkC l (i' + 1))] []) gv (V.sl true [[.int .i64 (AtN l.list i' 5)]])).cells = _ := (MutG.cells hA2).1
       have hA10 : (apV Tryz.prog 22 (HX H [(b, 0, mkC l (i' + 1))] []) gv (V.sl true [[.int .i64 (AtN l.list i' 5)]])).one = true := (MutG.cells hA2).2
       have hA8 := hA3
       rw [hx_len] at hA8
       apply w_drwW [0, 4, 5, 6] [(3, [1])] rfl rfl rfl (by kernel_rfl) 0 rfl; intro Q hQ
       simp (disch := (first | omega | (repeat (first | exact okU_nil | refine okU1 (by omega) ?_)))) [wrap64, wrapU, leW, wrl, buildV, fillV, splice, hW, hB, hMd, hT0, hT1, hT2, hT3, eo_buildSlice, ofVal_str, sl_ms LTs, hn1, msln LTs, chunk, reads, loadAt, List.getElem?_cons_zero, List.getElem?_cons_succ, hxW, hxB, hxW0, hxWn, hxB0, hxBn, hxS, hxSn, hxS0, hxTn, hxT0, hxGn, hxG0, hx_len, hx_app, hx_dup, hx_dup2, lkU_nil, lkU_hit, lkU_ne, sp_alloc, cells_ms, one_ms, cells_sl, one_sl, wOf_, lk_nil, lk_cons, isEmpty_n, isEmpty_c, no_buildSlice, no_makeSlice, no_box, gW, gB, gS, gC, gCB, uT0, uT1, uT2, uT3, gl, reads, loadAt, chunk, hA1', hA6, hA7, hA9, hA10]
       apply after_some rfl; apply hQ; clear hQ Q
       apply w_reg [0, 4, 5, 6] rfl; intro Q hQ
       simp (disch := (first | omega | (repeat (first | exact okU_nil | refine okU1 (by omega) ?_)))) [wrap64, wrapU, leW, wrl, buildV, fillV, splice, hW, hB, hMd, hT0, hT1, hT2, hT3, eo_buildSlice, ofVal_str, sl_ms LTs, hn1, msln LTs, chunk, reads, loadAt, List.getElem?_cons_zero, List.getElem?_cons_succ, hxW, hxB, hxW0, hxWn, hxB0, hxBn, hxS, hxSn, hxS0, hxTn, hxT0, hxGn, hxG0, hx_len, hx_app, hx_dup, hx_dup2, lkU_nil, lkU_hit, lkU_ne, sp_alloc, cells_ms, one_ms, cells_sl, one_sl, wOf_, lk_nil, lk_cons, isEmpty_n, isEmpty_c, no_buildSlice, no_makeSlice, no_box, gW, gB, gS, gC, gCB, uT0, uT1, uT2, uT3, gl, reads, loadAt, chunk, hA1', hA6, hA7, hA9, hA10]
       apply after_some rfl; apply hQ; clear hQ Q
       repeat (with_reducible apply kblock_nrm)
       have hne : b ≠ H0.length + 1 := by omega
       refine kloop_back (n - (j + 1)) (by omega) ⟨j + 1, i' + 1, _, ys ++ [AtN l.list i' 5], rfl, by omega, ?_, by omega, by omega, ?_, ?_, MutG.setb hA2 fun ver => hA5 _ ver (by omega), by simp [gl], ?_, Kp.setb (Kp.step (Kp.hx gK (u := [(b, 0, mkC l (i' + 1))]) (by simp)) hA3 hA4 (by omega)) (by omega), ?_, hA5, rfl⟩
       ·rw [gW_ne (by omega), getW_of (hA4 b (by omega))]
        simp (disch := (first | omega | (repeat (first | exact okU_nil | refine okU1 (by omega) ?_)))) [List.getElem?_cons_zero, List.getElem?_cons_succ, hxW, hxB, hxW0, hxWn, hxB0, hxBn, hxS, hxSn, hxS0, hxTn, hxT0, hxGn, hxG0, hx_len, hx_app, hx_dup, hx_dup2, lkU_nil, lkU_hit, lkU_ne, sp_alloc, cells_ms, one_ms, cells_sl, one_sl, wOf_, lk_nil, lk_cons, isEmpty_n, isEmpty_c, no_buildSlice, no_makeSlice, no_box]
       ·rw [gW_ne (by omega), getW_of (hA4 _ (by omega))]
        simp (disch := (first | omega | (repeat (first | exact okU_nil | refine okU1 (by omega) ?_)))) [List.getElem?_cons_zero, List.getElem?_cons_succ, hxW, hxB, hxW0, hxWn, hxB0, hxBn, hxS, hxSn, hxS0, hxTn, hxT0, hxGn, hxG0, hx_len, hx_app, hx_dup, hx_dup2, lkU_nil, lkU_hit, lkU_ne, sp_alloc, cells_ms, one_ms, cells_sl, one_sl, wOf_, lk_nil, lk_cons, isEmpty_n, isEmpty_c, no_buildSlice, no_makeSlice, no_box, gS]
       ·rw [gW_set (by omega)]
       ·intro w hw
        rcases List.mem_append.1 hw with hw | hw
        ·exact gw w hw
        ·rw [List.mem_singleton.1 hw]; simp only [Sm]; omega
       ·rw [setBlk_len]; omega
     ·first
      |(simp at hc; done)
      |try simp [Int.natCast_inj] at hc
       apply w_exit
       repeat (first | with_reducible apply kseq_exit | with_reducible apply kloop_exit | with_reducible apply kcut_exit | with_reducible apply kblock_exit | with_reducible apply kblock_pass (by decide))
       apply w_seq
       have hjn : j = n := by omega
       subst hjn
       obtain ⟨bg, vg, hgv, hgW, hgne⟩ := gM.resolve_left (fun h => by rw [h.2] at gl; simp at gl; omega)
       subst hgv
       have hbg : H0.length + 2 ≤ bg := by
        rcases Nat.lt_or_ge bg (H0.length + 2) with h | h
        ·exact absurd rfl (gv0 bg vg h)
        ·exact h
       have hbg2 := getW_lt hgW
       have hgB := getW_blk hgW
       have hrn := AtN_range (j := i') (n := (j : Int)) (by omega) hl
       have hr3 := AtN_range (j := i' + 1) (n := 3) (by omega) hl
       have hrl : (AtN l.list i' (j : Int)).toNat + 1 ≤ j := by omega
       have hne1 : bg ≠ b := by omega
       have hne2 : bg ≠ H0.length + 1 := by omega
       apply w_drwW [5] [(5, [1]), (7, [1])] rfl rfl rfl (by kernel_rfl) 0 rfl; intro Q hQ
       simp (disch := (first | omega | (repeat (first | exact okU_nil | refine okU1 (by omega) ?_)))) [wrap64, wrapU, leW, wrl, buildV, fillV, splice, hW, hB, hMd, hT0, hT1, hT2, hT3, eo_buildSlice, ofVal_str, sl_ms LTs, hn1, msln LTs, chunk, reads, loadAt, List.getElem?_cons_zero, List.getElem?_cons_succ, hxW, hxB, hxW0, hxWn, hxB0, hxBn, hxS, hxSn, hxS0, hxTn, hxT0, hxGn, hxG0, hx_len, hx_app, hx_dup, hx_dup2, lkU_nil, lkU_hit, lkU_ne, sp_alloc, cells_ms, one_ms, cells_sl, one_sl, wOf_, lk_nil, lk_cons, isEmpty_n, isEmpty_c, no_buildSlice, no_makeSlice, no_box, gW, gB, gS, gC, gCB, uT0, uT1, uT2, uT3, gl, reads, loadAt, chunk, hgW, hgB, hrl, msix LTi, flat_len eeI]
       apply after_some rfl; apply hQ; clear hQ Q
       apply w_seq
       apply w_reg [2] rfl; intro Q hQ
       simp (disch := (first | omega | (repeat (first | exact okU_nil | refine okU1 (by omega) ?_)))) [wrap64, wrapU, leW, wrl, buildV, fillV, splice, hW, hB, hMd, hT0, hT1, hT2, hT3, eo_buildSlice, ofVal_str, sl_ms LTs, hn1, msln LTs, chunk, reads, loadAt, List.getElem?_cons_zero, List.getElem?_cons_succ, hxW, hxB, hxW0, hxWn, hxB0, hxBn, hxS, hxSn, hxS0, hxTn, hxT0, hxGn, hxG0, hx_len, hx_app, hx_dup, hx_dup2, lkU_nil, lkU_hit, lkU_ne, sp_alloc, cells_ms, one_ms, cells_sl, one_sl, wOf_, lk_nil, lk_cons, isEmpty_n, isEmpty_c, no_buildSlice, no_makeSlice, no_box, gW, gB, gS, gC, gCB, uT0, uT1, uT2, uT3, gl, reads, loadAt, chunk, hgW, hgB, hrl, msix LTi, flat_len eeI]
       apply after_some rfl; apply hQ; clear hQ Q
       apply w_ret
       repeat (with_reducible (first | apply kseq_ret | apply kloop_ret | apply kcut_ret | apply kblock_ret))
       refine ⟨rfl, _, rfl, ?_⟩
       rw [show HX H0 [] [] = H0 from (hx0 H0).symm]
       have e1 : List.take (AtN l.list i' (j : Int)).toNat (List.map eI ys).flatten ++ V.int .i64 (1 + AtN l.list (i' + 1) 3) :: List.drop ((AtN l.list i' (j : Int)).toNat + 1) (List.map eI ys).flatten = ((ys.set (AtN l.list i' (j : Int)).toNat (1 + AtN l.list (i' + 1) 3)).map eI).flatten := by
        rw [← spl1 (by omega)]; simp [splice]
       rw [e1]
       generalize hG : HX H [(bg, vg, ((ys.set (AtN l.list i' (j : Int)).toNat (1 + AtN l.list (i' + 1) 3)).map eI).flatten), (b, 0, mkC l (i' + 1 + 1))] [newBlk 8 [V.str [116, 97, 103], V.str [], V.str [], V.int .i64 3, V.int .i64 0, V.int .i64 0, V.ms 1 H0.length 3 0 j (decide (3 = j)), V.ms 1 bg vg 0 j false]] = G
       have z0 : getW G H.length 8 = some [V.str [116, 97, 103], V.str [], V.str [], V.int .i64 3, V.int .i64 0, V.int .i64 0, V.ms 1 H0.length 3 0 j (decide (3 = j)), V.ms 1 bg vg 0 j false] := by
        rw [← hG]; simp (disch := (first | omega | (repeat (first | exact okU_nil | refine okU1 (by omega) ?_)))) [List.getElem?_cons_zero, List.getElem?_cons_succ, hxW, hxB, hxW0, hxWn, hxB0, hxBn, hxS, hxSn, hxS0, hxTn, hxT0, hxGn, hxG0, hx_len, hx_app, hx_dup, hx_dup2, lkU_nil, lkU_hit, lkU_ne, sp_alloc, cells_ms, one_ms, cells_sl, one_sl, wOf_, lk_nil, lk_cons, isEmpty_n, isEmpty_c, no_buildSlice, no_makeSlice, no_box]
       have z1 : frzV 11 (List.set G H.length none) (V.ms 1 H0.length 3 0 j (decide (3 = j))) = _ := frz_pre eeS (by decide) 9 (ys := [[114, 101, 100], [103, 114, 101, 101, 110], [98, 108, 117, 101]]) (by
        rw [← hG, hxT0]; simp (disch := (first | omega | (repeat (first | exact okU_nil | refine okU1 (by omega) ?_)))) [List.getElem?_cons_zero, List.getElem?_cons_succ, hxW, hxB, hxW0, hxWn, hxB0, hxBn, hxS, hxSn, hxS0, hxTn, hxT0, hxGn, hxG0, hx_len, hx_app, hx_dup, hx_dup2, lkU_nil, lkU_hit, lkU_ne, sp_alloc, cells_ms, one_ms, cells_sl, one_sl, wOf_, lk_nil, lk_cons, isEmpty_n, isEmpty_c, no_buildSlice, no_makeSlice, no_box, gS, eS]) (by simp; omega)
       have z2 : frzV 11 (List.set (List.set G H.length none) H0.length none) (V.ms 1 bg vg 0 j false) = _ := frz_pre eeI (by decide) 9 (ys := (ys.set (AtN l.list i' (j : Int)).toNat (1 + AtN l.list (i' + 1) 3))) (by
        rw [gW_none (by omega), ← hG, hxT0]; simp (disch := (first | omega | (repeat (first | exact okU_nil | refine okU1 (by omega) ?_)))) [List.getElem?_cons_zero, List.getElem?_cons_succ, hxW, hxB, hxW0, hxWn, hxB0, hxBn, hxS, hxSn, hxS0, hxTn, hxT0, hxGn, hxG0, hx_len, hx_app, hx_dup, hx_dup2, lkU_nil, lkU_hit, lkU_ne, sp_alloc, cells_ms, one_ms, cells_sl, one_sl, wOf_, lk_nil, lk_cons, isEmpty_n, isEmpty_c, no_buildSlice, no_makeSlice, no_box]) (by simp [gl])
       have hz := frz_tag (full := true) z0 rfl z1 z2
       subst hG
       refine ⟨_, _, i' + 1 + 1, hz, by omega, by omega, ?_, ?_, ?_, ?_⟩
       ·rw [gW_none (by omega), gW_none (by omega), hxT0]; simp (disch := (first | omega | (repeat (first | exact okU_nil | refine okU1 (by omega) ?_)))) [List.getElem?_cons_zero, List.getElem?_cons_succ, hxW, hxB, hxW0, hxWn, hxB0, hxBn, hxS, hxSn, hxS0, hxTn, hxT0, hxGn, hxG0, hx_len, hx_app, hx_dup, hx_dup2, lkU_nil, lkU_hit, lkU_ne, sp_alloc, cells_ms, one_ms, cells_sl, one_sl, wOf_, lk_nil, lk_cons, isEmpty_n, isEmpty_c, no_buildSlice, no_makeSlice, no_box]
       ·exact Kp.setn (Kp.setn (by rw [hxT0]; exact Kp.hx gK (by simp; omega)) (by omega)) (by omega)
       ·simp [SL.list_mk]
       ·intro f hf
        simp only [SL.list_mk, List.mem_cons, List.not_mem_nil, or_false] at hf
        subst hf
        refine ⟨by simp only [Sm]; omega, by simp only [Sm]; omega, by simp only [Sm]; omega, by simp [SL.list_mk]; omega, by simp [SL.list_mk]; omega, fun w hw => ?_⟩
        rcases List.mem_or_eq_of_mem_set (List.mem_of_mem_take hw) with hw | rfl
        ·exact gw w hw
        ·simp only [Sm]; omega
   ·first
    |(simp at hc; done)
    |try simp [Int.natCast_inj] at hc
     apply w_seq
     apply w_reg [0, 10, 57] rfl; intro Q hQ
     simp (disch := (first | omega | (repeat (first | exact okU_nil | refine okU1 (by omega) ?_)))) [wrap64, wrapU, leW, wrl, buildV, fillV, splice, hW, hB, hMd, hT0, hT1, hT2, hT3, eo_buildSlice, ofVal_str, sl_ms LTs, hn1, msln LTs, chunk, reads, loadAt, List.getElem?_cons_zero, List.getElem?_cons_succ, hxW, hxB, hxW0, hxWn, hxB0, hxBn, hxS, hxSn, hxS0, hxTn, hxT0, hxGn, hxG0, hx_len, hx_app, hx_dup, hx_dup2, lkU_nil, lkU_hit, lkU_ne, sp_alloc, cells_ms, one_ms, cells_sl, one_sl, wOf_, lk_nil, lk_cons, isEmpty_n, isEmpty_c, no_buildSlice, no_makeSlice, no_box]
     apply after_some rfl; apply hQ; clear hQ Q
     apply w_cond _ rfl <;> intro hc
     ·first
      |(simp at hc; done)
      |try simp [Int.natCast_inj] at hc
       apply w_seq
       apply w_reg [0, 7] rfl; intro Q hQ
       simp (disch := (first | omega | (repeat (first | exact okU_nil | refine okU1 (by omega) ?_)))) [wrap64, wrapU, leW, wrl, buildV, fillV, splice, hW, hB, hMd, hT0, hT1, hT2, hT3, eo_buildSlice, ofVal_str, sl_ms LTs, hn1, msln LTs, chunk, reads, loadAt, List.getElem?_cons_zero, List.getElem?_cons_succ, hxW, hxB, hxW0, hxWn, hxB0, hxBn, hxS, hxSn, hxS0, hxTn, hxT0, hxGn, hxG0, hx_len, hx_app, hx_dup, hx_dup2, lkU_nil, lkU_hit, lkU_ne, sp_alloc, cells_ms, one_ms, cells_sl, one_sl, wOf_, lk_nil, lk_cons, isEmpty_n, isEmpty_c, no_buildSlice, no_makeSlice, no_box]
       apply after_some rfl; apply hQ; clear hQ Q
       apply w_seq
       apply w_drwW [0, 7] [(3, [1])] rfl rfl rfl (by kernel_rfl) 0 rfl; intro Q hQ
       simp (disch := (first | omega | (repeat (first | exact okU_nil | refine okU1 (by omega) ?_)))) [wrap64, wrapU, leW, wrl, buildV, fillV, splice, hW, hB, hMd, hT0, hT1, hT2, hT3, eo_buildSlice, ofVal_str, sl_ms LTs, hn1, msln LTs, chunk, reads, loadAt, List.getElem?_cons_zero, List.getElem?_cons_succ, hxW, hxB, hxW0, hxWn, hxB0, hxBn, hxS, hxSn, hxS0, hxTn, hxT0, hxGn, hxG0, hx_len, hx_app, hx_dup, hx_dup2, lkU_nil, lkU_hit, lkU_ne, sp_alloc, cells_ms, one_ms, cells_sl, one_sl, wOf_, lk_nil, lk_cons, isEmpty_n, isEmpty_c, no_buildSlice, no_makeSlice, no_box]
       apply after_some rfl; apply hQ; clear hQ Q
       apply w_seq
       apply w_drwW [2] [(2, [0]), (4, [0])] rfl rfl rfl (by kernel_rfl) 0 rfl; intro Q hQ
       simp (disch := (first | omega | (repeat (first | exact okU_nil | refine okU1 (by omega) ?_)))) [wrap64, wrapU, leW, wrl, buildV, fillV, splice, hW, hB, hMd, hT0, hT1, hT2, hT3, eo_buildSlice, ofVal_str, sl_ms LTs, hn1, msln LTs, chunk, reads, loadAt, List.getElem?_cons_zero, List.getElem?_cons_succ, hxW, hxB, hxW0, hxWn, hxB0, hxBn, hxS, hxSn, hxS0, hxTn, hxT0, hxGn, hxG0, hx_len, hx_app, hx_dup, hx_dup2, lkU_nil, lkU_hit, lkU_ne, sp_alloc, cells_ms, one_ms, cells_sl, one_sl, wOf_, lk_nil, lk_cons, isEmpty_n, isEmpty_c, no_buildSlice, no_makeSlice, no_box]
       apply after_some rfl; apply hQ; clear hQ Q
       apply w_ret
       repeat (with_reducible (first | apply kseq_ret | apply kloop_ret | apply kcut_ret | apply kblock_ret))
       refine ⟨rfl, _, rfl, ?_⟩
       rw [show HX H0 [] [] = H0 from (hx0 H0).symm]
       refine ⟨.mk true [(⟨[98, 111, 114, 110], [], [], 4, AtN l.list (i + 1) 400 - 200, AtN l.list (i + 1) 400 - 200 + AtN l.list (i + 1 + 1) 60, .nil, .nil⟩ : FieldT), (⟨[108, 101, 102, 116], [98, 111, 114, 110], [], 4, AtN l.list (i + 1 + 1 + 1) 3, 3 + AtN l.list (i + 1 + 1 + 1 + 1) 30, .nil, .nil⟩ : FieldT)], _, i + 1 + 1 + 1 + 1 + 1, frzV_pure12 (enc_pure eeF (.mk true [(⟨[98, 111, 114, 110], [], [], 4, AtN l.list (i + 1) 400 - 200, AtN l.list (i + 1) 400 - 200 + AtN l.list (i + 1 + 1) 60, .nil, .nil⟩ : FieldT), (⟨[108, 101, 102, 116], [98, 111, 114, 110], [], 4, AtN l.list (i + 1 + 1 + 1) 3, 3 + AtN l.list (i + 1 + 1 + 1 + 1) 30, .nil, .nil⟩ : FieldT)])), by omega, by omega, ?_, ?_, ?_, ?_⟩
       ·simp (disch := (first | omega | (repeat (first | exact okU_nil | refine okU1 (by omega) ?_)))) [List.getElem?_cons_zero, List.getElem?_cons_succ, hxW, hxB, hxW0, hxWn, hxB0, hxBn, hxS, hxSn, hxS0, hxTn, hxT0, hxGn, hxG0, hx_len, hx_app, hx_dup, hx_dup2, lkU_nil, lkU_hit, lkU_ne, sp_alloc, cells_ms, one_ms, cells_sl, one_sl, wOf_, lk_nil, lk_cons, isEmpty_n, isEmpty_c, no_buildSlice, no_makeSlice, no_box]
       ·exact Kp.refl.hx (by simp)
       ·simp [SL.list_mk]
       ·intro f hf
        simp only [SL.list_mk, List.mem_cons, List.not_mem_nil, or_false] at hf
        rcases hf with rfl | rfl <;> exact ⟨by simp only [Sm]; omega, by simp only [Sm]; omega, by simp only [Sm]; omega, by simp [SL.list_nil], by simp [SL.list_nil], by simp [SL.list_nil]⟩
     ·first
      |(simp at hc; done)
      |try simp [Int.natCast_inj] at hc
       apply w_seq
       apply w_reg [0, 10, 77] rfl; intro Q hQ
       simp (disch := (first | omega | (repeat (first | exact okU_nil | refine okU1 (by omega) ?_)))) [wrap64, wrapU, leW, wrl, buildV, fillV, splice, hW, hB, hMd, hT0, hT1, hT2, hT3, eo_buildSlice, ofVal_str, sl_ms LTs, hn1, msln LTs, chunk, reads, loadAt, List.getElem?_cons_zero, List.getElem?_cons_succ, hxW, hxB, hxW0, hxWn, hxB0, hxBn, hxS, hxSn, hxS0, hxTn, hxT0, hxGn, hxG0, hx_len, hx_app, hx_dup, hx_dup2, lkU_nil, lkU_hit, lkU_ne, sp_alloc, cells_ms, one_ms, cells_sl, one_sl, wOf_, lk_nil, lk_cons, isEmpty_n, isEmpty_c, no_buildSlice, no_makeSlice, no_box]
       apply after_some rfl; apply hQ; clear hQ Q
       apply w_cond _ rfl <;> intro hc
       ·first
        |(simp at hc; done)
        |try simp [Int.natCast_inj] at hc
         apply w_seq
         apply w_reg [0, 8] rfl; intro Q hQ
         simp (disch := (first | omega | (repeat (first | exact okU_nil | refine okU1 (by omega) ?_)))) [wrap64, wrapU, leW, wrl, buildV, fillV, splice, hW, hB, hMd, hT0, hT1, hT2, hT3, eo_buildSlice, ofVal_str, sl_ms LTs, hn1, msln LTs, chunk, reads, loadAt, List.getElem?_cons_zero, List.getElem?_cons_succ, hxW, hxB, hxW0, hxWn, hxB0, hxBn, hxS, hxSn, hxS0, hxTn, hxT0, hxGn, hxG0, hx_len, hx_app, hx_dup, hx_dup2, lkU_nil, lkU_hit, lkU_ne, sp_alloc, cells_ms, one_ms, cells_sl, one_sl, wOf_, lk_nil, lk_cons, isEmpty_n, isEmpty_c, no_buildSlice, no_makeSlice, no_box]
         apply after_some rfl; apply hQ; clear hQ Q
         apply w_seq
         apply w_reg [2] rfl; intro Q hQ
         simp (disch := (first | omega | (repeat (first | exact okU_nil | refine okU1 (by omega) ?_)))) [wrap64, wrapU, leW, wrl, buildV, fillV, splice, hW, hB, hMd, hT0, hT1, hT2, hT3, eo_buildSlice, ofVal_str, sl_ms LTs, hn1, msln LTs, chunk, reads, loadAt, List.getElem?_cons_zero, List.getElem?_cons_succ, hxW, hxB, hxW0, hxWn, hxB0, hxBn, hxS, hxSn, hxS0, hxTn, hxT0, hxGn, hxG0, hx_len, hx_app, hx_dup, hx_dup2, lkU_nil, lkU_hit, lkU_ne, sp_alloc, cells_ms, one_ms, cells_sl, one_sl, wOf_, lk_nil, lk_cons, isEmpty_n, isEmpty_c, no_buildSlice, no_makeSlice, no_box]
         apply after_some rfl; apply hQ; clear hQ Q
         apply w_ret
         repeat (with_reducible (first | apply kseq_ret | apply kloop_ret | apply kcut_ret | apply kblock_ret))
         refine ⟨rfl, _, rfl, ?_⟩
         rw [show HX H0 [] [] = H0 from (hx0 H0).symm]
         refine ⟨.mk true [(⟨[115, 116, 97, 116, 101], [108, 105, 102, 101], [], 5, AtN l.list (i + 1) 3, AtN l.list (i + 1) 3 + AtN l.list (i + 1 + 1) 4, .nil, .nil⟩ : FieldT)], _, i + 1 + 1 + 1, frz_blk eeF (by decide) 10 (ys := [(⟨[115, 116, 97, 116, 101], [108, 105, 102, 101], [], 5, AtN l.list (i + 1) 3, AtN l.list (i + 1) 3 + AtN l.list (i + 1 + 1) 4, .nil, .nil⟩ : FieldT)]) (by simp [List.getElem?_cons_zero, List.getElem?_cons_succ, hxW, hxB, hxW0, hxWn, hxB0, hxBn, hxS, hxSn, hxS0, hxTn, hxT0, hxGn, hxG0, hx_len, hx_app, hx_dup, hx_dup2, lkU_nil, lkU_hit, lkU_ne, sp_alloc, cells_ms, one_ms, cells_sl, one_sl, wOf_, lk_nil, lk_cons, isEmpty_n, isEmpty_c, no_buildSlice, no_makeSlice, no_box, eF, encN]), by omega, by omega, ?_, ?_, ?_, ?_⟩
         ·simp (disch := (first | omega | (repeat (first | exact okU_nil | refine okU1 (by omega) ?_)))) [List.getElem?_cons_zero, List.getElem?_cons_succ, hxW, hxB, hxW0, hxWn, hxB0, hxBn, hxS, hxSn, hxS0, hxTn, hxT0, hxGn, hxG0, hx_len, hx_app, hx_dup, hx_dup2, lkU_nil, lkU_hit, lkU_ne, sp_alloc, cells_ms, one_ms, cells_sl, one_sl, wOf_, lk_nil, lk_cons, isEmpty_n, isEmpty_c, no_buildSlice, no_makeSlice, no_box]
         ·rw [hxT0]; exact Kp.refl.hx (by simp)
         ·simp [SL.list_mk]
         ·intro f hf
          simp only [SL.list_mk, List.mem_cons, List.not_mem_nil, or_false] at hf
          subst hf
          exact ⟨by simp only [Sm]; omega, by simp only [Sm]; omega, by simp only [Sm]; omega, by simp [SL.list_nil], by simp [SL.list_nil], by simp [SL.list_nil]⟩
       ·first
        |(simp at hc; done)
        |try simp [Int.natCast_inj] at hc
         apply w_seq
         apply w_reg [0, 88] rfl; intro Q hQ
         simp (disch := (first | omega | (repeat (first | exact okU_nil | refine okU1 (by omega) ?_)))) [wrap64, wrapU, leW, wrl, buildV, fillV, splice, hW, hB, hMd, hT0, hT1, hT2, hT3, eo_buildSlice, ofVal_str, sl_ms LTs, hn1, msln LTs, chunk, reads, loadAt, List.getElem?_cons_zero, List.getElem?_cons_succ, hxW, hxB, hxW0, hxWn, hxB0, hxBn, hxS, hxSn, hxS0, hxTn, hxT0, hxGn, hxG0, hx_len, hx_app, hx_dup, hx_dup2, lkU_nil, lkU_hit, lkU_ne, sp_alloc, cells_ms, one_ms, cells_sl, one_sl, wOf_, lk_nil, lk_cons, isEmpty_n, isEmpty_c, no_buildSlice, no_makeSlice, no_box]
         apply after_some rfl; apply hQ; clear hQ Q
         apply w_cond _ rfl <;> intro hc
         ·first
          |(simp at hc; done)
          |try simp [Int.natCast_inj] at hc
           apply w_seq
           apply w_reg [2] rfl; intro Q hQ
           simp (disch := (first | omega | (repeat (first | exact okU_nil | refine okU1 (by omega) ?_)))) [wrap64, wrapU, leW, wrl, buildV, fillV, splice, hW, hB, hMd, hT0, hT1, hT2, hT3, eo_buildSlice, ofVal_str, sl_ms LTs, hn1, msln LTs, chunk, reads, loadAt, List.getElem?_cons_zero, List.getElem?_cons_succ, hxW, hxB, hxW0, hxWn, hxB0, hxBn, hxS, hxSn, hxS0, hxTn, hxT0, hxGn, hxG0, hx_len, hx_app, hx_dup, hx_dup2, lkU_nil, lkU_hit, lkU_ne, sp_alloc, cells_ms, one_ms, cells_sl, one_sl, wOf_, lk_nil, lk_cons, isEmpty_n, isEmpty_c, no_buildSlice, no_makeSlice, no_box]
           apply after_some rfl; apply hQ; clear hQ Q
           apply w_ret
           repeat (with_reducible (first | apply kseq_ret | apply kloop_ret | apply kcut_ret | apply kblock_ret))
           refine ⟨rfl, _, rfl, ?_⟩
           rw [show HX H0 [] [] = H0 from (hx0 H0).symm]
           refine ⟨.mk true [(⟨[108, 111, 119], [], [], 2, AtN l.list (i + 1) 5, 5 + AtN l.list (i + 1 + 1) 10, .nil, .nil⟩ : FieldT), (⟨[104, 105, 103, 104], [], [], 2, AtN l.list (i + 1 + 1 + 1) 5, 10 + AtN l.list (i + 1 + 1 + 1 + 1) 10, .nil, .nil⟩ : FieldT)], _, i + 1 + 1 + 1 + 1 + 1, frz_blk eeF (by decide) 10 (ys := [(⟨[108, 111, 119], [], [], 2, AtN l.list (i + 1) 5, 5 + AtN l.list (i + 1 + 1) 10, .nil, .nil⟩ : FieldT), (⟨[104, 105, 103, 104], [], [], 2, AtN l.list (i + 1 + 1 + 1) 5, 10 + AtN l.list (i + 1 + 1 + 1 + 1) 10, .nil, .nil⟩ : FieldT)]) (by simp [List.getElem?_cons_zero, List.getElem?_cons_succ, hxW, hxB, hxW0, hxWn, hxB0, hxBn, hxS, hxSn, hxS0, hxTn, hxT0, hxGn, hxG0, hx_len, hx_app, hx_dup, hx_dup2, lkU_nil, lkU_hit, lkU_ne, sp_alloc, cells_ms, one_ms, cells_sl, one_sl, wOf_, lk_nil, lk_cons, isEmpty_n, isEmpty_c, no_buildSlice, no_makeSlice, no_box, eF, encN]), by omega, by omega, ?_, ?_, ?_, ?_⟩
           ·simp (disch := (first | omega | (repeat (first | exact okU_nil | refine okU1 (by omega) ?_)))) [List.getElem?_cons_zero, List.getElem?_cons_succ, hxW, hxB, hxW0, hxWn, hxB0, hxBn, hxS, hxSn, hxS0, hxTn, hxT0, hxGn, hxG0, hx_len, hx_app, hx_dup, hx_dup2, lkU_nil, lkU_hit, lkU_ne, sp_alloc, cells_ms, one_ms, cells_sl, one_sl, wOf_, lk_nil, lk_cons, isEmpty_n, isEmpty_c, no_buildSlice, no_makeSlice, no_box]
           ·rw [hxT0]; exact Kp.refl.hx (by simp)
           ·simp [SL.list_mk]
           ·intro f hf
            simp only [SL.list_mk, List.mem_cons, List.not_mem_nil, or_false] at hf
            rcases hf with rfl | rfl <;> exact ⟨by simp only [Sm]; omega, by simp only [Sm]; omega, by simp only [Sm]; omega, by simp [SL.list_nil], by simp [SL.list_nil], by simp [SL.list_nil]⟩
         ·first
          |(simp at hc; done)
          |try simp [Int.natCast_inj] at hc
           apply w_keep [] rfl; apply w_skip
           apply w_seq
           apply w_reg [2] rfl; intro Q hQ
           simp (disch := (first | omega | (repeat (first | exact okU_nil | refine okU1 (by omega) ?_)))) [wrap64, wrapU, leW, wrl, buildV, fillV, splice, hW, hB, hMd, hT0, hT1, hT2, hT3, eo_buildSlice, ofVal_str, sl_ms LTs, hn1, msln LTs, chunk, reads, loadAt, List.getElem?_cons_zero, List.getElem?_cons_succ, hxW, hxB, hxW0, hxWn, hxB0, hxBn, hxS, hxSn, hxS0, hxTn, hxT0, hxGn, hxG0, hx_len, hx_app, hx_dup, hx_dup2, lkU_nil, lkU_hit, lkU_ne, sp_alloc, cells_ms, one_ms, cells_sl, one_sl, wOf_, lk_nil, lk_cons, isEmpty_n, isEmpty_c, no_buildSlice, no_makeSlice, no_box]
           apply after_some rfl; apply hQ; clear hQ Q
           apply w_ret
           repeat (with_reducible (first | apply kseq_ret | apply kloop_ret | apply kcut_ret | apply kblock_ret))
           refine ⟨rfl, _, rfl, ?_⟩
           rw [show HX H0 [] [] = H0 from (hx0 H0).symm]
           refine ⟨.nil, _, i + 1, frzV_pure12 (enc_pure eeF .nil), by omega, by omega, ?_, ?_, ?_, ?_⟩
           ·simp (disch := (first | omega | (repeat (first | exact okU_nil | refine okU1 (by omega) ?_)))) [List.getElem?_cons_zero, List.getElem?_cons_succ, hxW, hxB, hxW0, hxWn, hxB0, hxBn, hxS, hxSn, hxS0, hxTn, hxT0, hxGn, hxG0, hx_len, hx_app, hx_dup, hx_dup2, lkU_nil, lkU_hit, lkU_ne, sp_alloc, cells_ms, one_ms, cells_sl, one_sl, wOf_, lk_nil, lk_cons, isEmpty_n, isEmpty_c, no_buildSlice, no_makeSlice, no_box]
           ·exact Kp.refl.hx (by simp)
           ·simp [SL.list_nil]
           ·intro f hf; simp [SL.list_nil] at hf

end Go.Ae.Zd
