/-
 A field with something changed.
-/
import Derived.Test.YtplhjndcokidfaaGreatDoorZ5
set_option linter.unusedVariables false
set_option linter.unusedSimpArgs false
set_option maxRecDepth 20000
set_option maxHeartbeats 4000000
namespace Go.Ae.Zd
open Go.Proofs
attribute [local simp] List.getElem?_cons_zero List.getElem?_cons_succ hxW hxB hxW0 hxWn hxB0 hxBn hxS hxSn hxS0 hxTn hxT0 hxGn hxG0 hx_len hx_app hx_dup hx_dup2 lkU_nil lkU_hit lkU_ne sp_alloc cells_ms one_ms cells_sl one_sl wOf_ lk_nil lk_cons isEmpty_n isEmpty_c no_buildSlice no_makeSlice no_box eo_buildSlice ofVal_str chunk reads loadAt

theorem cBent {x : SchemaT} {r : Nat} (hx : okY r x) (hr : r ≤ 20) {at_ how by_ : Int} (ha : I64 at_) (hh : I64 how) (hb : I64 by_) : ∃ y : SchemaT, okY (r + 2) y ∧ ∀ H, call LE 30 [.agg (eX x), .int .i64 at_, .int .i64 how, .int .i64 by_] H = some (.agg (eX y), H) := by
 obtain ⟨v, H1, h1, y, H2, h2, h3⟩ := cBent0 hx hr ha hh hb
 exact ⟨y, h3, fun H => call_pure rfl (.inr rfl) (by simp [V.pure, V.pureL]) ⟨v, H1, H2, h1, h2, eeX.pure y, fun h => by cases h⟩ H⟩

structure okF2 (f : FieldT) : Prop where
 kind : Sm 1000 f.kind
 lo : Sm 3000000 f.lo
 hi : Sm 3000000 f.hi
 words : f.words.list.length ≤ 30
 weights : f.weights.list.length ≤ 30
 wts : ∀ w ∈ f.weights.list, Sm 3000000 w
theorem okF.two {f : FieldT} (h : okF f) : okF2 f := ⟨h.kind, ⟨by have := h.lo.1; omega, by have := h.lo.2; omega⟩, ⟨by have := h.hi.1; omega, by have := h.hi.2; omega⟩, by have := h.words; omega, by have := h.weights; omega, fun w hw => ⟨by have := (h.wts w hw).1; omega, by have := (h.wts w hw).2; omega⟩⟩

/-- A list that can be made immutable. -/
def MutA {α : Type} (e : α → List V) (n : Nat) (H : Heap) (v : V) (ys : List α) : Prop :=
 (∃ s : SL α, v = enc e s ∧ s.list = ys) ∨ ∃ b ver full, v = .ms n b ver 0 ys.length full ∧ getW H b ver = some (ys.map e).flatten
theorem MutA.cells {α : Type} {e : α → List V} {n : Nat} {H : Heap} {v : V} {ys : List α} (h : MutA e n H v ys) : v.cells = [v] ∧ v.one = true := by
 rcases h with ⟨s, rfl, _⟩ | ⟨b, ver, full, rfl, _⟩
 ·exact ⟨cells_enc s, one_enc s⟩
 ·exact ⟨rfl, rfl⟩
theorem MutA.of {α : Type} {e : α → List V} {n : Nat} {H H' : Heap} {v : V} {ys : List α} (h : MutA e n H v ys) (hv : ∀ b ver full, v = .ms n b ver 0 ys.length full → H'[b]? = H[b]?) : MutA e n H' v ys := by
 rcases h with h | ⟨b, ver, full, h1, h2⟩
 ·exact .inl h
 ·exact .inr ⟨b, ver, full, h1, by rw [getW_of (hv b ver full h1)]; exact h2⟩
theorem MutA.frzP {α : Type} {e : α → List V} {n : Nat} {H : Heap} {v : V} {ys : List α} (E : Ee e n) (hn : 0 < n) (h : MutA e n H v ys) (d : Nat) : ∃ (s : SL α) (H' : Heap), s.list = ys ∧ frzV (d + 2) H v = some (enc e s, H') ∧ ∀ b, (∀ ver full, v ≠ .ms n b ver 0 ys.length full) → H'[b]? = H[b]? := by
 rcases h with ⟨s, rfl, rfl⟩ | ⟨b, ver, full, rfl, hb⟩
 ·exact ⟨s, H, rfl, by unfold frzV; rw [if_pos (enc_pure E s)], fun _ _ => rfl⟩
 ·exact ⟨.mk full ys, H.set b none, rfl, frz_blk E hn d hb, fun b' hb' => List.getElem?_set_ne (fun hq => hb' ver full (by rw [hq]))⟩
theorem MutG.a {α : Type} {e : α → List V} {n : Nat} {z : SL α} {H : Heap} {v : V} {ys : List α} (h : MutG e n z H v ys) (hz : z.list = []) : MutA e n H v ys := by
 rcases h with ⟨h1, h2⟩ | ⟨b, ver, h1, h2, _⟩
 ·exact .inl ⟨z, h1, by rw [h2]; exact hz⟩
 ·exact .inr ⟨b, ver, false, h1, h2⟩
theorem frz_field {H H1 H2 : Heap} {nm of_ up : Str} {k lo hi : Int} {wv gv : V} {ws : SL Str} {gs : SL Int} (h1 : frzV 11 H wv = some (enc eS ws, H1)) (h2 : frzV 11 H1 gv = some (enc eI gs, H2)) : ∃ H', frzV 12 H (.agg [.str nm, .str of_, .str up, .int .i64 k, .int .i64 lo, .int .i64 hi, wv, gv]) = some (.agg (eF ⟨nm, of_, up, k, lo, hi, ws, gs⟩), H') := by
 have e1 : ∀ (H : Heap) (v : V), v.pure = true → frzV 11 H v = some (v, H) := fun H v hv => by unfold frzV; rw [if_pos hv]
 by_cases hp : (V.agg [.str nm, .str of_, .str up, .int .i64 k, .int .i64 lo, .int .i64 hi, wv, gv]).pure = true
 ·have hp' := hp
  simp only [V.pure, V.pureL, Bool.and_eq_true, Bool.true_and, Bool.and_true] at hp'
  obtain ⟨p1, p2⟩ := hp'
  rw [e1 _ _ p1] at h1
  injection h1 with h1; injection h1 with h1 h1'
  subst h1; subst h1'
  rw [e1 _ _ p2] at h2
  injection h2 with h2; injection h2 with h2 _
  subst h2
  exact ⟨H, by unfold frzV; rw [if_pos hp]; rfl⟩
 ·refine ⟨H2, ?_⟩
  unfold frzV
  rw [if_neg hp]
  simp only [frzList, e1 _ (.int _ _) rfl, e1 _ (.str _) rfl, h1, h2]
  rfl
def FieldQ (v0 : V) (H' : Heap) : Prop := ∃ (f : FieldT) (H'' : Heap), frzV 12 H' v0 = some (.agg (eF f), H'') ∧ okF2 f

theorem mk_ints {f : FuncId} {d : Option Tmp} {ρ : Operand → Option V} {x : Operand} {H : Heap} {n : Nat} (hx : ρ x = some (.int .i64 (n : Int))) (hn : n ≤ 1000) : ∃ w G, eop LE f d H ρ (.makeSlice 22 x x) = some (w, G) ∧ MutA eI 1 G w (List.replicate n 0) ∧ H.length ≤ G.length ∧ (∀ bb, bb < H.length → G[bb]? = H[bb]?) ∧ ∀ b ver full, w = .ms 1 b ver 0 n full → H.length ≤ b := by
 have hr : (List.replicate n [V.int .i64 0]).flatten = ((List.replicate n 0).map eI).flatten := by rw [List.map_replicate]; rfl
 have hl : (List.replicate n [V.int .i64 0]).flatten.length = n := by simp
 cases hz : n with
 |zero =>
  subst hz
  refine ⟨.sl true [], H, ?_, .inl ⟨.mk true [], rfl, rfl⟩, Nat.le_refl _, fun _ _ => rfl, fun _ _ _ h => (by cases h)⟩
  simp [eop, hx, room, V.cells]
 |succ k =>
  rw [← hz]
  have hz' : ¬((n : Int) = 0) := by omega
  have h8 : (8 : Int) * (n : Int) ≤ (room : Int) := by simp [room]; omega
  have h9 : (n : Int) ≤ 4611686018427387904 := by omega
  refine ⟨.ms 1 H.length n 0 n true, H ++ [newBlk n (List.replicate n [V.int .i64 0]).flatten], ?_, .inr ⟨H.length, n, true, by simp, by rw [getW_new (r := []), hr]⟩, by simp, fun bb hb => by rw [List.getElem?_append_left hb], fun b ver full h => ?_⟩
  ·have h8' : (8 : Int) * (n : Int) ≤ 140737488355328 := by omega
   simp [eop, hx, V.cells, hz', h9, room, h8', V.one, allOne]
   intro h; omega
  ·injection h with _ h; omega

/-- diorama/dioramaref09.spoiltField -/
theorem cSpoiltField0 {f : FieldT} (hf : okF f) {how by_ : Int} (hh : I64 how) (hb : I64 by_) : ∃ v H1, runFn LE (exec LE) 85 [.agg (eF f), .int .i64 how, .int .i64 by_] [] = some (v, H1) ∧ FieldQ v H1 := by
 have hMa : LE.mode 56 = .snap := rfl
 obtain ⟨hh1, hh2⟩ := hh
 obtain ⟨hb1, hb2⟩ := hb
 obtain ⟨hk1, hk2⟩ := hf.kind
 obtain ⟨hl1, hl2⟩ := hf.lo
 obtain ⟨hi1, hi2⟩ := hf.hi
 have hwl0 := hf.words
 have hgl0 := hf.weights
 have hf2 := hf.two
 refine run_E (m := 94) Tryz.func85 rfl rfl (Nat.le_of_ble_eq_true rfl) ?_
 simp only [alOf]
 refine w_cut (fun al H => getW H 0 0 = some [V.str f.name, V.str f.of_, V.str f.up, V.int .i64 f.kind, V.int .i64 f.lo, V.int .i64 f.hi, enc eS f.words, enc eI f.weights] ∧ getW H 1 0 = some [V.str [], V.str [], V.str [], V.int .i64 0, V.int .i64 0, V.int .i64 0, V.nil, V.nil] ∧ H.length = 2 ∧ al = [(1, .int .i64 how), (2, .int .i64 by_), (3, .mp 0 0 0), (6, .mp 1 0 0)]) ?_ ?_
 ·skip
  apply w_reg [1, 2, 3, 6] rfl; intro Q hQ
  simp (disch := (first | omega | (repeat (first | exact okU_nil | refine okU1 (by omega) ?_)))) [wrap64, wrapU, leW, wrl, buildV, fillV, splice, sizeT, encN, cAr, hMa, msix LTs, msix LTi, slix LTs, slix LTi]
  apply after_some rfl; apply hQ; clear hQ Q
  repeat (with_reducible apply kblock_nrm)
  refine kcut_nrm ?_
  exact ⟨by simp [gw_zero, eF], by simp [gw_succ, gw_zero], rfl, rfl⟩
 rintro al H ⟨g0, g1, hHl, rfl⟩
 have g0B := getW_blk g0
 have g1B := getW_blk g1
 have g0l := getW_lt g0
 have g1l := getW_lt g1
 rw [hx0 H]
 refine w_cut (fun al H => ∃ (nm of_ up : Str) (k lo hi : Int) (wv gv : V) (ws : List Str) (gs : List Int), getW H 0 0 = some [V.str nm, V.str of_, V.str up, V.int .i64 k, V.int .i64 lo, V.int .i64 hi, wv, gv] ∧ getW H 1 0 = some [V.str [], V.str [], V.str [], V.int .i64 0, V.int .i64 0, V.int .i64 0, V.nil, V.nil] ∧ Sm 1000 k ∧ Sm 3000000 lo ∧ Sm 3000000 hi ∧ MutA eS 1 H wv ws ∧ MutA eI 1 H gv gs ∧ ws.length ≤ 30 ∧ gs.length ≤ 30 ∧ (∀ w ∈ gs, Sm 3000000 w) ∧ (∀ b ver full, wv = .ms 1 b ver 0 ws.length full → 2 ≤ b) ∧ (∀ b ver full, gv = .ms 1 b ver 0 gs.length full → 2 ≤ b) ∧ (∀ b v1 v2 f1 f2, wv = .ms 1 b v1 0 ws.length f1 → gv ≠ .ms 1 b v2 0 gs.length f2) ∧ al = [(3, .mp 0 0 0), (6, .mp 1 0 0)]) ?_ ?_
 ·skip
  apply w_seq
  apply w_reg [2, 3, 6, 8] rfl; intro Q hQ
  simp (disch := (first | omega | (repeat (first | exact okU_nil | refine okU1 (by omega) ?_)))) [wrap64, wrapU, leW, wrl, buildV, fillV, splice, sizeT, encN, cAr, hMa, msix LTs, msix LTi, slix LTs, slix LTi, g0, g0B, g1, g1B]
  apply after_some rfl; apply hQ; clear hQ Q
  apply w_block
  apply w_seq
  apply w_reg [2, 3, 6, 8, 14] rfl; intro Q hQ
  simp (disch := (first | omega | (repeat (first | exact okU_nil | refine okU1 (by omega) ?_)))) [wrap64, wrapU, leW, wrl, buildV, fillV, splice, sizeT, encN, cAr, hMa, msix LTs, msix LTi, slix LTs, slix LTi, g0, g0B, g1, g1B]
  apply after_some rfl; apply hQ; clear hQ Q
  apply w_cond _ rfl <;> intro hc
  ·first
   |(simp at hc; done)
   |try simp [Int.natCast_inj] at hc
    have hr := Around_range (n := by_) (most := 11) ⟨by omega, by omega⟩ (by decide)
    apply w_reg [3, 6] rfl; intro Q hQ
    simp (disch := (first | omega | (repeat (first | exact okU_nil | refine okU1 (by omega) ?_)))) [wrap64, wrapU, leW, wrl, buildV, fillV, splice, sizeT, encN, cAr, hMa, msix LTs, msix LTi, slix LTs, slix LTi, g0, g0B, g1, g1B]
    apply after_some rfl; apply hQ; clear hQ Q
    repeat (with_reducible apply kblock_nrm)
    refine kcut_nrm ?_
    refine ⟨f.name, f.of_, f.up, (Around by_ 11 - 1), f.lo, f.hi, _, _, f.words.list, f.weights.list, by simp (disch := (first | omega | (repeat (first | exact okU_nil | refine okU1 (by omega) ?_)))) <;> rfl, by simp (disch := (first | omega | (repeat (first | exact okU_nil | refine okU1 (by omega) ?_)))) [g1], ?_, ?_, ?_, .inl ⟨f.words, rfl, rfl⟩, .inl ⟨f.weights, rfl, rfl⟩, by have := hf.words; omega, by have := hf.weights; omega, fun w hw => hf2.wts w hw, fun b ver full h => (by cases hw : f.words <;> rw [hw] at h <;> cases h), fun b ver full h => (by cases hw : f.weights <;> rw [hw] at h <;> cases h), fun b v1 v2 f1 f2 h => (by cases hw : f.words <;> rw [hw] at h <;> cases h), rfl⟩ <;> simp only [Sm] <;> omega
  ·first
   |(simp at hc; done)
   |try simp [Int.natCast_inj] at hc
    apply w_seq
    apply w_reg [2, 3, 6, 8, 20] rfl; intro Q hQ
    simp (disch := (first | omega | (repeat (first | exact okU_nil | refine okU1 (by omega) ?_)))) [wrap64, wrapU, leW, wrl, buildV, fillV, splice, sizeT, encN, cAr, hMa, msix LTs, msix LTi, slix LTs, slix LTi, g0, g0B, g1, g1B]
    apply after_some rfl; apply hQ; clear hQ Q
    apply w_cond _ rfl <;> intro hc
    ·first
     |(simp at hc; done)
     |try simp [Int.natCast_inj] at hc
      have hr := Around_range (n := by_) (most := 8) ⟨by omega, by omega⟩ (by decide)
      have hI := lit_drop V.str [] ([[], [105, 100], [111, 102], [111, 116, 104, 101, 114], [85, 112, 112, 101, 114], [49, 97], [116, 104, 105, 114, 116, 101, 101, 110, 98, 121, 116, 101, 115], [97, 45, 98]] : List Str) (Around by_ 8).toNat (by simp; omega)
      generalize ([[], [105, 100], [111, 102], [111, 116, 104, 101, 114], [85, 112, 112, 101, 114], [49, 97], [116, 104, 105, 114, 116, 101, 101, 110, 98, 121, 116, 101, 115], [97, 45, 98]] : List Str).getD (Around by_ 8).toNat [] = pk at hI
      simp only [List.map] at hI
      apply w_reg [3, 6] rfl; intro Q hQ
      simp (disch := (first | omega | (repeat (first | exact okU_nil | refine okU1 (by omega) ?_)))) [wrap64, wrapU, leW, wrl, buildV, fillV, splice, sizeT, encN, cAr, hMa, msix LTs, msix LTi, slix LTs, slix LTi, g0, g0B, g1, g1B, hI]
      apply after_some rfl; apply hQ; clear hQ Q
      repeat (with_reducible apply kblock_nrm)
      refine kcut_nrm ?_
      refine ⟨pk, f.of_, f.up, f.kind, f.lo, f.hi, _, _, f.words.list, f.weights.list, by simp (disch := (first | omega | (repeat (first | exact okU_nil | refine okU1 (by omega) ?_)))) <;> rfl, by simp (disch := (first | omega | (repeat (first | exact okU_nil | refine okU1 (by omega) ?_)))) [g1], ?_, ?_, ?_, .inl ⟨f.words, rfl, rfl⟩, .inl ⟨f.weights, rfl, rfl⟩, by have := hf.words; omega, by have := hf.weights; omega, fun w hw => hf2.wts w hw, fun b ver full h => (by cases hw : f.words <;> rw [hw] at h <;> cases h), fun b ver full h => (by cases hw : f.weights <;> rw [hw] at h <;> cases h), fun b v1 v2 f1 f2 h => (by cases hw : f.words <;> rw [hw] at h <;> cases h), rfl⟩ <;> simp only [Sm] <;> omega
    ·first
     |(simp at hc; done)
     |try simp [Int.natCast_inj] at hc
      apply w_seq
      apply w_reg [2, 3, 6, 8, 28] rfl; intro Q hQ
      simp (disch := (first | omega | (repeat (first | exact okU_nil | refine okU1 (by omega) ?_)))) [wrap64, wrapU, leW, wrl, buildV, fillV, splice, sizeT, encN, cAr, hMa, msix LTs, msix LTi, slix LTs, slix LTi, g0, g0B, g1, g1B]
      apply after_some rfl; apply hQ; clear hQ Q
      apply w_cond _ rfl <;> intro hc
      ·first
       |(simp at hc; done)
       |try simp [Int.natCast_inj] at hc
        have hr := Around_range (n := by_) (most := 9) ⟨by omega, by omega⟩ (by decide)
        have hI := lit_drop V.str [] ([[], [105, 100], [111, 102], [112, 101, 114, 115, 111, 110], [111, 114, 100, 101, 114], [108, 105, 102, 101], [116, 111, 116, 97, 108], [98, 111, 114, 110], [115, 105, 122, 101]] : List Str) (Around by_ 9).toNat (by simp; omega)
        generalize ([[], [105, 100], [111, 102], [112, 101, 114, 115, 111, 110], [111, 114, 100, 101, 114], [108, 105, 102, 101], [116, 111, 116, 97, 108], [98, 111, 114, 110], [115, 105, 122, 101]] : List Str).getD (Around by_ 9).toNat [] = pk at hI
        simp only [List.map] at hI
        apply w_reg [3, 6] rfl; intro Q hQ
        simp (disch := (first | omega | (repeat (first | exact okU_nil | refine okU1 (by omega) ?_)))) [wrap64, wrapU, leW, wrl, buildV, fillV, splice, sizeT, encN, cAr, hMa, msix LTs, msix LTi, slix LTs, slix LTi, g0, g0B, g1, g1B, hI]
        apply after_some rfl; apply hQ; clear hQ Q
        repeat (with_reducible apply kblock_nrm)
        refine kcut_nrm ?_
        refine ⟨f.name, pk, f.up, f.kind, f.lo, f.hi, _, _, f.words.list, f.weights.list, by simp (disch := (first | omega | (repeat (first | exact okU_nil | refine okU1 (by omega) ?_)))) <;> rfl, by simp (disch := (first | omega | (repeat (first | exact okU_nil | refine okU1 (by omega) ?_)))) [g1], ?_, ?_, ?_, .inl ⟨f.words, rfl, rfl⟩, .inl ⟨f.weights, rfl, rfl⟩, by have := hf.words; omega, by have := hf.weights; omega, fun w hw => hf2.wts w hw, fun b ver full h => (by cases hw : f.words <;> rw [hw] at h <;> cases h), fun b ver full h => (by cases hw : f.weights <;> rw [hw] at h <;> cases h), fun b v1 v2 f1 f2 h => (by cases hw : f.words <;> rw [hw] at h <;> cases h), rfl⟩ <;> simp only [Sm] <;> omega
      ·first
       |(simp at hc; done)
       |try simp [Int.natCast_inj] at hc
        apply w_seq
        apply w_reg [2, 3, 6, 8, 36] rfl; intro Q hQ
        simp (disch := (first | omega | (repeat (first | exact okU_nil | refine okU1 (by omega) ?_)))) [wrap64, wrapU, leW, wrl, buildV, fillV, splice, sizeT, encN, cAr, hMa, msix LTs, msix LTi, slix LTs, slix LTi, g0, g0B, g1, g1B]
        apply after_some rfl; apply hQ; clear hQ Q
        apply w_cond _ rfl <;> intro hc
        ·first
         |(simp at hc; done)
         |try simp [Int.natCast_inj] at hc
          have hr := Around_range (n := by_) (most := 5) ⟨by omega, by omega⟩ (by decide)
          have hI := lit_drop V.str [] ([[], [111, 102], [98, 121], [105, 100], [63]] : List Str) (Around by_ 5).toNat (by simp; omega)
          generalize ([[], [111, 102], [98, 121], [105, 100], [63]] : List Str).getD (Around by_ 5).toNat [] = pk at hI
          simp only [List.map] at hI
          apply w_reg [3, 6] rfl; intro Q hQ
          simp (disch := (first | omega | (repeat (first | exact okU_nil | refine okU1 (by omega) ?_)))) [wrap64, wrapU, leW, wrl, buildV, fillV, splice, sizeT, encN, cAr, hMa, msix LTs, msix LTi, slix LTs, slix LTi, g0, g0B, g1, g1B, hI]
          apply after_some rfl; apply hQ; clear hQ Q
          repeat (with_reducible apply kblock_nrm)
          refine kcut_nrm ?_
          refine ⟨f.name, f.of_, pk, f.kind, f.lo, f.hi, _, _, f.words.list, f.weights.list, by simp (disch := (first | omega | (repeat (first | exact okU_nil | refine okU1 (by omega) ?_)))) <;> rfl, by simp (disch := (first | omega | (repeat (first | exact okU_nil | refine okU1 (by omega) ?_)))) [g1], ?_, ?_, ?_, .inl ⟨f.words, rfl, rfl⟩, .inl ⟨f.weights, rfl, rfl⟩, by have := hf.words; omega, by have := hf.weights; omega, fun w hw => hf2.wts w hw, fun b ver full h => (by cases hw : f.words <;> rw [hw] at h <;> cases h), fun b ver full h => (by cases hw : f.weights <;> rw [hw] at h <;> cases h), fun b v1 v2 f1 f2 h => (by cases hw : f.words <;> rw [hw] at h <;> cases h), rfl⟩ <;> simp only [Sm] <;> omega
        ·first
         |(simp at hc; done)
         |try simp [Int.natCast_inj] at hc
          apply w_seq
          apply w_reg [2, 3, 6, 8, 44] rfl; intro Q hQ
          simp (disch := (first | omega | (repeat (first | exact okU_nil | refine okU1 (by omega) ?_)))) [wrap64, wrapU, leW, wrl, buildV, fillV, splice, sizeT, encN, cAr, hMa, msix LTs, msix LTi, slix LTs, slix LTi, g0, g0B, g1, g1B]
          apply after_some rfl; apply hQ; clear hQ Q
          apply w_cond _ rfl <;> intro hc
          ·first
           |(simp at hc; done)
           |try simp [Int.natCast_inj] at hc
            have hr := Around_range (n := by_) (most := 6) ⟨by omega, by omega⟩ (by decide)
            have hI := lit_idx (V.int .i64) 0 ([f.lo - 1, 0, 5, -1048576, -1048577, 33] : List Int) (Around by_ 6).toNat (by simp; omega)
            have hb : -2000001 ≤ ([f.lo - 1, 0, 5, -1048576, -1048577, 33] : List Int).getD (Around by_ 6).toNat 0 ∧ ([f.lo - 1, 0, 5, -1048576, -1048577, 33] : List Int).getD (Around by_ 6).toNat 0 ≤ 2000000 := getD_all (p := fun s : Int => -2000001 ≤ s ∧ s ≤ 2000000) (by decide) _ _ (by intro x hx; simp at hx; omega)
            generalize ([f.lo - 1, 0, 5, -1048576, -1048577, 33] : List Int).getD (Around by_ 6).toNat 0 = pk at hI hb
            simp only [List.map] at hI
            apply w_drw [3, 6] rfl rfl (by kernel_rfl) 0 rfl; intro Q hQ
            simp (disch := (first | omega | (repeat (first | exact okU_nil | refine okU1 (by omega) ?_)))) [wrap64, wrapU, leW, wrl, buildV, fillV, splice, sizeT, encN, cAr, hMa, msix LTs, msix LTi, slix LTs, slix LTi, g0, g0B, g1, g1B, hI]
            apply after_some rfl; apply hQ; clear hQ Q
            repeat (with_reducible apply kblock_nrm)
            refine kcut_nrm ?_
            refine ⟨f.name, f.of_, f.up, f.kind, pk, f.hi, _, _, f.words.list, f.weights.list, by simp (disch := (first | omega | (repeat (first | exact okU_nil | refine okU1 (by omega) ?_)))) <;> rfl, by simp (disch := (first | omega | (repeat (first | exact okU_nil | refine okU1 (by omega) ?_)))) [g1], ?_, ?_, ?_, .inl ⟨f.words, rfl, rfl⟩, .inl ⟨f.weights, rfl, rfl⟩, by have := hf.words; omega, by have := hf.weights; omega, fun w hw => hf2.wts w hw, fun b ver full h => (by cases hw : f.words <;> rw [hw] at h <;> cases h), fun b ver full h => (by cases hw : f.weights <;> rw [hw] at h <;> cases h), fun b v1 v2 f1 f2 h => (by cases hw : f.words <;> rw [hw] at h <;> cases h), rfl⟩ <;> simp only [Sm] <;> omega
          ·first
           |(simp at hc; done)
           |try simp [Int.natCast_inj] at hc
            apply w_seq
            apply w_reg [2, 3, 6, 8, 55] rfl; intro Q hQ
            simp (disch := (first | omega | (repeat (first | exact okU_nil | refine okU1 (by omega) ?_)))) [wrap64, wrapU, leW, wrl, buildV, fillV, splice, sizeT, encN, cAr, hMa, msix LTs, msix LTi, slix LTs, slix LTi, g0, g0B, g1, g1B]
            apply after_some rfl; apply hQ; clear hQ Q
            apply w_cond _ rfl <;> intro hc
            ·first
             |(simp at hc; done)
             |try simp [Int.natCast_inj] at hc
              have hr := Around_range (n := by_) (most := 8) ⟨by omega, by omega⟩ (by decide)
              have hI := lit_idx (V.int .i64) 0 ([f.hi + 1, 0, 32, 33, 65536, 65537, 1048576, 1048577] : List Int) (Around by_ 8).toNat (by simp; omega)
              have hb : -2000000 ≤ ([f.hi + 1, 0, 32, 33, 65536, 65537, 1048576, 1048577] : List Int).getD (Around by_ 8).toNat 0 ∧ ([f.hi + 1, 0, 32, 33, 65536, 65537, 1048576, 1048577] : List Int).getD (Around by_ 8).toNat 0 ≤ 2000001 := getD_all (p := fun s : Int => -2000000 ≤ s ∧ s ≤ 2000001) (by decide) _ _ (by intro x hx; simp at hx; omega)
              generalize ([f.hi + 1, 0, 32, 33, 65536, 65537, 1048576, 1048577] : List Int).getD (Around by_ 8).toNat 0 = pk at hI hb
              simp only [List.map] at hI
              apply w_drw [3, 6] rfl rfl (by kernel_rfl) 0 rfl; intro Q hQ
              simp (disch := (first | omega | (repeat (first | exact okU_nil | refine okU1 (by omega) ?_)))) [wrap64, wrapU, leW, wrl, buildV, fillV, splice, sizeT, encN, cAr, hMa, msix LTs, msix LTi, slix LTs, slix LTi, g0, g0B, g1, g1B, hI]
              apply after_some rfl; apply hQ; clear hQ Q
              repeat (with_reducible apply kblock_nrm)
              refine kcut_nrm ?_
              refine ⟨f.name, f.of_, f.up, f.kind, f.lo, pk, _, _, f.words.list, f.weights.list, by simp (disch := (first | omega | (repeat (first | exact okU_nil | refine okU1 (by omega) ?_)))) <;> rfl, by simp (disch := (first | omega | (repeat (first | exact okU_nil | refine okU1 (by omega) ?_)))) [g1], ?_, ?_, ?_, .inl ⟨f.words, rfl, rfl⟩, .inl ⟨f.weights, rfl, rfl⟩, by have := hf.words; omega, by have := hf.weights; omega, fun w hw => hf2.wts w hw, fun b ver full h => (by cases hw : f.words <;> rw [hw] at h <;> cases h), fun b ver full h => (by cases hw : f.weights <;> rw [hw] at h <;> cases h), fun b v1 v2 f1 f2 h => (by cases hw : f.words <;> rw [hw] at h <;> cases h), rfl⟩ <;> simp only [Sm] <;> omega
            ·first
             |(simp at hc; done)
             |try simp [Int.natCast_inj] at hc
              apply w_seq
              apply w_reg [2, 3, 6, 66] rfl; intro Q hQ
              simp (disch := (first | omega | (repeat (first | exact okU_nil | refine okU1 (by omega) ?_)))) [wrap64, wrapU, leW, wrl, buildV, fillV, splice, sizeT, encN, cAr, hMa, msix LTs, msix LTi, slix LTs, slix LTi, g0, g0B, g1, g1B]
              apply after_some rfl; apply hQ; clear hQ Q
              apply w_cond _ rfl <;> intro hc
              ·first
               |(simp at hc; done)
               |try simp [Int.natCast_inj] at hc
                refine w_cut (fun al H => ∃ (wv : V) (ws : List Str), getW H 0 0 = some [V.str f.name, V.str f.of_, V.str f.up, V.int .i64 f.kind, V.int .i64 f.lo, V.int .i64 f.hi, wv, enc eI f.weights] ∧ getW H 1 0 = some [V.str [], V.str [], V.str [], V.int .i64 0, V.int .i64 0, V.int .i64 0, V.nil, V.nil] ∧ MutG eS 1 (.mk true []) H wv ws ∧ ws.length ≤ 30 ∧ (∀ b ver, b < 2 → wv ≠ .ms 1 b ver 0 ws.length false) ∧ al = [(2, .int .i64 by_), (3, .mp 0 0 0), (6, .mp 1 0 0)]) ?_ ?_
                ·skip
                 have hr := Around_range (n := by_) (most := 3) ⟨by omega, by omega⟩ (by decide)
                 have hI := lit_drop V.str [] ([[109, 111, 114, 101], [114, 101, 100], []] : List Str) (Around by_ 3).toNat (by simp; omega)
                 generalize ([[109, 111, 114, 101], [114, 101, 100], []] : List Str).getD (Around by_ 3).toNat [] = pk at hI
                 simp only [List.map] at hI
                 obtain ⟨w1, A1, hW1, hW2, hW3, hW4, hW5⟩ : ∃ v' H', appendV Tryz.prog (HX H [] []) 38 (.sl true []) (enc eS f.words) = some (v', H') ∧ MutG eS 1 (.mk true []) H' v' ([] ++ f.words.list) ∧ (HX H [] []).length ≤ H'.length ∧ (∀ bb, bb < 2 → H'[bb]? = (HX H [] [])[bb]?) ∧ ∀ bb ver, bb < 2 → v' ≠ .ms 1 bb ver 0 ([] ++ f.words.list).length false := ⟨_, _, app3 (z := .mk true []) (ys := []) LTs eeS (.inr rfl) (.inl ⟨rfl, rfl⟩) (elems_enc _) (by simp [room]; omega) (by rw [hx_len]; simp <;> omega) (fun _ _ _ h => (by cases h))⟩
                 rw [hx0 A1] at hW1
                 rw [hx_len] at hW3
                 simp only [List.nil_append, List.length_nil, Nat.add_zero] at hW2 hW3 hW5
                 obtain ⟨w2, A2, hX1, hX2, hX3, hX4, hX5⟩ : ∃ v' H', appendV Tryz.prog (HX A1 [] [newBlk 3 [V.str [109, 111, 114, 101], V.str [114, 101, 100], V.str []], newBlk 1 [V.str pk]]) 38 w1 (.ms 1 (A1.length + 1) 1 0 1 true) = some (v', H') ∧ MutG eS 1 (.mk true []) H' v' (f.words.list ++ [pk]) ∧ (HX A1 [] [newBlk 3 [V.str [109, 111, 114, 101], V.str [114, 101, 100], V.str []], newBlk 1 [V.str pk]]).length ≤ H'.length ∧ (∀ bb, bb < 2 → H'[bb]? = (HX A1 [] [newBlk 3 [V.str [109, 111, 114, 101], V.str [114, 101, 100], V.str []], newBlk 1 [V.str pk]])[bb]?) ∧ ∀ bb ver, bb < 2 → v' ≠ .ms 1 bb ver 0 (f.words.list ++ [pk]).length false := ⟨_, _, app3 (z := .mk true []) (xs := [pk]) LTs eeS (.inr rfl) (MutG.hx hW2 (by simp)) (by rw [el_ms, hxBn]; simp [chunk, eS]) (by simp [room]; omega) (by rw [hx_len]; simp <;> omega) hW5⟩
                 rw [hx0 A2] at hX1
                 rw [hx_len] at hX3
                 simp only [List.length_cons, List.length_nil] at hX3
                 have hA12 : ∀ bb, bb < 2 → A1[bb]? = H[bb]? := fun bb h1 => (hW4 bb h1).trans (hxG (by omega) (by simp))
                 have hA2 : ∀ bb, bb < 2 → A2[bb]? = H[bb]? := fun bb h1 => ((hX4 bb h1).trans (hxG (by omega) (by simp))).trans (hA12 bb h1)
                 have a0 : getW A1 0 0 = _ := (getW_of (hA12 0 (by omega))).trans g0
                 have a0B := getW_blk a0
                 have a0l := getW_lt a0
                 have b0 : getW A2 0 0 = _ := (getW_of (hA2 0 (by omega))).trans g0
                 have b0B := getW_blk b0
                 have b0l := getW_lt b0
                 obtain ⟨hX9, hX10⟩ := MutG.cells hX2
                 apply w_reg [2, 3, 6] rfl; intro Q hQ
                 simp (disch := (first | omega | (repeat (first | exact okU_nil | refine okU1 (by omega) ?_)))) [wrap64, wrapU, leW, wrl, buildV, fillV, splice, sizeT, encN, cAr, hMa, msix LTs, msix LTi, slix LTs, slix LTi, g0, g0B, g1, g1B, hI, hW1, hX1, a0, a0B, b0, b0B, hX9, hX10, Nat.add_assoc]
                 apply after_some rfl; apply hQ; clear hQ Q
                 repeat (with_reducible apply kblock_nrm)
                 refine kcut_nrm ?_
                 refine ⟨w2, f.words.list ++ [pk], by simp (disch := (first | omega | (repeat (first | exact okU_nil | refine okU1 (by omega) ?_)))), by simp (disch := (first | omega | (repeat (first | exact okU_nil | refine okU1 (by omega) ?_)))); exact (getW_of (hA2 1 (by omega))).trans g1, MutG.hx hX2 (by intro p hp ver; rw [List.mem_singleton.1 hp]; exact hX5 0 ver (by omega)), by simp; omega, hX5, rfl⟩
                rintro al H ⟨wv, ws, g0, g1, hW, hwl, hw2, rfl⟩
                obtain ⟨hwc1, hwc2⟩ := MutG.cells hW
                have g0B := getW_blk g0
                have g1B := getW_blk g1
                have g0l := getW_lt g0
                have g1l := getW_lt g1
                rw [hx0 H]
                obtain ⟨hd1, hd2⟩ := tdiv_I64 (n := by_) (k := 3) ⟨hb1, hb2⟩ (by decide)
                have hr := Around_range (n := (by_.tdiv 3)) (most := 5) ⟨by omega, by omega⟩ (by decide)
                have hI := lit_drop (V.int .i64) 0 ([1, 0, -1, 1048576, 1048577] : List Int) (Around (by_.tdiv 3) 5).toNat (by simp; omega)
                have hb : -1 ≤ ([1, 0, -1, 1048576, 1048577] : List Int).getD (Around (by_.tdiv 3) 5).toNat 0 ∧ ([1, 0, -1, 1048576, 1048577] : List Int).getD (Around (by_.tdiv 3) 5).toNat 0 ≤ 1048577 := getD_all (p := fun s : Int => -1 ≤ s ∧ s ≤ 1048577) (by decide) _ _ (by intro x hx; simp at hx; omega)
                generalize ([1, 0, -1, 1048576, 1048577] : List Int).getD (Around (by_.tdiv 3) 5).toNat 0 = pk at hI hb
                simp only [List.map] at hI
                obtain ⟨w1, A1, hW1, hW2, hW3, hW4, hW5⟩ : ∃ v' H', appendV Tryz.prog (HX H [] []) 22 (.sl true []) (enc eI f.weights) = some (v', H') ∧ MutG eI 1 (.mk true []) H' v' ([] ++ f.weights.list) ∧ (HX H [] []).length ≤ H'.length ∧ (∀ bb, bb < H.length → H'[bb]? = (HX H [] [])[bb]?) ∧ ∀ bb ver, bb < H.length → v' ≠ .ms 1 bb ver 0 ([] ++ f.weights.list).length false := ⟨_, _, app3 (z := .mk true []) (ys := []) LTi eeI (.inr rfl) (.inl ⟨rfl, rfl⟩) (elems_enc _) (by simp [room]; omega) (by rw [hx_len]; simp <;> omega) (fun _ _ _ h => (by cases h))⟩
                rw [hx0 A1] at hW1
                rw [hx_len] at hW3
                simp only [List.nil_append, List.length_nil, Nat.add_zero] at hW2 hW3 hW5
                obtain ⟨w2, A2, hX1, hX2, hX3, hX4, hX5⟩ : ∃ v' H', appendV Tryz.prog (HX A1 [] [newBlk 5 [V.int .i64 1, V.int .i64 0, V.int .i64 (-1), V.int .i64 1048576, V.int .i64 1048577], newBlk 1 [V.int .i64 pk]]) 22 w1 (.ms 1 (A1.length + 1) 1 0 1 true) = some (v', H') ∧ MutG eI 1 (.mk true []) H' v' (f.weights.list ++ [pk]) ∧ (HX A1 [] [newBlk 5 [V.int .i64 1, V.int .i64 0, V.int .i64 (-1), V.int .i64 1048576, V.int .i64 1048577], newBlk 1 [V.int .i64 pk]]).length ≤ H'.length ∧ (∀ bb, bb < H.length → H'[bb]? = (HX A1 [] [newBlk 5 [V.int .i64 1, V.int .i64 0, V.int .i64 (-1), V.int .i64 1048576, V.int .i64 1048577], newBlk 1 [V.int .i64 pk]])[bb]?) ∧ ∀ bb ver, bb < H.length → v' ≠ .ms 1 bb ver 0 (f.weights.list ++ [pk]).length false := ⟨_, _, app3 (z := .mk true []) (xs := [pk]) LTi eeI (.inr rfl) (MutG.hx hW2 (by simp)) (by rw [el_ms, hxBn]; simp [chunk, eI]) (by simp [room]; omega) (by rw [hx_len]; simp <;> omega) hW5⟩
                rw [hx0 A2] at hX1
                rw [hx_len] at hX3
                simp only [List.length_cons, List.length_nil] at hX3
                have hA12 : ∀ bb, bb < H.length → A1[bb]? = H[bb]? := fun bb h1 => (hW4 bb h1).trans (hxG (by omega) (by simp))
                have hA2 : ∀ bb, bb < H.length → A2[bb]? = H[bb]? := fun bb h1 => ((hX4 bb h1).trans (hxG (by omega) (by simp))).trans (hA12 bb h1)
                have a0 : getW A1 0 0 = _ := (getW_of (hA12 0 (by omega))).trans g0
                have a0B := getW_blk a0
                have a0l := getW_lt a0
                have b0 : getW A2 0 0 = _ := (getW_of (hA2 0 (by omega))).trans g0
                have b0B := getW_blk b0
                have b0l := getW_lt b0
                obtain ⟨hX9, hX10⟩ := MutG.cells hX2
                apply w_reg [3, 6] rfl; intro Q hQ
                simp (disch := (first | omega | (repeat (first | exact okU_nil | refine okU1 (by omega) ?_)))) [wrap64, wrapU, leW, wrl, buildV, fillV, splice, sizeT, encN, cAr, hMa, msix LTs, msix LTi, slix LTs, slix LTi, g0, g0B, g1, g1B, g0, g0B, g1, g1B, hwc1, hwc2, hI, hd1, hd2, hW1, hX1, a0, a0B, b0, b0B, hX9, hX10, Nat.add_assoc]
                apply after_some rfl; apply hQ; clear hQ Q
                repeat (with_reducible apply kblock_nrm)
                refine kcut_nrm ?_
                refine ⟨f.name, f.of_, f.up, f.kind, f.lo, f.hi, wv, w2, ws, f.weights.list ++ [pk], by simp (disch := (first | omega | (repeat (first | exact okU_nil | refine okU1 (by omega) ?_)))), by simp (disch := (first | omega | (repeat (first | exact okU_nil | refine okU1 (by omega) ?_)))); exact (getW_of (hA2 1 (by omega))).trans g1, ⟨hk1, hk2⟩, ⟨by omega, by omega⟩, ⟨by omega, by omega⟩, MutG.a (MutG.of hW fun b ver hq => ?_) rfl, MutG.a (MutG.hx hX2 (by intro p hp ver; rw [List.mem_singleton.1 hp]; exact hX5 0 ver (by omega))) rfl, hwl, by simp; omega, fun w hw => ?_, fun b ver full hq => ?_, fun b ver full hq => ?_, fun b v1 v2 f1 f2 hq hq2 => ?_, rfl⟩
                ·have hbl : b < H.length := by
                  rcases Nat.lt_or_ge b H.length with h1 | h1
                  ·exact h1
                  ·exact absurd hq (MutG.lt hW (by decide) h1)
                 rw [hxG (by omega) (by simp; intro h0; exact hw2 b ver (by omega) hq), hA2 b hbl]
                ·rcases List.mem_append.1 hw with hw | hw
                 ·exact hf2.wts w hw
                 ·rw [List.mem_singleton.1 hw]; exact ⟨by omega, by omega⟩
                ·rcases hW with ⟨h1, _⟩ | ⟨b', ver', h1, _, _⟩
                 ·rw [h1] at hq; cases hq
                 ·rw [h1] at hq
                  have h3 := hw2 b' ver'
                  injection hq with _ h2
                  rcases Nat.lt_or_ge b' 2 with h4 | h4
                  ·exact absurd h1 (h3 h4)
                  ·omega
                ·rcases hX2 with ⟨h1, _⟩ | ⟨b', ver', h1, _, _⟩
                 ·rw [h1] at hq; cases hq
                 ·rw [h1] at hq
                  have h3 := hX5 b' ver'
                  injection hq with _ h2
                  rcases Nat.lt_or_ge b' H.length with h4 | h4
                  ·exact absurd h1 (h3 h4)
                  ·omega
                ·rcases hX2 with ⟨h1, _⟩ | ⟨b', ver', h1, _, _⟩
                 ·rw [h1] at hq2; cases hq2
                 ·rw [h1] at hq2
                  have h3 := hX5 b' ver'
                  injection hq2 with _ h2
                  have h5 : H.length ≤ b := by
                   rcases Nat.lt_or_ge b' H.length with h4 | h4
                   ·exact absurd h1 (h3 h4)
                   ·omega
                  rcases hW with ⟨h6, _⟩ | ⟨b2, ver2, h6, h7, _⟩
                  ·rw [h6] at hq; cases hq
                  ·rw [h6] at hq
                   have := getW_lt h7
                   injection hq with _ h8
                   omega
              ·first
               |(simp at hc; done)
               |try simp [Int.natCast_inj] at hc
                obtain ⟨w, G, hMk1, hMk2, hMk3, hMk4, hMk5⟩ := mk_ints (f := 85) (d := some 12) (H := HX H [] []) (ρ := rhoA LE [(11, V.int .i64 (f.words.list.length : Int)), (10, enc eS f.words), (9, .mp 0 0 6), (2, .int .i64 by_), (3, .mp 0 0 0), (6, .mp 1 0 0), (66, .bool (decide (Around how 8 = 6)))]) (x := .tmp 11) (n := f.words.list.length) rfl (by omega)
                rw [hx0 G] at hMk1
                have hMkc := MutA.cells hMk2
                obtain ⟨hMkc1, hMkc2⟩ := hMkc
                rw [hx_len] at hMk3
                have e0 : getW G 0 0 = _ := ((getW_of (hMk4 0 (by rw [hx_len]; omega))).trans (getW_of (hxG (by omega) (by simp)))).trans g0
                have e0B := getW_blk e0
                have e0l := getW_lt e0
                apply w_reg [3, 6] rfl; intro Q hQ
                simp (disch := (first | omega | (repeat (first | exact okU_nil | refine okU1 (by omega) ?_)))) [wrap64, wrapU, leW, wrl, buildV, fillV, splice, sizeT, encN, cAr, hMa, msix LTs, msix LTi, slix LTs, slix LTi, g0, g0B, g1, g1B, hMk1, hMkc1, hMkc2, e0, e0B]
                apply after_some rfl; apply hQ; clear hQ Q
                repeat (with_reducible apply kblock_nrm)
                refine kcut_nrm ?_
                refine ⟨f.name, f.of_, f.up, f.kind, f.lo, f.hi, _, w, f.words.list, List.replicate f.words.list.length 0, by simp (disch := (first | omega | (repeat (first | exact okU_nil | refine okU1 (by omega) ?_)))) <;> rfl, by simp (disch := (first | omega | (repeat (first | exact okU_nil | refine okU1 (by omega) ?_)))); exact (getW_of (hMk4 1 (by rw [hx_len]; omega))).trans ((getW_of (hxG (by omega) (by simp))).trans g1), ⟨hk1, hk2⟩, ⟨by omega, by omega⟩, ⟨by omega, by omega⟩, .inl ⟨f.words, rfl, rfl⟩, MutA.of hMk2 fun b ver full hq => ?_, by omega, by simp; omega, fun w hw => ?_, fun b ver full h => (by cases hw : f.words <;> rw [hw] at h <;> cases h), fun b ver full hq => ?_, fun b v1 v2 f1 f2 h => (by cases hw : f.words <;> rw [hw] at h <;> cases h), rfl⟩
                ·have h1 := hMk5 b ver full (by simpa using hq)
                 rw [hx_len] at h1
                 have h2 : b < G.length := by
                  rcases hMk2 with ⟨s, h3, _⟩ | ⟨b', ver', full', h3, h4⟩
                  ·rw [h3] at hq; cases s <;> cases hq
                  ·rw [h3] at hq
                   have := getW_lt h4
                   injection hq with _ h5
                   omega
                 exact hxG h2 (by simp; omega)
                ·rw [(List.mem_replicate.1 hw).2]; decide
                ·have h1 := hMk5 b ver full (by simpa using hq)
                 rw [hx_len] at h1
                 omega
 rintro al H ⟨nm, of_, up, k, lo, hi, wv, gv, ws, gs, g0, g1, hk, hlo, hhi, hW, hG, hwl, hgl, hgw, hw2, hg2, hne, rfl⟩
 obtain ⟨hwc1, hwc2⟩ := MutA.cells hW
 obtain ⟨hgc1, hgc2⟩ := MutA.cells hG
 have g0B := getW_blk g0
 have g1B := getW_blk g1
 have g0l := getW_lt g0
 have g1l := getW_lt g1
 rw [hx0 H]
 apply w_seq
 apply w_reg [6] rfl; intro Q hQ
 simp (disch := (first | omega | (repeat (first | exact okU_nil | refine okU1 (by omega) ?_)))) [wrap64, wrapU, leW, wrl, buildV, fillV, splice, sizeT, encN, cAr, hMa, msix LTs, msix LTi, slix LTs, slix LTi, g0, g0B, g1, g1B, g0, g0B, g1, g1B, hwc1, hwc2, hgc1, hgc2]
 apply after_some rfl; apply hQ; clear hQ Q
 apply w_ret
 repeat (with_reducible (first | apply kseq_ret | apply kloop_ret | apply kcut_ret | apply kblock_ret))
 obtain ⟨s1, G1, hs1, hf1, hf2'⟩ := MutA.frzP eeS (by decide) (MutA.of (H' := HX H [(1, 0, [V.str nm, V.str of_, V.str up, V.int .i64 k, V.int .i64 lo, V.int .i64 hi, wv, gv])] []) hW fun b ver full hq => hxG (by
  rcases hW with ⟨s, h3, _⟩ | ⟨b', ver', full', h3, h4⟩
  ·rw [h3] at hq; cases s <;> cases hq
  ·rw [h3] at hq
   have := getW_lt h4
   injection hq with _ h5
   omega) (by simp; have := hw2 b ver full hq; omega)) 9
 obtain ⟨s2, G2, hs2, hf3, _⟩ := MutA.frzP (H := G1) eeI (by decide) (MutA.of hG fun b ver full hq => by
  rw [hf2' b fun v1 f1 hq1 => hne b v1 ver f1 full hq1 hq]
  refine hxG ?_ (by simp; have := hg2 b ver full hq; omega)
  rcases hG with ⟨s, h3, _⟩ | ⟨b', ver', full', h3, h4⟩
  ·rw [h3] at hq; cases s <;> cases hq
  ·rw [h3] at hq
   have := getW_lt h4
   injection hq with _ h5
   omega) 9
 obtain ⟨G3, hf4⟩ := frz_field (nm := nm) (of_ := of_) (up := up) (k := k) (lo := lo) (hi := hi) hf1 hf3
 refine ⟨rfl, .agg [V.str nm, V.str of_, V.str up, V.int .i64 k, V.int .i64 lo, V.int .i64 hi, wv, gv], (resultsA_eq (rs := [.cell 6 44]) rfl).trans ?_, ⟨nm, of_, up, k, lo, hi, s1, s2⟩, G3, hf4, hk, hlo, hhi, by rw [hs1]; exact hwl, by rw [hs2]; exact hgl, fun w hw => hgw w (by rw [hs2] at hw; exact hw)⟩
 simp (disch := (first | omega | (repeat (first | exact okU_nil | refine okU1 (by omega) ?_)))) [resultsB, resultA]

end Go.Ae.Zd

set_option maxRecDepth 20000
set_option maxHeartbeats 4000000
namespace Go.Ae.Zd
open Go.Proofs
attribute [local simp] List.getElem?_cons_zero List.getElem?_cons_succ hxW hxB hxW0 hxWn hxB0 hxBn hxS hxSn hxS0 hxTn hxT0 hxGn hxG0 hx_len hx_app hx_dup hx_dup2 lkU_nil lkU_hit lkU_ne sp_alloc cells_ms one_ms cells_sl one_sl wOf_ lk_nil lk_cons isEmpty_n isEmpty_c no_buildSlice no_makeSlice no_box eo_buildSlice ofVal_str chunk reads loadAt

theorem cSpoiltField {f : FieldT} (hf : okF f) {how by_ : Int} (hh : I64 how) (hb : I64 by_) : ∃ g : FieldT, okF2 g ∧ ∀ H, call LE 85 [.agg (eF f), .int .i64 how, .int .i64 by_] H = some (.agg (eF g), H) := by
 obtain ⟨v, H1, h1, y, H2, h2, h3⟩ := cSpoiltField0 hf hh hb
 exact ⟨y, h3, fun H => call_pure rfl (.inr rfl) (by simp [V.pure, V.pureL]) ⟨v, H1, H2, h1, h2, eeF.pure y, fun h => by cases h⟩ H⟩

structure okK3 (k : KindT) : Prop where
 lo : Sm 3000000 k.lo
 hi : Sm 3000000 k.hi
 len : k.fields.list.length ≤ 40
 ok : ∀ f ∈ k.fields.list, okF2 f
structure okL2 (x : LifeT) : Prop where
 states : x.states.list.length ≤ 30
 moves : x.moves.list.length ≤ 50
 ok : ∀ p ∈ x.moves.list, Sm 1000 p.1 ∧ Sm 1000 p.2
/-- Schemas that are made at all. -/
structure okZ (x : SchemaT) : Prop where
 ver : Sm 3000000 x.version
 kl : x.kinds.list.length ≤ 10
 ll : x.lives.list.length ≤ 10
 rl : x.rules.list.length ≤ 30
 ks : ∀ k ∈ x.kinds.list, okK3 k
 ls : ∀ k ∈ x.lives.list, okL2 k
 rs : ∀ k ∈ x.rules.list, okR k
theorem okK2.three {M : Nat} {k : KindT} (h : okK2 M k) (hM : M ≤ 40) : okK3 k := ⟨⟨by have := h.lo.1; omega, by have := h.lo.2; omega⟩, ⟨by have := h.hi.1; omega, by have := h.hi.2; omega⟩, by have := h.len; omega, fun f hf => (h.ok f hf).two⟩
theorem okL.two {x : LifeT} (h : okL x) : okL2 x := ⟨by have := h.states; omega, by have := h.moves; omega, h.ok⟩
theorem okY.z {r : Nat} {x : SchemaT} (h : okY r x) (hr : r ≤ 30) : okZ x := ⟨⟨by have := h.ver.1; omega, by have := h.ver.2; omega⟩, by have := h.kl; omega, by have := h.ll; omega, by have := h.rl; omega, fun k hk => (h.ks k hk).three (by decide), fun k hk => (h.ls k hk).two, h.rs⟩

/-- The parts of a schema that is being changed. -/
structure XB (H : Heap) (ver : Int) (kv lv rv : V) (ks : List KindT) (ls : List LifeT) (rs : List RuleT) (N1 N2 : Nat) : Prop where
 g0 : getW H 0 0 = some [.int .i64 ver, kv, lv, rv]
 g1 : getW H 1 0 = some [.int .i64 0, .nil, .nil, .nil]
 K : MutG eK 4 (.mk true []) H kv ks
 L : MutG eL 3 (.mk true []) H lv ls
 R : MutG eR 5 (.mk true []) H rv rs
 hk : ∀ bb ver, bb < 2 ∨ N1 ≤ bb → kv ≠ .ms 4 bb ver 0 ks.length false
 hl : ∀ bb ver, bb < N1 ∨ N2 ≤ bb → lv ≠ .ms 3 bb ver 0 ls.length false
 hr : ∀ bb ver, bb < N2 → rv ≠ .ms 5 bb ver 0 rs.length false
 o : 2 ≤ N1 ∧ N1 ≤ N2 ∧ N2 ≤ H.length
section
variable {H G : Heap} {ver ver' : Int} {kv lv rv : V} {ks : List KindT} {ls : List LifeT} {rs : List RuleT} {N1 N2 : Nat}
theorem XB.bk (h : XB H ver kv lv rv ks ls rs N1 N2) {b v : Nat} (hq : kv = .ms 4 b v 0 ks.length false) : 2 ≤ b ∧ b < N1 := by
 constructor
 ·rcases Nat.lt_or_ge b 2 with h1 | h1
  ·exact absurd hq (h.hk b v (.inl h1))
  ·exact h1
 ·rcases Nat.lt_or_ge b N1 with h1 | h1
  ·exact h1
  ·exact absurd hq (h.hk b v (.inr h1))
theorem XB.bl (h : XB H ver kv lv rv ks ls rs N1 N2) {b v : Nat} (hq : lv = .ms 3 b v 0 ls.length false) : N1 ≤ b ∧ b < N2 := by
 constructor
 ·rcases Nat.lt_or_ge b N1 with h1 | h1
  ·exact absurd hq (h.hl b v (.inl h1))
  ·exact h1
 ·rcases Nat.lt_or_ge b N2 with h1 | h1
  ·exact h1
  ·exact absurd hq (h.hl b v (.inr h1))
theorem XB.br (h : XB H ver kv lv rv ks ls rs N1 N2) {b v : Nat} (hq : rv = .ms 5 b v 0 rs.length false) : N2 ≤ b ∧ b < H.length := by
 constructor
 ·rcases Nat.lt_or_ge b N2 with h1 | h1
  ·exact absurd hq (h.hr b v h1)
  ·exact h1
 ·rcases Nat.lt_or_ge b H.length with h1 | h1
  ·exact h1
  ·exact absurd hq (MutG.lt h.R (by decide) h1)
theorem XB.keep (h : XB H ver kv lv rv ks ls rs N1 N2) (hG : ∀ bb, 1 ≤ bb → bb < H.length → G[bb]? = H[bb]?) (hlen : H.length ≤ G.length) (g0 : getW G 0 0 = some [.int .i64 ver', kv, lv, rv]) : XB G ver' kv lv rv ks ls rs N1 N2 := by
 obtain ⟨o1, o2, o3⟩ := h.o
 exact ⟨g0, by rw [getW_of (hG 1 (by decide) (by omega))]; exact h.g1, MutG.of h.K fun b v hq => hG b (by have := h.bk hq; omega) (by have := h.bk hq; omega), MutG.of h.L fun b v hq => hG b (by have := h.bl hq; omega) (by have := h.bl hq; omega), MutG.of h.R fun b v hq => hG b (by have := h.br hq; omega) (h.br hq).2, h.hk, h.hl, h.hr, o1, o2, by omega⟩
theorem XB.kind (h : XB H ver kv lv rv ks ls rs N1 N2) {b v k : Nat} {q : KindT} (hq : kv = .ms 4 b v 0 ks.length false) (hw : getW G b v = some ((ks.set k q).map eK).flatten) (hne : ks ≠ []) (hG : ∀ bb, bb ≠ b → bb < H.length → G[bb]? = H[bb]?) (hlen : H.length ≤ G.length) : XB G ver kv lv rv (ks.set k q) ls rs N1 N2 := by
 obtain ⟨o1, o2, o3⟩ := h.o
 have hb := h.bk hq
 exact ⟨by rw [getW_of (hG 0 (by omega) (by omega))]; exact h.g0, by rw [getW_of (hG 1 (by omega) (by omega))]; exact h.g1, .inr ⟨b, v, by rw [List.length_set]; exact hq, hw, fun h => hne (by simpa using h)⟩, MutG.of h.L fun b' v hq => hG b' (by have := h.bl hq; omega) (by have := h.bl hq; omega), MutG.of h.R fun b' v hq => hG b' (by have := h.br hq; omega) (h.br hq).2, fun bb v hb => by rw [List.length_set]; exact h.hk bb v hb, h.hl, h.hr, o1, o2, by omega⟩
theorem XB.kind2 (h : XB H ver kv lv rv ks ls rs N1 N2) {b v k : Nat} {q : KindT} (hq : kv = .ms 4 b v 0 ks.length false) (hw : getW G b v = some ((ks.set k q).map eK).flatten) (hne : ks ≠ []) (hG : ∀ bb, bb ≠ b → bb < N2 → G[bb]? = H[bb]?) (hG2 : ∀ bb v, rv = .ms 5 bb v 0 rs.length false → G[bb]? = H[bb]?) (hlen : H.length ≤ G.length) : XB G ver kv lv rv (ks.set k q) ls rs N1 N2 := by
 obtain ⟨o1, o2, o3⟩ := h.o
 have hb := h.bk hq
 exact ⟨by rw [getW_of (hG 0 (by omega) (by omega))]; exact h.g0, by rw [getW_of (hG 1 (by omega) (by omega))]; exact h.g1, .inr ⟨b, v, by rw [List.length_set]; exact hq, hw, fun h => hne (by simpa using h)⟩, MutG.of h.L fun b' v hq => hG b' (by have := h.bl hq; omega) (by have := h.bl hq; omega), MutG.of h.R fun b' v hq => hG2 b' v hq, fun bb v hb => by rw [List.length_set]; exact h.hk bb v hb, h.hl, h.hr, o1, o2, by omega⟩
theorem XB.life (h : XB H ver kv lv rv ks ls rs N1 N2) {b v k : Nat} {q : LifeT} (hq : lv = .ms 3 b v 0 ls.length false) (hw : getW G b v = some ((ls.set k q).map eL).flatten) (hne : ls ≠ []) (hG : ∀ bb, bb ≠ b → bb < H.length → G[bb]? = H[bb]?) (hlen : H.length ≤ G.length) : XB G ver kv lv rv ks (ls.set k q) rs N1 N2 := by
 obtain ⟨o1, o2, o3⟩ := h.o
 have hb := h.bl hq
 exact ⟨by rw [getW_of (hG 0 (by omega) (by omega))]; exact h.g0, by rw [getW_of (hG 1 (by omega) (by omega))]; exact h.g1, MutG.of h.K fun b' v hq => hG b' (by have := h.bk hq; omega) (by have := h.bk hq; omega), .inr ⟨b, v, by rw [List.length_set]; exact hq, hw, fun h => hne (by simpa using h)⟩, MutG.of h.R fun b' v hq => hG b' (by have := h.br hq; omega) (h.br hq).2, h.hk, fun bb v hb => by rw [List.length_set]; exact h.hl bb v hb, h.hr, o1, o2, by omega⟩
theorem XB.rule (h : XB H ver kv lv rv ks ls rs N1 N2) {rv' : V} {rs' : List RuleT} (g0 : getW G 0 0 = some [.int .i64 ver, kv, lv, rv']) (hR : MutG eR 5 (.mk true []) G rv' rs') (hr : ∀ bb ver, bb < N2 → rv' ≠ .ms 5 bb ver 0 rs'.length false) (hG : ∀ bb, 1 ≤ bb → bb < N2 → G[bb]? = H[bb]?) (hlen : H.length ≤ G.length) : XB G ver kv lv rv' ks ls rs' N1 N2 := by
 obtain ⟨o1, o2, o3⟩ := h.o
 exact ⟨g0, by rw [getW_of (hG 1 (by decide) (by omega))]; exact h.g1, MutG.of h.K fun b v hq => hG b (by have := h.bk hq; omega) (by have := h.bk hq; omega), MutG.of h.L fun b v hq => hG b (by have := h.bl hq; omega) (by have := h.bl hq; omega), hR, h.hk, h.hl, hr, o1, o2, by omega⟩
end
def SpoiltQ (v0 : V) (H' : Heap) : Prop := ∃ (x : SchemaT) (H'' : Heap), frzV 12 H' v0 = some (.agg (eX x), H'') ∧ okZ x
theorem frz_schemaL {H H1 H2 H3 : Heap} {ver : Int} {kv lv rv : V} {li : SL LifeT} {ks : SL KindT} {rs : SL RuleT} (h1 : frzV 11 H kv = some (enc eK ks, H1)) (h2 : frzV 11 H1 lv = some (enc eL li, H2)) (h3 : frzV 11 H2 rv = some (enc eR rs, H3)) : ∃ H', frzV 12 H (.agg [.int .i64 ver, kv, lv, rv]) = some (.agg (eX ⟨ver, ks, li, rs⟩), H') := by
 have e1 : ∀ (H : Heap) (v : V), v.pure = true → frzV 11 H v = some (v, H) := fun H v hv => by unfold frzV; rw [if_pos hv]
 by_cases hp : (V.agg [.int .i64 ver, kv, lv, rv]).pure = true
 ·have hp' := hp
  simp only [V.pure, V.pureL, Bool.and_eq_true, Bool.true_and, Bool.and_true] at hp'
  obtain ⟨p1, p2, p3⟩ := hp'
  rw [e1 _ _ p1] at h1
  injection h1 with h1; injection h1 with h1 h1'
  subst h1; subst h1'
  rw [e1 _ _ p2] at h2
  injection h2 with h2; injection h2 with h2 h2'
  subst h2; subst h2'
  rw [e1 _ _ p3] at h3
  injection h3 with h3; injection h3 with h3 _
  subst h3
  exact ⟨H, by unfold frzV; rw [if_pos hp]; rfl⟩
 ·refine ⟨H3, ?_⟩
  unfold frzV
  rw [if_neg hp]
  simp only [frzList, e1 _ (.int _ _) rfl, h1, h2, h3]
  rfl

theorem Around_ge {n most : Int} (hn : I64 n) : 0 ≤ Around n most := by
 unfold Around
 split
 ·exact Int.le_refl _
 ·have h0 : 0 ≤ (if n < 0 then -(n + 1) else n) := by split <;> omega
  exact Int.tmod_nonneg _ h0

/-- diorama/dioramaref09.Spoilt -/
theorem cSpoilt0 {x : SchemaT} (hx : okY 10 x) {at_ how by_ : Int} (ha : I64 at_) (hh : I64 how) (hb : I64 by_) : ∃ v H1, runFn LE (exec LE) 31 [.agg (eX x), .int .i64 at_, .int .i64 how, .int .i64 by_] [] = some (v, H1) ∧ SpoiltQ v H1 := by
 have hMa : LE.mode 56 = .snap := rfl
 obtain ⟨ha1, ha2⟩ := ha
 obtain ⟨hh1, hh2⟩ := hh
 obtain ⟨hb1, hb2⟩ := hb
 obtain ⟨hv1, hv2⟩ := hx.ver
 have hxkl := hx.kl
 have hxll := hx.ll
 have hxrl : x.rules.list.length ≤ 20 := by have := hx.rl; omega
 have hxrl0 := hx.rl
 have hxk3 : ∀ k ∈ x.kinds.list, okK3 k := fun k hk => (hx.ks k hk).three (by decide)
 have hxl2 : ∀ k ∈ x.lives.list, okL2 k := fun k hk => (hx.ls k hk).two
 refine run_E (m := 215) Tryz.func31 rfl rfl (Nat.le_of_ble_eq_true rfl) ?_
 simp only [alOf]
 refine w_cut (fun al H => getW H 0 0 = some [V.int .i64 x.version, enc eK x.kinds, enc eL x.lives, enc eR x.rules] ∧ getW H 1 0 = some [V.int .i64 0, V.nil, V.nil, V.nil] ∧ H.length = 2 ∧ al = [(1, .int .i64 at_), (2, .int .i64 how), (3, .int .i64 by_), (4, .mp 0 0 0), (8, .mp 1 0 0)]) ?_ ?_
 ·skip
  apply w_reg [1, 2, 3, 4, 8] rfl; intro Q hQ
  simp (disch := (first | omega | (repeat (first | exact okU_nil | refine okU1 (by omega) ?_)))) [wrap64, wrapU, leW, wrl, buildV, fillV, splice, sizeT, encN, cAr, hMa, slix LTs, slix LTi]
  apply after_some rfl; apply hQ; clear hQ Q
  repeat (with_reducible apply kblock_nrm)
  refine kcut_nrm ?_
  exact ⟨by simp [gw_zero, eX], by simp [gw_succ, gw_zero], rfl, rfl⟩
 rintro al H ⟨g0, g1, hHl, rfl⟩
 have g0B := getW_blk g0
 have g1B := getW_blk g1
 have g0l := getW_lt g0
 have g1l := getW_lt g1
 rw [hx0 H]
 refine w_cut (fun al H => ∃ kv, getW H 0 0 = some [V.int .i64 x.version, kv, enc eL x.lives, enc eR x.rules] ∧ getW H 1 0 = some [V.int .i64 0, V.nil, V.nil, V.nil] ∧ MutG eK 4 (.mk true []) H kv x.kinds.list ∧ (∀ bb ver, bb < 2 → kv ≠ .ms 4 bb ver 0 x.kinds.list.length false) ∧ al = [(1, .int .i64 at_), (2, .int .i64 how), (3, .int .i64 by_), (4, .mp 0 0 0), (8, .mp 1 0 0)]) ?_ ?_
 ·skip
  have hAp := app3 (z := .mk true []) (H := (HX H [] [])) (v := V.sl true []) (x := enc eK x.kinds) (ys := []) (xs := x.kinds.list) (m := 2) LTk eeK (.inr rfl) (.inl ⟨rfl, rfl⟩) (elems_enc _) (by simp [room]; omega) (by rw [hx_len]; simp <;> omega) (fun _ _ _ h => (by cases h))
  obtain ⟨hA1, hA2, hA3, hA4, hA5⟩ := hAp
  have hA1' : appendV Tryz.prog (HX H [] []) _ (V.sl true []) (enc eK x.kinds) = _ := hA1
  have hA6 := getBlk_of (ver := 0) (hA4 0 (by omega))
  have hA7 := getW_of (ver := 0) (hA4 0 (by omega))
  obtain ⟨hA9, hA10⟩ := MutG.cells hA2
  have hA8 := hA3
  rw [hx_len] at hA8
  have hAo : ∀ bb, bb < 2 → bb ≠ 0 → ∀ c, (setBlk (apH Tryz.prog _ (HX H [] []) (V.sl true []) (enc eK x.kinds)) 0 0 c)[bb]? = H[bb]? := fun bb h1 h2 c => by
   unfold setBlk
   rw [List.getElem?_set_ne (Ne.symm h2), hA4 bb h1, hxG (by omega) (by simp)]
  apply w_reg [1, 2, 3, 4, 8] rfl; intro Q hQ
  simp (disch := (first | omega | (repeat (first | exact okU_nil | refine okU1 (by omega) ?_)))) [wrap64, wrapU, leW, wrl, buildV, fillV, splice, sizeT, encN, cAr, hMa, slix LTs, slix LTi, g0, g0B, g1, g1B, hA1', hA6, hA7, hA9, hA10]
  apply after_some rfl; apply hQ; clear hQ Q
  repeat (with_reducible apply kblock_nrm)
  refine kcut_nrm ?_
  refine ⟨_, by rw [gW_set (by omega)], ?_, MutG.setb hA2 fun ver => hA5 0 ver (by omega), hA5, rfl⟩
  rw [getW_of (hAo 1 (by omega) (by decide) _)]; exact g1
 rintro al H ⟨kv, g0, g1, hK, hKv, rfl⟩
 have g0B := getW_blk g0
 have g1B := getW_blk g1
 have g0l := getW_lt g0
 have g1l := getW_lt g1
 obtain ⟨hkc1, hkc2⟩ := MutG.cells hK
 rw [hx0 H]
 refine w_cut (fun al H => ∃ kv lv N1, getW H 0 0 = some [V.int .i64 x.version, kv, lv, enc eR x.rules] ∧ getW H 1 0 = some [V.int .i64 0, V.nil, V.nil, V.nil] ∧ MutG eK 4 (.mk true []) H kv x.kinds.list ∧ (∀ bb ver, bb < 2 ∨ N1 ≤ bb → kv ≠ .ms 4 bb ver 0 x.kinds.list.length false) ∧ MutG eL 3 (.mk true []) H lv x.lives.list ∧ (∀ bb ver, bb < N1 → lv ≠ .ms 3 bb ver 0 x.lives.list.length false) ∧ 2 ≤ N1 ∧ N1 ≤ H.length ∧ al = [(1, .int .i64 at_), (2, .int .i64 how), (3, .int .i64 by_), (4, .mp 0 0 0), (8, .mp 1 0 0)]) ?_ ?_
 ·skip
  have hAp := app3 (z := .mk true []) (H := (HX H [] [])) (v := V.sl true []) (x := enc eL x.lives) (ys := []) (xs := x.lives.list) (m := H.length) LTl eeL (.inr rfl) (.inl ⟨rfl, rfl⟩) (elems_enc _) (by simp [room]; omega) (by rw [hx_len]; simp <;> omega) (fun _ _ _ h => (by cases h))
  obtain ⟨hA1, hA2, hA3, hA4, hA5⟩ := hAp
  have hA1' : appendV Tryz.prog (HX H [] []) _ (V.sl true []) (enc eL x.lives) = _ := hA1
  have hA6 := getBlk_of (ver := 0) (hA4 0 (by omega))
  have hA7 := getW_of (ver := 0) (hA4 0 (by omega))
  obtain ⟨hA9, hA10⟩ := MutG.cells hA2
  have hA8 := hA3
  rw [hx_len] at hA8
  have hAo : ∀ bb, bb < H.length → bb ≠ 0 → ∀ c, (setBlk (apH Tryz.prog _ (HX H [] []) (V.sl true []) (enc eL x.lives)) 0 0 c)[bb]? = H[bb]? := fun bb h1 h2 c => by
   unfold setBlk
   rw [List.getElem?_set_ne (Ne.symm h2), hA4 bb h1, hxG (by omega) (by simp)]
  apply w_reg [1, 2, 3, 4, 8] rfl; intro Q hQ
  simp (disch := (first | omega | (repeat (first | exact okU_nil | refine okU1 (by omega) ?_)))) [wrap64, wrapU, leW, wrl, buildV, fillV, splice, sizeT, encN, cAr, hMa, slix LTs, slix LTi, g0, g0B, g1, g1B, g0, g0B, g1, g1B, hkc1, hkc2, hA1', hA6, hA7, hA9, hA10]
  apply after_some rfl; apply hQ; clear hQ Q
  repeat (with_reducible apply kblock_nrm)
  refine kcut_nrm ?_
  refine ⟨kv, _, H.length, by rw [gW_set (by omega)], ?_, MutG.setb (MutG.of hK fun b ver hq => ?_) fun ver => hKv 0 ver (by decide), fun bb ver hb => ?_, MutG.setb hA2 fun ver => hA5 0 ver (by omega), hA5, by omega, by rw [setBlk_len]; omega, rfl⟩
  ·rw [getW_of (hAo 1 (by omega) (by decide) _)]; exact g1
  ·have hbl : b < H.length := by
    rcases Nat.lt_or_ge b H.length with h1 | h1
    ·exact h1
    ·exact absurd hq (MutG.lt hK (by decide) h1)
   rw [hA4 b hbl, hxG hbl (by simp)]
  ·rcases hb with hb | hb
   ·exact hKv bb ver hb
   ·exact MutG.lt hK (by decide) hb
 rintro al H ⟨kv, lv, N1, g0, g1, hK, hKv, hL, hLv, hN1, hN1H, rfl⟩
 have g0B := getW_blk g0
 have g1B := getW_blk g1
 have g0l := getW_lt g0
 have g1l := getW_lt g1
 obtain ⟨hkc1, hkc2⟩ := MutG.cells hK
 obtain ⟨hlc1, hlc2⟩ := MutG.cells hL
 rw [hx0 H]
 refine w_cut (fun al H => ∃ kv lv rv N1 N2, XB H x.version kv lv rv x.kinds.list x.lives.list x.rules.list N1 N2 ∧ al = [(1, .int .i64 at_), (2, .int .i64 how), (3, .int .i64 by_), (4, .mp 0 0 0), (8, .mp 1 0 0)]) ?_ ?_
 ·skip
  have hAp := app3 (z := .mk true []) (H := (HX H [] [])) (v := V.sl true []) (x := enc eR x.rules) (ys := []) (xs := x.rules.list) (m := H.length) LTr eeR (.inr rfl) (.inl ⟨rfl, rfl⟩) (elems_enc _) (by simp [room]; omega) (by rw [hx_len]; simp <;> omega) (fun _ _ _ h => (by cases h))
  obtain ⟨hA1, hA2, hA3, hA4, hA5⟩ := hAp
  have hA1' : appendV Tryz.prog (HX H [] []) _ (V.sl true []) (enc eR x.rules) = _ := hA1
  have hA6 := getBlk_of (ver := 0) (hA4 0 (by omega))
  have hA7 := getW_of (ver := 0) (hA4 0 (by omega))
  obtain ⟨hA9, hA10⟩ := MutG.cells hA2
  have hA8 := hA3
  rw [hx_len] at hA8
  have hAo : ∀ bb, bb < H.length → bb ≠ 0 → ∀ c, (setBlk (apH Tryz.prog _ (HX H [] []) (V.sl true []) (enc eR x.rules)) 0 0 c)[bb]? = H[bb]? := fun bb h1 h2 c => by
   unfold setBlk
   rw [List.getElem?_set_ne (Ne.symm h2), hA4 bb h1, hxG (by omega) (by simp)]
  apply w_reg [1, 2, 3, 4, 8] rfl; intro Q hQ
  simp (disch := (first | omega | (repeat (first | exact okU_nil | refine okU1 (by omega) ?_)))) [wrap64, wrapU, leW, wrl, buildV, fillV, splice, sizeT, encN, cAr, hMa, slix LTs, slix LTi, g0, g0B, g1, g1B, g0, g0B, g1, g1B, hkc1, hkc2, g0, g0B, g1, g1B, hkc1, hkc2, hlc1, hlc2, hA1', hA6, hA7, hA9, hA10]
  apply after_some rfl; apply hQ; clear hQ Q
  repeat (with_reducible apply kblock_nrm)
  refine kcut_nrm ?_
  refine ⟨kv, lv, _, N1, H.length, ⟨by rw [gW_set (by omega)], ?_, MutG.setb (MutG.of hK fun b ver hq => ?_) fun ver => hKv 0 ver (by omega), MutG.setb (MutG.of hL fun b ver hq => ?_) fun ver => hLv 0 ver (by omega), MutG.setb hA2 fun ver => hA5 0 ver (by omega), hKv, fun bb ver hb => ?_, hA5, by omega, by omega, by rw [setBlk_len]; omega⟩, rfl⟩
  ·rw [getW_of (hAo 1 (by omega) (by decide) _)]; exact g1
  ·have hbl : b < H.length := by
    rcases Nat.lt_or_ge b H.length with h1 | h1
    ·exact h1
    ·exact absurd hq (MutG.lt hK (by decide) h1)
   rw [hA4 b hbl, hxG hbl (by simp)]
  ·have hbl : b < H.length := by
    rcases Nat.lt_or_ge b H.length with h1 | h1
    ·exact h1
    ·exact absurd hq (MutG.lt hL (by decide) h1)
   rw [hA4 b hbl, hxG hbl (by simp)]
  ·rcases hb with hb | hb
   ·exact hLv bb ver hb
   ·exact MutG.lt hL (by decide) hb
 rintro al H ⟨kv, lv, rv, N1, N2, hX, rfl⟩
 have g0 := hX.g0
 have g1 := hX.g1
 have g0B := getW_blk g0
 have g1B := getW_blk g1
 have g0l := getW_lt g0
 have g1l := getW_lt g1
 obtain ⟨hkc1, hkc2⟩ := MutG.cells hX.K
 obtain ⟨hlc1, hlc2⟩ := MutG.cells hX.L
 obtain ⟨hrc1, hrc2⟩ := MutG.cells hX.R
 have hkL : lenV Tryz.prog 30 kv = _ := MutG.lenZ LTk hX.K
 have hlL : lenV Tryz.prog 31 lv = _ := MutG.lenZ LTl hX.L
 have hrL : lenV Tryz.prog 32 rv = _ := MutG.lenZ LTr hX.R
 obtain ⟨o1, o2, o3⟩ := hX.o
 rw [hx0 H]
 refine w_cut (fun al H => ∃ kv lv rv N1 N2 k, XB H x.version kv lv rv x.kinds.list x.lives.list x.rules.list N1 N2 ∧ 0 ≤ k ∧ al = [(1, .int .i64 at_), (2, .int .i64 how), (3, .int .i64 by_), (4, .mp 0 0 0), (8, .mp 1 0 0), (9, .int .i64 k)]) ?_ ?_
 ·skip
  apply w_reg [1, 2, 3, 4, 8, 9] rfl; intro Q hQ
  simp (disch := (first | omega | (repeat (first | exact okU_nil | refine okU1 (by omega) ?_)))) [wrap64, wrapU, leW, wrl, buildV, fillV, splice, sizeT, encN, cAr, hMa, slix LTs, slix LTi, g0, g0B, g1, g1B, g0, g0B, g1, g1B, hkc1, hkc2, g0, g0B, g1, g1B, hkc1, hkc2, hlc1, hlc2, g0, g0B, g1, g1B, hkc1, hkc2, hlc1, hlc2, hrc1, hrc2, hkL, hlL, hrL]
  apply after_some rfl; apply hQ; clear hQ Q
  repeat (with_reducible apply kblock_nrm)
  refine kcut_nrm ?_
  exact ⟨kv, lv, rv, N1, N2, _, hX.keep (fun bb h1 h2 => hxG h2 (by simp)) (by rw [hx_len]; omega) (by simp (disch := (first | omega | (repeat (first | exact okU_nil | refine okU1 (by omega) ?_)))) [g0]), Around_ge ⟨ha1, ha2⟩, rfl⟩
 rintro al H ⟨kv, lv, rv, N1, N2, k, hX, hk0, rfl⟩
 have g0 := hX.g0
 have g1 := hX.g1
 have g0B := getW_blk g0
 have g1B := getW_blk g1
 have g0l := getW_lt g0
 have g1l := getW_lt g1
 obtain ⟨hkc1, hkc2⟩ := MutG.cells hX.K
 obtain ⟨hlc1, hlc2⟩ := MutG.cells hX.L
 obtain ⟨hrc1, hrc2⟩ := MutG.cells hX.R
 have hkL : lenV Tryz.prog 30 kv = _ := MutG.lenZ LTk hX.K
 have hlL : lenV Tryz.prog 31 lv = _ := MutG.lenZ LTl hX.L
 have hrL : lenV Tryz.prog 32 rv = _ := MutG.lenZ LTr hX.R
 obtain ⟨o1, o2, o3⟩ := hX.o
 rw [hx0 H]
 refine w_cut (fun al H => ∃ ver kv lv rv ks ls rs N1 N2, XB H ver kv lv rv ks ls rs N1 N2 ∧ Sm 3000000 ver ∧ ks.length ≤ 4 ∧ ls.length ≤ 2 ∧ rs.length ≤ 20 ∧ (∀ k ∈ ks, okK3 k) ∧ (∀ k ∈ ls, okL2 k) ∧ (∀ k ∈ rs, okR k) ∧ al = [(4, .mp 0 0 0), (8, .mp 1 0 0)]) ?_ ?_
 ·skip
  apply w_seq
  apply w_reg [1, 2, 3, 4, 8, 9, 33] rfl; intro Q hQ
  simp (disch := (first | omega | (repeat (first | exact okU_nil | refine okU1 (by omega) ?_)))) [wrap64, wrapU, leW, wrl, buildV, fillV, splice, sizeT, encN, cAr, hMa, slix LTs, slix LTi, g0, g0B, g1, g1B, g0, g0B, g1, g1B, hkc1, hkc2, g0, g0B, g1, g1B, hkc1, hkc2, hlc1, hlc2, g0, g0B, g1, g1B, hkc1, hkc2, hlc1, hlc2, hrc1, hrc2, hkL, hlL, hrL, g0, g0B, g1, g1B, hkc1, hkc2, hlc1, hlc2, hrc1, hrc2, hkL, hlL, hrL]
  apply after_some rfl; apply hQ; clear hQ Q
  apply w_block
  apply w_seq
  apply w_reg [1, 2, 3, 4, 8, 9, 33, 73] rfl; intro Q hQ
  simp (disch := (first | omega | (repeat (first | exact okU_nil | refine okU1 (by omega) ?_)))) [wrap64, wrapU, leW, wrl, buildV, fillV, splice, sizeT, encN, cAr, hMa, slix LTs, slix LTi, g0, g0B, g1, g1B, g0, g0B, g1, g1B, hkc1, hkc2, g0, g0B, g1, g1B, hkc1, hkc2, hlc1, hlc2, g0, g0B, g1, g1B, hkc1, hkc2, hlc1, hlc2, hrc1, hrc2, hkL, hlL, hrL, g0, g0B, g1, g1B, hkc1, hkc2, hlc1, hlc2, hrc1, hrc2, hkL, hlL, hrL]
  apply after_some rfl; apply hQ; clear hQ Q
  apply w_cond _ rfl <;> intro hc
  ·first
   |(simp at hc; done)
   |try simp [Int.natCast_inj] at hc
    have hr := Around_range (n := by_) (most := 4) ⟨by omega, by omega⟩ (by decide)
    have hI := lit_idx (V.int .i64) 0 ([x.version + 1, -1, 1048576, 1048577] : List Int) (Around by_ 4).toNat (by simp; omega)
    have hb : -2000000 ≤ ([x.version + 1, -1, 1048576, 1048577] : List Int).getD (Around by_ 4).toNat 0 ∧ ([x.version + 1, -1, 1048576, 1048577] : List Int).getD (Around by_ 4).toNat 0 ≤ 2000001 := getD_all (p := fun s : Int => -2000000 ≤ s ∧ s ≤ 2000001) (by decide) _ _ (by intro x hx; simp at hx; omega)
    generalize ([x.version + 1, -1, 1048576, 1048577] : List Int).getD (Around by_ 4).toNat 0 = pk at hI hb
    simp only [List.map] at hI
    apply w_drw [4, 8] rfl rfl (by kernel_rfl) 0 rfl; intro Q hQ
    simp (disch := (first | omega | (repeat (first | exact okU_nil | refine okU1 (by omega) ?_)))) [wrap64, wrapU, leW, wrl, buildV, fillV, splice, sizeT, encN, cAr, hMa, slix LTs, slix LTi, g0, g0B, g1, g1B, g0, g0B, g1, g1B, hkc1, hkc2, g0, g0B, g1, g1B, hkc1, hkc2, hlc1, hlc2, g0, g0B, g1, g1B, hkc1, hkc2, hlc1, hlc2, hrc1, hrc2, hkL, hlL, hrL, g0, g0B, g1, g1B, hkc1, hkc2, hlc1, hlc2, hrc1, hrc2, hkL, hlL, hrL, hI]
    apply after_some rfl; apply hQ; clear hQ Q
    repeat (with_reducible apply kblock_nrm)
    refine kcut_nrm ?_
    exact ⟨pk, kv, lv, rv, x.kinds.list, x.lives.list, x.rules.list, N1, N2, hX.keep (fun bb h1 h2 => hxG h2 (by simp; omega)) (by rw [hx_len]; omega) (by simp (disch := (first | omega | (repeat (first | exact okU_nil | refine okU1 (by omega) ?_))))), ⟨by omega, by omega⟩, hxkl, hxll, hxrl, hxk3, hxl2, hx.rs, rfl⟩
  ·first
   |(simp at hc; done)
   |try simp [Int.natCast_inj] at hc
    apply w_seq
    apply w_reg [1, 2, 3, 4, 8, 9, 33, 84] rfl; intro Q hQ
    simp (disch := (first | omega | (repeat (first | exact okU_nil | refine okU1 (by omega) ?_)))) [wrap64, wrapU, leW, wrl, buildV, fillV, splice, sizeT, encN, cAr, hMa, slix LTs, slix LTi, g0, g0B, g1, g1B, g0, g0B, g1, g1B, hkc1, hkc2, g0, g0B, g1, g1B, hkc1, hkc2, hlc1, hlc2, g0, g0B, g1, g1B, hkc1, hkc2, hlc1, hlc2, hrc1, hrc2, hkL, hlL, hrL, g0, g0B, g1, g1B, hkc1, hkc2, hlc1, hlc2, hrc1, hrc2, hkL, hlL, hrL]
    apply after_some rfl; apply hQ; clear hQ Q
    apply w_cond _ rfl <;> intro hc
    ·first
     |(simp at hc; done)
     |try simp [Int.natCast_inj] at hc
      apply w_seq
      apply w_reg [3, 4, 8, 9, 90] rfl; intro Q hQ
      simp (disch := (first | omega | (repeat (first | exact okU_nil | refine okU1 (by omega) ?_)))) [wrap64, wrapU, leW, wrl, buildV, fillV, splice, sizeT, encN, cAr, hMa, slix LTs, slix LTi, g0, g0B, g1, g1B, g0, g0B, g1, g1B, hkc1, hkc2, g0, g0B, g1, g1B, hkc1, hkc2, hlc1, hlc2, g0, g0B, g1, g1B, hkc1, hkc2, hlc1, hlc2, hrc1, hrc2, hkL, hlL, hrL, g0, g0B, g1, g1B, hkc1, hkc2, hlc1, hlc2, hrc1, hrc2, hkL, hlL, hrL]
      apply after_some rfl; apply hQ; clear hQ Q
      apply w_cond _ rfl <;> intro hc
      ·first
       |(simp at hc; done)
       |try simp [Int.natCast_inj] at hc
        have hkl : k < (x.kinds.list.length : Int) := by first | exact hc | simpa using hc
        have hkn : x.kinds.list ≠ [] := fun h => by rw [h] at hkl; simp at hkl; omega
        obtain ⟨bk, vk, hkv0, gkW, _⟩ := (show _ ∨ _ from hX.K).resolve_left (fun h => hkn h.2)
        have hbk := hX.bk hkv0
        have hkv : PLift (kv = .ms 4 bk vk 0 x.kinds.list.length false) := ⟨hkv0⟩
        clear hkv0
        have gkB := getW_blk gkW
        have gkl := getW_lt gkW
        obtain ⟨K, hK⟩ : ∃ K : Nat, (K : Int) = k := ⟨k.toNat, by omega⟩
        have hKe : k.toNat = K := by omega
        have hKl : K < x.kinds.list.length := by omega
        have hixk : indexAddrV Tryz.prog 30 kv k = some (.mp bk vk (K * 4)) := by
         have := msix LTk (b := bk) (ver := vk) (off := 0) (full := false) (len := x.kinds.list.length) (i := k) hk0 hkl
         rw [hKe, Nat.zero_add] at this
         rw [hkv.down]; exact this
        obtain ⟨qk, hqk⟩ : ∃ q, x.kinds.list[K] = q := ⟨_, rfl⟩
        have hqm := hxk3 qk (by rw [← hqk]; exact List.getElem_mem hKl)
        have hqm2 := hx.ks qk (by rw [← hqk]; exact List.getElem_mem hKl)
        have hT0 : K * 4 + 1 ≤ x.kinds.list.length * 4 := by omega
        have hT1 : K * 4 + 1 + 1 ≤ x.kinds.list.length * 4 := by omega
        have hT2 : K * 4 + 2 + 1 ≤ x.kinds.list.length * 4 := by omega
        have hT3 : K * 4 + 3 + 1 ≤ x.kinds.list.length * 4 := by omega
        have hDk := blk_drop eeK (ys := x.kinds.list) (j := K) (k := 3) hKl (by decide)
        rw [hqk] at hDk
        have hDk : List.drop (K * 4 + 3) (List.map eK x.kinds.list).flatten = enc eF qk.fields :: _ := hDk
        have hr := Around_range (n := by_) (most := 4) ⟨by omega, by omega⟩ (by decide)
        have hI := lit_idx V.str [] ([[112, 101, 114, 115, 111, 110], [], [111, 116, 104, 101, 114], [97, 32, 98]] : List Str) (Around by_ 4).toNat (by simp; omega)
        generalize ([[112, 101, 114, 115, 111, 110], [], [111, 116, 104, 101, 114], [97, 32, 98]] : List Str).getD (Around by_ 4).toNat [] = pk at hI
        simp only [List.map] at hI
        apply w_drw [4, 8] rfl rfl (by kernel_rfl) 0 rfl; intro Q hQ
        simp (disch := (first | omega | (repeat (first | exact okU_nil | refine okU1 (by omega) ?_)))) [wrap64, wrapU, leW, wrl, buildV, fillV, splice, sizeT, encN, cAr, hMa, slix LTs, slix LTi, g0, g0B, g1, g1B, g0, g0B, g1, g1B, hkc1, hkc2, g0, g0B, g1, g1B, hkc1, hkc2, hlc1, hlc2, g0, g0B, g1, g1B, hkc1, hkc2, hlc1, hlc2, hrc1, hrc2, hkL, hlL, hrL, g0, g0B, g1, g1B, hkc1, hkc2, hlc1, hlc2, hrc1, hrc2, hkL, hlL, hrL, hI, hixk, gkW, gkB, hT0, hT1, hT2, hT3, flat_len eeK]
        apply after_some rfl; apply hQ; clear hQ Q
        repeat (with_reducible apply kblock_nrm)
        refine kcut_nrm ?_
        rw [show List.take (K * 4) (List.map eK x.kinds.list).flatten ++ V.str pk :: List.drop (K * 4 + 1) (List.map eK x.kinds.list).flatten = ((x.kinds.list.set K ⟨pk, qk.lo, qk.hi, qk.fields⟩).map eK).flatten from wr_cell eeK (k := 0) hKl (by decide) (by rw [hqk]; rfl)]
        refine ⟨x.version, kv, lv, rv, x.kinds.list.set K ⟨pk, qk.lo, qk.hi, qk.fields⟩, x.lives.list, x.rules.list, N1, N2, hX.kind hkv.down (by simp (disch := (first | omega | (repeat (first | exact okU_nil | refine okU1 (by omega) ?_))))) hkn (fun bb h1 h2 => hxG h2 (by simp; omega)) (by rw [hx_len]; omega), ⟨by omega, by omega⟩, by rw [List.length_set]; exact hxkl, hxll, hxrl, fun q hq => ?_, hxl2, hx.rs, rfl⟩
        rcases List.mem_or_eq_of_mem_set hq with hq | rfl
        ·exact hxk3 q hq
        ·exact ⟨hqm.lo, hqm.hi, hqm.len, hqm.ok⟩
      ·first
       |(simp at hc; done)
       |try simp [Int.natCast_inj] at hc
        apply w_keep [4, 8] rfl; apply w_skip
        repeat (with_reducible apply kblock_nrm)
        refine kcut_nrm ?_
        exact ⟨x.version, kv, lv, rv, x.kinds.list, x.lives.list, x.rules.list, N1, N2, hX.keep (fun bb h1 h2 => hxG h2 (by simp)) (by rw [hx_len]; omega) (by simp (disch := (first | omega | (repeat (first | exact okU_nil | refine okU1 (by omega) ?_)))) [g0]), ⟨by omega, by omega⟩, hxkl, hxll, hxrl, hxk3, hxl2, hx.rs, rfl⟩
    ·first
     |(simp at hc; done)
     |try simp [Int.natCast_inj] at hc
      apply w_seq
      apply w_reg [1, 2, 3, 4, 8, 9, 33, 101] rfl; intro Q hQ
      simp (disch := (first | omega | (repeat (first | exact okU_nil | refine okU1 (by omega) ?_)))) [wrap64, wrapU, leW, wrl, buildV, fillV, splice, sizeT, encN, cAr, hMa, slix LTs, slix LTi, g0, g0B, g1, g1B, g0, g0B, g1, g1B, hkc1, hkc2, g0, g0B, g1, g1B, hkc1, hkc2, hlc1, hlc2, g0, g0B, g1, g1B, hkc1, hkc2, hlc1, hlc2, hrc1, hrc2, hkL, hlL, hrL, g0, g0B, g1, g1B, hkc1, hkc2, hlc1, hlc2, hrc1, hrc2, hkL, hlL, hrL]
      apply after_some rfl; apply hQ; clear hQ Q
      apply w_cond _ rfl <;> intro hc
      ·first
       |(simp at hc; done)
       |try simp [Int.natCast_inj] at hc
        apply w_seq
        apply w_reg [3, 4, 8, 9, 107] rfl; intro Q hQ
        simp (disch := (first | omega | (repeat (first | exact okU_nil | refine okU1 (by omega) ?_)))) [wrap64, wrapU, leW, wrl, buildV, fillV, splice, sizeT, encN, cAr, hMa, slix LTs, slix LTi, g0, g0B, g1, g1B, g0, g0B, g1, g1B, hkc1, hkc2, g0, g0B, g1, g1B, hkc1, hkc2, hlc1, hlc2, g0, g0B, g1, g1B, hkc1, hkc2, hlc1, hlc2, hrc1, hrc2, hkL, hlL, hrL, g0, g0B, g1, g1B, hkc1, hkc2, hlc1, hlc2, hrc1, hrc2, hkL, hlL, hrL]
        apply after_some rfl; apply hQ; clear hQ Q
        apply w_cond _ rfl <;> intro hc
        ·first
         |(simp at hc; done)
         |try simp [Int.natCast_inj] at hc
          have hkl : k < (x.kinds.list.length : Int) := by first | exact hc | simpa using hc
          have hkn : x.kinds.list ≠ [] := fun h => by rw [h] at hkl; simp at hkl; omega
          obtain ⟨bk, vk, hkv0, gkW, _⟩ := (show _ ∨ _ from hX.K).resolve_left (fun h => hkn h.2)
          have hbk := hX.bk hkv0
          have hkv : PLift (kv = .ms 4 bk vk 0 x.kinds.list.length false) := ⟨hkv0⟩
          clear hkv0
          have gkB := getW_blk gkW
          have gkl := getW_lt gkW
          obtain ⟨K, hK⟩ : ∃ K : Nat, (K : Int) = k := ⟨k.toNat, by omega⟩
          have hKe : k.toNat = K := by omega
          have hKl : K < x.kinds.list.length := by omega
          have hixk : indexAddrV Tryz.prog 30 kv k = some (.mp bk vk (K * 4)) := by
           have := msix LTk (b := bk) (ver := vk) (off := 0) (full := false) (len := x.kinds.list.length) (i := k) hk0 hkl
           rw [hKe, Nat.zero_add] at this
           rw [hkv.down]; exact this
          obtain ⟨qk, hqk⟩ : ∃ q, x.kinds.list[K] = q := ⟨_, rfl⟩
          have hqm := hxk3 qk (by rw [← hqk]; exact List.getElem_mem hKl)
          have hqm2 := hx.ks qk (by rw [← hqk]; exact List.getElem_mem hKl)
          have hT0 : K * 4 + 1 ≤ x.kinds.list.length * 4 := by omega
          have hT1 : K * 4 + 1 + 1 ≤ x.kinds.list.length * 4 := by omega
          have hT2 : K * 4 + 2 + 1 ≤ x.kinds.list.length * 4 := by omega
          have hT3 : K * 4 + 3 + 1 ≤ x.kinds.list.length * 4 := by omega
          have hDk := blk_drop eeK (ys := x.kinds.list) (j := K) (k := 3) hKl (by decide)
          rw [hqk] at hDk
          have hDk : List.drop (K * 4 + 3) (List.map eK x.kinds.list).flatten = enc eF qk.fields :: _ := hDk
          have hr := Around_range (n := by_) (most := 4) ⟨by omega, by omega⟩ (by decide)
          have hI := lit_idx (V.int .i64) 0 ([0, 5, -1, 65537] : List Int) (Around by_ 4).toNat (by simp; omega)
          have hb : -1 ≤ ([0, 5, -1, 65537] : List Int).getD (Around by_ 4).toNat 0 ∧ ([0, 5, -1, 65537] : List Int).getD (Around by_ 4).toNat 0 ≤ 65537 := getD_all (p := fun s : Int => -1 ≤ s ∧ s ≤ 65537) (by decide) _ _ (by intro x hx; simp at hx; omega)
          generalize ([0, 5, -1, 65537] : List Int).getD (Around by_ 4).toNat 0 = pk at hI hb
          simp only [List.map] at hI
          apply w_drw [4, 8] rfl rfl (by kernel_rfl) 0 rfl; intro Q hQ
          simp (disch := (first | omega | (repeat (first | exact okU_nil | refine okU1 (by omega) ?_)))) [wrap64, wrapU, leW, wrl, buildV, fillV, splice, sizeT, encN, cAr, hMa, slix LTs, slix LTi, g0, g0B, g1, g1B, g0, g0B, g1, g1B, hkc1, hkc2, g0, g0B, g1, g1B, hkc1, hkc2, hlc1, hlc2, g0, g0B, g1, g1B, hkc1, hkc2, hlc1, hlc2, hrc1, hrc2, hkL, hlL, hrL, g0, g0B, g1, g1B, hkc1, hkc2, hlc1, hlc2, hrc1, hrc2, hkL, hlL, hrL, hI, hixk, gkW, gkB, hT0, hT1, hT2, hT3, flat_len eeK]
          apply after_some rfl; apply hQ; clear hQ Q
          repeat (with_reducible apply kblock_nrm)
          refine kcut_nrm ?_
          rw [show List.take (K * 4 + 1) (List.map eK x.kinds.list).flatten ++ V.int .i64 pk :: List.drop (K * 4 + 1 + 1) (List.map eK x.kinds.list).flatten = ((x.kinds.list.set K ⟨qk.name, pk, qk.hi, qk.fields⟩).map eK).flatten from wr_cell eeK (k := 1) hKl (by decide) (by rw [hqk]; rfl)]
          refine ⟨x.version, kv, lv, rv, x.kinds.list.set K ⟨qk.name, pk, qk.hi, qk.fields⟩, x.lives.list, x.rules.list, N1, N2, hX.kind hkv.down (by simp (disch := (first | omega | (repeat (first | exact okU_nil | refine okU1 (by omega) ?_))))) hkn (fun bb h1 h2 => hxG h2 (by simp; omega)) (by rw [hx_len]; omega), ⟨by omega, by omega⟩, by rw [List.length_set]; exact hxkl, hxll, hxrl, fun q hq => ?_, hxl2, hx.rs, rfl⟩
          rcases List.mem_or_eq_of_mem_set hq with hq | rfl
          ·exact hxk3 q hq
          ·exact ⟨(show Sm 3000000 pk from ⟨by omega, by omega⟩), hqm.hi, hqm.len, hqm.ok⟩
        ·first
         |(simp at hc; done)
         |try simp [Int.natCast_inj] at hc
          apply w_keep [4, 8] rfl; apply w_skip
          repeat (with_reducible apply kblock_nrm)
          refine kcut_nrm ?_
          exact ⟨x.version, kv, lv, rv, x.kinds.list, x.lives.list, x.rules.list, N1, N2, hX.keep (fun bb h1 h2 => hxG h2 (by simp)) (by rw [hx_len]; omega) (by simp (disch := (first | omega | (repeat (first | exact okU_nil | refine okU1 (by omega) ?_)))) [g0]), ⟨by omega, by omega⟩, hxkl, hxll, hxrl, hxk3, hxl2, hx.rs, rfl⟩
      ·first
       |(simp at hc; done)
       |try simp [Int.natCast_inj] at hc
        apply w_seq
        apply w_reg [1, 2, 3, 4, 8, 9, 33, 118] rfl; intro Q hQ
        simp (disch := (first | omega | (repeat (first | exact okU_nil | refine okU1 (by omega) ?_)))) [wrap64, wrapU, leW, wrl, buildV, fillV, splice, sizeT, encN, cAr, hMa, slix LTs, slix LTi, g0, g0B, g1, g1B, g0, g0B, g1, g1B, hkc1, hkc2, g0, g0B, g1, g1B, hkc1, hkc2, hlc1, hlc2, g0, g0B, g1, g1B, hkc1, hkc2, hlc1, hlc2, hrc1, hrc2, hkL, hlL, hrL, g0, g0B, g1, g1B, hkc1, hkc2, hlc1, hlc2, hrc1, hrc2, hkL, hlL, hrL]
        apply after_some rfl; apply hQ; clear hQ Q
        apply w_cond _ rfl <;> intro hc
        ·first
         |(simp at hc; done)
         |try simp [Int.natCast_inj] at hc
          apply w_seq
          apply w_reg [3, 4, 8, 9, 124] rfl; intro Q hQ
          simp (disch := (first | omega | (repeat (first | exact okU_nil | refine okU1 (by omega) ?_)))) [wrap64, wrapU, leW, wrl, buildV, fillV, splice, sizeT, encN, cAr, hMa, slix LTs, slix LTi, g0, g0B, g1, g1B, g0, g0B, g1, g1B, hkc1, hkc2, g0, g0B, g1, g1B, hkc1, hkc2, hlc1, hlc2, g0, g0B, g1, g1B, hkc1, hkc2, hlc1, hlc2, hrc1, hrc2, hkL, hlL, hrL, g0, g0B, g1, g1B, hkc1, hkc2, hlc1, hlc2, hrc1, hrc2, hkL, hlL, hrL]
          apply after_some rfl; apply hQ; clear hQ Q
          apply w_cond _ rfl <;> intro hc
          ·first
           |(simp at hc; done)
           |try simp [Int.natCast_inj] at hc
            have hkl : k < (x.kinds.list.length : Int) := by first | exact hc | simpa using hc
            have hkn : x.kinds.list ≠ [] := fun h => by rw [h] at hkl; simp at hkl; omega
            obtain ⟨bk, vk, hkv0, gkW, _⟩ := (show _ ∨ _ from hX.K).resolve_left (fun h => hkn h.2)
            have hbk := hX.bk hkv0
            have hkv : PLift (kv = .ms 4 bk vk 0 x.kinds.list.length false) := ⟨hkv0⟩
            clear hkv0
            have gkB := getW_blk gkW
            have gkl := getW_lt gkW
            obtain ⟨K, hK⟩ : ∃ K : Nat, (K : Int) = k := ⟨k.toNat, by omega⟩
            have hKe : k.toNat = K := by omega
            have hKl : K < x.kinds.list.length := by omega
            have hixk : indexAddrV Tryz.prog 30 kv k = some (.mp bk vk (K * 4)) := by
             have := msix LTk (b := bk) (ver := vk) (off := 0) (full := false) (len := x.kinds.list.length) (i := k) hk0 hkl
             rw [hKe, Nat.zero_add] at this
             rw [hkv.down]; exact this
            obtain ⟨qk, hqk⟩ : ∃ q, x.kinds.list[K] = q := ⟨_, rfl⟩
            have hqm := hxk3 qk (by rw [← hqk]; exact List.getElem_mem hKl)
            have hqm2 := hx.ks qk (by rw [← hqk]; exact List.getElem_mem hKl)
            have hT0 : K * 4 + 1 ≤ x.kinds.list.length * 4 := by omega
            have hT1 : K * 4 + 1 + 1 ≤ x.kinds.list.length * 4 := by omega
            have hT2 : K * 4 + 2 + 1 ≤ x.kinds.list.length * 4 := by omega
            have hT3 : K * 4 + 3 + 1 ≤ x.kinds.list.length * 4 := by omega
            have hDk := blk_drop eeK (ys := x.kinds.list) (j := K) (k := 3) hKl (by decide)
            rw [hqk] at hDk
            have hDk : List.drop (K * 4 + 3) (List.map eK x.kinds.list).flatten = enc eF qk.fields :: _ := hDk
            have hr := Around_range (n := by_) (most := 4) ⟨by omega, by omega⟩ (by decide)
            have hI := lit_idx (V.int .i64) 0 ([0, 5, 65536, 65537] : List Int) (Around by_ 4).toNat (by simp; omega)
            have hb : -1 ≤ ([0, 5, 65536, 65537] : List Int).getD (Around by_ 4).toNat 0 ∧ ([0, 5, 65536, 65537] : List Int).getD (Around by_ 4).toNat 0 ≤ 65537 := getD_all (p := fun s : Int => -1 ≤ s ∧ s ≤ 65537) (by decide) _ _ (by intro x hx; simp at hx; omega)
            generalize ([0, 5, 65536, 65537] : List Int).getD (Around by_ 4).toNat 0 = pk at hI hb
            simp only [List.map] at hI
            apply w_drw [4, 8] rfl rfl (by kernel_rfl) 0 rfl; intro Q hQ
            simp (disch := (first | omega | (repeat (first | exact okU_nil | refine okU1 (by omega) ?_)))) [wrap64, wrapU, leW, wrl, buildV, fillV, splice, sizeT, encN, cAr, hMa, slix LTs, slix LTi, g0, g0B, g1, g1B, g0, g0B, g1, g1B, hkc1, hkc2, g0, g0B, g1, g1B, hkc1, hkc2, hlc1, hlc2, g0, g0B, g1, g1B, hkc1, hkc2, hlc1, hlc2, hrc1, hrc2, hkL, hlL, hrL, g0, g0B, g1, g1B, hkc1, hkc2, hlc1, hlc2, hrc1, hrc2, hkL, hlL, hrL, hI, hixk, gkW, gkB, hT0, hT1, hT2, hT3, flat_len eeK]
            apply after_some rfl; apply hQ; clear hQ Q
            repeat (with_reducible apply kblock_nrm)
            refine kcut_nrm ?_
            rw [show List.take (K * 4 + 2) (List.map eK x.kinds.list).flatten ++ V.int .i64 pk :: List.drop (K * 4 + 2 + 1) (List.map eK x.kinds.list).flatten = ((x.kinds.list.set K ⟨qk.name, qk.lo, pk, qk.fields⟩).map eK).flatten from wr_cell eeK (k := 2) hKl (by decide) (by rw [hqk]; rfl)]
            refine ⟨x.version, kv, lv, rv, x.kinds.list.set K ⟨qk.name, qk.lo, pk, qk.fields⟩, x.lives.list, x.rules.list, N1, N2, hX.kind hkv.down (by simp (disch := (first | omega | (repeat (first | exact okU_nil | refine okU1 (by omega) ?_))))) hkn (fun bb h1 h2 => hxG h2 (by simp; omega)) (by rw [hx_len]; omega), ⟨by omega, by omega⟩, by rw [List.length_set]; exact hxkl, hxll, hxrl, fun q hq => ?_, hxl2, hx.rs, rfl⟩
            rcases List.mem_or_eq_of_mem_set hq with hq | rfl
            ·exact hxk3 q hq
            ·exact ⟨hqm.lo, (show Sm 3000000 pk from ⟨by omega, by omega⟩), hqm.len, hqm.ok⟩
          ·first
           |(simp at hc; done)
           |try simp [Int.natCast_inj] at hc
            apply w_keep [4, 8] rfl; apply w_skip
            repeat (with_reducible apply kblock_nrm)
            refine kcut_nrm ?_
            exact ⟨x.version, kv, lv, rv, x.kinds.list, x.lives.list, x.rules.list, N1, N2, hX.keep (fun bb h1 h2 => hxG h2 (by simp)) (by rw [hx_len]; omega) (by simp (disch := (first | omega | (repeat (first | exact okU_nil | refine okU1 (by omega) ?_)))) [g0]), ⟨by omega, by omega⟩, hxkl, hxll, hxrl, hxk3, hxl2, hx.rs, rfl⟩
        ·first
         |(simp at hc; done)
         |try simp [Int.natCast_inj] at hc
          apply w_seq
          apply w_reg [1, 2, 3, 4, 8, 9, 33, 135] rfl; intro Q hQ
          simp (disch := (first | omega | (repeat (first | exact okU_nil | refine okU1 (by omega) ?_)))) [wrap64, wrapU, leW, wrl, buildV, fillV, splice, sizeT, encN, cAr, hMa, slix LTs, slix LTi, g0, g0B, g1, g1B, g0, g0B, g1, g1B, hkc1, hkc2, g0, g0B, g1, g1B, hkc1, hkc2, hlc1, hlc2, g0, g0B, g1, g1B, hkc1, hkc2, hlc1, hlc2, hrc1, hrc2, hkL, hlL, hrL, g0, g0B, g1, g1B, hkc1, hkc2, hlc1, hlc2, hrc1, hrc2, hkL, hlL, hrL]
          apply after_some rfl; apply hQ; clear hQ Q
          apply w_cond _ rfl <;> intro hc
          ·first
           |(simp at hc; done)
           |try simp [Int.natCast_inj] at hc
            apply w_seq
            apply w_reg [3, 4, 8, 140] rfl; intro Q hQ
            simp (disch := (first | omega | (repeat (first | exact okU_nil | refine okU1 (by omega) ?_)))) [wrap64, wrapU, leW, wrl, buildV, fillV, splice, sizeT, encN, cAr, hMa, slix LTs, slix LTi, g0, g0B, g1, g1B, g0, g0B, g1, g1B, hkc1, hkc2, g0, g0B, g1, g1B, hkc1, hkc2, hlc1, hlc2, g0, g0B, g1, g1B, hkc1, hkc2, hlc1, hlc2, hrc1, hrc2, hkL, hlL, hrL, g0, g0B, g1, g1B, hkc1, hkc2, hlc1, hlc2, hrc1, hrc2, hkL, hlL, hrL]
            apply after_some rfl; apply hQ; clear hQ Q
            apply w_cond _ rfl <;> intro hc
            ·first
             |(simp at hc; done)
             |try simp [Int.natCast_inj] at hc
              have hln : x.lives.list ≠ [] := fun h => by rw [h] at hc; simp at hc
              obtain ⟨bl, vl, hlv0, glW, _⟩ := (show _ ∨ _ from hX.L).resolve_left (fun h => hln h.2)
              have hbl := hX.bl hlv0
              have hlv : PLift (lv = .ms 3 bl vl 0 x.lives.list.length false) := ⟨hlv0⟩
              clear hlv0
              have glB := getW_blk glW
              have gll := getW_lt glW
              have hlp : 0 < x.lives.list.length := List.length_pos_iff.2 hln
              have hixl : indexAddrV Tryz.prog 31 lv 0 = some (.mp bl vl 0) := by
               have := msix LTl (b := bl) (ver := vl) (off := 0) (full := false) (len := x.lives.list.length) (i := 0) (by omega) (by omega)
               rw [hlv.down]; exact this
              obtain ⟨l0, hl0⟩ : ∃ q, x.lives.list[0] = q := ⟨_, rfl⟩
              have hlm := hxl2 l0 (by rw [← hl0]; exact List.getElem_mem hlp)
              have hlm1 := hx.ls l0 (by rw [← hl0]; exact List.getElem_mem hlp)
              have hT1 : 1 + 1 ≤ x.lives.list.length * 3 := by omega
              have hT2 : 2 + 1 ≤ x.lives.list.length * 3 := by omega
              have hT3 : 3 ≤ x.lives.list.length * 3 := by omega
              have hT4 : 2 ≤ x.lives.list.length * 3 := by omega
              have hD1 := blk_drop eeL (ys := x.lives.list) (j := 0) (k := 1) hlp (by decide)
              have hD2 := blk_drop eeL (ys := x.lives.list) (j := 0) (k := 2) hlp (by decide)
              rw [hl0, Nat.zero_mul, Nat.zero_add] at hD1 hD2
              have hD1 : List.drop 1 (List.map eL x.lives.list).flatten = enc eS l0.states :: _ := hD1
              have hD2 : List.drop 2 (List.map eL x.lives.list).flatten = enc eP l0.moves :: _ := hD2
              have hr1 := Around_range (n := by_) (most := 6) ⟨by omega, by omega⟩ (by decide)
              obtain ⟨hd1, hd2⟩ := tdiv_I64 (n := by_) (k := 6) ⟨hb1, hb2⟩ (by decide)
              have hr2 := Around_range (n := (by_.tdiv 6)) (most := 6) ⟨by omega, by omega⟩ (by decide)
              have hmv := hlm1.moves
              obtain ⟨w1, A1, hW1, hW2, hW3, hW4, hW5⟩ : ∃ v' H', appendV Tryz.prog (HX H [] []) 65 (.sl true []) (enc eP l0.moves) = some (v', H') ∧ MutG eP 2 (.mk true []) H' v' ([] ++ l0.moves.list) ∧ (HX H [] []).length ≤ H'.length ∧ (∀ bb, bb < H.length → H'[bb]? = (HX H [] [])[bb]?) ∧ ∀ bb ver, bb < H.length → v' ≠ .ms 2 bb ver 0 ([] ++ l0.moves.list).length false := ⟨_, _, app3 (z := .mk true []) (ys := []) LTp eeP (.inr rfl) (.inl ⟨rfl, rfl⟩) (elems_enc _) (by simp [room]; omega) (by rw [hx_len]; simp <;> omega) (fun _ _ _ h => (by cases h))⟩
              rw [hx0 A1] at hW1
              rw [hx_len] at hW3
              simp only [List.nil_append, List.length_nil, Nat.add_zero] at hW2 hW3 hW5
              obtain ⟨w2, A2, hX1, hX2, hX3, hX4, hX5⟩ : ∃ v' H', appendV Tryz.prog (HX A1 [] []) 65 w1 (.sl true [[V.int .i64 (Around by_ 6 - 1), V.int .i64 (Around (by_.tdiv 6) 6 - 1)]]) = some (v', H') ∧ MutG eP 2 (.mk true []) H' v' (l0.moves.list ++ [((Around by_ 6 - 1), (Around (by_.tdiv 6) 6 - 1))]) ∧ (HX A1 [] []).length ≤ H'.length ∧ (∀ bb, bb < H.length → H'[bb]? = (HX A1 [] [])[bb]?) ∧ ∀ bb ver, bb < H.length → v' ≠ .ms 2 bb ver 0 (l0.moves.list ++ [((Around by_ 6 - 1), (Around (by_.tdiv 6) 6 - 1))]).length false := ⟨_, _, app3 (z := .mk true []) (xs := [((Around by_ 6 - 1), (Around (by_.tdiv 6) 6 - 1))]) LTp eeP (.inr rfl) (MutG.hx (u := []) (r := []) hW2 (by simp)) rfl (by simp [room]; omega) (by rw [hx_len]; simp <;> omega) hW5⟩
              obtain ⟨A3, hF1, hF2, hF3⟩ := MutG.frzP eeP (by decide) hX2 10
              rw [hx0 A3] at hF1
              rw [hx_len] at hX3
              simp only [List.length_nil, Nat.add_zero] at hX3
              have hA12 : ∀ bb, bb < H.length → A1[bb]? = H[bb]? := fun bb h1 => (hW4 bb h1).trans (hxG h1 (by simp))
              have hA13 : ∀ bb, bb < H.length → A3[bb]? = H[bb]? := fun bb h1 => ((hF3 bb fun ver => hX5 bb ver h1).trans ((hX4 bb h1).trans (hxG (by omega) (by simp)))).trans (hA12 bb h1)
              have a0 : getW A1 0 0 = _ := (getW_of (hA12 0 (by omega))).trans g0
              have a0B := getW_blk a0
              have a0l := getW_lt a0
              have c0 : getW A3 0 0 = _ := (getW_of (hA13 0 (by omega))).trans g0
              have c0B := getW_blk c0
              have c0l := getW_lt c0
              have cl : getW A3 bl vl = _ := (getW_of (hA13 bl gll)).trans glW
              have clB := getW_blk cl
              have cll := getW_lt cl
              apply w_drwW [4, 8] [(8, [1]), (18, [1])] rfl rfl rfl (by kernel_rfl) 0 rfl; intro Q hQ
              simp (disch := (first | omega | (repeat (first | exact okU_nil | refine okU1 (by omega) ?_)))) [wrap64, wrapU, leW, wrl, buildV, fillV, splice, sizeT, encN, cAr, hMa, slix LTs, slix LTi, g0, g0B, g1, g1B, g0, g0B, g1, g1B, hkc1, hkc2, g0, g0B, g1, g1B, hkc1, hkc2, hlc1, hlc2, g0, g0B, g1, g1B, hkc1, hkc2, hlc1, hlc2, hrc1, hrc2, hkL, hlL, hrL, g0, g0B, g1, g1B, hkc1, hkc2, hlc1, hlc2, hrc1, hrc2, hkL, hlL, hrL, hd1, hd2, hD2, hixl, glW, glB, hT1, hT2, hT3, hT4, flat_len eeL, hW1, hX1, hF1, a0, a0B, c0, c0B, cl, clB]
              apply after_some rfl; apply hQ; clear hQ Q
              repeat (with_reducible apply kblock_nrm)
              refine kcut_nrm ?_
              rw [show List.take 2 (List.map eL x.lives.list).flatten ++ enc eP (doneSL (SL.mk true []) (l0.moves.list ++ [((Around by_ 6 - 1), (Around (by_.tdiv 6) 6 - 1))])) :: List.drop (2 + 1) (List.map eL x.lives.list).flatten = ((x.lives.list.set 0 ⟨l0.name, l0.states, doneSL (SL.mk true []) (l0.moves.list ++ [((Around by_ 6 - 1), (Around (by_.tdiv 6) 6 - 1))])⟩).map eL).flatten from by
               have h := wr_cell eeL (ys := x.lives.list) (j := 0) (k := 2) hlp (by decide) (c := enc eP (doneSL (SL.mk true []) (l0.moves.list ++ [((Around by_ 6 - 1), (Around (by_.tdiv 6) 6 - 1))]))) (a := ⟨l0.name, l0.states, doneSL (SL.mk true []) (l0.moves.list ++ [((Around by_ 6 - 1), (Around (by_.tdiv 6) 6 - 1))])⟩) (by rw [hl0]; rfl)
               simpa using h]
              refine ⟨x.version, kv, lv, rv, x.kinds.list, x.lives.list.set 0 ⟨l0.name, l0.states, doneSL (SL.mk true []) (l0.moves.list ++ [((Around by_ 6 - 1), (Around (by_.tdiv 6) 6 - 1))])⟩, x.rules.list, N1, N2, hX.life (G := _) hlv.down (by simp (disch := (first | omega | (repeat (first | exact okU_nil | refine okU1 (by omega) ?_))))) hln (fun bb h1 h2 => (hxG (by omega) (by simp; omega)).trans (hA13 bb h2)) (by rw [hx_len]; omega), ⟨by omega, by omega⟩, hxkl, by rw [List.length_set]; exact hxll, hxrl, hxk3, fun q hq => ?_, hx.rs, rfl⟩
              have hdl : (doneSL (SL.mk true []) (l0.moves.list ++ [((Around by_ 6 - 1), (Around (by_.tdiv 6) 6 - 1))])).list = l0.moves.list ++ [((Around by_ 6 - 1), (Around (by_.tdiv 6) 6 - 1))] := by unfold doneSL; rw [if_neg (by simp)]; rfl
              rcases List.mem_or_eq_of_mem_set hq with hq | rfl
              ·exact hxl2 q hq
              ·refine ⟨hlm.states, by rw [hdl]; have := hlm1.moves; simp; omega, fun p hp => ?_⟩
               rw [hdl] at hp
               rcases List.mem_append.1 hp with hp | hp
               ·exact hlm.ok p hp
               ·rw [List.mem_singleton.1 hp]; constructor <;> simp only [Sm] <;> omega
            ·first
             |(simp at hc; done)
             |try simp [Int.natCast_inj] at hc
              apply w_keep [4, 8] rfl; apply w_skip
              repeat (with_reducible apply kblock_nrm)
              refine kcut_nrm ?_
              exact ⟨x.version, kv, lv, rv, x.kinds.list, x.lives.list, x.rules.list, N1, N2, hX.keep (fun bb h1 h2 => hxG h2 (by simp)) (by rw [hx_len]; omega) (by simp (disch := (first | omega | (repeat (first | exact okU_nil | refine okU1 (by omega) ?_)))) [g0]), ⟨by omega, by omega⟩, hxkl, hxll, hxrl, hxk3, hxl2, hx.rs, rfl⟩
          ·first
           |(simp at hc; done)
           |try simp [Int.natCast_inj] at hc
            apply w_seq
            apply w_reg [1, 2, 3, 4, 8, 9, 33, 162] rfl; intro Q hQ
            simp (disch := (first | omega | (repeat (first | exact okU_nil | refine okU1 (by omega) ?_)))) [wrap64, wrapU, leW, wrl, buildV, fillV, splice, sizeT, encN, cAr, hMa, slix LTs, slix LTi, g0, g0B, g1, g1B, g0, g0B, g1, g1B, hkc1, hkc2, g0, g0B, g1, g1B, hkc1, hkc2, hlc1, hlc2, g0, g0B, g1, g1B, hkc1, hkc2, hlc1, hlc2, hrc1, hrc2, hkL, hlL, hrL, g0, g0B, g1, g1B, hkc1, hkc2, hlc1, hlc2, hrc1, hrc2, hkL, hlL, hrL]
            apply after_some rfl; apply hQ; clear hQ Q
            apply w_cond _ rfl <;> intro hc
            ·first
             |(simp at hc; done)
             |try simp [Int.natCast_inj] at hc
              have hr1 := Around_range (n := by_) (most := 4) ⟨by omega, by omega⟩ (by decide)
              have hI1 := lit_idx V.str [] ([[112, 101, 114, 115, 111, 110], [111, 114, 100, 101, 114], [110, 111, 110, 101], []] : List Str) (Around by_ 4).toNat (by simp; omega)
              generalize ([[112, 101, 114, 115, 111, 110], [111, 114, 100, 101, 114], [110, 111, 110, 101], []] : List Str).getD (Around by_ 4).toNat [] = p1 at hI1
              simp only [List.map] at hI1
              obtain ⟨hd1, hd2⟩ := tdiv_I64 (n := by_) (k := 4) ⟨hb1, hb2⟩ (by decide)
              obtain ⟨hd3, hd4⟩ := tdiv_I64 (n := by_) (k := 20) ⟨hb1, hb2⟩ (by decide)
              have hr2 := Around_range (n := (by_.tdiv 4)) (most := 5) ⟨by omega, by omega⟩ (by decide)
              have hr3 := Around_range (n := (by_.tdiv 20)) (most := 5) ⟨by omega, by omega⟩ (by decide)
              have hr4 := Around_range (n := by_) (most := 50) ⟨by omega, by omega⟩ (by decide)
              have hI2 := lit_idx V.str [] ([[115, 105, 122, 101], [108, 111, 119], [], [105, 100], [98, 111, 114, 110]] : List Str) (Around (by_.tdiv 4) 5).toNat (by simp; omega)
              generalize ([[115, 105, 122, 101], [108, 111, 119], [], [105, 100], [98, 111, 114, 110]] : List Str).getD (Around (by_.tdiv 4) 5).toNat [] = p2 at hI2
              simp only [List.map] at hI2
              have hI3 := lit_idx V.str [] ([[104, 105, 103, 104], [], [115, 105, 122, 101], [108, 101, 102, 116], [116, 97, 103]] : List Str) (Around (by_.tdiv 20) 5).toNat (by simp; omega)
              generalize ([[104, 105, 103, 104], [], [115, 105, 122, 101], [108, 101, 102, 116], [116, 97, 103]] : List Str).getD (Around (by_.tdiv 20) 5).toNat [] = p3 at hI3
              simp only [List.map] at hI3
              have hAp := app3 (z := .mk true []) (H := (HX H [] [])) (v := rv) (x := V.sl true [[V.str [102, 117, 114, 116, 104, 101, 114], V.str p1, V.str p2, V.str p3, V.int .i64 (Around by_ 50 - 20)]]) (ys := x.rules.list) (xs := [(⟨[102, 117, 114, 116, 104, 101, 114], p1, p2, p3, Around by_ 50 - 20⟩ : RuleT)]) (m := N2) LTr eeR (.inr rfl) (MutG.hx (u := []) (r := []) hX.R (by simp)) rfl (by simp [room]; omega) (by rw [hx_len]; simp <;> omega) (hX.hr)
              obtain ⟨hA1, hA2, hA3, hA4, hA5⟩ := hAp
              have hA1' : appendV Tryz.prog (HX H [] []) _ (rv) (V.sl true [[V.str [102, 117, 114, 116, 104, 101, 114], V.str p1, V.str p2, V.str p3, V.int .i64 (Around by_ 50 - 20)]]) = _ := hA1
              have hA6 := getBlk_of (ver := 0) (hA4 0 (by omega))
              have hA7 := getW_of (ver := 0) (hA4 0 (by omega))
              obtain ⟨hA9, hA10⟩ := MutG.cells hA2
              have hA8 := hA3
              rw [hx_len] at hA8
              have hAo : ∀ bb, bb < N2 → bb ≠ 0 → ∀ c, (setBlk (apH Tryz.prog _ (HX H [] []) (rv) (V.sl true [[V.str [102, 117, 114, 116, 104, 101, 114], V.str p1, V.str p2, V.str p3, V.int .i64 (Around by_ 50 - 20)]])) 0 0 c)[bb]? = H[bb]? := fun bb h1 h2 c => by
               unfold setBlk
               rw [List.getElem?_set_ne (Ne.symm h2), hA4 bb h1, hxG (by omega) (by simp)]
              apply w_drw [4, 8] rfl rfl (by kernel_rfl) 0 rfl; intro Q hQ
              simp (disch := (first | omega | (repeat (first | exact okU_nil | refine okU1 (by omega) ?_)))) [wrap64, wrapU, leW, wrl, buildV, fillV, splice, sizeT, encN, cAr, hMa, slix LTs, slix LTi, g0, g0B, g1, g1B, g0, g0B, g1, g1B, hkc1, hkc2, g0, g0B, g1, g1B, hkc1, hkc2, hlc1, hlc2, g0, g0B, g1, g1B, hkc1, hkc2, hlc1, hlc2, hrc1, hrc2, hkL, hlL, hrL, g0, g0B, g1, g1B, hkc1, hkc2, hlc1, hlc2, hrc1, hrc2, hkL, hlL, hrL, hI1, hI2, hI3, hd1, hd2, hd3, hd4, hA1', hA6, hA7, hA9, hA10]
              apply after_some rfl; apply hQ; clear hQ Q
              repeat (with_reducible apply kblock_nrm)
              refine kcut_nrm ?_
              exact ⟨x.version, kv, lv, _, x.kinds.list, x.lives.list, x.rules.list ++ [(⟨[102, 117, 114, 116, 104, 101, 114], p1, p2, p3, Around by_ 50 - 20⟩ : RuleT)], N1, N2, hX.rule (by rw [gW_set (by omega)]) (MutG.setb hA2 fun ver => hA5 0 ver (by omega)) hA5 (fun bb h1 h2 => hAo bb h2 (by omega) _) (by rw [setBlk_len]; omega), ⟨by omega, by omega⟩, hxkl, hxll, by simp; omega, hxk3, hxl2, fun q hq => by
               rcases List.mem_append.1 hq with hq | hq
               ·exact hx.rs q hq
               ·rw [List.mem_singleton.1 hq]; exact ⟨by simp only [Sm]; omega⟩, rfl⟩
            ·first
             |(simp at hc; done)
             |try simp [Int.natCast_inj] at hc
              apply w_seq
              apply w_reg [1, 2, 3, 4, 8, 9, 190] rfl; intro Q hQ
              simp (disch := (first | omega | (repeat (first | exact okU_nil | refine okU1 (by omega) ?_)))) [wrap64, wrapU, leW, wrl, buildV, fillV, splice, sizeT, encN, cAr, hMa, slix LTs, slix LTi, g0, g0B, g1, g1B, g0, g0B, g1, g1B, hkc1, hkc2, g0, g0B, g1, g1B, hkc1, hkc2, hlc1, hlc2, g0, g0B, g1, g1B, hkc1, hkc2, hlc1, hlc2, hrc1, hrc2, hkL, hlL, hrL, g0, g0B, g1, g1B, hkc1, hkc2, hlc1, hlc2, hrc1, hrc2, hkL, hlL, hrL]
              apply after_some rfl; apply hQ; clear hQ Q
              apply w_cond _ rfl <;> intro hc
              ·first
               |(simp at hc; done)
               |try simp [Int.natCast_inj] at hc
                apply w_seq
                apply w_reg [3, 4, 8, 195] rfl; intro Q hQ
                simp (disch := (first | omega | (repeat (first | exact okU_nil | refine okU1 (by omega) ?_)))) [wrap64, wrapU, leW, wrl, buildV, fillV, splice, sizeT, encN, cAr, hMa, slix LTs, slix LTi, g0, g0B, g1, g1B, g0, g0B, g1, g1B, hkc1, hkc2, g0, g0B, g1, g1B, hkc1, hkc2, hlc1, hlc2, g0, g0B, g1, g1B, hkc1, hkc2, hlc1, hlc2, hrc1, hrc2, hkL, hlL, hrL, g0, g0B, g1, g1B, hkc1, hkc2, hlc1, hlc2, hrc1, hrc2, hkL, hlL, hrL]
                apply after_some rfl; apply hQ; clear hQ Q
                apply w_cond _ rfl <;> intro hc
                ·first
                 |(simp at hc; done)
                 |try simp [Int.natCast_inj] at hc
                  have hln : x.lives.list ≠ [] := fun h => by rw [h] at hc; simp at hc
                  obtain ⟨bl, vl, hlv0, glW, _⟩ := (show _ ∨ _ from hX.L).resolve_left (fun h => hln h.2)
                  have hbl := hX.bl hlv0
                  have hlv : PLift (lv = .ms 3 bl vl 0 x.lives.list.length false) := ⟨hlv0⟩
                  clear hlv0
                  have glB := getW_blk glW
                  have gll := getW_lt glW
                  have hlp : 0 < x.lives.list.length := List.length_pos_iff.2 hln
                  have hixl : indexAddrV Tryz.prog 31 lv 0 = some (.mp bl vl 0) := by
                   have := msix LTl (b := bl) (ver := vl) (off := 0) (full := false) (len := x.lives.list.length) (i := 0) (by omega) (by omega)
                   rw [hlv.down]; exact this
                  obtain ⟨l0, hl0⟩ : ∃ q, x.lives.list[0] = q := ⟨_, rfl⟩
                  have hlm := hxl2 l0 (by rw [← hl0]; exact List.getElem_mem hlp)
                  have hlm1 := hx.ls l0 (by rw [← hl0]; exact List.getElem_mem hlp)
                  have hT1 : 1 + 1 ≤ x.lives.list.length * 3 := by omega
                  have hT2 : 2 + 1 ≤ x.lives.list.length * 3 := by omega
                  have hT3 : 3 ≤ x.lives.list.length * 3 := by omega
                  have hT4 : 2 ≤ x.lives.list.length * 3 := by omega
                  have hD1 := blk_drop eeL (ys := x.lives.list) (j := 0) (k := 1) hlp (by decide)
                  have hD2 := blk_drop eeL (ys := x.lives.list) (j := 0) (k := 2) hlp (by decide)
                  rw [hl0, Nat.zero_mul, Nat.zero_add] at hD1 hD2
                  have hD1 : List.drop 1 (List.map eL x.lives.list).flatten = enc eS l0.states :: _ := hD1
                  have hD2 : List.drop 2 (List.map eL x.lives.list).flatten = enc eP l0.moves :: _ := hD2
                  have hr1 := Around_range (n := by_) (most := 3) ⟨by omega, by omega⟩ (by decide)
                  have hI := lit_idx V.str [] ([[109, 111, 114, 101], [110, 101, 119], [63]] : List Str) (Around by_ 3).toNat (by simp; omega)
                  generalize ([[109, 111, 114, 101], [110, 101, 119], [63]] : List Str).getD (Around by_ 3).toNat [] = pk at hI
                  simp only [List.map] at hI
                  have hmv := hlm1.states
                  obtain ⟨w1, A1, hW1, hW2, hW3, hW4, hW5⟩ : ∃ v' H', appendV Tryz.prog (HX H [] []) 38 (.sl true []) (enc eS l0.states) = some (v', H') ∧ MutG eS 1 (.mk true []) H' v' ([] ++ l0.states.list) ∧ (HX H [] []).length ≤ H'.length ∧ (∀ bb, bb < H.length → H'[bb]? = (HX H [] [])[bb]?) ∧ ∀ bb ver, bb < H.length → v' ≠ .ms 1 bb ver 0 ([] ++ l0.states.list).length false := ⟨_, _, app3 (z := .mk true []) (ys := []) LTs eeS (.inr rfl) (.inl ⟨rfl, rfl⟩) (elems_enc _) (by simp [room]; omega) (by rw [hx_len]; simp <;> omega) (fun _ _ _ h => (by cases h))⟩
                  rw [hx0 A1] at hW1
                  rw [hx_len] at hW3
                  simp only [List.nil_append, List.length_nil, Nat.add_zero] at hW2 hW3 hW5
                  obtain ⟨w2, A2, hX1, hX2, hX3, hX4, hX5⟩ : ∃ v' H', appendV Tryz.prog (HX A1 [] []) 38 w1 (.sl true [[V.str pk]]) = some (v', H') ∧ MutG eS 1 (.mk true []) H' v' (l0.states.list ++ [pk]) ∧ (HX A1 [] []).length ≤ H'.length ∧ (∀ bb, bb < H.length → H'[bb]? = (HX A1 [] [])[bb]?) ∧ ∀ bb ver, bb < H.length → v' ≠ .ms 1 bb ver 0 (l0.states.list ++ [pk]).length false := ⟨_, _, app3 (z := .mk true []) (xs := [pk]) LTs eeS (.inr rfl) (MutG.hx (u := []) (r := []) hW2 (by simp)) rfl (by simp [room]; omega) (by rw [hx_len]; simp <;> omega) hW5⟩
                  obtain ⟨A3, hF1, hF2, hF3⟩ := MutG.frzP eeS (by decide) hX2 10
                  rw [hx0 A3] at hF1
                  rw [hx_len] at hX3
                  simp only [List.length_nil, Nat.add_zero] at hX3
                  have hA12 : ∀ bb, bb < H.length → A1[bb]? = H[bb]? := fun bb h1 => (hW4 bb h1).trans (hxG h1 (by simp))
                  have hA13 : ∀ bb, bb < H.length → A3[bb]? = H[bb]? := fun bb h1 => ((hF3 bb fun ver => hX5 bb ver h1).trans ((hX4 bb h1).trans (hxG (by omega) (by simp)))).trans (hA12 bb h1)
                  have a0 : getW A1 0 0 = _ := (getW_of (hA12 0 (by omega))).trans g0
                  have a0B := getW_blk a0
                  have a0l := getW_lt a0
                  have c0 : getW A3 0 0 = _ := (getW_of (hA13 0 (by omega))).trans g0
                  have c0B := getW_blk c0
                  have c0l := getW_lt c0
                  have cl : getW A3 bl vl = _ := (getW_of (hA13 bl gll)).trans glW
                  have clB := getW_blk cl
                  have cll := getW_lt cl
                  apply w_drwW [4, 8] [(8, [1]), (15, [1])] rfl rfl rfl (by kernel_rfl) 0 rfl; intro Q hQ
                  simp (disch := (first | omega | (repeat (first | exact okU_nil | refine okU1 (by omega) ?_)))) [wrap64, wrapU, leW, wrl, buildV, fillV, splice, sizeT, encN, cAr, hMa, slix LTs, slix LTi, g0, g0B, g1, g1B, g0, g0B, g1, g1B, hkc1, hkc2, g0, g0B, g1, g1B, hkc1, hkc2, hlc1, hlc2, g0, g0B, g1, g1B, hkc1, hkc2, hlc1, hlc2, hrc1, hrc2, hkL, hlL, hrL, g0, g0B, g1, g1B, hkc1, hkc2, hlc1, hlc2, hrc1, hrc2, hkL, hlL, hrL, hI, hD1, hixl, glW, glB, hT1, hT2, hT3, hT4, flat_len eeL, hW1, hX1, hF1, a0, a0B, c0, c0B, cl, clB]
                  apply after_some rfl; apply hQ; clear hQ Q
                  repeat (with_reducible apply kblock_nrm)
                  refine kcut_nrm ?_
                  rw [show List.take 1 (List.map eL x.lives.list).flatten ++ enc eS (doneSL (SL.mk true []) (l0.states.list ++ [pk])) :: List.drop (1 + 1) (List.map eL x.lives.list).flatten = ((x.lives.list.set 0 ⟨l0.name, doneSL (SL.mk true []) (l0.states.list ++ [pk]), l0.moves⟩).map eL).flatten from by
                   have h := wr_cell eeL (ys := x.lives.list) (j := 0) (k := 1) hlp (by decide) (c := enc eS (doneSL (SL.mk true []) (l0.states.list ++ [pk]))) (a := ⟨l0.name, doneSL (SL.mk true []) (l0.states.list ++ [pk]), l0.moves⟩) (by rw [hl0]; rfl)
                   simpa using h]
                  refine ⟨x.version, kv, lv, rv, x.kinds.list, x.lives.list.set 0 ⟨l0.name, doneSL (SL.mk true []) (l0.states.list ++ [pk]), l0.moves⟩, x.rules.list, N1, N2, hX.life (G := _) hlv.down (by simp (disch := (first | omega | (repeat (first | exact okU_nil | refine okU1 (by omega) ?_))))) hln (fun bb h1 h2 => (hxG (by omega) (by simp; omega)).trans (hA13 bb h2)) (by rw [hx_len]; omega), ⟨by omega, by omega⟩, hxkl, by rw [List.length_set]; exact hxll, hxrl, hxk3, fun q hq => ?_, hx.rs, rfl⟩
                  have hdl : (doneSL (SL.mk true []) (l0.states.list ++ [pk])).list = l0.states.list ++ [pk] := by unfold doneSL; rw [if_neg (by simp)]; rfl
                  rcases List.mem_or_eq_of_mem_set hq with hq | rfl
                  ·exact hxl2 q hq
                  ·exact ⟨by rw [hdl]; have := hlm1.states; simp; omega, hlm.moves, hlm.ok⟩
                ·first
                 |(simp at hc; done)
                 |try simp [Int.natCast_inj] at hc
                  apply w_keep [4, 8] rfl; apply w_skip
                  repeat (with_reducible apply kblock_nrm)
                  refine kcut_nrm ?_
                  exact ⟨x.version, kv, lv, rv, x.kinds.list, x.lives.list, x.rules.list, N1, N2, hX.keep (fun bb h1 h2 => hxG h2 (by simp)) (by rw [hx_len]; omega) (by simp (disch := (first | omega | (repeat (first | exact okU_nil | refine okU1 (by omega) ?_)))) [g0]), ⟨by omega, by omega⟩, hxkl, hxll, hxrl, hxk3, hxl2, hx.rs, rfl⟩
              ·first
               |(simp at hc; done)
               |try simp [Int.natCast_inj] at hc
                apply w_seq
                apply w_reg [1, 2, 3, 4, 8, 9, 38] rfl; intro Q hQ
                simp (disch := (first | omega | (repeat (first | exact okU_nil | refine okU1 (by omega) ?_)))) [wrap64, wrapU, leW, wrl, buildV, fillV, splice, sizeT, encN, cAr, hMa, slix LTs, slix LTi, g0, g0B, g1, g1B, g0, g0B, g1, g1B, hkc1, hkc2, g0, g0B, g1, g1B, hkc1, hkc2, hlc1, hlc2, g0, g0B, g1, g1B, hkc1, hkc2, hlc1, hlc2, hrc1, hrc2, hkL, hlL, hrL, g0, g0B, g1, g1B, hkc1, hkc2, hlc1, hlc2, hrc1, hrc2, hkL, hlL, hrL]
                apply after_some rfl; apply hQ; clear hQ Q
                apply w_cond _ rfl <;> intro hc
                ·first
                 |(simp at hc; done)
                 |try simp [Int.natCast_inj] at hc
                  refine w_cut (fun al H => ∃ (fv : V) (fs : List FieldT) (N3 : Nat), XB H x.version kv lv rv x.kinds.list x.lives.list x.rules.list N1 N2 ∧ LF H N3 fv fs ∧ (∀ f ∈ fs, okF f) ∧ fs.length ≤ 24 ∧ N3 ≤ H.length ∧ (∀ b v, rv = .ms 5 b v 0 x.rules.list.length false → b < N3) ∧ N2 ≤ N3 ∧ al = [(1, .int .i64 at_), (2, .int .i64 how), (3, .int .i64 by_), (4, .mp 0 0 0), (8, .mp 1 0 0), (9, .int .i64 k), (10, fv)]) ?_ ?_
                  ·skip
                   have hkl : k < (x.kinds.list.length : Int) := by first | exact hc | simpa using hc
                   have hkn : x.kinds.list ≠ [] := fun h => by rw [h] at hkl; simp at hkl; omega
                   obtain ⟨bk, vk, hkv0, gkW, _⟩ := (show _ ∨ _ from hX.K).resolve_left (fun h => hkn h.2)
                   have hbk := hX.bk hkv0
                   have hkv : PLift (kv = .ms 4 bk vk 0 x.kinds.list.length false) := ⟨hkv0⟩
                   clear hkv0
                   have gkB := getW_blk gkW
                   have gkl := getW_lt gkW
                   obtain ⟨K, hK⟩ : ∃ K : Nat, (K : Int) = k := ⟨k.toNat, by omega⟩
                   have hKe : k.toNat = K := by omega
                   have hKl : K < x.kinds.list.length := by omega
                   have hixk : indexAddrV Tryz.prog 30 kv k = some (.mp bk vk (K * 4)) := by
                    have := msix LTk (b := bk) (ver := vk) (off := 0) (full := false) (len := x.kinds.list.length) (i := k) hk0 hkl
                    rw [hKe, Nat.zero_add] at this
                    rw [hkv.down]; exact this
                   obtain ⟨qk, hqk⟩ : ∃ q, x.kinds.list[K] = q := ⟨_, rfl⟩
                   have hqm := hxk3 qk (by rw [← hqk]; exact List.getElem_mem hKl)
                   have hqm2 := hx.ks qk (by rw [← hqk]; exact List.getElem_mem hKl)
                   have hT0 : K * 4 + 1 ≤ x.kinds.list.length * 4 := by omega
                   have hT1 : K * 4 + 1 + 1 ≤ x.kinds.list.length * 4 := by omega
                   have hT2 : K * 4 + 2 + 1 ≤ x.kinds.list.length * 4 := by omega
                   have hT3 : K * 4 + 3 + 1 ≤ x.kinds.list.length * 4 := by omega
                   have hDk := blk_drop eeK (ys := x.kinds.list) (j := K) (k := 3) hKl (by decide)
                   rw [hqk] at hDk
                   have hDk : List.drop (K * 4 + 3) (List.map eK x.kinds.list).flatten = enc eF qk.fields :: _ := hDk
                   have hfl0 := hqm2.len
                   obtain ⟨w1, A1, hW1, hW2, hW3, hW4, hW5⟩ : ∃ v' H', appendV Tryz.prog (HX H [] []) 45 (.sl true []) (enc eF qk.fields) = some (v', H') ∧ MutG eF 8 (.mk true []) H' v' ([] ++ qk.fields.list) ∧ (HX H [] []).length ≤ H'.length ∧ (∀ bb, bb < H.length → H'[bb]? = (HX H [] [])[bb]?) ∧ ∀ bb ver, bb < H.length → v' ≠ .ms 8 bb ver 0 ([] ++ qk.fields.list).length false := ⟨_, _, app3 (z := .mk true []) (ys := []) LTf eeF (.inr rfl) (.inl ⟨rfl, rfl⟩) (elems_enc _) (by simp [room]; omega) (by rw [hx_len]; simp <;> omega) (fun _ _ _ h => (by cases h))⟩
                   rw [hx0 A1] at hW1
                   rw [hx_len] at hW3
                   simp only [List.nil_append, List.length_nil, Nat.add_zero] at hW2 hW3 hW5
                   have hA12 : ∀ bb, bb < H.length → A1[bb]? = H[bb]? := fun bb h1 => (hW4 bb h1).trans (hxG h1 (by simp))
                   have a0 : getW A1 0 0 = _ := (getW_of (hA12 0 (by omega))).trans g0
                   have a0B := getW_blk a0
                   have a0l := getW_lt a0
                   have ak : getW A1 bk vk = _ := (getW_of (hA12 bk gkl)).trans gkW
                   apply w_reg [1, 2, 3, 4, 8, 9, 10] rfl; intro Q hQ
                   simp (disch := (first | omega | (repeat (first | exact okU_nil | refine okU1 (by omega) ?_)))) [wrap64, wrapU, leW, wrl, buildV, fillV, splice, sizeT, encN, cAr, hMa, slix LTs, slix LTi, g0, g0B, g1, g1B, g0, g0B, g1, g1B, hkc1, hkc2, g0, g0B, g1, g1B, hkc1, hkc2, hlc1, hlc2, g0, g0B, g1, g1B, hkc1, hkc2, hlc1, hlc2, hrc1, hrc2, hkL, hlL, hrL, g0, g0B, g1, g1B, hkc1, hkc2, hlc1, hlc2, hrc1, hrc2, hkL, hlL, hrL, hixk, gkW, gkB, hT0, hT1, hT2, hT3, flat_len eeK, hDk, hW1, a0, a0B]
                   apply after_some rfl; apply hQ; clear hQ Q
                   repeat (with_reducible apply kblock_nrm)
                   refine kcut_nrm ?_
                   refine ⟨w1, qk.fields.list, H.length, hX.keep (fun bb h1 h2 => (hxG (by omega) (by simp)).trans (hA12 bb h2)) (by rw [hx_len]; omega) (by simp (disch := (first | omega | (repeat (first | exact okU_nil | refine okU1 (by omega) ?_)))) [a0]), LF.of (H := A1) ?_ (fun b h1 h2 => hxG h2 (by simp)), hqm2.ok, hqm2.len, by rw [hx_len]; omega, fun b v hq => (hX.br hq).2, o3, rfl⟩
                   rcases hW2 with ⟨h1, h2⟩ | ⟨b, ver, h1, h2, h3⟩
                   ·exact .inl ⟨h1, h2⟩
                   ·refine .inr ⟨b, ver, false, qk.fields.list, h1, h2, by simp, Nat.le_refl _, ?_⟩
                    rcases Nat.lt_or_ge b H.length with h4 | h4
                    ·exact absurd h1 (hW5 b ver h4)
                    ·exact h4
                  rintro al H ⟨fv, fs, N3, hX, hF, hFk, hFl, hN3, hrN3, hN23, rfl⟩
                  have g0 := hX.g0
                  have g1 := hX.g1
                  have g0B := getW_blk g0
                  have g1B := getW_blk g1
                  have g0l := getW_lt g0
                  have g1l := getW_lt g1
                  obtain ⟨hkc1, hkc2⟩ := MutG.cells hX.K
                  obtain ⟨hlc1, hlc2⟩ := MutG.cells hX.L
                  obtain ⟨hrc1, hrc2⟩ := MutG.cells hX.R
                  have hkL : lenV Tryz.prog 30 kv = _ := MutG.lenZ LTk hX.K
                  have hlL : lenV Tryz.prog 31 lv = _ := MutG.lenZ LTl hX.L
                  have hrL : lenV Tryz.prog 32 rv = _ := MutG.lenZ LTr hX.R
                  obtain ⟨o1, o2, o3⟩ := hX.o
                  have hfL : lenV Tryz.prog 45 fv = some fs.length := LF.len hF
                  rw [hx0 H]
                  apply w_seq
                  obtain ⟨hd1, hd2⟩ := tdiv_I64 (n := at_) (k := 3) ⟨ha1, ha2⟩ (by decide)
                  have hj0 := Around_ge (n := at_.tdiv 3) (most := (fs.length : Int)) ⟨hd1, hd2⟩
                  obtain ⟨jj, hje⟩ : ∃ i, Around (at_.tdiv 3) (fs.length : Int) = i := ⟨_, rfl⟩
                  rw [hje] at hj0
                  apply w_reg [2, 3, 4, 8, 9, 10, 11] rfl; intro Q hQ
                  simp (disch := (first | omega | (repeat (first | exact okU_nil | refine okU1 (by omega) ?_)))) [wrap64, wrapU, leW, wrl, buildV, fillV, splice, sizeT, encN, cAr, hMa, slix LTs, slix LTi, g0, g0B, g1, g1B, g0, g0B, g1, g1B, hkc1, hkc2, g0, g0B, g1, g1B, hkc1, hkc2, hlc1, hlc2, g0, g0B, g1, g1B, hkc1, hkc2, hlc1, hlc2, hrc1, hrc2, hkL, hlL, hrL, g0, g0B, g1, g1B, hkc1, hkc2, hlc1, hlc2, hrc1, hrc2, hkL, hlL, hrL, g0, g0B, g1, g1B, hkc1, hkc2, hlc1, hlc2, hrc1, hrc2, hkL, hlL, hrL, hfL, hd1, hd2, hje]
                  apply after_some rfl; apply hQ; clear hQ Q
                  refine w_cut (fun al H => ∃ (fv : V) (fs : List FieldT) (N3 : Nat), XB H x.version kv lv rv x.kinds.list x.lives.list x.rules.list N1 N2 ∧ LF H N3 fv fs ∧ (∀ f ∈ fs, okF2 f) ∧ fs.length ≤ 24 ∧ N3 ≤ H.length ∧ (∀ b v, rv = .ms 5 b v 0 x.rules.list.length false → b < N3) ∧ N2 ≤ N3 ∧ al = [(4, .mp 0 0 0), (8, .mp 1 0 0), (9, .int .i64 k), (10, fv)]) ?_ ?_
                  ·skip
                   apply w_seq
                   apply w_reg [2, 3, 4, 8, 9, 10, 11, 55] rfl; intro Q hQ
                   simp (disch := (first | omega | (repeat (first | exact okU_nil | refine okU1 (by omega) ?_)))) [wrap64, wrapU, leW, wrl, buildV, fillV, splice, sizeT, encN, cAr, hMa, slix LTs, slix LTi, g0, g0B, g1, g1B, g0, g0B, g1, g1B, hkc1, hkc2, g0, g0B, g1, g1B, hkc1, hkc2, hlc1, hlc2, g0, g0B, g1, g1B, hkc1, hkc2, hlc1, hlc2, hrc1, hrc2, hkL, hlL, hrL, g0, g0B, g1, g1B, hkc1, hkc2, hlc1, hlc2, hrc1, hrc2, hkL, hlL, hrL, g0, g0B, g1, g1B, hkc1, hkc2, hlc1, hlc2, hrc1, hrc2, hkL, hlL, hrL, hfL, hd1, hd2, hje]
                   apply after_some rfl; apply hQ; clear hQ Q
                   apply w_cond _ rfl <;> intro hc
                   ·first
                    |(simp at hc; done)
                    |try simp [Int.natCast_inj] at hc
                     have hjl : jj < (fs.length : Int) := by first | exact hc | simpa using hc
                     have hfne : fs ≠ [] := fun h => by rw [h] at hjl; simp at hjl; omega
                     obtain ⟨bl, vl, full, ys, hfv0, glW, hyt, hyl, hbl2⟩ := (show _ ∨ _ from hF).resolve_left (fun h => hfne h.2)
                     have hfv : PLift (fv = .ms 8 bl vl 0 fs.length full) := ⟨hfv0⟩
                     clear hfv0
                     have glB := getW_blk glW
                     have gll := getW_lt glW
                     obtain ⟨J, hJ⟩ : ∃ J : Nat, (J : Int) = jj := ⟨jj.toNat, by omega⟩
                     have hJe : jj.toNat = J := by omega
                     have hJl : J < fs.length := by omega
                     have hJy : J < ys.length := by omega
                     obtain ⟨fj, hfje⟩ : ∃ f, fs[J] = f := ⟨_, rfl⟩
                     have hyJ : ys[J] = fj := by
                      rw [← hfje]
                      have : (ys.take fs.length)[J]'(by rw [hyt]; exact hJl) = fs[J] := by simp only [hyt]
                      rw [← this, List.getElem_take]
                     have hfj := hFk fj (by rw [← hfje]; exact List.getElem_mem hJl)
                     have hixj : indexAddrV Tryz.prog 45 fv jj = some (.mp bl vl (J * 8)) := by
                      have := msix LTf (b := bl) (ver := vl) (off := 0) (full := full) (len := fs.length) (i := jj) (by omega) hjl
                      rw [hJe, Nat.zero_add] at this
                      rw [hfv.down]; exact this
                     have hDj := blk_drop eeF (ys := ys) (j := J) (k := 0) hJy (by decide)
                     rw [hyJ] at hDj
                     simp only [Nat.add_zero, List.drop_zero] at hDj
                     have hT8 : J * 8 + 8 ≤ ys.length * 8 := by omega
                     obtain ⟨hd3, hd4⟩ := tdiv_I64 (n := how) (k := 8) ⟨hh1, hh2⟩ (by decide)
                     obtain ⟨fg, hfg, hcall⟩ := cSpoiltField hfj (how := how.tdiv 8) (by_ := by_) ⟨hd3, hd4⟩ ⟨hb1, hb2⟩
                     have hrvn : ∀ b v, rv = .ms 5 b v 0 x.rules.list.length false → b ≠ bl := fun b v hq => by have := hrN3 b v hq; omega
                     apply w_reg [4, 8, 9, 10] rfl; intro Q hQ
                     simp (disch := (first | omega | (repeat (first | exact okU_nil | refine okU1 (by omega) ?_)))) [wrap64, wrapU, leW, wrl, buildV, fillV, splice, sizeT, encN, cAr, hMa, slix LTs, slix LTi, g0, g0B, g1, g1B, g0, g0B, g1, g1B, hkc1, hkc2, g0, g0B, g1, g1B, hkc1, hkc2, hlc1, hlc2, g0, g0B, g1, g1B, hkc1, hkc2, hlc1, hlc2, hrc1, hrc2, hkL, hlL, hrL, g0, g0B, g1, g1B, hkc1, hkc2, hlc1, hlc2, hrc1, hrc2, hkL, hlL, hrL, g0, g0B, g1, g1B, hkc1, hkc2, hlc1, hlc2, hrc1, hrc2, hkL, hlL, hrL, hfL, hd1, hd2, hje, hixj, hDj, hT8, glW, glB, flat_len eeF, take_eF, hd3, hd4, hcall]
                     apply after_some rfl; apply hQ; clear hQ Q
                     repeat (with_reducible apply kblock_nrm)
                     refine kcut_nrm ?_
                     rw [show List.take (J * 8) (List.map eF ys).flatten ++ (eF fg ++ List.drop (J * 8 + 8) (List.map eF ys).flatten) = ((ys.set J fg).map eF).flatten from wr_elem eeF hJy fg]
                     refine ⟨fv, fs.set J fg, N3, ⟨by simp (disch := (first | omega | (repeat (first | exact okU_nil | refine okU1 (by omega) ?_)))) [g0], by simp (disch := (first | omega | (repeat (first | exact okU_nil | refine okU1 (by omega) ?_)))) [g1], MutG.of hX.K fun b v hq => hxG (by have := hX.bk hq; omega) (by simp; have := hX.bk hq; omega), MutG.of hX.L fun b v hq => hxG (by have := hX.bl hq; omega) (by simp; have := hX.bl hq; omega), MutG.of hX.R fun b v hq => hxG (hX.br hq).2 (by simp; exact fun h => hrvn b v hq h.symm), hX.hk, hX.hl, hX.hr, o1, o2, by rw [hx_len]; omega⟩, LF.set hfv.down (by simp (disch := (first | omega | (repeat (first | exact okU_nil | refine okU1 (by omega) ?_))))) hyt hyl hbl2, fun f hf => ?_, by rw [List.length_set]; exact hFl, by rw [hx_len]; omega, hrN3, hN23, rfl⟩
                     rcases List.mem_or_eq_of_mem_set hf with hf | rfl
                     ·exact (hFk f hf).two
                     ·exact hfg
                   ·first
                    |(simp at hc; done)
                    |try simp [Int.natCast_inj] at hc
                     apply w_keep [4, 8, 9, 10] rfl; apply w_skip
                     repeat (with_reducible apply kblock_nrm)
                     refine kcut_nrm ?_
                     exact ⟨fv, fs, N3, hX.keep (fun bb h1 h2 => hxG h2 (by simp)) (by rw [hx_len]; omega) (by simp (disch := (first | omega | (repeat (first | exact okU_nil | refine okU1 (by omega) ?_)))) [g0]), LF.of hF (fun b h1 h2 => hxG h2 (by simp)), fun f hf => (hFk f hf).two, hFl, by rw [hx_len]; omega, hrN3, hN23, rfl⟩
                  rintro al H ⟨fv, fs, N3, hX, hF, hFk, hFl, hN3, hrN3, hN23, rfl⟩
                  have g0 := hX.g0
                  have g1 := hX.g1
                  have g0B := getW_blk g0
                  have g1B := getW_blk g1
                  have g0l := getW_lt g0
                  have g1l := getW_lt g1
                  obtain ⟨hkc1, hkc2⟩ := MutG.cells hX.K
                  obtain ⟨hlc1, hlc2⟩ := MutG.cells hX.L
                  obtain ⟨hrc1, hrc2⟩ := MutG.cells hX.R
                  have hkL : lenV Tryz.prog 30 kv = _ := MutG.lenZ LTk hX.K
                  have hlL : lenV Tryz.prog 31 lv = _ := MutG.lenZ LTl hX.L
                  have hrL : lenV Tryz.prog 32 rv = _ := MutG.lenZ LTr hX.R
                  obtain ⟨o1, o2, o3⟩ := hX.o
                  have hfL : lenV Tryz.prog 45 fv = some fs.length := LF.len hF
                  have hkl : k < (x.kinds.list.length : Int) := by first | exact hc | simpa using hc
                  have hkn : x.kinds.list ≠ [] := fun h => by rw [h] at hkl; simp at hkl; omega
                  obtain ⟨bk, vk, hkv0, gkW, _⟩ := (show _ ∨ _ from hX.K).resolve_left (fun h => hkn h.2)
                  have hbk := hX.bk hkv0
                  have hkv : PLift (kv = .ms 4 bk vk 0 x.kinds.list.length false) := ⟨hkv0⟩
                  clear hkv0
                  have gkB := getW_blk gkW
                  have gkl := getW_lt gkW
                  obtain ⟨K, hK⟩ : ∃ K : Nat, (K : Int) = k := ⟨k.toNat, by omega⟩
                  have hKe : k.toNat = K := by omega
                  have hKl : K < x.kinds.list.length := by omega
                  have hixk : indexAddrV Tryz.prog 30 kv k = some (.mp bk vk (K * 4)) := by
                   have := msix LTk (b := bk) (ver := vk) (off := 0) (full := false) (len := x.kinds.list.length) (i := k) hk0 hkl
                   rw [hKe, Nat.zero_add] at this
                   rw [hkv.down]; exact this
                  obtain ⟨qk, hqk⟩ : ∃ q, x.kinds.list[K] = q := ⟨_, rfl⟩
                  have hqm := hxk3 qk (by rw [← hqk]; exact List.getElem_mem hKl)
                  have hqm2 := hx.ks qk (by rw [← hqk]; exact List.getElem_mem hKl)
                  have hT0 : K * 4 + 1 ≤ x.kinds.list.length * 4 := by omega
                  have hT1 : K * 4 + 1 + 1 ≤ x.kinds.list.length * 4 := by omega
                  have hT2 : K * 4 + 2 + 1 ≤ x.kinds.list.length * 4 := by omega
                  have hT3 : K * 4 + 3 + 1 ≤ x.kinds.list.length * 4 := by omega
                  have hDk := blk_drop eeK (ys := x.kinds.list) (j := K) (k := 3) hKl (by decide)
                  rw [hqk] at hDk
                  have hDk : List.drop (K * 4 + 3) (List.map eK x.kinds.list).flatten = enc eF qk.fields :: _ := hDk
                  obtain ⟨s, H1, hs1, hfz, hH1l, hH1⟩ := LF.frz hF
                  have hlN : ∀ b ver full, fv = .ms 8 b ver 0 fs.length full → N3 ≤ b := fun b ver full hq => by
                   rcases hF with ⟨h1, h2⟩ | ⟨b', _, _, _, h1, _, _, _, h5⟩
                   ·rw [h1] at hq; cases hq
                   ·rw [h1] at hq; injection hq with _ h; omega
                  have hP1 : ∀ bb, bb < N3 → H1[bb]? = H[bb]? := fun bb h1 => hH1 bb fun ver full hq => by have := hlN bb ver full hq; omega
                  rw [hx0 H1] at hfz
                  have f0 : getW H1 0 0 = _ := (getW_of (hP1 0 (by omega))).trans g0
                  have f0B := getW_blk f0
                  have f0l := getW_lt f0
                  have fk : getW H1 bk vk = _ := (getW_of (hP1 bk (by omega))).trans gkW
                  have fkB := getW_blk fk
                  have fkl := getW_lt fk
                  refine w_regF [4, 8] 10 rfl rfl hfz (by decide) ?_; intro Q hQ
                  simp (disch := (first | omega | (repeat (first | exact okU_nil | refine okU1 (by omega) ?_)))) [wrap64, wrapU, leW, wrl, buildV, fillV, splice, sizeT, encN, cAr, hMa, slix LTs, slix LTi, g0, g0B, g1, g1B, g0, g0B, g1, g1B, hkc1, hkc2, g0, g0B, g1, g1B, hkc1, hkc2, hlc1, hlc2, g0, g0B, g1, g1B, hkc1, hkc2, hlc1, hlc2, hrc1, hrc2, hkL, hlL, hrL, g0, g0B, g1, g1B, hkc1, hkc2, hlc1, hlc2, hrc1, hrc2, hkL, hlL, hrL, g0, g0B, g1, g1B, hkc1, hkc2, hlc1, hlc2, hrc1, hrc2, hkL, hlL, hrL, hfL, hd1, hd2, hje, g0, g0B, g1, g1B, hkc1, hkc2, hlc1, hlc2, hrc1, hrc2, hkL, hlL, hrL, hfL, f0, f0B, fk, fkB, hixk, hT3, flat_len eeK]
                  apply after_some rfl; apply hQ; clear hQ Q
                  repeat (with_reducible apply kblock_nrm)
                  refine kcut_nrm ?_
                  rw [show List.take (K * 4 + 3) (List.map eK x.kinds.list).flatten ++ enc eF s :: List.drop (K * 4 + 3 + 1) (List.map eK x.kinds.list).flatten = ((x.kinds.list.set K ⟨qk.name, qk.lo, qk.hi, s⟩).map eK).flatten from wr_cell eeK (k := 3) hKl (by decide) (by rw [hqk]; rfl)]
                  refine ⟨x.version, kv, lv, rv, x.kinds.list.set K ⟨qk.name, qk.lo, qk.hi, s⟩, x.lives.list, x.rules.list, N1, N2, hX.kind2 hkv.down (by simp (disch := (first | omega | (repeat (first | exact okU_nil | refine okU1 (by omega) ?_))))) hkn (fun bb h1 h2 => (hxG (by omega) (by simp; omega)).trans (hP1 bb (by omega))) (fun bb v hq => (hxG (by have := hrN3 bb v hq; omega) (by simp; have := hX.br hq; omega)).trans (hP1 bb (hrN3 bb v hq))) (by rw [hx_len]; omega), ⟨by omega, by omega⟩, by rw [List.length_set]; exact hxkl, hxll, hxrl, fun q hq => ?_, hxl2, hx.rs, rfl⟩
                  rcases List.mem_or_eq_of_mem_set hq with hq | rfl
                  ·exact hxk3 q hq
                  ·exact ⟨hqm.lo, hqm.hi, by rw [hs1]; omega, fun f hf => hFk f (by rw [hs1] at hf; exact hf)⟩
                ·first
                 |(simp at hc; done)
                 |try simp [Int.natCast_inj] at hc
                  apply w_keep [4, 8] rfl; apply w_skip
                  repeat (with_reducible apply kblock_nrm)
                  refine kcut_nrm ?_
                  exact ⟨x.version, kv, lv, rv, x.kinds.list, x.lives.list, x.rules.list, N1, N2, hX.keep (fun bb h1 h2 => hxG h2 (by simp)) (by rw [hx_len]; omega) (by simp (disch := (first | omega | (repeat (first | exact okU_nil | refine okU1 (by omega) ?_)))) [g0]), ⟨by omega, by omega⟩, hxkl, hxll, hxrl, hxk3, hxl2, hx.rs, rfl⟩
 rintro al H ⟨ver, kv, lv, rv, ks, ls, rs, N1, N2, hX, hver, hkl, hll, hrl, hkk, hlk, hrk, rfl⟩
 have g0 := hX.g0
 have g1 := hX.g1
 have g0B := getW_blk g0
 have g1B := getW_blk g1
 have g0l := getW_lt g0
 have g1l := getW_lt g1
 obtain ⟨hkc1, hkc2⟩ := MutG.cells hX.K
 obtain ⟨hlc1, hlc2⟩ := MutG.cells hX.L
 obtain ⟨hrc1, hrc2⟩ := MutG.cells hX.R
 have hkL : lenV Tryz.prog 30 kv = _ := MutG.lenZ LTk hX.K
 have hlL : lenV Tryz.prog 31 lv = _ := MutG.lenZ LTl hX.L
 have hrL : lenV Tryz.prog 32 rv = _ := MutG.lenZ LTr hX.R
 obtain ⟨o1, o2, o3⟩ := hX.o
 rw [hx0 H]
 apply w_seq
 apply w_reg [8] rfl; intro Q hQ
 simp (disch := (first | omega | (repeat (first | exact okU_nil | refine okU1 (by omega) ?_)))) [wrap64, wrapU, leW, wrl, buildV, fillV, splice, sizeT, encN, cAr, hMa, slix LTs, slix LTi, g0, g0B, g1, g1B, g0, g0B, g1, g1B, hkc1, hkc2, g0, g0B, g1, g1B, hkc1, hkc2, hlc1, hlc2, g0, g0B, g1, g1B, hkc1, hkc2, hlc1, hlc2, hrc1, hrc2, hkL, hlL, hrL, g0, g0B, g1, g1B, hkc1, hkc2, hlc1, hlc2, hrc1, hrc2, hkL, hlL, hrL, g0, g0B, g1, g1B, hkc1, hkc2, hlc1, hlc2, hrc1, hrc2, hkL, hlL, hrL]
 apply after_some rfl; apply hQ; clear hQ Q
 apply w_ret
 repeat (with_reducible (first | apply kseq_ret | apply kloop_ret | apply kcut_ret | apply kblock_ret))
 generalize hG : HX H [(1, 0, [V.int .i64 ver, kv, lv, rv])] [] = G
 have hGk : ∀ bb, 2 ≤ bb → bb < H.length → G[bb]? = H[bb]? := fun bb h1 h2 => by rw [← hG]; exact hxG h2 (by simp; omega)
 obtain ⟨G1, hf1, _, hf1'⟩ := MutG.frzP eeK (by decide) (MutG.of hX.K fun b v hq => hGk b (by have := hX.bk hq; omega) (by have := hX.bk hq; omega)) 9
 obtain ⟨G2, hf2, _, hf2'⟩ := MutG.frzP (H := G1) eeL (by decide) (MutG.of hX.L fun b v hq => (hf1' b fun ver => hX.hk b ver (.inr (by have := hX.bl hq; omega))).trans (hGk b (by have := hX.bl hq; omega) (by have := hX.bl hq; omega))) 9
 obtain ⟨G3, hf3, _, _⟩ := MutG.frzP (H := G2) eeR (by decide) (MutG.of hX.R fun b v hq => ((hf2' b fun ver => hX.hl b ver (.inr (hX.br hq).1)).trans (hf1' b fun ver => hX.hk b ver (.inr (by have := hX.br hq; omega)))).trans (hGk b (by have := hX.br hq; omega) (hX.br hq).2)) 9
 obtain ⟨G4, hf4⟩ := frz_schemaL (ver := ver) hf1 hf2 hf3
 refine ⟨rfl, .agg [.int .i64 ver, kv, lv, rv], (resultsA_eq (rs := [.cell 8 34]) rfl).trans ?_, _, G4, hf4, ?_⟩
 ·rw [← hG]
  simp (disch := (first | omega | (repeat (first | exact okU_nil | refine okU1 (by omega) ?_)))) [resultsB, resultA]
 ·have d1 : (doneSL (SL.mk true []) ks).list = ks := by unfold doneSL; split <;> simp_all [SL.list]
  have d2 : (doneSL (SL.mk true []) ls).list = ls := by unfold doneSL; split <;> simp_all [SL.list]
  have d3 : (doneSL (SL.mk true []) rs).list = rs := by unfold doneSL; split <;> simp_all [SL.list]
  exact ⟨hver, by rw [d1]; omega, by rw [d2]; omega, by rw [d3]; omega, fun k hk => hkk k (by rw [d1] at hk; exact hk), fun k hk => hlk k (by rw [d2] at hk; exact hk), fun k hk => hrk k (by rw [d3] at hk; exact hk)⟩

end Go.Ae.Zd

set_option maxRecDepth 20000
set_option maxHeartbeats 4000000
namespace Go.Ae.Zd
open Go.Proofs

theorem cSpoilt {x : SchemaT} (hx : okY 10 x) {at_ how by_ : Int} (ha : I64 at_) (hh : I64 how) (hb : I64 by_) : ∃ y : SchemaT, okZ y ∧ ∀ H, call LE 31 [.agg (eX x), .int .i64 at_, .int .i64 how, .int .i64 by_] H = some (.agg (eX y), H) := by
 obtain ⟨v, H1, h1, y, H2, h2, h3⟩ := cSpoilt0 hx ha hh hb
 exact ⟨y, h3, fun H => call_pure rfl (.inr rfl) (by simp [V.pure, V.pureL, eeX.pure]) ⟨v, H1, H2, h1, h2, eeX.pure y, fun h => by cases h⟩ H⟩
theorem okY.mono {r r' : Nat} {x : SchemaT} (h : okY r x) (hr : r ≤ r') : okY r' x := ⟨h.ver, h.kl, h.ll, by have := h.rl; omega, h.ks, h.ls, h.rs⟩
def zX : SchemaT := ⟨0, .nil, .nil, .nil⟩
theorem zX_ok : okZ zX := ⟨⟨(by decide), (by decide)⟩, by decide, by decide, by decide, fun k hk => (by cases hk), fun k hk => (by cases hk), fun k hk => (by cases hk)⟩

/-- diorama/dioramalaw10.some -/
theorem rSome {s : SL Int} {x one two sp : SchemaT} (h22 : ∀ H, call LE 22 [enc eI s] H = some (.agg (eX x), H)) {at_ how by_ : Int} (ha : I64 at_) (hh : I64 how) (hb : I64 by_) (h30 : ∀ H, call LE 30 [.agg (eX x), .int .i64 at_, .int .i64 how, .int .i64 by_] H = some (.agg (eX one), H)) (h30b : ∀ H, call LE 30 [.agg (eX one), .int .i64 by_, .int .i64 (how.tdiv 9), .int .i64 at_] H = some (.agg (eX two), H)) (h31 : ∀ H, call LE 31 [.agg (eX x), .int .i64 at_, .int .i64 how, .int .i64 by_] H = some (.agg (eX sp), H)) : Runs LE 7 [enc eI s, .int .i64 at_, .int .i64 how, .int .i64 by_] (enc eX (.mk true [x, one, two, sp, zX])) := by
 have hd := tdiv_I64 hh (k := 9) (by decide)
 obtain ⟨hd1, hd2⟩ := hd
 simp only [eX] at h22 h30 h30b h31
 refine runs_W (m := 33) Tryz.func7 rfl rfl (Nat.le_of_ble_eq_true rfl) ?_
 simp only [alOf]
 apply w_seq
 apply w_reg [0, 1, 2, 3] rfl; intro Q hQ
 simp (disch := omega) [wrap64, wrapU, leW, wrl, buildV, fillV, splice, h22, h30, h30b, h31, V.pure, V.pureL, plX, eeX.pure, eX, enc_pure eeK, enc_pure eeL, enc_pure eeR, no_buildSlice, chunk]
 apply after_some rfl; apply hQ; clear hQ Q
 apply w_seq
 apply w_reg [1, 2, 3, 9] rfl; intro Q hQ
 simp (disch := omega) [wrap64, wrapU, leW, wrl, buildV, fillV, splice, h22, h30, h30b, h31, V.pure, V.pureL, plX, eeX.pure, eX, enc_pure eeK, enc_pure eeL, enc_pure eeR, no_buildSlice, chunk]
 apply after_some rfl; apply hQ; clear hQ Q
 apply w_seq
 apply w_reg [1, 2, 3, 9, 10] rfl; intro Q hQ
 simp (disch := omega) [wrap64, wrapU, leW, wrl, buildV, fillV, splice, h22, h30, h30b, h31, V.pure, V.pureL, plX, eeX.pure, eX, enc_pure eeK, enc_pure eeL, enc_pure eeR, no_buildSlice, chunk]
 apply after_some rfl; apply hQ; clear hQ Q
 apply w_seq
 apply w_drw [8] rfl rfl (by kernel_rfl) 0 rfl; intro Q hQ
 simp (disch := omega) [wrap64, wrapU, leW, wrl, buildV, fillV, splice, h22, h30, h30b, h31, V.pure, V.pureL, plX, eeX.pure, eX, enc_pure eeK, enc_pure eeL, enc_pure eeR, no_buildSlice, chunk]
 apply after_some rfl; apply hQ; clear hQ Q
 apply w_ret
 repeat (with_reducible (first | apply kseq_ret | apply kloop_ret | apply kcut_ret | apply kblock_ret))
 apply fin_pure rfl
 ·simp only [enc, eX, zX, List.map_cons, List.map_nil]
 ·exact enc_pure eeX _

end Go.Ae.Zd
