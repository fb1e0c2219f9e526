/-
  The examples of the typing laws hold: run by the kernel.
-/
import Derived.Test.YtplhjndcokidfaaGreatDoorLb
import Derived.Test.YtplhjndcokidfaaGreatDoorLc
import Derived.Test.YtplhjndcokidfaaGreatDoorLd
import Derived.Test.YtplhjndcokidfaaGreatDoorZ6
import Derived.Test.YtplhjndcokidfaaGreatDoorA6
import Derived.Test.YtplhjndcokidfaaGreatDoorRows
set_option linter.unusedVariables false
set_option linter.unusedSimpArgs false
set_option maxRecDepth 20000
set_option maxHeartbeats 4000000
namespace Go.Ae.Zd
open Go.Proofs

theorem call_kern {n f : Nat} {args : List V} {v : V} (hm : LE.mode f = .snap ∨ LE.mode f = .mv) (hp : V.pureL args = true) (h : acall LE n f args [] = some (v, [])) (H : Heap) : call LE f args H = some (v, H) := by
  have h1 : call LE f args [] = some (v, []) := call_of h
  rw [call_eq, callFn_eq, leX] at h1 ⊢
  rcases hm with hm | hm
  · simp only [hm, hp, if_true] at h1 ⊢
    cases hr : runFn LE (exec LE) f args [] with
    | none => rw [hr] at h1; cases h1
    | some p =>
      rw [hr] at h1
      simp only [Option.bind_some] at h1 ⊢
      cases hf : frzV 12 p.2 p.1 with
      | none => rw [hf] at h1; cases h1
      | some q =>
        rw [hf] at h1
        simp only [Option.bind_some] at h1 ⊢
        split at h1
        · rename_i hq
          rw [if_pos hq]
          injection h1 with h1
          injection h1 with h1 _
          rw [h1]
        · cases h1
  · simp only [hm, frzList_pure 11 args _ hp, Option.bind_some, hp, if_true] at h1 ⊢
    cases hr : runFn LE (exec LE) f args [] with
    | none => rw [hr] at h1; cases h1
    | some p =>
      rw [hr] at h1
      simp only [Option.bind_some] at h1 ⊢
      cases hf : frzV 12 p.2 p.1 with
      | none => rw [hf] at h1; cases h1
      | some q =>
        rw [hf] at h1
        simp only [Option.bind_some] at h1 ⊢
        split at h1
        · rename_i hq
          rw [if_pos hq]
          injection h1 with h1
          injection h1 with h1 _
          rw [h1]
        · cases h1
theorem frz_bool {d : Nat} {H H' : Heap} {v : V} {b : Bool} (h : frzV (d + 1) H v = some (.bool b, H')) : v = .bool b := by
  unfold frzV at h
  split at h
  · injection h with h
    injection h with h
  · split at h
    all_goals (try cases h)
    all_goals (split at h)
    all_goals (try cases h)
    all_goals (split at h)
    all_goals (try cases h)
    all_goals (split at h)
    all_goals (try cases h)
theorem runs_kern {n f : Nat} {args : List V} {b : Bool} (hm : LE.mode f = .snap) (hp : V.pureL args = true) (h : acall LE n f args [] = some (.bool b, [])) : Runs LE f args (.bool b) := by
  have h1 : call LE f args [] = some (.bool b, []) := call_of h
  rw [call_eq, callFn_eq, leX] at h1
  simp only [hm, hp, if_true] at h1
  cases hr : runFn LE (exec LE) f args [] with
  | none => rw [hr] at h1; cases h1
  | some p =>
    rw [hr] at h1
    simp only [Option.bind_some] at h1
    cases hf : frzV 12 p.2 p.1 with
    | none => rw [hf] at h1; cases h1
    | some q =>
      rw [hf] at h1
      simp only [Option.bind_some] at h1
      split at h1
      · injection h1 with h1
        injection h1 with h1 _
        obtain ⟨p1, p2⟩ := p
        obtain ⟨q1, q2⟩ := q
        simp only at h1 hf hr
        subst h1
        have := frz_bool hf
        subst this
        exact ⟨_, _, _, hr, hf, rfl, fun _ => rfl⟩
      · cases h1
theorem ln26 : lenV Tryz.prog 26 .nil = some 0 := by kernel_rfl
theorem e1_run : acall LE 200 43 [.bool false, .bool false] [] = some (.agg (eX ex1), []) := by kernel_rfl
theorem e2_run : acall LE 200 43 [.bool true, .bool false] [] = some (.agg (eX ex2), []) := by kernel_rfl
theorem e3_run : acall LE 200 43 [.bool true, .bool true] [] = some (.agg (eX ex3), []) := by kernel_rfl
theorem p1_run : acall LE 200 9 [.sl false [pV 1 2 (-1) 13]] [] = some (.sl false [pV 1 2 (-1) 13], []) := by kernel_rfl
theorem p2_run : acall LE 200 9 [.nil] [] = some (.nil, []) := by kernel_rfl
theorem p3_run : acall LE 200 9 [.sl false [pV 0 1 (-1) 12, pV 0 2 (-1) 12]] [] = some (.sl false [pV 0 1 (-1) 12, pV 0 2 (-1) 12], []) := by kernel_rfl
theorem s1_run : acall LE 200 8 [.sl false [pV 1 2 (-1) 13], .sl true [pV 1 2 (-1) 13]] [] = some (.bool true, []) := by kernel_rfl
theorem s3_run : acall LE 200 8 [.sl false [pV 0 1 (-1) 12, pV 0 2 (-1) 12], .sl true [pV 0 1 (-1) 12, pV 0 2 (-1) 12]] [] = some (.bool true, []) := by kernel_rfl
theorem d1_call : call LE 8 [.sl false [pV 1 2 (-1) 13], .ms 4 0 4 0 1 true] [newBlk 4 (pV 1 2 (-1) 13)] = some (.bool true, [newBlk 4 (pV 1 2 (-1) 13)]) :=
  call_snap rfl rfl rfl («as» := [.sl false [pV 1 2 (-1) 13], .sl true [pV 1 2 (-1) 13]]) (by kernel_rfl) (runs_kern rfl rfl s1_run) rfl
theorem d3_call : call LE 8 [.sl false [pV 0 1 (-1) 12, pV 0 2 (-1) 12], .ms 4 1 8 0 2 true] [newBlk 4 (pV 1 2 (-1) 13), newBlk 8 (pV 0 1 (-1) 12 ++ pV 0 2 (-1) 12)] = some (.bool true, [newBlk 4 (pV 1 2 (-1) 13), newBlk 8 (pV 0 1 (-1) 12 ++ pV 0 2 (-1) 12)]) :=
  call_snap rfl rfl rfl («as» := [.sl false [pV 0 1 (-1) 12, pV 0 2 (-1) 12], .sl true [pV 0 1 (-1) 12, pV 0 2 (-1) 12]]) (by kernel_rfl) (runs_kern rfl rfl s3_run) rfl

/-- diorama/dioramalaw10.lives -/
theorem rLives : Runs LE 12 [] (.bool true) := by
  have a1 := call_kern (.inr rfl) rfl e1_run
  have a2 := call_kern (.inr rfl) rfl e2_run
  have a3 := call_kern (.inr rfl) rfl e3_run
  have b1 := call_kern (.inr rfl) rfl k1_run
  have b2 := call_kern (.inr rfl) rfl k2_run
  have b3 := call_kern (.inr rfl) rfl k3_run
  have c1 := call_kern (.inr rfl) rfl p1_run
  have c2 := call_kern (.inr rfl) rfl p2_run
  have c3 := call_kern (.inr rfl) rfl p3_run
  have d1 := d1_call
  have d3 := d3_call
  simp only [pV, List.cons_append, List.nil_append] at b1 b3 c1 c3 d1 d3
  have q1 := eeX.pure ex1
  have q2 := eeX.pure ex2
  have q3 := eeX.pure ex3
  refine runs_W (m := 29) Tryz.func12 rfl rfl (Nat.le_of_ble_eq_true rfl) ?_
  simp only [alOf]
  apply w_seq
  apply w_reg [] rfl; intro Q hQ
  simp (disch := omega) [wrap64, wrapU, leW, wrl, buildV, fillV, splice, ln26, List.getElem?_cons_zero, List.getElem?_cons_succ, pl62, a1, a2, a3, b1, b2, b3, c1, c2, c3, d1, d3, V.pure, V.pureL, q1, q2, q3, eo_buildSlice]
  apply after_some rfl; apply hQ; clear hQ Q
  apply w_seq
  apply w_reg [1] rfl; intro Q hQ
  simp (disch := omega) [wrap64, wrapU, leW, wrl, buildV, fillV, splice, ln26, List.getElem?_cons_zero, List.getElem?_cons_succ, pl62, a1, a2, a3, b1, b2, b3, c1, c2, c3, d1, d3, V.pure, V.pureL, q1, q2, q3, eo_buildSlice]
  apply after_some rfl; apply hQ; clear hQ Q
  apply w_seq
  apply w_reg [1, 2] rfl; intro Q hQ
  simp (disch := omega) [wrap64, wrapU, leW, wrl, buildV, fillV, splice, ln26, List.getElem?_cons_zero, List.getElem?_cons_succ, pl62, a1, a2, a3, b1, b2, b3, c1, c2, c3, d1, d3, V.pure, V.pureL, q1, q2, q3, eo_buildSlice]
  apply after_some rfl; apply hQ; clear hQ Q
  apply w_seq
  apply w_reg [1, 2, 3] rfl; intro Q hQ
  simp (disch := omega) [wrap64, wrapU, leW, wrl, buildV, fillV, splice, ln26, List.getElem?_cons_zero, List.getElem?_cons_succ, pl62, a1, a2, a3, b1, b2, b3, c1, c2, c3, d1, d3, V.pure, V.pureL, q1, q2, q3, eo_buildSlice]
  apply after_some rfl; apply hQ; clear hQ Q
  apply w_seq
  apply w_reg [0] rfl; intro Q hQ
  simp (disch := omega) [wrap64, wrapU, leW, wrl, buildV, fillV, splice, ln26, List.getElem?_cons_zero, List.getElem?_cons_succ, pl62, a1, a2, a3, b1, b2, b3, c1, c2, c3, d1, d3, V.pure, V.pureL, q1, q2, q3, eo_buildSlice]
  repeat' ((first | with_reducible apply after_guard | with_reducible apply after_guardD) <;> (intro hg; have hg' := hg; try simp at hg') <;> simp (disch := omega) [wrap64, wrapU, leW, wrl, buildV, fillV, splice, ln26, List.getElem?_cons_zero, List.getElem?_cons_succ, pl62, a1, a2, a3, b1, b2, b3, c1, c2, c3, d1, d3, V.pure, V.pureL, q1, q2, q3, eo_buildSlice, *])
  all_goals (apply after_some rfl; apply hQ; clear hQ Q)
  all_goals
    skip
    apply w_ret
    repeat (with_reducible (first | apply kseq_ret | apply kloop_ret | apply kcut_ret | apply kblock_ret))
    apply fin_pure rfl
    · rfl
    · rfl

theorem cLives (H : Heap) : call LE 12 [] H = some (.bool true, H) := call_pure rfl (.inl rfl) rfl rLives H
end Go.Ae.Zd

set_option maxRecDepth 20000
set_option maxHeartbeats 4000000
namespace Go.Ae.Zd
open Go.Proofs
attribute [local simp] List.getElem?_cons_zero List.getElem?_cons_succ hxW hxB hxW0 hxWn hxB0 hxBn hxS hxSn hxS0 hxTn hxT0 hxGn hxG0 hx_len hx_app hx_dup hx_dup2 lkU_nil lkU_hit lkU_ne sp_alloc cells_ms one_ms cells_sl one_sl wOf_ lk_nil lk_cons isEmpty_n isEmpty_c no_buildSlice no_makeSlice no_box eo_buildSlice ofVal_str chunk reads loadAt

theorem okZ.fit {x : SchemaT} (h : okZ x) : Fit x := ⟨by have := h.kl; omega, fun q hq => by have := (h.ks q hq).len; omega⟩
theorem cSome {s : SL Int} (hs : ∀ a ∈ s.list, I64 a) (hsl : s.list.length < 4611686018427387904) {at_ how by_ : Int} (ha : I64 at_) (hh : I64 how) (hb : I64 by_) : ∃ xs : List SchemaT, xs.length = 5 ∧ (∀ x ∈ xs, okZ x) ∧ ∀ H, call LE 7 [enc eI s, .int .i64 at_, .int .i64 how, .int .i64 by_] H = some (enc eX (.mk true xs), H) := by
 obtain ⟨x, hx, h22⟩ := cSchema hs hsl
 obtain ⟨one, h1, h30⟩ := cBent hx.y (by decide) ha hh hb
 obtain ⟨two, h2, h30b⟩ := cBent h1 (by decide) hb (tdiv_I64 hh (k := 9) (by decide)) ha
 obtain ⟨sp, h3, h31⟩ := cSpoilt (hx.y.mono (r' := 10) (by decide)) ha hh hb
 refine ⟨[x, one, two, sp, zX], rfl, ?_, fun H => call_pure rfl (.inr rfl) (pureL_cons (enc_pure eeI s) rfl) (rSome h22 ha hh hb h30 h30b h31) H⟩
 intro y hy
 simp only [List.mem_cons, List.not_mem_nil, or_false] at hy
 rcases hy with rfl | rfl | rfl | rfl | rfl
 ·exact hx.y.z (by decide)
 ·exact h1.z (by decide)
 ·exact h2.z (by decide)
 ·exact h3
 ·exact zX_ok
theorem appNm {u : Upd} {H r : Heap} {b ver : Nat} {full : Bool} {ys : List Str} {p q s : Str} (hb : getW H b ver = some (ys.map eS).flatten) (hu : okU H u) (hlk : lkU u b ver (getW H b ver) = getW H b ver) (hl : ys.length ≤ 100000) :
  appendV Tryz.prog (HX H u r) 38 (.ms 1 b ver 0 ys.length full) (.sl true [[.str p], [.str q], [.str s]]) = some (.ms 1 b (ver + 3) 0 (ys.length + 3) false, HX H ((b, ver + 3, ((ys ++ [p, q, s]).map eS).flatten) :: u) r) := by
 have hlt := getW_lt hb
 have hW : getW (HX H u r) b ver = some (ys.map eS).flatten := by rw [hxW hlt hu, hlk]; exact hb
 have hfl : (ys.map eS).flatten.length = ys.length := by
  clear hb hW hlk hl
  induction ys with
  |nil => rfl
  |cons a t ih => simp only [List.map_cons, List.flatten_cons, List.length_append, ih, eS, List.length_cons, List.length_nil]; omega
 simp only [appendV, t38, t9, elemsOf, hW]
 rw [if_neg (by simp [allOne, V.one, V.cells]), if_pos (by simp [room, hfl]; omega), if_pos (by simp [hfl])]
 rw [hxS hlt]
 simp [eS]

/-- diorama/dioramalaw10.TypingLeads -/
theorem rLeads {s : SL Int} (hs : ∀ a ∈ s.list, I64 a) (hsl : s.list.length < 4611686018427387904) {at_ how by_ : Int} (ha : I64 at_) (hh : I64 how) (hb : I64 by_) (name : Str) : Runs LE 4 [enc eI s, .int .i64 at_, .int .i64 how, .int .i64 by_, .str name] (.bool true) := by
 obtain ⟨xs, hxl, hxs, h7⟩ := cSome hs hsl ha hh hb
 have hlx : lenV Tryz.prog 23 (enc eX (.mk true xs)) = some 5 := by
  have h := enc_len (e := eX) LTx (.mk true xs)
  rw [h]
  show some xs.length = _
  rw [hxl]
 refine runs_W (m := 167) Tryz.func4 rfl rfl (Nat.le_of_ble_eq_true rfl) ?_
 simp only [alOf]
 apply w_seq
 apply w_reg [0, 1, 2, 3, 4] rfl; intro Q hQ
 simp (disch := (first | omega | (repeat (first | exact okU_nil | refine okU1 (by omega) ?_)))) [wrap64, wrapU, leW, wrl, buildV, fillV, splice, h7, hlx, cLives]
 apply after_some rfl; apply hQ; clear hQ Q
 apply w_seq
 apply w_reg [4, 11] rfl; intro Q hQ
 simp (disch := (first | omega | (repeat (first | exact okU_nil | refine okU1 (by omega) ?_)))) [wrap64, wrapU, leW, wrl, buildV, fillV, splice, h7, hlx, cLives]
 apply after_some rfl; apply hQ; clear hQ Q
 apply w_seq
 apply w_seq
 apply w_reg [4, 11, 12] rfl; intro Q hQ
 simp (disch := (first | omega | (repeat (first | exact okU_nil | refine okU1 (by omega) ?_)))) [wrap64, wrapU, leW, wrl, buildV, fillV, splice, h7, hlx, cLives]
 apply after_some rfl; apply hQ; clear hQ Q
 apply w_block
 refine w_loop (fun m al H => ∃ i : Nat, m = 5 - i ∧ i ≤ 5 ∧ al = [(4, .str name), (11, enc eX (.mk true xs)), (12, .int .i64 (i : Int))]) (5) ?_ ?_
 ·exact ⟨0, rfl, by omega, rfl⟩
 rintro m al H ⟨i, rfl, hi, rfl⟩
 apply w_seq
 apply w_seq
 apply w_reg [4, 11, 12, 32] rfl; intro Q hQ
 simp (disch := (first | omega | (repeat (first | exact okU_nil | refine okU1 (by omega) ?_)))) [wrap64, wrapU, leW, wrl, buildV, fillV, splice, h7, hlx, cLives]
 apply after_some rfl; apply hQ; clear hQ Q
 apply w_cond _ rfl <;> intro hc
 ·first
  |(simp at hc; done)
  |try simp [Int.natCast_inj] at hc
   apply w_skip
   apply w_seq
   apply w_block
   apply w_seq
   have hi5 : i < xs.length := by omega
   obtain ⟨x, hx⟩ : ∃ x, xs[i]? = some x := ⟨_, List.getElem?_eq_getElem hi5⟩
   have hok := hxs x (List.mem_of_getElem? hx)
   have hfit := hok.fit
   have hix : indexAddrV Tryz.prog 23 (enc eX (.mk true xs)) (i : Int) = some (.rp (eX x)) := by
    have h := enc_idxI LTx eeX (.mk true xs) (j := (i : Int)) (by omega) (by show (i : Int) < xs.length; omega)
    have hq : xs[((i : Int)).toNat]'(by omega) = x := by
     have := List.getElem?_eq_getElem hi5
     rw [hx] at this
     injection this with this
     simp only [Int.toNat_natCast]
     exact this.symm
    rw [h]
    show some (V.rp (eX xs[((i : Int)).toNat])) = _
    rw [hq]
   have u1 := fun k j H => cUp hfit.small k j H
   have u2 := fun k j H => rUp hfit.small k j H
   have u3 := fun k j H => cShares hfit k j H
   have u4 := fun k j H => rShares hfit k j H
   have u5 := fun k j H => rHas x k j H
   have u6 := fun s H => cKind x s hfit.small.1 H
   have u7 := fun s H => rKind x s hfit.small.1 H
   have hkl := hok.kl
   simp only [eX] at hix u1 u2 u3 u4 u5 u6 u7
   rw [hx0 H]
   apply w_reg [4, 11, 12, 13] rfl; intro Q hQ
   simp (disch := (first | omega | (repeat (first | exact okU_nil | refine okU1 (by omega) ?_)))) [wrap64, wrapU, leW, wrl, buildV, fillV, splice, h7, hlx, cLives, V.pure, V.pureL, enc_pure eeK, enc_pure eeL, enc_pure eeR, hix, u1, u2, u3, u4, u5, u6, u7]
   apply after_some rfl; apply hQ; clear hQ Q
   apply w_seq
   apply w_reg [4, 11, 12, 13, 14] rfl; intro Q hQ
   simp (disch := (first | omega | (repeat (first | exact okU_nil | refine okU1 (by omega) ?_)))) [wrap64, wrapU, leW, wrl, buildV, fillV, splice, h7, hlx, cLives, V.pure, V.pureL, enc_pure eeK, enc_pure eeL, enc_pure eeR, hix, u1, u2, u3, u4, u5, u6, u7]
   apply after_some rfl; apply hQ; clear hQ Q
   apply w_seq
   apply w_seq
   apply w_reg [4, 11, 12, 13, 14, 15] rfl; intro Q hQ
   simp (disch := (first | omega | (repeat (first | exact okU_nil | refine okU1 (by omega) ?_)))) [wrap64, wrapU, leW, wrl, buildV, fillV, splice, h7, hlx, cLives, V.pure, V.pureL, enc_pure eeK, enc_pure eeL, enc_pure eeR, hix, u1, u2, u3, u4, u5, u6, u7]
   apply after_some rfl; apply hQ; clear hQ Q
   apply w_block
   refine w_loop (fun m al H => ∃ (k : Int) (b bn ver : Nat) (full : Bool) (ys : List Str), m = (9 - k).toNat ∧ -1 ≤ k ∧ k ≤ 8 ∧ getW H b 0 = some [.int .i64 x.version, enc eK x.kinds, enc eL x.lives, enc eR x.rules] ∧ getW H bn ver = some (ys.map eS).flatten ∧ b ≠ bn ∧ (ys.length : Int) ≤ 3 + 39 * (k + 1) ∧ al = [(4, .str name), (11, enc eX (.mk true xs)), (12, .int .i64 (i : Int)), (13, .mp b 0 0), (14, .ms 1 bn ver 0 ys.length full), (15, .int .i64 k)]) (10) ?_ ?_
   ·refine ⟨-1, H.length, H.length + 1, 3, true, [name, [], [97]], rfl, by decide, by decide, ?_, ?_, by omega, by simp, rfl⟩
    ·simp (disch := (first | omega | (repeat (first | exact okU_nil | refine okU1 (by omega) ?_))))
    ·simp (disch := (first | omega | (repeat (first | exact okU_nil | refine okU1 (by omega) ?_)))) [eS]
   rintro m al H ⟨k, b, bn, ver, full, ys, rfl, hk0, hk1, g0, gn, hbn, hyl, rfl⟩
   have g0B := getW_blk g0
   have gnB := getW_blk gn
   have g0l := getW_lt g0
   have gnl := getW_lt gn
   rw [hx0 H]
   apply w_seq
   apply w_seq
   apply w_reg [4, 11, 12, 13, 14, 15, 49] rfl; intro Q hQ
   simp (disch := (first | omega | (repeat (first | exact okU_nil | refine okU1 (by omega) ?_)))) [wrap64, wrapU, leW, wrl, buildV, fillV, splice, h7, hlx, cLives, V.pure, V.pureL, enc_pure eeK, enc_pure eeL, enc_pure eeR, hix, u1, u2, u3, u4, u5, u6, u7, g0, gn, g0B, gnB]
   repeat' ((first | with_reducible apply after_guard | with_reducible apply after_guardD) <;> (intro hg; have hg' := hg; try simp at hg') <;> simp (disch := (first | omega | (repeat (first | exact okU_nil | refine okU1 (by omega) ?_)))) [wrap64, wrapU, leW, wrl, buildV, fillV, splice, h7, hlx, cLives, V.pure, V.pureL, enc_pure eeK, enc_pure eeL, enc_pure eeR, hix, u1, u2, u3, u4, u5, u6, u7, g0, gn, g0B, gnB, *])
   all_goals (apply after_some rfl; apply hQ; clear hQ Q)
   all_goals
    skip
    apply w_cond _ rfl <;> intro hc
    ·first
     |(simp at hc; done)
     |try simp [Int.natCast_inj] at hc
      apply w_skip
      apply w_seq
      apply w_block
      apply w_seq
      apply w_reg [4, 11, 12, 13, 14, 15, 16] rfl; intro Q hQ
      simp (disch := (first | omega | (repeat (first | exact okU_nil | refine okU1 (by omega) ?_)))) [wrap64, wrapU, leW, wrl, buildV, fillV, splice, h7, hlx, cLives, V.pure, V.pureL, enc_pure eeK, enc_pure eeL, enc_pure eeR, hix, u1, u2, u3, u4, u5, u6, u7, g0, gn, g0B, gnB]
      apply after_some rfl; apply hQ; clear hQ Q
      apply w_block
      refine w_loop (fun m al H => ∃ (j : Int) (ver : Nat) (full : Bool) (ys : List Str), m = (13 - j).toNat ∧ -1 ≤ j ∧ j ≤ 12 ∧ getW H b 0 = some [.int .i64 x.version, enc eK x.kinds, enc eL x.lives, enc eR x.rules] ∧ getW H bn ver = some (ys.map eS).flatten ∧ (ys.length : Int) ≤ 3 + 39 * (k + 1) + 3 * (j + 1) ∧ al = [(4, .str name), (11, enc eX (.mk true xs)), (12, .int .i64 (i : Int)), (13, .mp b 0 0), (14, .ms 1 bn ver 0 ys.length full), (15, .int .i64 k), (16, .int .i64 j)]) (14) ?_ ?_
      ·exact ⟨-1, ver, full, ys, rfl, by decide, by decide, by simp (disch := (first | omega | (repeat (first | exact okU_nil | refine okU1 (by omega) ?_)))) [g0], by simp (disch := (first | omega | (repeat (first | exact okU_nil | refine okU1 (by omega) ?_)))) [gn], by omega, rfl⟩
      rintro m al H ⟨j, ver, full, ys, rfl, hj0, hj1, g0, gn, hyl, rfl⟩
      have g0B := getW_blk g0
      have gnB := getW_blk gn
      have g0l := getW_lt g0
      have gnl := getW_lt gn
      rw [hx0 H]
      apply w_seq
      apply w_seq
      apply w_reg [4, 11, 12, 13, 14, 15, 16, 53] rfl; intro Q hQ
      simp (disch := (first | omega | (repeat (first | exact okU_nil | refine okU1 (by omega) ?_)))) [wrap64, wrapU, leW, wrl, buildV, fillV, splice, h7, hlx, cLives, V.pure, V.pureL, enc_pure eeK, enc_pure eeL, enc_pure eeR, hix, u1, u2, u3, u4, u5, u6, u7, g0, gn, g0B, gnB, g0, gn, g0B, gnB]
      apply after_some rfl; apply hQ; clear hQ Q
      apply w_cond _ rfl <;> intro hc
      ·first
       |(simp at hc; done)
       |try simp [Int.natCast_inj] at hc
        apply w_skip
        apply w_seq
        apply w_block
        apply w_seq
        apply w_reg [4, 11, 12, 13, 14, 15, 16, 17, 18] rfl; intro Q hQ
        simp (disch := (first | omega | (repeat (first | exact okU_nil | refine okU1 (by omega) ?_)))) [wrap64, wrapU, leW, wrl, buildV, fillV, splice, h7, hlx, cLives, V.pure, V.pureL, enc_pure eeK, enc_pure eeL, enc_pure eeR, hix, u1, u2, u3, u4, u5, u6, u7, g0, gn, g0B, gnB, g0, gn, g0B, gnB]
        apply after_some rfl; apply hQ; clear hQ Q
        apply w_seq
        apply w_reg [4, 11, 12, 13, 14, 15, 16, 17, 18, 19, 20] rfl; intro Q hQ
        simp (disch := (first | omega | (repeat (first | exact okU_nil | refine okU1 (by omega) ?_)))) [wrap64, wrapU, leW, wrl, buildV, fillV, splice, h7, hlx, cLives, V.pure, V.pureL, enc_pure eeK, enc_pure eeL, enc_pure eeR, hix, u1, u2, u3, u4, u5, u6, u7, g0, gn, g0B, gnB, g0, gn, g0B, gnB]
        apply after_some rfl; apply hQ; clear hQ Q
        apply w_seq
        apply w_seq
        apply w_drw [4, 11, 12, 13, 14, 15, 16, 88] rfl rfl (by kernel_rfl) 0 rfl; intro Q hQ
        simp (disch := (first | omega | (repeat (first | exact okU_nil | refine okU1 (by omega) ?_)))) [wrap64, wrapU, leW, wrl, buildV, fillV, splice, h7, hlx, cLives, V.pure, V.pureL, enc_pure eeK, enc_pure eeL, enc_pure eeR, hix, u1, u2, u3, u4, u5, u6, u7, g0, gn, g0B, gnB, g0, gn, g0B, gnB]
        repeat' ((first | with_reducible apply after_guard | with_reducible apply after_guardD) <;> (intro hg; have hg' := hg; try simp at hg') <;> simp (disch := (first | omega | (repeat (first | exact okU_nil | refine okU1 (by omega) ?_)))) [wrap64, wrapU, leW, wrl, buildV, fillV, splice, h7, hlx, cLives, V.pure, V.pureL, enc_pure eeK, enc_pure eeL, enc_pure eeR, hix, u1, u2, u3, u4, u5, u6, u7, g0, gn, g0B, gnB, g0, gn, g0B, gnB, *])
        all_goals (apply after_some rfl; apply hQ; clear hQ Q)
        all_goals
         skip
         apply w_cond _ rfl <;> intro hc
         ·first
          |(simp at hc; done)
         ·first
          |(simp at hc; done)
          |try simp [Int.natCast_inj] at hc
           apply w_skip
           apply w_seq
           apply w_reg [4, 11, 12, 13, 14, 15, 16, 92] rfl; intro Q hQ
           simp (disch := (first | omega | (repeat (first | exact okU_nil | refine okU1 (by omega) ?_)))) [wrap64, wrapU, leW, wrl, buildV, fillV, splice, h7, hlx, cLives, V.pure, V.pureL, enc_pure eeK, enc_pure eeL, enc_pure eeR, hix, u1, u2, u3, u4, u5, u6, u7, g0, gn, g0B, gnB, g0, gn, g0B, gnB]
           apply after_some rfl; apply hQ; clear hQ Q
           apply w_cond _ rfl <;> intro hc
           ·first
            |(simp at hc; done)
            |try simp [Int.natCast_inj] at hc
             apply w_seq
             obtain ⟨f, hf⟩ := Option.isSome_iff_exists.1 hc
             obtain ⟨hk0, hk1, hj0, q, hq, hq1, hq2⟩ := fldO_of hf
             have iK : indexAddrV Tryz.prog 30 (enc eK x.kinds) k = some (.rp (eK q)) := by
              have h := enc_idxI LTk eeK x.kinds hk0 hk1
              have h2 := List.getElem?_eq_getElem (l := x.kinds.list) (i := k.toNat) (by omega)
              rw [hq] at h2
              injection h2 with h2
              rw [h, h2]
             have iF : indexAddrV Tryz.prog 45 (enc eF q.fields) j = some (.rp (eF f)) := by
              have h := enc_idxI LTf eeF q.fields hj0 hq1
              have h2 := List.getElem?_eq_getElem (l := q.fields.list) (i := j.toNat) (by omega)
              rw [hq2] at h2
              injection h2 with h2
              rw [h, h2]
             have hap := fun (u : Upd) (r : Heap) (p q s : Str) (hu : okU H u) (hlk : lkU u bn ver (getW H bn ver) = getW H bn ver) => appNm (full := full) (r := r) (p := p) (q := q) (s := s) gn hu hlk (by omega)
             have hap1 := fun (r : Heap) (p q s : Str) => hap [] r p q s okU_nil rfl
             simp only [eK] at iK
             simp only [eF] at iF
             apply w_reg [4, 11, 12, 13, 14, 15, 16, 21] rfl; intro Q hQ
             simp (disch := (first | omega | (repeat (first | exact okU_nil | refine okU1 (by omega) ?_)))) [wrap64, wrapU, leW, wrl, buildV, fillV, splice, h7, hlx, cLives, V.pure, V.pureL, enc_pure eeK, enc_pure eeL, enc_pure eeR, hix, u1, u2, u3, u4, u5, u6, u7, g0, gn, g0B, gnB, g0, gn, g0B, gnB, iK, iF, hap1]
             apply after_some rfl; apply hQ; clear hQ Q
             apply w_drw [4, 11, 12, 13, 14, 15, 16] rfl rfl (by kernel_rfl) 0 rfl; intro Q hQ
             simp (disch := (first | omega | (repeat (first | exact okU_nil | refine okU1 (by omega) ?_)))) [wrap64, wrapU, leW, wrl, buildV, fillV, splice, h7, hlx, cLives, V.pure, V.pureL, enc_pure eeK, enc_pure eeL, enc_pure eeR, hix, u1, u2, u3, u4, u5, u6, u7, g0, gn, g0B, gnB, g0, gn, g0B, gnB, iK, iF, hap1]
             apply after_some rfl; apply hQ; clear hQ Q
             apply w_reg [4, 11, 12, 13, 14, 15, 16] rfl; intro Q hQ
             simp (disch := (first | omega | (repeat (first | exact okU_nil | refine okU1 (by omega) ?_)))) [wrap64, wrapU, leW, wrl, buildV, fillV, splice, h7, hlx, cLives, V.pure, V.pureL, enc_pure eeK, enc_pure eeL, enc_pure eeR, hix, u1, u2, u3, u4, u5, u6, u7, g0, gn, g0B, gnB, g0, gn, g0B, gnB, iK, iF, hap1]
             apply after_some rfl; apply hQ; clear hQ Q
             repeat (with_reducible apply kblock_nrm)
             refine kloop_back (13 - (j + 1)).toNat (by omega) ⟨j + 1, ver + 3, false, ys ++ [f.name, f.of_, q.name], rfl, by omega, by omega, by simp (disch := (first | omega | (repeat (first | exact okU_nil | refine okU1 (by omega) ?_)))) [g0], by simp (disch := (first | omega | (repeat (first | exact okU_nil | refine okU1 (by omega) ?_)))) [gn], by simp; omega, by simp⟩
           ·first
            |(simp at hc; done)
            |try simp [Int.natCast_inj] at hc
             apply w_skip
             apply w_reg [4, 11, 12, 13, 14, 15, 16] rfl; intro Q hQ
             simp (disch := (first | omega | (repeat (first | exact okU_nil | refine okU1 (by omega) ?_)))) [wrap64, wrapU, leW, wrl, buildV, fillV, splice, h7, hlx, cLives, V.pure, V.pureL, enc_pure eeK, enc_pure eeL, enc_pure eeR, hix, u1, u2, u3, u4, u5, u6, u7, g0, gn, g0B, gnB, g0, gn, g0B, gnB]
             apply after_some rfl; apply hQ; clear hQ Q
             repeat (with_reducible apply kblock_nrm)
             refine kloop_back (13 - (j + 1)).toNat (by omega) ⟨j + 1, ver, full, ys, rfl, by omega, by omega, by simp (disch := (first | omega | (repeat (first | exact okU_nil | refine okU1 (by omega) ?_)))) [g0], by simp (disch := (first | omega | (repeat (first | exact okU_nil | refine okU1 (by omega) ?_)))) [gn], by omega, rfl⟩
      ·first
       |(simp at hc; done)
       |try simp [Int.natCast_inj] at hc
        apply w_exit
        repeat (first | with_reducible apply kseq_exit | with_reducible apply kloop_exit | with_reducible apply kcut_exit | with_reducible apply kblock_exit | with_reducible apply kblock_pass (by decide))
        apply w_reg [4, 11, 12, 13, 14, 15] rfl; intro Q hQ
        simp (disch := (first | omega | (repeat (first | exact okU_nil | refine okU1 (by omega) ?_)))) [wrap64, wrapU, leW, wrl, buildV, fillV, splice, h7, hlx, cLives, V.pure, V.pureL, enc_pure eeK, enc_pure eeL, enc_pure eeR, hix, u1, u2, u3, u4, u5, u6, u7, g0, gn, g0B, gnB, g0, gn, g0B, gnB]
        apply after_some rfl; apply hQ; clear hQ Q
        repeat (with_reducible apply kblock_nrm)
        refine kloop_back (9 - (k + 1)).toNat (by omega) ⟨k + 1, b, bn, ver, full, ys, rfl, by omega, by omega, by simp (disch := (first | omega | (repeat (first | exact okU_nil | refine okU1 (by omega) ?_)))) [g0], by simp (disch := (first | omega | (repeat (first | exact okU_nil | refine okU1 (by omega) ?_)))) [gn], hbn, by omega, rfl⟩
    ·first
     |(simp at hc; done)
     |try simp [Int.natCast_inj] at hc
      apply w_exit
      repeat (first | with_reducible apply kseq_exit | with_reducible apply kloop_exit | with_reducible apply kcut_exit | with_reducible apply kblock_exit | with_reducible apply kblock_pass (by decide))
      apply w_seq
      apply w_reg [4, 11, 12, 13, 14, 22] rfl; intro Q hQ
      simp (disch := (first | omega | (repeat (first | exact okU_nil | refine okU1 (by omega) ?_)))) [wrap64, wrapU, leW, wrl, buildV, fillV, splice, h7, hlx, cLives, V.pure, V.pureL, enc_pure eeK, enc_pure eeL, enc_pure eeR, hix, u1, u2, u3, u4, u5, u6, u7, g0, gn, g0B, gnB]
      apply after_some rfl; apply hQ; clear hQ Q
      apply w_block
      refine w_loop (fun m al H => ∃ (n : Nat), m = ys.length - n ∧ n ≤ ys.length ∧ getW H b 0 = some [.int .i64 x.version, enc eK x.kinds, enc eL x.lives, enc eR x.rules] ∧ getW H bn ver = some (ys.map eS).flatten ∧ al = [(4, .str name), (11, enc eX (.mk true xs)), (12, .int .i64 (i : Int)), (13, .mp b 0 0), (14, .ms 1 bn ver 0 ys.length full), (22, .int .i64 (n : Int))]) (ys.length) ?_ ?_
      ·exact ⟨0, rfl, Nat.zero_le _, by simp (disch := (first | omega | (repeat (first | exact okU_nil | refine okU1 (by omega) ?_)))) [g0], by simp (disch := (first | omega | (repeat (first | exact okU_nil | refine okU1 (by omega) ?_)))) [gn], rfl⟩
      rintro m al H ⟨n, rfl, hn, g0, gn, rfl⟩
      have g0B := getW_blk g0
      have gnB := getW_blk gn
      have g0l := getW_lt g0
      have gnl := getW_lt gn
      rw [hx0 H]
      apply w_seq
      apply w_seq
      apply w_reg [4, 11, 12, 13, 14, 22, 118] rfl; intro Q hQ
      simp (disch := (first | omega | (repeat (first | exact okU_nil | refine okU1 (by omega) ?_)))) [wrap64, wrapU, leW, wrl, buildV, fillV, splice, h7, hlx, cLives, V.pure, V.pureL, enc_pure eeK, enc_pure eeL, enc_pure eeR, hix, u1, u2, u3, u4, u5, u6, u7, g0, gn, g0B, gnB, g0, gn, g0B, gnB]
      apply after_some rfl; apply hQ; clear hQ Q
      apply w_cond _ rfl <;> intro hc
      ·first
       |(simp at hc; done)
       |try simp [Int.natCast_inj] at hc
        apply w_skip
        apply w_seq
        apply w_block
        apply w_seq
        apply w_seq
        have hnl : n < ys.length := by omega
        have hix2 : indexAddrV Tryz.prog 38 (.ms 1 bn ver 0 ys.length full) (n : Int) = some (.mp bn ver n) := by
         have h := msix LTs (b := bn) (ver := ver) (off := 0) (len := ys.length) (full := full) (i := (n : Int)) (by omega) (by omega)
         simpa using h
        have hdr := blk_drop eeS (ys := ys) (k := 0) hnl (Nat.zero_le _)
        simp only [Nat.add_zero, Nat.mul_one, List.drop_zero, eS, List.cons_append, List.nil_append] at hdr
        apply w_drw [4, 11, 12, 13, 14, 22, 133] rfl rfl (by kernel_rfl) 0 rfl; intro Q hQ
        simp (disch := (first | omega | (repeat (first | exact okU_nil | refine okU1 (by omega) ?_)))) [wrap64, wrapU, leW, wrl, buildV, fillV, splice, h7, hlx, cLives, V.pure, V.pureL, enc_pure eeK, enc_pure eeL, enc_pure eeR, hix, u1, u2, u3, u4, u5, u6, u7, g0, gn, g0B, gnB, g0, gn, g0B, gnB, hix2, hdr, msln LTs]
        apply after_some rfl; apply hQ; clear hQ Q
        apply w_cond _ rfl <;> intro hc
        ·first
         |(simp at hc; done)
        ·first
         |(simp at hc; done)
         |try simp [Int.natCast_inj] at hc
          apply w_skip
          apply w_seq
          apply w_reg [4, 11, 12, 13, 14, 22, 23] rfl; intro Q hQ
          simp (disch := (first | omega | (repeat (first | exact okU_nil | refine okU1 (by omega) ?_)))) [wrap64, wrapU, leW, wrl, buildV, fillV, splice, h7, hlx, cLives, V.pure, V.pureL, enc_pure eeK, enc_pure eeL, enc_pure eeR, hix, u1, u2, u3, u4, u5, u6, u7, g0, gn, g0B, gnB, g0, gn, g0B, gnB, hix2, hdr, msln LTs]
          apply after_some rfl; apply hQ; clear hQ Q
          apply w_block
          refine w_loop (fun m al H => ∃ (k2 : Nat), m = 9 - k2 ∧ k2 ≤ 8 ∧ getW H b 0 = some [.int .i64 x.version, enc eK x.kinds, enc eL x.lives, enc eR x.rules] ∧ getW H bn ver = some (ys.map eS).flatten ∧ al = [(4, .str name), (11, enc eX (.mk true xs)), (12, .int .i64 (i : Int)), (13, .mp b 0 0), (14, .ms 1 bn ver 0 ys.length full), (22, .int .i64 (n : Int)), (23, .int .i64 (k2 : Int))]) (9) ?_ ?_
          ·exact ⟨0, rfl, Nat.zero_le _, by simp (disch := (first | omega | (repeat (first | exact okU_nil | refine okU1 (by omega) ?_)))) [g0], by simp (disch := (first | omega | (repeat (first | exact okU_nil | refine okU1 (by omega) ?_)))) [gn], rfl⟩
          rintro m al H ⟨k2, rfl, hk2, g0, gn, rfl⟩
          have g0B := getW_blk g0
          have gnB := getW_blk gn
          have g0l := getW_lt g0
          have gnl := getW_lt gn
          rw [hx0 H]
          apply w_seq
          apply w_seq
          apply w_reg [4, 11, 12, 13, 14, 22, 23, 142] rfl; intro Q hQ
          simp (disch := (first | omega | (repeat (first | exact okU_nil | refine okU1 (by omega) ?_)))) [wrap64, wrapU, leW, wrl, buildV, fillV, splice, h7, hlx, cLives, V.pure, V.pureL, enc_pure eeK, enc_pure eeL, enc_pure eeR, hix, u1, u2, u3, u4, u5, u6, u7, g0, gn, g0B, gnB, g0, gn, g0B, gnB, hix2, hdr, msln LTs, g0, gn, g0B, gnB]
          repeat' ((first | with_reducible apply after_guard | with_reducible apply after_guardD) <;> (intro hg; have hg' := hg; try simp at hg') <;> simp (disch := (first | omega | (repeat (first | exact okU_nil | refine okU1 (by omega) ?_)))) [wrap64, wrapU, leW, wrl, buildV, fillV, splice, h7, hlx, cLives, V.pure, V.pureL, enc_pure eeK, enc_pure eeL, enc_pure eeR, hix, u1, u2, u3, u4, u5, u6, u7, g0, gn, g0B, gnB, g0, gn, g0B, gnB, hix2, hdr, msln LTs, g0, gn, g0B, gnB, *])
          all_goals (apply after_some rfl; apply hQ; clear hQ Q)
          all_goals
           skip
           apply w_cond _ rfl <;> intro hc
           ·first
            |(simp at hc; done)
            |try simp [Int.natCast_inj] at hc
             apply w_skip
             apply w_seq
             apply w_block
             apply w_seq
             have hkk : k2 < x.kinds.list.length := by omega
             have hfl2 : (x.kinds.list[k2]'hkk).fields.list.length < 4611686018427387904 := by
              have := hfit.2 _ (List.getElem_mem hkk)
              omega
             have u8 := fun s H => cField (x.kinds.list[k2]'hkk) s hfl2 H
             have u9 := fun s H => rField (x.kinds.list[k2]'hkk) s hfl2 H
             apply w_drw [4, 11, 12, 13, 14, 22, 23, 165] rfl rfl (by kernel_rfl) 0 rfl; intro Q hQ
             simp (disch := (first | omega | (repeat (first | exact okU_nil | refine okU1 (by omega) ?_)))) [wrap64, wrapU, leW, wrl, buildV, fillV, splice, h7, hlx, cLives, V.pure, V.pureL, enc_pure eeK, enc_pure eeL, enc_pure eeR, hix, u1, u2, u3, u4, u5, u6, u7, g0, gn, g0B, gnB, g0, gn, g0B, gnB, hix2, hdr, msln LTs, g0, gn, g0B, gnB, u8, u9, eeK.pure]
             apply after_some rfl; apply hQ; clear hQ Q
             apply w_cond _ rfl <;> intro hc
             ·first
              |(simp at hc; done)
             ·first
              |(simp at hc; done)
              |try simp [Int.natCast_inj] at hc
               apply w_skip
               apply w_reg [4, 11, 12, 13, 14, 22, 23] rfl; intro Q hQ
               simp (disch := (first | omega | (repeat (first | exact okU_nil | refine okU1 (by omega) ?_)))) [wrap64, wrapU, leW, wrl, buildV, fillV, splice, h7, hlx, cLives, V.pure, V.pureL, enc_pure eeK, enc_pure eeL, enc_pure eeR, hix, u1, u2, u3, u4, u5, u6, u7, g0, gn, g0B, gnB, g0, gn, g0B, gnB, hix2, hdr, msln LTs, g0, gn, g0B, gnB, u8, u9, eeK.pure]
               apply after_some rfl; apply hQ; clear hQ Q
               repeat (with_reducible apply kblock_nrm)
               refine kloop_back (9 - (k2 + 1)) (by omega) ⟨k2 + 1, rfl, by omega, by simp (disch := (first | omega | (repeat (first | exact okU_nil | refine okU1 (by omega) ?_)))) [g0], by simp (disch := (first | omega | (repeat (first | exact okU_nil | refine okU1 (by omega) ?_)))) [gn], rfl⟩
           ·first
            |(simp at hc; done)
            |try simp [Int.natCast_inj] at hc
             apply w_exit
             repeat (first | with_reducible apply kseq_exit | with_reducible apply kloop_exit | with_reducible apply kcut_exit | with_reducible apply kblock_exit | with_reducible apply kblock_pass (by decide))
             apply w_reg [4, 11, 12, 13, 14, 22] rfl; intro Q hQ
             simp (disch := (first | omega | (repeat (first | exact okU_nil | refine okU1 (by omega) ?_)))) [wrap64, wrapU, leW, wrl, buildV, fillV, splice, h7, hlx, cLives, V.pure, V.pureL, enc_pure eeK, enc_pure eeL, enc_pure eeR, hix, u1, u2, u3, u4, u5, u6, u7, g0, gn, g0B, gnB, g0, gn, g0B, gnB, hix2, hdr, msln LTs, g0, gn, g0B, gnB]
             apply after_some rfl; apply hQ; clear hQ Q
             repeat (with_reducible apply kblock_nrm)
             refine kloop_back (ys.length - (n + 1)) (by omega) ⟨n + 1, rfl, by omega, by simp (disch := (first | omega | (repeat (first | exact okU_nil | refine okU1 (by omega) ?_)))) [g0], by simp (disch := (first | omega | (repeat (first | exact okU_nil | refine okU1 (by omega) ?_)))) [gn], rfl⟩
      ·first
       |(simp at hc; done)
       |try simp [Int.natCast_inj] at hc
        apply w_exit
        repeat (first | with_reducible apply kseq_exit | with_reducible apply kloop_exit | with_reducible apply kcut_exit | with_reducible apply kblock_exit | with_reducible apply kblock_pass (by decide))
        apply w_reg [4, 11, 12] rfl; intro Q hQ
        simp (disch := (first | omega | (repeat (first | exact okU_nil | refine okU1 (by omega) ?_)))) [wrap64, wrapU, leW, wrl, buildV, fillV, splice, h7, hlx, cLives, V.pure, V.pureL, enc_pure eeK, enc_pure eeL, enc_pure eeR, hix, u1, u2, u3, u4, u5, u6, u7, g0, gn, g0B, gnB, g0, gn, g0B, gnB]
        apply after_some rfl; apply hQ; clear hQ Q
        repeat (with_reducible apply kblock_nrm)
        refine kloop_back (5 - (i + 1)) (by omega) ⟨i + 1, rfl, by omega, rfl⟩
 ·first
  |(simp at hc; done)
  |try simp [Int.natCast_inj] at hc
   apply w_exit
   repeat (first | with_reducible apply kseq_exit | with_reducible apply kloop_exit | with_reducible apply kcut_exit | with_reducible apply kblock_exit | with_reducible apply kblock_pass (by decide))
   apply w_seq
   apply w_reg [10] rfl; intro Q hQ
   simp (disch := (first | omega | (repeat (first | exact okU_nil | refine okU1 (by omega) ?_)))) [wrap64, wrapU, leW, wrl, buildV, fillV, splice, h7, hlx, cLives]
   apply after_some rfl; apply hQ; clear hQ Q
   apply w_ret
   repeat (with_reducible (first | apply kseq_ret | apply kloop_ret | apply kcut_ret | apply kblock_ret))
   apply fin_pure rfl
   ·rfl
   ·rfl

end Go.Ae.Zd

set_option maxRecDepth 20000
namespace Go.Ae.Zd
open Go.Proofs

/-- What the rows list. -/
def laid5 : List (String × DataW Unit) := [("math/bits.deBruijn32tab", Go.Proofs.YtplhjndcokidfaaGreatDoor.Rows.laid_math_bits_deBruijn32tab), ("math/bits.deBruijn64tab", Go.Proofs.YtplhjndcokidfaaGreatDoor.Rows.laid_math_bits_deBruijn64tab), ("internal/strconv.uint64pow10", Go.Proofs.YtplhjndcokidfaaGreatDoor.Rows.laid_internal_strconv_uint64pow10), ("diorama/schema.words", Go.Proofs.YtplhjndcokidfaaGreatDoor.Rows.laid_diorama_schema_words), ("diorama/typing.checks", Go.Proofs.YtplhjndcokidfaaGreatDoor.Rows.laid_diorama_typing_checks)]

def ckL : List (Int × Nat × String) := [(0, 196, "diorama/typing.checks$1"), (1, 197, "diorama/typing.checks$2"), (4, 198, "diorama/typing.checks$3"), (5, 199, "diorama/typing.checks$4"), (6, 201, "diorama/typing.checks$5"), (7, 202, "diorama/typing.checks$6"), (8, 204, "diorama/typing.checks$7")]
theorem ck_names : (ckL.all fun x => Tryz.prog.funcNamed x.2.2 == some x.2.1) = true := by kernel_rfl
def ckM : List (Int × Nat × List UInt8) := ckL.map fun x => (x.1, x.2.1, x.2.2.toUTF8.data.toList)
theorem ckM_names : ∀ x ∈ ckM, x.2.2 ≠ [] ∧ ∀ (f : FuncId) (fn : Func), Tryz.prog.funcNamed fn.name = some f → fn.name.toUTF8.data.toList = x.2.2 → f = x.2.1 := by
  intro x hx
  obtain ⟨q, hq, rfl⟩ := List.mem_map.1 hx
  constructor
  · have h1 : (ckL.all fun x => !(x.2.2.toUTF8.data.toList == [])) = true := by kernel_rfl
    have h2 := List.all_eq_true.1 h1 q hq
    intro h3
    simp only at h3
    rw [h3] at h2
    simp at h2
  · intro f fn h1 h2
    simp only at h2
    have h3 : fn.name = q.2.2 := by
      apply String.toByteArray_inj.1
      have e1 : fn.name.toUTF8.data = q.2.2.toUTF8.data := Array.ext' h2
      have e2 : fn.name.toUTF8 = q.2.2.toUTF8 := by
        cases h4 : fn.name.toUTF8
        cases h5 : q.2.2.toUTF8
        rw [h4, h5] at e1
        simp only at e1
        rw [e1]
      exact e2
    have h4 := List.all_eq_true.1 ck_names q hq
    have h5 : Tryz.prog.funcNamed q.2.2 = some q.2.1 := by simpa using h4
    rw [h3, h5] at h1
    injection h1 with h1
    exact h1.symm
theorem ints_enc {v : V} {xs : List Int} (h : IsInts v xs) : ∃ s : SL Int, v = enc eI s ∧ xs = s.list := by
  rcases h with ⟨rfl, rfl⟩ | ⟨full, rfl⟩
  · exact ⟨.nil, rfl, rfl⟩
  · exact ⟨.mk full xs, rfl, rfl⟩
theorem VR_string {w : World} {F : Nat → Prop} {μ : Nat → Nat → Option (Nat × Nat)} (a : ByteArray) : VR w F μ (.str a.data.toList) (.string a) := by
  have h := VR.str (w := w) (F := F) (μ := μ) a.data.toList
  have e : (⟨a.data.toList.toArray⟩ : ByteArray) = a := by cases a; simp
  rw [e] at h
  exact h
theorem I64_wf {n : Int} (h : (Lit.int .i64 n).wf = true) : I64 n := by
  have := wf_range h
  exact ⟨this.1, this.2⟩
theorem WR_laid {w : World} (h : laidMetH Tryz.prog laid5 w) : WR LE w (fun b => b < w.heap.size) noMap [] := by
  refine WR_start2 fun g cells hg => ?_
  have hg' : globL g = some cells := hg
  unfold globL at hg'
  split at hg'
  · rename_i h0
    subst h0
    injection hg' with hg'
    subst hg'
    obtain ⟨d, hd⟩ : ∃ d, Go.Proofs.YtplhjndcokidfaaGreatDoor.Rows.laid_diorama_typing_checks (H := Unit) = DataW.iface "func table" d := ⟨_, rfl⟩
    obtain ⟨g, t, cs, fuel, p, h1, h2, h3, h4⟩ := laidMetH.funcs h (n := "diorama/typing.checks") (d := d) (by rw [← hd]; simp [laid5])
    have hgl : Tryz.prog.globalNamed "diorama/typing.checks" = some 0 := by kernel_rfl
    have hgt : (Tryz.prog.globals[0]?).map (·.type) = some 77 := by kernel_rfl
    obtain rfl := Option.some.inj (hgl.symm.trans h1)
    obtain rfl := Option.some.inj (hgt.symm.trans h2)
    have hout : d.funcsOut = .map (ckM.map fun x => (.int .i64 x.1, .agg [.held x.2.2])) := by
      injection hd with _ hd
      subst hd
      kernel_rfl
    rw [hout] at h4
    obtain ⟨r, hc, hr⟩ := open_fmap (μ := fun _ _ => none) (F := fun b => b < w.heap.size) Tryz.underlying77 Tryz.underlying3 Tryz.underlying75 Tryz.underlying74 (by kernel_rfl) (by kernel_rfl) ckM (by decide) (by decide) ckM_names h4 (fun r h => h)
    refine VR_glob hgl h3 ?_
    rw [hc]
    exact .cons hr .nil
  · split at hg'
    · rename_i h0
      subst h0
      injection hg' with hg'
      subst hg'
      obtain ⟨g, t, cs, fuel, p, h1, h2, h3, h4⟩ := laidH_data h (n := "diorama/schema.words") (d := Go.Proofs.YtplhjndcokidfaaGreatDoor.Rows.laid_diorama_schema_words) (by simp [laid5]) rfl
      have hgl : Tryz.prog.globalNamed "diorama/schema.words" = some 1 := by kernel_rfl
      have hgt : (Tryz.prog.globals[1]?).map (·.type) = some 176 := by kernel_rfl
      obtain rfl := Option.some.inj (hgl.symm.trans h1)
      obtain rfl := Option.some.inj (hgt.symm.trans h2)
      have hc := cells_of_strs (zs := [[107, 101, 121], [114, 101, 102], [110, 117, 109], [112, 105, 99, 107], [100, 97, 121], [115, 116, 101, 112], [115, 117, 109], [115, 104, 97, 114, 101], [99, 111, 112, 121]]) Tryz.underlying176 Tryz.underlying9 (by kernel_rfl) (by kernel_rfl) h4
      refine VR_glob hgl h3 ?_
      rw [hc]
      exact VRs_of (fun x => .str x) _
    · split at hg'
      · rename_i h0
        subst h0
        injection hg' with hg'
        subst hg'
        obtain ⟨g, t, cs, fuel, p, h1, h2, h3, h4⟩ := laidH_data h (n := "internal/strconv.uint64pow10") (d := Go.Proofs.YtplhjndcokidfaaGreatDoor.Rows.laid_internal_strconv_uint64pow10) (by simp [laid5]) rfl
        have hgl : Tryz.prog.globalNamed "internal/strconv.uint64pow10" = some 2 := by kernel_rfl
        have hgt : (Tryz.prog.globals[2]?).map (·.type) = some 199 := by kernel_rfl
        obtain rfl := Option.some.inj (hgl.symm.trans h1)
        obtain rfl := Option.some.inj (hgt.symm.trans h2)
        have hc := Go.Lib.cells_of_tab (zs := (List.range 20).map fun i => ((10 ^ i : Nat) : Int)) Tryz.underlying199 Tryz.underlying181 (by kernel_rfl) (by kernel_rfl) (show DataW.trod _ _ _ _ _ _ _ _ _ = some (Go.Lib.tabData .u64 ((List.range 20).map fun i => ((10 ^ i : Nat) : Int)), _) from h4)
        refine VR_glob hgl h3 ?_
        rw [hc]
        have : pow10V = ((List.range 20).map fun i => ((10 ^ i : Nat) : Int)).map (V.int .u64) := by simp [pow10V]
        rw [this]
        exact VRs_of (fun x => .int _ x) _
      · cases hg'

end Go.Ae.Zd
