/-
  The law of weights.
-/
import Derived.Test.YtobammkdioeknaaLe3
import Derived.Test.YtobammkdioeknaaLe1
import Derived.Test.YtobammkdioeknaaLe2
set_option linter.unusedVariables false
set_option linter.unusedSimpArgs false
namespace Go.Ae.Ln
open Go.Proofs

theorem c8 {v : V} {xs : List Int} (hv : IsInts v xs) (hne : xs ≠ []) (hl : xs.length ≤ 1000) {a b : Int} (ha : I64 a) (hb : I64 b) (H : Heap) : call LE 8 [v, .int .i64 a, .int .i64 b] H = some (IV (Odd xs a b), H) :=
  call_pure rfl (.inr rfl) (pureL_cons hv.pure rfl) (f8_runs hv hne hl ha hb) H

theorem cells_sl {f : Bool} {e : List (List V)} : (V.sl f e).cells = [.sl f e] := rfl
theorem one_sl {f : Bool} {e : List (List V)} : (V.sl f e).one = true := rfl
theorem frz_int {H : Heap} {k : IntKind} {n : Int} : frzV 12 H (.int k n) = some (.int k n, H) := by unfold frzV; rfl
theorem cells_IV (ys : List Int) : (IV ys).cells = [IV ys] := by unfold IV; split <;> rfl
theorem one_IV (ys : List Int) : (IV ys).one = true := by unfold IV; split <;> rfl

theorem sum_add : ∀ (l : List Int) (s : Int), (l.map (· + s)).sum = l.sum + s * (l.length : Int)
  | [], s => by simp
  | x :: r, s => by
    rw [List.map_cons, List.sum_cons, List.sum_cons, sum_add r s, List.length_cons]
    push_cast
    rw [Int.mul_add]; omega

/-- Lowest terms of right weights are right. -/
theorem lowest_right {xs : List Int} {M : Int} (h1 : 1 ≤ xs.length) (h2 : xs.length ≤ 12) (h3 : ∀ x ∈ xs, 0 ≤ x ∧ x ≤ M) (hM : M ≤ 1048576) (h4 : 1 ≤ xs.sum) : Right (Lowest xs) = true := by
  obtain ⟨g, hg, hG⟩ := lowest_spec (fun x hx => (h3 x hx).1) h4
  have hs : g * (Lowest xs).sum = xs.sum := by rw [← sum_map_mul, hG]
  have h5 : 1 ≤ (Lowest xs).sum := by
    rcases (by omega : 0 < (Lowest xs).sum ∨ (Lowest xs).sum ≤ 0) with h | h
    · omega
    · have : g * (Lowest xs).sum ≤ 0 := Int.mul_nonpos_of_nonneg_of_nonpos (by omega) h
      omega
  exact (right_small (by simpa [Lowest] using h1) (by simpa [Lowest] using h2) (lowest_range h3) hM h5).1

theorem weights_ok {xs : List Int} {s : Int} (h : (WeightsR xs s).2 = 0) : Right (WeightsR xs s).1 = true := by
  unfold WeightsR at h ⊢
  split at h
  · simp at h
  · rename_i h1
    rw [if_neg h1]
    split at h
    · simp at h
    · rename_i h2
      rw [if_neg h2]
      have h3 : Within xs 524288 = true ∧ 0 ≤ s ∧ s ≤ 1024 := by
        refine ⟨?_, by omega, by omega⟩
        cases hw : Within xs 524288 with
        | true => rfl
        | false => exact absurd (Or.inl hw) h1
      obtain ⟨hw, hs1, hs2⟩ := h3
      obtain ⟨hI, hl1, hl2⟩ := within_inside hw
      have hX := inside_get hI
      have hY : ∀ x ∈ xs.map (· + s), 0 ≤ x ∧ x ≤ 525312 := by
        intro x hx
        obtain ⟨y, hy, rfl⟩ := List.mem_map.1 hx
        have := hX y hy
        omega
      have hsum : sumW (xs.map (· + s)) = (xs.map (· + s)).sum := sumW_eq hY (by simp; omega)
      rw [hsum] at h2
      have := sum_nonneg fun x hx => (hY x hx).1
      exact lowest_right (by simpa using hl1) (by simpa using hl2) hY (by omega) (by omega)

theorem weights_zero {xs : List Int} (h1 : 1 ≤ xs.length) (h2 : xs.length ≤ 12) (h3 : ∀ x ∈ xs, 0 ≤ x ∧ x ≤ 1500) (h4 : 1 ≤ xs.sum) : WeightsR xs 0 = (Lowest xs, 0) := by
  have hm : xs.map (· + (0 : Int)) = xs := by
    conv => rhs; rw [← List.map_id xs]
    exact List.map_congr_left fun x _ => by simp
  have hw : Within xs 524288 = true := by
    simp only [Within, Inside, Bool.and_eq_true, List.all_eq_true, decide_eq_true_eq]
    exact ⟨fun x hx => by have := h3 x hx; omega, h1, h2⟩
  have hs : sumW xs = xs.sum := sumW_eq h3 (by omega)
  unfold WeightsR
  rw [if_neg (by simp [hw]), hm, if_neg (by omega)]

theorem weights_len (xs : List Int) (s : Int) : (WeightsR xs s).1.length ≤ xs.length := by
  unfold WeightsR; split
  · simp
  · split
    · simp
    · simp [Lowest]

theorem sum_mul (t : Int) : ∀ l : List Int, (l.map (· * t)).sum = l.sum * t
  | [] => by simp
  | x :: r => by rw [List.map_cons, List.sum_cons, List.sum_cons, sum_mul t r, Int.add_mul]

/-- diorama/dioramalaw27.LearnWeights -/
theorem f3_runs {v : V} {xs : List Int} (hv : IsInts v xs) (hl : xs.length < 4611686018427387904) (hx : ∀ x ∈ xs, I64 x) {n sm at_ by_ tm : Int} (hn : I64 n) (hs : I64 sm) (ha : I64 at_) (hb : I64 by_) (ht : I64 tm) : Runs LE 3 [v, .int .i64 n, .int .i64 sm, .int .i64 at_, .int .i64 by_, .int .i64 tm] (.bool true) := by
  have r1 := around_range (z := n) (most := 12) (by omega)
  have r2 := around_range (z := sm) (most := 5) (by omega)
  have r3 := around_range (z := tm) (most := 50) (by omega)
  have h1 : ∀ H, call LE 7 [.int .i64 n, .int .i64 12] H = some (.int .i64 (Around n 12), H) := fun H => c7 hn.1 hn.2
  have h2 : ∀ H, call LE 7 [.int .i64 sm, .int .i64 5] H = some (.int .i64 (Around sm 5), H) := fun H => c7 hs.1 hs.2
  have h3 : ∀ H, call LE 7 [.int .i64 tm, .int .i64 50] H = some (.int .i64 (Around tm 50), H) := fun H => c7 ht.1 ht.2
  obtain ⟨k, hk⟩ := Int.eq_ofNat_of_zero_le (show 0 ≤ 1 + Around n 12 by omega)
  have h4 : ∀ H, call LE 6 [v, .int .i64 (1 + Around n 12), .int .i64 30] H = some (IV (Made xs k 30), H) := fun H => by
    rw [hk]; exact c6 hv hl hx k (by omega) (by omega) 30 H
  obtain ⟨a1, a2, a3⟩ := made_props xs k (by omega) (by omega) (most := 30) (by omega) (by omega)
  have h5 := c9 hv hl
  have hvp := hv.pure
  generalize Made xs k 30 = A at *
  have hne : A ≠ [] := by intro h; subst h; simp at a1; omega
  have h6 := c8 (IV_is A) hne (by omega) ha hb
  generalize Around tm 50 = t' at *
  obtain ⟨t, ht'⟩ := Int.eq_ofNat_of_zero_le (show 0 ≤ 1 + t' by omega)
  let LV : List (List Int) := [A, Odd A at_ by_, [0, 0, 0], [], List.replicate 13 0, xs.take 14]
  let SV : List Int := [Around sm 5, sm, 1024, 1025]
  have hLV : ∀ i : Nat, i < 6 → ∃ w ys, IsInts w ys ∧ ys.length < 4611686018427387904 ∧ indexAddrV Try.prog 26 (.sl true [[IV A], [IV (Odd A at_ by_)], [.sl true (intsI [0, 0, 0])], [.nil], [.sl true (intsI (List.replicate 13 0))], [IV (xs.take 14)]]) (i : Int) = some (.rp [w]) := by
    have hO : (Odd A at_ by_).length < 4611686018427387904 := by
      unfold Odd; split
      · simp; omega
      · simp; omega
    have hT : (xs.take 14).length < 4611686018427387904 := by simp; omega
    intro i hi
    match i, hi with
    | 0, _ => exact ⟨_, A, IV_is A, by omega, by simp [indexAddrV, sizeT]⟩
    | 1, _ => exact ⟨_, _, IV_is _, hO, by simp [indexAddrV, sizeT]⟩
    | 2, _ => exact ⟨_, [0, 0, 0], .inr ⟨true, rfl⟩, by simp, by simp [indexAddrV, sizeT]⟩
    | 3, _ => exact ⟨_, [], .inl ⟨rfl, rfl⟩, by simp, by simp [indexAddrV, sizeT]⟩
    | 4, _ => exact ⟨_, List.replicate 13 0, .inr ⟨true, rfl⟩, by simp, by simp [indexAddrV, sizeT]⟩
    | 5, _ => exact ⟨_, _, IV_is _, hT, by simp [indexAddrV, sizeT]⟩
  have hSV : ∀ i : Nat, i < 4 → ∃ s rest, behind [newBlk 4 [.int .i64 (Around sm 5), .int .i64 sm, .int .i64 1024, .int .i64 1025]] (.mp 0 4 i) = some (.int .i64 s :: rest) := by
    intro i hi
    match i, hi with
    | 0, _ | 1, _ | 2, _ | 3, _ => exact ⟨_, _, rfl⟩
  have hL6 : lenV Try.prog 26 (.sl true [[IV A], [IV (Odd A at_ by_)], [.sl true (intsI [0, 0, 0])], [.nil], [.sl true (intsI (List.replicate 13 0))], [IV (xs.take 14)]]) = some 6 := by simp [lenV]
  have hM4 := @ms_len Try.prog 22 3 T22 0 4 0 4 true
  have hM5 := @ms_idx Try.prog 22 3 T22 0 4 4
  have hlA := lenL (IV_is A)
  have hiA := @idxL (IV A) A (IV_is A)
  generalize hLL : V.sl true [[IV A], [IV (Odd A at_ by_)], [.sl true (intsI [0, 0, 0])], [.nil], [.sl true (intsI (List.replicate 13 0))], [IV (xs.take 14)]] = LL at *
  generalize hHH : [newBlk 4 [V.int .i64 (Around sm 5), .int .i64 sm, .int .i64 1024, .int .i64 1025]] = HH at *
  refine runs_W (m := 142) Try.func3 rfl rfl (Nat.le_of_ble_eq_true rfl) ?_
  simp only [alOf]
  apply w_seq
  apply w_reg [0, 1, 2, 3, 4, 5] rfl; intro Q hQ
  simp (disch := omega) [wrap64, wrapU, V.pureL, V.pure, splice, leW, wrl, h1, h2, h3, h4, h5, h6, hL6, hM4, hM5, hlA, hiA, c14, nop, eop, fillV, List.replicate, cells_IV, one_IV, chunk, room, IV_pure, hvp, cells_sl, one_sl]
  apply after_some rfl; apply hQ; clear hQ Q
  apply w_seq
  apply w_reg [0, 2, 3, 4, 5, 13] rfl; intro Q hQ
  simp (disch := omega) [wrap64, wrapU, V.pureL, V.pure, splice, leW, wrl, h1, h2, h3, h4, h5, h6, hL6, hM4, hM5, hlA, hiA, c14, nop, eop, fillV, List.replicate, cells_IV, one_IV, chunk, room, IV_pure, hvp, cells_sl, one_sl]
  apply after_some rfl; apply hQ; clear hQ Q
  apply w_seq
  apply w_drw [2, 5, 13, 14] rfl (by kernel_rfl) 0 rfl; intro Q hQ
  simp (disch := omega) [wrap64, wrapU, V.pureL, V.pure, splice, leW, wrl, h1, h2, h3, h4, h5, h6, hL6, hM4, hM5, hlA, hiA, c14, nop, eop, fillV, List.replicate, cells_IV, one_IV, chunk, room, IV_pure, hvp, cells_sl, one_sl]
  apply after_some rfl; apply hQ; clear hQ Q
  apply w_seq
  apply w_reg [5, 13, 14, 15] rfl; intro Q hQ
  simp (disch := omega) [wrap64, wrapU, V.pureL, V.pure, splice, leW, wrl, h1, h2, h3, h4, h5, h6, hL6, hM4, hM5, hlA, hiA, c14, nop, eop, fillV, List.replicate, cells_IV, one_IV, chunk, room, IV_pure, hvp, cells_sl, one_sl]
  apply after_some rfl; apply hQ; clear hQ Q
  apply w_seq
  apply w_seq
  apply w_reg [5, 13, 14, 15, 16] rfl; intro Q hQ
  simp (disch := omega) [wrap64, wrapU, V.pureL, V.pure, splice, leW, wrl, h1, h2, h3, h4, h5, h6, hL6, hM4, hM5, hlA, hiA, c14, nop, eop, fillV, List.replicate, cells_IV, one_IV, chunk, room, IV_pure, hvp, cells_sl, one_sl]
  apply after_some rfl; apply hQ; clear hQ Q
  apply w_block
  -- LOOP live [5, 13, 14, 15, 16]
  refine w_loop (fun m al H => ∃ (i : Nat), m = 6 - i ∧ i ≤ 6 ∧ al = [(5, .int .i64 tm), (13, IV A), (14, LL), (15, .ms 1 0 4 0 4 true), (16, .int .i64 (i : Int))] ∧ HH = H) (6) ?_ ?_
  · exact ⟨0, by omega, by omega, by rw [← hLL]; rfl, by rw [← hHH]⟩
  rintro m al H ⟨i, hm, hi, rfl, rfl⟩
  apply w_seq
  apply w_seq
  apply w_reg [5, 13, 14, 15, 16, 50] rfl; intro Q hQ
  simp (disch := omega) [wrap64, wrapU, V.pureL, V.pure, splice, leW, wrl, h1, h2, h3, h4, h5, h6, hL6, hM4, hM5, hlA, hiA, c14, nop, eop, fillV, List.replicate, cells_IV, one_IV, chunk, room, IV_pure, hvp, cells_sl, one_sl]
  apply after_some rfl; apply hQ; clear hQ Q
  apply w_cond _ rfl <;> intro hc
  · first
    | (simp at hc; done)
    | try simp [Int.natCast_inj] at hc
      apply w_skip
      apply w_seq
      apply w_block
      apply w_seq
      apply w_reg [5, 13, 14, 15, 16, 17] rfl; intro Q hQ
      simp (disch := omega) [wrap64, wrapU, V.pureL, V.pure, splice, leW, wrl, h1, h2, h3, h4, h5, h6, hL6, hM4, hM5, hlA, hiA, c14, nop, eop, fillV, List.replicate, cells_IV, one_IV, chunk, room, IV_pure, hvp, cells_sl, one_sl]
      apply after_some rfl; apply hQ; clear hQ Q
      apply w_block
      -- LOOP live [5, 13, 14, 15, 16, 17]
      refine w_loop (fun m al H => ∃ (j : Nat), m = 4 - j ∧ j ≤ 4 ∧ al = [(5, .int .i64 tm), (13, IV A), (14, LL), (15, .ms 1 0 4 0 4 true), (16, .int .i64 (i : Int)), (17, .int .i64 (j : Int))] ∧ HH = H) (4) ?_ ?_
      · exact ⟨0, by omega, by omega, rfl, rfl⟩
      rintro m al H ⟨j, hm2, hj, rfl, rfl⟩
      apply w_seq
      apply w_seq
      apply w_reg [5, 13, 14, 15, 16, 17, 56] rfl; intro Q hQ
      simp (disch := omega) [wrap64, wrapU, V.pureL, V.pure, splice, leW, wrl, h1, h2, h3, h4, h5, h6, hL6, hM4, hM5, hlA, hiA, c14, nop, eop, fillV, List.replicate, cells_IV, one_IV, chunk, room, IV_pure, hvp, cells_sl, one_sl]
      apply after_some rfl; apply hQ; clear hQ Q
      apply w_cond _ rfl <;> intro hc
      · first
        | (simp at hc; done)
        | try simp [Int.natCast_inj] at hc
          apply w_skip
          apply w_seq
          apply w_block
          apply w_seq
          obtain ⟨w, ys, hw, hwl, hwi⟩ := hLV i (by omega)
          obtain ⟨s, rest, hsv⟩ := hSV j (by omega)
          have e10 := c10 hw hwl s
          have e11 := c11 hw hwl s
          have hlen := weights_len ys s
          have e12 := c12 (IV_is (WeightsR ys s).1) (IV_is (WeightsR ys s).1) (by omega) (by omega)
          have e13 := c13 (IV_is (WeightsR ys s).1) (by omega)
          have hR := @weights_ok ys s
          have hwp := hw.pure
          apply w_drw [5, 13, 14, 15, 16, 17, 18, 19] rfl (by kernel_rfl) 0 rfl; intro Q hQ
          simp (disch := omega) [wrap64, wrapU, V.pureL, V.pure, splice, leW, wrl, h1, h2, h3, h4, h5, h6, hL6, hM4, hM5, hlA, hiA, c14, nop, eop, fillV, List.replicate, cells_IV, one_IV, chunk, room, IV_pure, hvp, cells_sl, one_sl, hwi, hsv, e10, e11, e12, e13, hR, hwp, WV]
          apply after_some rfl; apply hQ; clear hQ Q
          apply w_seq
          apply w_drw [5, 13, 14, 15, 16, 17, 18, 19, 20, 21] rfl (by kernel_rfl) 0 rfl; intro Q hQ
          simp (disch := omega) [wrap64, wrapU, V.pureL, V.pure, splice, leW, wrl, h1, h2, h3, h4, h5, h6, hL6, hM4, hM5, hlA, hiA, c14, nop, eop, fillV, List.replicate, cells_IV, one_IV, chunk, room, IV_pure, hvp, cells_sl, one_sl, hwi, hsv, e10, e11, e12, e13, hR, hwp, WV]
          apply after_some rfl; apply hQ; clear hQ Q
          apply w_seq
          apply w_reg [5, 13, 14, 15, 16, 17, 100] rfl; intro Q hQ
          simp (disch := omega) [wrap64, wrapU, V.pureL, V.pure, splice, leW, wrl, h1, h2, h3, h4, h5, h6, hL6, hM4, hM5, hlA, hiA, c14, nop, eop, fillV, List.replicate, cells_IV, one_IV, chunk, room, IV_pure, hvp, cells_sl, one_sl, hwi, hsv, e10, e11, e12, e13, hR, hwp, WV]
          repeat' ((first | with_reducible apply after_guard | with_reducible apply after_guardD) <;> (intro hg; have hg' := hg; try simp at hg') <;> simp (disch := omega) [wrap64, wrapU, V.pureL, V.pure, splice, leW, wrl, h1, h2, h3, h4, h5, h6, hL6, hM4, hM5, hlA, hiA, c14, nop, eop, fillV, List.replicate, cells_IV, one_IV, chunk, room, IV_pure, hvp, cells_sl, one_sl, hwi, hsv, e10, e11, e12, e13, hR, hwp, WV, *])
          all_goals (apply after_some rfl; apply hQ; clear hQ Q)
          all_goals
            skip
            apply w_cond _ rfl <;> intro hc
            · first
              | (simp at hc; done)
              | try simp [Int.natCast_inj] at hc
                apply w_seq
                apply w_reg [12] rfl; intro Q hQ
                simp (disch := omega) [wrap64, wrapU, V.pureL, V.pure, splice, leW, wrl, h1, h2, h3, h4, h5, h6, hL6, hM4, hM5, hlA, hiA, c14, nop, eop, fillV, List.replicate, cells_IV, one_IV, chunk, room, IV_pure, hvp, cells_sl, one_sl, hwi, hsv, e10, e11, e12, e13, hR, hwp, WV]
                apply after_some rfl; apply hQ; clear hQ Q
                apply w_ret
                repeat (first | with_reducible apply kseq_ret | with_reducible apply kloop_ret | with_reducible apply kblock_ret)
                apply fin_pure rfl
                · rfl
                · rfl
            · first
              | (simp at hc; done)
              | try simp [Int.natCast_inj] at hc
                apply w_skip
                apply w_reg [5, 13, 14, 15, 16, 17] rfl; intro Q hQ
                simp (disch := omega) [wrap64, wrapU, V.pureL, V.pure, splice, leW, wrl, h1, h2, h3, h4, h5, h6, hL6, hM4, hM5, hlA, hiA, c14, nop, eop, fillV, List.replicate, cells_IV, one_IV, chunk, room, IV_pure, hvp, cells_sl, one_sl, hwi, hsv, e10, e11, e12, e13, hR, hwp, WV]
                apply after_some rfl; apply hQ; clear hQ Q
                repeat (with_reducible apply kblock_nrm)
                exact kloop_back (4 - (j + 1)) (by omega) ⟨j + 1, rfl, by omega, rfl, rfl⟩
      · first
        | (simp at hc; done)
        | try simp [Int.natCast_inj] at hc
          apply w_exit
          repeat (first | with_reducible apply kseq_exit | with_reducible apply kloop_exit | with_reducible apply kblock_exit | with_reducible apply kblock_pass (by decide))
          apply w_reg [5, 13, 14, 15, 16] rfl; intro Q hQ
          simp (disch := omega) [wrap64, wrapU, V.pureL, V.pure, splice, leW, wrl, h1, h2, h3, h4, h5, h6, hL6, hM4, hM5, hlA, hiA, c14, nop, eop, fillV, List.replicate, cells_IV, one_IV, chunk, room, IV_pure, hvp, cells_sl, one_sl]
          apply after_some rfl; apply hQ; clear hQ Q
          repeat (with_reducible apply kblock_nrm)
          exact kloop_back (6 - (i + 1)) (by omega) ⟨i + 1, rfl, by omega, rfl, rfl⟩
  · first
    | (simp at hc; done)
    | try simp [Int.natCast_inj] at hc
      apply w_exit
      repeat (first | with_reducible apply kseq_exit | with_reducible apply kloop_exit | with_reducible apply kblock_exit | with_reducible apply kblock_pass (by decide))
      apply w_seq
      apply w_reg [5, 13, 22] rfl; intro Q hQ
      simp (disch := omega) [wrap64, wrapU, V.pureL, V.pure, splice, leW, wrl, h1, h2, h3, h4, h5, h6, hL6, hM4, hM5, hlA, hiA, c14, nop, eop, fillV, List.replicate, cells_IV, one_IV, chunk, room, IV_pure, hvp, cells_sl, one_sl]
      apply after_some rfl; apply hQ; clear hQ Q
      apply w_seq
      apply w_seq
      apply w_reg [5, 13, 22, 23] rfl; intro Q hQ
      simp (disch := omega) [wrap64, wrapU, V.pureL, V.pure, splice, leW, wrl, h1, h2, h3, h4, h5, h6, hL6, hM4, hM5, hlA, hiA, c14, nop, eop, fillV, List.replicate, cells_IV, one_IV, chunk, room, IV_pure, hvp, cells_sl, one_sl]
      apply after_some rfl; apply hQ; clear hQ Q
      apply w_block
      -- LOOP live [5, 13, 22, 23]
      refine w_loop (fun m al H => ∃ (j : Nat) (w : V), m = A.length - j ∧ j ≤ A.length ∧ Mut H w ((A.take j).map (· * (1 + t'))) ∧ al = [(5, .int .i64 tm), (13, IV A), (22, w), (23, .int .i64 (j : Int))]) (A.length) ?_ ?_
      · exact ⟨0, .nil, by omega, by omega, .nil, rfl⟩
      rintro m al H ⟨j, w, hm2, hj, hU, rfl⟩
      apply w_seq
      apply w_seq
      apply w_reg [5, 13, 22, 23, 104] rfl; intro Q hQ
      simp (disch := omega) [wrap64, wrapU, V.pureL, V.pure, splice, leW, wrl, h1, h2, h3, h4, h5, h6, hL6, hM4, hM5, hlA, hiA, c14, nop, eop, fillV, List.replicate, cells_IV, one_IV, chunk, room, IV_pure, hvp, cells_sl, one_sl]
      apply after_some rfl; apply hQ; clear hQ Q
      apply w_cond _ rfl <;> intro hc
      · first
        | (simp at hc; done)
        | try simp [Int.natCast_inj] at hc
          apply w_skip
          apply w_seq
          apply w_block
          have cx := rangeN a2 hc
          have b1 : 0 ≤ A[j] * (1 + t') := Int.mul_nonneg cx.1 (by omega)
          have b2 : A[j] * (1 + t') ≤ 30 * 50 := Int.mul_le_mul cx.2 (by omega) (by omega) (by omega)
          have hB := hU.append1_eq T22 (A[j] * (1 + t')) (by simp; omega)
          apply w_drw [5, 13, 22, 23] rfl (by kernel_rfl) 0 rfl; intro Q hQ
          simp (disch := omega) [wrap64, wrapU, V.pureL, V.pure, splice, leW, wrl, h1, h2, h3, h4, h5, h6, hL6, hM4, hM5, hlA, hiA, c14, nop, eop, fillV, List.replicate, cells_IV, one_IV, chunk, room, IV_pure, hvp, cells_sl, one_sl, hB, no_one]
          apply after_some rfl; apply hQ; clear hQ Q
          apply w_reg [5, 13, 22, 23] rfl; intro Q hQ
          simp (disch := omega) [wrap64, wrapU, V.pureL, V.pure, splice, leW, wrl, h1, h2, h3, h4, h5, h6, hL6, hM4, hM5, hlA, hiA, c14, nop, eop, fillV, List.replicate, cells_IV, one_IV, chunk, room, IV_pure, hvp, cells_sl, one_sl, hB, no_one]
          apply after_some rfl; apply hQ; clear hQ Q
          repeat (with_reducible apply kblock_nrm)
          refine kloop_back (A.length - (j + 1)) (by omega) ⟨j + 1, _, rfl, by omega, ?_, rfl⟩
          rw [List.take_succ_eq_append_getElem hc, List.map_append]
          exact hU.append1_mut T22 _ (by simp; omega)
      · first
        | (simp at hc; done)
        | try simp [Int.natCast_inj] at hc
          apply w_exit
          repeat (first | with_reducible apply kseq_exit | with_reducible apply kloop_exit | with_reducible apply kblock_exit | with_reducible apply kblock_pass (by decide))
          have hz : j = A.length := by omega
          subst hz
          rw [List.take_length] at hU
          have hY : ∀ x ∈ A.map (· * (1 + t')), 0 ≤ x ∧ x ≤ 1500 := by
            intro x hx
            obtain ⟨y, hy, rfl⟩ := List.mem_map.1 hx
            have h7 := a2 y hy
            have b1 : 0 ≤ y * (1 + t') := Int.mul_nonneg h7.1 (by omega)
            have b2 : y * (1 + t') ≤ 30 * 50 := Int.mul_le_mul h7.2 (by omega) (by omega) (by omega)
            omega
          have hsum : 1 ≤ (A.map (· * (1 + t'))).sum := by
            rw [sum_mul]; exact Int.mul_pos (by omega) (by omega)
          have e1 := c10 (IV_is A) (by omega) 0
          rw [weights_zero (by omega) (by omega) (fun x hx => by have := a2 x hx; omega) a3] at e1
          obtain ⟨H2, hF⟩ := hU.frz
          have hr := f10_runs (IV_is (A.map (· * (1 + t')))) (by simp; omega) 0
          have hlm : Lowest (A.map (· * (1 + t'))) = Lowest A := by rw [ht']; exact lowest_mul (t := t) (by omega) (fun x hx => (a2 x hx).1)
          rw [weights_zero (by simp; omega) (by simp; omega) hY hsum, hlm] at hr
          have e2 := call_mv (E := LE) (f := 10) (args := [w, .int .i64 0]) (H := H) (H1 := H2) rfl rfl (by simp only [frzList, hF, frz_int]) (pureL_cons (IV_pure _) rfl) hr
          have e3 := c12 (IV_is (Lowest A)) (IV_is (Lowest A)) (by simp [Lowest]; omega) (by simp [Lowest]; omega)
          apply w_seq
          apply w_reg [22, 24, 25] rfl; intro Q hQ
          simp (disch := omega) [wrap64, wrapU, V.pureL, V.pure, splice, leW, wrl, h1, h2, h3, h4, h5, h6, hL6, hM4, hM5, hlA, hiA, c14, nop, eop, fillV, List.replicate, cells_IV, one_IV, chunk, room, IV_pure, hvp, cells_sl, one_sl, e1, e2, e3, WV]
          apply after_some rfl; apply hQ; clear hQ Q
          apply w_seq
          apply w_reg [24, 25, 26, 27] rfl; intro Q hQ
          simp (disch := omega) [wrap64, wrapU, V.pureL, V.pure, splice, leW, wrl, h1, h2, h3, h4, h5, h6, hL6, hM4, hM5, hlA, hiA, c14, nop, eop, fillV, List.replicate, cells_IV, one_IV, chunk, room, IV_pure, hvp, cells_sl, one_sl, e1, e2, e3, WV]
          apply after_some rfl; apply hQ; clear hQ Q
          apply w_seq
          apply w_reg [12] rfl; intro Q hQ
          simp (disch := omega) [wrap64, wrapU, V.pureL, V.pure, splice, leW, wrl, h1, h2, h3, h4, h5, h6, hL6, hM4, hM5, hlA, hiA, c14, nop, eop, fillV, List.replicate, cells_IV, one_IV, chunk, room, IV_pure, hvp, cells_sl, one_sl, e1, e2, e3, WV]
          repeat' ((first | with_reducible apply after_guard | with_reducible apply after_guardD) <;> (intro hg; have hg' := hg; try simp at hg') <;> simp (disch := omega) [wrap64, wrapU, V.pureL, V.pure, splice, leW, wrl, h1, h2, h3, h4, h5, h6, hL6, hM4, hM5, hlA, hiA, c14, nop, eop, fillV, List.replicate, cells_IV, one_IV, chunk, room, IV_pure, hvp, cells_sl, one_sl, e1, e2, e3, WV, *])
          all_goals (apply after_some rfl; apply hQ; clear hQ Q)
          all_goals
            skip
            apply w_ret
            repeat (first | with_reducible apply kseq_ret | with_reducible apply kloop_ret | with_reducible apply kblock_ret)
            apply fin_pure rfl
            · rfl
            · rfl

theorem c3 {v : V} {xs : List Int} (hv : IsInts v xs) (hl : xs.length < 4611686018427387904) (hx : ∀ x ∈ xs, I64 x) {n sm at_ by_ tm : Int} (hn : I64 n) (hs : I64 sm) (ha : I64 at_) (hb : I64 by_) (ht : I64 tm) : call LE 3 [v, .int .i64 n, .int .i64 sm, .int .i64 at_, .int .i64 by_, .int .i64 tm] [] = some (.bool true, []) := call_pure rfl (.inl rfl) (pureL_cons hv.pure rfl) (f3_runs hv hl hx hn hs ha hb ht) []

end Go.Ae.Ln
