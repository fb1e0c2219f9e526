/-
  The law of the way to a blend.
-/
import Derived.Test.YtobammkdioeknaaLe3
import Derived.Test.YtobammkdioeknaaLe1
set_option linter.unusedVariables false
set_option linter.unusedSimpArgs false
namespace Go.Ae.Ln
open Go.Proofs

/-- diorama/dioramalaw27.LearnBetween -/
theorem f5_runs {v u : V} {xs ys : List Int} (hv : IsInts v xs) (hu : IsInts u ys) (hl : xs.length < 4611686018427387904) (hm : ys.length < 4611686018427387904) (hx : ∀ x ∈ xs, I64 x) (hy : ∀ x ∈ ys, I64 x) {n p q : Int} (hn : I64 n) (hp : I64 p) (hq : I64 q) : Runs LE 5 [v, u, .int .i64 n, .int .i64 p, .int .i64 q] (.bool true) := by
  have r1 := around_range (z := n) (most := 5) (by omega)
  have r2 := around_range (z := q) (most := 12) (by omega)
  have r3 := around_range (z := p) (most := 1 + Around q 12 + 1) (by omega)
  have h1 : ∀ H, call LE 7 [.int .i64 n, .int .i64 5] H = some (.int .i64 (Around n 5), H) := fun H => c7 hn.1 hn.2
  have h2 : ∀ H, call LE 7 [.int .i64 q, .int .i64 12] H = some (.int .i64 (Around q 12), H) := fun H => c7 hq.1 hq.2
  have h3 : ∀ H, call LE 7 [.int .i64 p, .int .i64 (1 + Around q 12 + 1)] H = some (.int .i64 (Around p (1 + Around q 12 + 1)), H) := fun H => c7 hp.1 hp.2
  generalize Around p (1 + Around q 12 + 1) = p' at *
  generalize Around q 12 = q' at *
  obtain ⟨k, hk⟩ := Int.eq_ofNat_of_zero_le (show 0 ≤ 1 + Around n 5 by omega)
  have h4 : ∀ H, call LE 6 [v, .int .i64 (1 + Around n 5), .int .i64 12] H = some (IV (Made xs k 12), H) := fun H => by
    rw [hk]; exact c6 hv hl hx k (by omega) (by omega) 12 H
  have h5 : ∀ H, call LE 6 [u, .int .i64 (1 + Around n 5), .int .i64 12] H = some (IV (Made ys k 12), H) := fun H => by
    rw [hk]; exact c6 hu hm hy k (by omega) (by omega) 12 H
  obtain ⟨a1, a2, a3⟩ := made_props xs k (by omega) (by omega) (most := 12) (by omega) (by omega)
  obtain ⟨b1, b2, b3⟩ := made_props ys k (by omega) (by omega) (most := 12) (by omega) (by omega)
  generalize Made xs k 12 = A at *
  generalize Made ys k 12 = B at *
  obtain ⟨P, Q, m1, m2, m3, m4, m5, m6, m7⟩ := make_small (p := p') (q := 1 + q') (by omega) (by omega) (by omega) (by omega)
  have hPQ : P ≤ Q := by
    have e1 : p' * Q ≤ (1 + q') * Q := Int.mul_le_mul_of_nonneg_right (by omega) (by omega)
    rw [← m2, Int.mul_comm (1 + q')] at e1
    exact Int.le_of_mul_le_mul_right e1 (by omega)
  obtain ⟨C, x1, x2, y1, y2, w1, w2, hC, hB, hF, vF, hG, vG, hM, vM, hE⟩ := between (a := A) (b := B) (P := P) (Q := Q) (by omega) (by omega) (by omega) a2 b2 a3 b3 m3 hPQ m5 (by omega) m7
  have h6 := c19 (p := p') (q := 1 + q') (by omega) (by omega) (by omega) (by omega)
  rw [m1] at h6
  have h7 := c16 (IV_is A) (IV_is B) (by omega) (by omega) (p := P) (q := Q) ⟨by omega, by omega⟩ ⟨by omega, by omega⟩
  rw [hB] at h7
  have h8 := c20 (IV_is A) (IV_is B) (by omega) (by omega)
  rw [hF] at h8
  have h9 := c20 (IV_is A) (IV_is C) (by omega) (by omega)
  rw [hG] at h9
  have h10 := c21 vF m7
  rw [hM] at h10
  have h11 := c22 vG vM
  rw [if_pos (by rw [hE])] at h11
  refine runs_W (m := 96) Try.func5 rfl rfl (Nat.le_of_ble_eq_true rfl) ?_
  simp only [alOf]
  apply w_seq
  apply w_reg [0, 1, 2, 3, 4] rfl; intro Q hQ
  simp (disch := omega) [wrap64, wrapU, V.pureL, V.pure, splice, leW, wrl, h1, h2, h3, h4, h5, h6, h7, h8, h9, h10, h11, c14, WV]
  apply after_some rfl; apply hQ; clear hQ Q
  apply w_seq
  apply w_reg [0, 1, 3, 4, 11] rfl; intro Q hQ
  simp (disch := omega) [wrap64, wrapU, V.pureL, V.pure, splice, leW, wrl, h1, h2, h3, h4, h5, h6, h7, h8, h9, h10, h11, c14, WV]
  apply after_some rfl; apply hQ; clear hQ Q
  apply w_seq
  apply w_reg [1, 3, 4, 11, 12] rfl; intro Q hQ
  simp (disch := omega) [wrap64, wrapU, V.pureL, V.pure, splice, leW, wrl, h1, h2, h3, h4, h5, h6, h7, h8, h9, h10, h11, c14, WV]
  apply after_some rfl; apply hQ; clear hQ Q
  apply w_seq
  apply w_reg [3, 4, 12, 13] rfl; intro Q hQ
  simp (disch := omega) [wrap64, wrapU, V.pureL, V.pure, splice, leW, wrl, h1, h2, h3, h4, h5, h6, h7, h8, h9, h10, h11, c14, WV]
  apply after_some rfl; apply hQ; clear hQ Q
  apply w_seq
  apply w_reg [3, 12, 13, 14] rfl; intro Q hQ
  simp (disch := omega) [wrap64, wrapU, V.pureL, V.pure, splice, leW, wrl, h1, h2, h3, h4, h5, h6, h7, h8, h9, h10, h11, c14, WV]
  apply after_some rfl; apply hQ; clear hQ Q
  apply w_seq
  apply w_reg [12, 13, 15, 16] rfl; intro Q hQ
  simp (disch := omega) [wrap64, wrapU, V.pureL, V.pure, splice, leW, wrl, h1, h2, h3, h4, h5, h6, h7, h8, h9, h10, h11, c14, WV]
  apply after_some rfl; apply hQ; clear hQ Q
  apply w_seq
  apply w_reg [12, 13, 15, 16, 17, 18] rfl; intro Q hQ
  simp (disch := omega) [wrap64, wrapU, V.pureL, V.pure, splice, leW, wrl, h1, h2, h3, h4, h5, h6, h7, h8, h9, h10, h11, c14, WV]
  apply after_some rfl; apply hQ; clear hQ Q
  apply w_seq
  apply w_reg [12, 15, 16, 17, 18, 19, 20] rfl; intro Q hQ
  simp (disch := omega) [wrap64, wrapU, V.pureL, V.pure, splice, leW, wrl, h1, h2, h3, h4, h5, h6, h7, h8, h9, h10, h11, c14, WV]
  apply after_some rfl; apply hQ; clear hQ Q
  apply w_seq
  apply w_reg [15, 16, 18, 19, 20, 21, 22] rfl; intro Q hQ
  simp (disch := omega) [wrap64, wrapU, V.pureL, V.pure, splice, leW, wrl, h1, h2, h3, h4, h5, h6, h7, h8, h9, h10, h11, c14, WV]
  apply after_some rfl; apply hQ; clear hQ Q
  apply w_seq
  apply w_reg [16, 18, 20, 21, 22, 23, 24] rfl; intro Q hQ
  simp (disch := omega) [wrap64, wrapU, V.pureL, V.pure, splice, leW, wrl, h1, h2, h3, h4, h5, h6, h7, h8, h9, h10, h11, c14, WV]
  apply after_some rfl; apply hQ; clear hQ Q
  apply w_seq
  apply w_seq
  apply w_reg [21, 23, 88] rfl; intro Q hQ
  simp (disch := omega) [wrap64, wrapU, V.pureL, V.pure, splice, leW, wrl, h1, h2, h3, h4, h5, h6, h7, h8, h9, h10, h11, c14, WV]
  repeat' ((first | with_reducible apply after_guard | with_reducible apply after_guardD) <;> (intro hg; have hg' := hg; try simp at hg') <;> simp (disch := omega) [wrap64, wrapU, V.pureL, V.pure, splice, leW, wrl, h1, h2, h3, h4, h5, h6, h7, h8, h9, h10, h11, c14, WV, *])
  all_goals (apply after_some rfl; apply hQ; clear hQ Q)
  all_goals
    skip
    apply w_cond _ rfl <;> intro hc
    · first
      | (simp at hc; done)
      | try simp [Int.natCast_inj] at hc
        apply w_seq
        apply w_reg [10] rfl; intro Q hQ
        simp (disch := omega) [wrap64, wrapU, V.pureL, V.pure, splice, leW, wrl, h1, h2, h3, h4, h5, h6, h7, h8, h9, h10, h11, c14, WV]
        apply after_some rfl; apply hQ; clear hQ Q
        apply w_ret
        repeat (first | with_reducible apply kseq_ret | with_reducible apply kloop_ret | with_reducible apply kblock_ret)
        apply fin_pure rfl
        · rfl
        · rfl
    · first
      | (simp at hc; done)
      | try simp [Int.natCast_inj] at hc
        apply w_skip
        apply w_seq
        apply w_reg [10] rfl; intro Q hQ
        simp (disch := omega) [wrap64, wrapU, V.pureL, V.pure, splice, leW, wrl, h1, h2, h3, h4, h5, h6, h7, h8, h9, h10, h11, c14, WV]
        repeat' ((first | with_reducible apply after_guard | with_reducible apply after_guardD) <;> (intro hg; have hg' := hg; try simp at hg') <;> simp (disch := omega) [wrap64, wrapU, V.pureL, V.pure, splice, leW, wrl, h1, h2, h3, h4, h5, h6, h7, h8, h9, h10, h11, c14, WV, *])
        all_goals (apply after_some rfl; apply hQ; clear hQ Q)
        all_goals
          skip
          apply w_ret
          repeat (first | with_reducible apply kseq_ret | with_reducible apply kloop_ret | with_reducible apply kblock_ret)
          apply fin_pure rfl
          · rfl
          · rfl

theorem c5 {v u : V} {xs ys : List Int} (hv : IsInts v xs) (hu : IsInts u ys) (hl : xs.length < 4611686018427387904) (hm : ys.length < 4611686018427387904) (hx : ∀ x ∈ xs, I64 x) (hy : ∀ x ∈ ys, I64 x) {n p q : Int} (hn : I64 n) (hp : I64 p) (hq : I64 q) : call LE 5 [v, u, .int .i64 n, .int .i64 p, .int .i64 q] [] = some (.bool true, []) := call_pure rfl (.inl rfl) (pureL_cons hv.pure (pureL_cons hu.pure rfl)) (f5_runs hv hu hl hm hx hy hn hp hq) []

end Go.Ae.Ln
