/-
  What functions of the learn laws return: the lists that the laws make.
-/
import Derived.Test.YtobammkdioeknaaLe1
set_option linter.unusedVariables false
set_option linter.unusedSimpArgs false
namespace Go.Ae.Ln
open Go.Proofs

/-- The number at a place, 0 behind the end. -/
def at0 (xs : List Int) (i : Nat) : Int := xs.getD i 0

theorem c23 {v : V} {xs : List Int} (hv : IsInts v xs) (hl : xs.length < 4611686018427387904) (hx : ∀ x ∈ xs, I64 x) (i : Nat) (most : Int) (H : Heap) : call LE 23 [v, .int .i64 (i : Int), .int .i64 most] H = some (.int .i64 (Around (at0 xs i) most), H) :=
  call_pure rfl (.inl rfl) (pureL_cons hv.pure rfl) (f23_runs hv hl hx i most) H

theorem around_range {z most : Int} (h : 1 ≤ most) : 0 ≤ Around z most ∧ Around z most < most := by
  unfold Around
  rw [if_neg (by omega)]
  have h1 : 0 ≤ (if z < 0 then -(z + 1) else z) := by split <;> omega
  rw [Int.tmod_eq_emod_of_nonneg h1]
  exact ⟨Int.emod_nonneg _ (by omega), Int.emod_lt_of_pos _ (by omega)⟩

def madeAll (xs : List Int) (n : Nat) (most : Int) : List Int := (List.range n).map fun i => Around (at0 xs i) most
def Made (xs : List Int) (n : Nat) (most : Int) : List Int :=
  if sumW (madeAll xs n most) = 0 then (madeAll xs n most).set (Around (at0 xs 0) n).toNat 1 else madeAll xs n most

theorem madeAll_len (xs : List Int) (n : Nat) (most : Int) : (madeAll xs n most).length = n := by simp [madeAll]

/-- diorama/dioramaref27.Made -/
theorem f6_runs {v : V} {xs : List Int} (hv : IsInts v xs) (hl : xs.length < 4611686018427387904) (hx : ∀ x ∈ xs, I64 x) (n : Nat) (hn : 1 ≤ n) (hn2 : n ≤ 1048576) (most : Int) : Runs LE 6 [v, .int .i64 (n : Int), .int .i64 most] (IV (Made xs n most)) := by
  have hC := c23 hv hl hx
  refine runs_W (m := 34) Try.func6 rfl rfl (Nat.le_of_ble_eq_true rfl) ?_
  simp only [alOf]
  apply w_seq
  apply w_reg [0, 1, 2] rfl; intro Q hQ
  simp (disch := omega) [wrap64, wrapU, hC, eo_one T22']
  apply after_some rfl; apply hQ; clear hQ Q
  apply w_seq
  apply w_reg [0, 1, 2, 7] rfl; intro Q hQ
  simp (disch := omega) [wrap64, wrapU, hC, eo_one T22']
  apply after_some rfl; apply hQ; clear hQ Q
  apply w_seq
  apply w_seq
  apply w_reg [0, 1, 2, 7, 8] rfl; intro Q hQ
  simp (disch := omega) [wrap64, wrapU, hC, eo_one T22']
  apply after_some rfl; apply hQ; clear hQ Q
  apply w_block
  -- LOOP live [0, 1, 2, 7, 8]
  refine w_loop (fun m al H => ∃ (i : Nat) (u : V), m = n - i ∧ i ≤ n ∧ Mut H u (madeAll xs i most) ∧ al = [(0, v), (1, .int .i64 (n : Int)), (2, .int .i64 most), (7, u), (8, .int .i64 (i : Int))]) (n) ?_ ?_
  · exact ⟨0, .nil, by simp, by omega, .nil, rfl⟩
  rintro m al H ⟨j, u, hm2, hj, hU, rfl⟩
  have hB : appendV Try.prog (H ++ [newBlk 1 [.int .i64 (Around (at0 xs j) most)]]) 22 u (.ms 1 H.length 1 0 1 true) = some (appL Try.prog 22 H u (Around (at0 xs j) most), appH Try.prog 22 H u (Around (at0 xs j) most)) := hU.append_eq T22 _ (by rw [madeAll_len]; omega)
  apply w_seq
  apply w_seq
  apply w_reg [0, 1, 2, 7, 8, 11] rfl; intro Q hQ
  simp (disch := omega) [wrap64, wrapU, hC, eo_one T22', hB]
  apply after_some rfl; apply hQ; clear hQ Q
  apply w_cond _ rfl <;> intro hc
  · first
    | (simp at hc; done)
    | try simp at hc
      apply w_skip
      apply w_seq
      apply w_block
      apply w_reg [0, 1, 2, 7, 8] rfl; intro Q hQ
      simp (disch := omega) [wrap64, wrapU, hC, eo_one T22', hB]
      apply after_some rfl; apply hQ; clear hQ Q
      apply w_reg [0, 1, 2, 7, 8] rfl; intro Q hQ
      simp (disch := omega) [wrap64, wrapU, hC, eo_one T22', hB]
      apply after_some rfl; apply hQ; clear hQ Q
      repeat (with_reducible apply kblock_nrm)
      refine kloop_back (n - (j + 1)) (by omega) ⟨j + 1, _, rfl, by omega, ?_, rfl⟩
      unfold madeAll at hU ⊢
      rw [List.range_succ, List.map_append]
      exact hU.append_mut T22 _ (by simp; omega)
  · first
    | (simp at hc; done)
    | try simp at hc
      apply w_exit
      repeat (first | with_reducible apply kseq_exit | with_reducible apply kloop_exit | with_reducible apply kblock_exit | with_reducible apply kblock_pass (by decide))
      have hz : j = n := by omega
      subst hz
      clear hB
      have h4 := call_mut_snap rfl hU (f24_runs (IV_is _) (by rw [madeAll_len]; omega)) rfl
      have hR := around_range (z := at0 xs 0) (most := (j : Int)) (by omega)
      obtain ⟨b, ver, rfl, hG, hne⟩ : ∃ b ver, u = .ms 1 b ver 0 j false ∧ getW H b ver = some (cellsI (madeAll xs j most)) ∧ madeAll xs j most ≠ [] := by
        rcases hU with ⟨_, h⟩ | h
        · have := madeAll_len xs j most
          rw [h] at this
          simp at this
          omega
        · rw [madeAll_len] at h
          exact h
      have hK : ∀ H, call LE 23 [v, .int .i64 0, .int .i64 (j : Int)] H = some (.int .i64 ((Around (at0 xs 0) j).toNat : Int), H) := fun H => by
        rw [Int.toNat_of_nonneg hR.1]
        exact hC 0 j H
      have hI : indexAddrV Try.prog 22 (.ms 1 b ver 0 j false) ((Around (at0 xs 0) j).toNat : Int) = some (.mp b ver (Around (at0 xs 0) j).toNat) := ms_idx T22 (by omega)
      have hT : (Around (at0 xs 0) j).toNat + 1 ≤ j := by omega
      have hS : splice (cellsI (madeAll xs j most)) (Around (at0 xs 0) j).toNat [.int .i64 1] = cellsI ((madeAll xs j most).set (Around (at0 xs 0) j).toNat 1) := splice_cells (by rw [madeAll_len]; omega) 1
      generalize hk : (Around (at0 xs 0) j).toNat = k at *
      apply w_seq
      apply w_seq
      apply w_reg [0, 1, 7, 27] rfl; intro Q hQ
      simp (disch := omega) [wrap64, wrapU, hC, eo_one T22', h4, hK, hI, hG, hS, hT, cellsI_len, madeAll_len]
      repeat' ((first | with_reducible apply after_guard | with_reducible apply after_guardD) <;> (intro hg; have hg' := hg; try simp at hg') <;> simp (disch := omega) [wrap64, wrapU, hC, eo_one T22', *])
      all_goals (apply after_some rfl; apply hQ; clear hQ Q)
      all_goals
        skip
        apply w_cond _ rfl <;> intro hc
        · first
          | (simp at hc; done)
          | try simp at hc
            apply w_reg [7] rfl; intro Q hQ
            simp (disch := omega) [wrap64, wrapU, hC, eo_one T22', h4, hK, hI, hG, hS, hT, cellsI_len, madeAll_len]
            apply after_some rfl; apply hQ; clear hQ Q
            apply w_seq
            apply w_reg [6] rfl; intro Q hQ
            simp (disch := omega) [wrap64, wrapU, hC, eo_one T22', h4, hK, hI, hG, hS, hT, cellsI_len, madeAll_len]
            apply after_some rfl; apply hQ; clear hQ Q
            apply w_ret
            repeat (first | with_reducible apply kseq_ret | with_reducible apply kloop_ret | with_reducible apply kblock_ret)
            have hF := frz_ms (full := false) (getW_set (H := H) (ver := ver) (cs := cellsI ((madeAll xs j most).set k 1)) (getW_lt hG))
            have hY : Made xs j most = (madeAll xs j most).set k 1 := by
              unfold Made
              rw [if_pos (by simp_all), hk]
            have hY2 : Made xs j most ≠ [] := by
              rw [hY]; simpa using hne
            rw [List.length_set, madeAll_len] at hF
            refine fin_frz rfl (v := IV (Made xs j most)) (by rw [IV, if_neg hY2, hY]; exact hF) (IV_pure _) ?_
            unfold IV; split <;> rfl
        · first
          | (simp at hc; done)
          | try simp at hc
            apply w_skip
            apply w_seq
            apply w_reg [6] rfl; intro Q hQ
            simp (disch := omega) [wrap64, wrapU, hC, eo_one T22', h4, hK, hI, hG, hS, hT, cellsI_len, madeAll_len]
            apply after_some rfl; apply hQ; clear hQ Q
            apply w_ret
            repeat (first | with_reducible apply kseq_ret | with_reducible apply kloop_ret | with_reducible apply kblock_ret)
            have hF := frz_ms (full := false) hG
            have hY : Made xs j most = madeAll xs j most := by
              unfold Made
              rw [if_neg (by simp_all)]
            have hY2 : Made xs j most ≠ [] := by rw [hY]; exact hne
            rw [madeAll_len] at hF
            refine fin_frz rfl (v := IV (Made xs j most)) (by rw [IV, if_neg hY2, hY]; exact hF) (IV_pure _) ?_
            unfold IV; split <;> rfl

theorem c6 {v : V} {xs : List Int} (hv : IsInts v xs) (hl : xs.length < 4611686018427387904) (hx : ∀ x ∈ xs, I64 x) (n : Nat) (hn : 1 ≤ n) (hn2 : n ≤ 1048576) (most : Int) (H : Heap) : call LE 6 [v, .int .i64 (n : Int), .int .i64 most] H = some (IV (Made xs n most), H) :=
  call_pure rfl (.inr rfl) (pureL_cons hv.pure rfl) (f6_runs hv hl hx n hn hn2 most) H

end Go.Ae.Ln

namespace Go.Ae.Ln
open Go.Proofs

/-- diorama/dioramaref01.Take -/
theorem f9_runs {v : V} {xs : List Int} (hv : IsInts v xs) (hl : xs.length < 4611686018427387904) : Runs LE 9 [v, .int .i64 14] (IV (xs.take 14)) := by
  have h1 := lenL hv
  have h2 := @idxL v xs hv
  obtain ⟨k, hk1, hk2⟩ : ∃ k : Nat, (if (14 : Int) < (xs.length : Int) then 14 else (xs.length : Int)) = (k : Int) ∧ k = min xs.length 14 := ⟨min xs.length 14, by split <;> omega, rfl⟩
  obtain ⟨v1, h3, h4⟩ := slice_take (H := []) T22 hv k (by omega)
  obtain ⟨w, H1, h5, h6⟩ := append_nil (H := []) T22 h4 (by simp; omega)
  have h7 : xs.take k = xs.take 14 := by
    rcases Nat.le_total xs.length 14 with h | h
    · rw [hk2, Nat.min_eq_left h, List.take_of_length_le h, List.take_of_length_le (Nat.le_refl _)]
    · rw [hk2, Nat.min_eq_right h]
  rw [h7] at h6
  refine runs_W (m := 14) Try.func9 rfl rfl (Nat.le_of_ble_eq_true rfl) ?_
  simp only [alOf]
  apply w_seq
  apply w_reg [0, 1] rfl; intro Q hQ
  simp (disch := omega) [wrap64, wrapU, h1, h3, h5, ql_min, hk1]
  apply after_some rfl; apply hQ; clear hQ Q
  apply w_seq
  apply w_reg [0, 1, 5] rfl; intro Q hQ
  simp (disch := omega) [wrap64, wrapU, h1, h3, h5, ql_min, hk1]
  apply after_some rfl; apply hQ; clear hQ Q
  apply w_seq
  apply w_reg [4] rfl; intro Q hQ
  simp (disch := omega) [wrap64, wrapU, h1, h3, h5, ql_min, hk1]
  apply after_some rfl; apply hQ; clear hQ Q
  apply w_ret
  repeat (first | with_reducible apply kseq_ret | with_reducible apply kloop_ret | with_reducible apply kblock_ret)
  obtain ⟨H2, hF⟩ := h6.frz
  refine fin_frz rfl hF (IV_pure _) ?_
  unfold IV; split <;> rfl

theorem c9 {v : V} {xs : List Int} (hv : IsInts v xs) (hl : xs.length < 4611686018427387904) (H : Heap) : call LE 9 [v, .int .i64 14] H = some (IV (xs.take 14), H) :=
  call_pure rfl (.inr rfl) (pureL_cons hv.pure rfl) (f9_runs hv hl) H

end Go.Ae.Ln

namespace Go.Ae.Ln
open Go.Proofs

def six (b : Int) : List Int := [-1, 524288, 524289, 1048576, 1048577, b]

/-- A list with one number changed, or one more. -/
def Odd (xs : List Int) (a b : Int) : List Int :=
  if b.tmod 3 = 0 then xs ++ [1] else xs.set (Around a xs.length).toNat ((six b).getD (Around b 6).toNat 0)

theorem eo_six {H : Heap} {ρ : Operand → Option V} {d : Option Tmp} {x0 x1 x2 x3 x4 x5 : Operand} {a0 a1 a2 a3 a4 a5 : Int} (h0 : ρ x0 = some (.int .i64 a0)) (h1 : ρ x1 = some (.int .i64 a1)) (h2 : ρ x2 = some (.int .i64 a2)) (h3 : ρ x3 = some (.int .i64 a3)) (h4 : ρ x4 = some (.int .i64 a4)) (h5 : ρ x5 = some (.int .i64 a5)) :
    eop LE 8 d H ρ (.buildSlice 22 6 #[(0, x0), (1, x1), (2, x2), (3, x3), (4, x4), (5, x5)]) = some (.ms 1 H.length 6 0 6 true, H ++ [newBlk 6 (cellsI [a0, a1, a2, a3, a4, a5])]) := by
  simp [eop, partsO, h0, h1, h2, h3, h4, h5, fillV, splice, List.replicate, cellsI]

/-- diorama/dioramalaw27.odd -/
theorem f8_runs {v : V} {xs : List Int} (hv : IsInts v xs) (hne : xs ≠ []) (hl : xs.length ≤ 1000) {a b : Int} (ha : I64 a) (hb : I64 b) : Runs LE 8 [v, .int .i64 a, .int .i64 b] (IV (Odd xs a b)) := by
  have h1 := append_clone (H := []) T22 hv hne (by omega)
  rw [List.nil_append, List.length_nil] at h1
  have hp : 1 ≤ xs.length := by cases xs with | nil => exact absurd rfl hne | cons _ _ => simp
  have h2 := @ms_len Try.prog 22 3 T22 0 xs.length 0 xs.length false
  have hR1 := around_range (z := a) (most := (xs.length : Int)) (by omega)
  have hR2 := around_range (z := b) (most := 6) (by omega)
  have h3 : ∀ H, call LE 7 [.int .i64 a, .int .i64 (xs.length : Int)] H = some (.int .i64 ((Around a xs.length).toNat : Int), H) := fun H => by
    rw [Int.toNat_of_nonneg hR1.1]; exact c7 ha.1 ha.2
  have h4 : ∀ H, call LE 7 [.int .i64 b, .int .i64 6] H = some (.int .i64 ((Around b 6).toNat : Int), H) := fun H => by
    rw [Int.toNat_of_nonneg hR2.1]; exact c7 hb.1 hb.2
  have hk1 : (Around a xs.length).toNat < xs.length := by omega
  have hk2 : (Around b 6).toNat < 6 := by omega
  have hO1 : b.tmod 3 = 0 → Odd xs a b = xs ++ [1] := fun h => by rw [Odd, if_pos h]
  have hO2 : b.tmod 3 ≠ 0 → Odd xs a b = xs.set (Around a xs.length).toNat ((six b).getD (Around b 6).toNat 0) := fun h => by rw [Odd, if_neg h]
  generalize (Around a xs.length).toNat = k1 at *
  generalize (Around b 6).toNat = k2 at *
  have hW : getW [newBlk xs.length (cellsI xs)] 0 xs.length = some (cellsI xs) := by simp [getW, newBlk]
  obtain ⟨w, H9, hA0, hM⟩ := (show Mut [newBlk xs.length (cellsI xs)] (.ms 1 0 xs.length 0 xs.length false) xs from .inr ⟨0, xs.length, rfl, hW, hne⟩).append T22 1 (by omega)
  have hA : appendV Try.prog [newBlk xs.length (cellsI xs), newBlk 1 [.int .i64 1]] 22 (.ms 1 0 xs.length 0 xs.length false) (.ms 1 1 1 0 1 true) = some (w, H9) := hA0
  refine runs_W (m := 35) Try.func8 rfl rfl (Nat.le_of_ble_eq_true rfl) ?_
  simp only [alOf]
  apply w_seq
  apply w_reg [0, 1, 2] rfl; intro Q hQ
  simp (disch := omega) [wrap64, wrapU, hne, h1, h2, h3, h4, hA, eo_one T22', eo_none T22']
  apply after_some rfl; apply hQ; clear hQ Q
  apply w_seq
  apply w_reg [1, 2, 7] rfl; intro Q hQ
  simp (disch := omega) [wrap64, wrapU, hne, h1, h2, h3, h4, hA, eo_one T22', eo_none T22']
  apply after_some rfl; apply hQ; clear hQ Q
  apply w_seq
  apply w_seq
  apply w_reg [1, 2, 7, 18] rfl; intro Q hQ
  simp (disch := omega) [wrap64, wrapU, hne, h1, h2, h3, h4, hA, eo_one T22', eo_none T22']
  repeat' ((first | with_reducible apply after_guard | with_reducible apply after_guardD) <;> (intro hg; have hg' := hg; try simp at hg') <;> simp (disch := omega) [wrap64, wrapU, hne, h1, h2, h3, h4, hA, eo_one T22', eo_none T22', *])
  all_goals (apply after_some rfl; apply hQ; clear hQ Q)
  all_goals
    skip
    apply w_cond _ rfl <;> intro hc
    · first
      | (simp at hc; done)
      | try simp at hc
        apply w_seq
        apply w_reg [6] rfl; intro Q hQ
        simp (disch := omega) [wrap64, wrapU, hne, h1, h2, h3, h4, hA, eo_one T22', eo_none T22']
        apply after_some rfl; apply hQ; clear hQ Q
        apply w_ret
        repeat (first | with_reducible apply kseq_ret | with_reducible apply kloop_ret | with_reducible apply kblock_ret)
        obtain ⟨H2, hF⟩ := hM.frz
        rw [← hO1 (by simpa using hc)] at hF
        refine fin_frz rfl hF (IV_pure _) ?_
        unfold IV; split <;> rfl
    · first
      | (simp at hc; done)
      | try simp at hc
        apply w_skip
        apply w_seq
        have hI1 := @ms_idx Try.prog 22 3 T22 0 xs.length xs.length k1 false hk1
        have hI2 := @ms_idx Try.prog 22 3 T22 1 6 6 k2 true hk2
        let HH : Heap := [newBlk xs.length (cellsI xs), newBlk 6 [.int .i64 (-1), .int .i64 524288, .int .i64 524289, .int .i64 1048576, .int .i64 1048577, .int .i64 b]]
        have hL : behind [newBlk xs.length (cellsI xs), newBlk 6 [.int .i64 (-1), .int .i64 524288, .int .i64 524289, .int .i64 1048576, .int .i64 1048577, .int .i64 b]] (.mp 1 6 k2) = some (.int .i64 ((six b).getD k2 0) :: (cellsI (six b)).drop (k2 + 1)) := by
          match k2, hk2 with
          | 0, _ | 1, _ | 2, _ | 3, _ | 4, _ | 5, _ => rfl
        have hW2 : getW [newBlk xs.length (cellsI xs), newBlk 6 [.int .i64 (-1), .int .i64 524288, .int .i64 524289, .int .i64 1048576, .int .i64 1048577, .int .i64 b]] 0 xs.length = some (cellsI xs) := by simp [getW, newBlk]
        have hS : splice (cellsI xs) k1 [.int .i64 ((six b).getD k2 0)] = cellsI (xs.set k1 ((six b).getD k2 0)) := splice_cells hk1 _
        have hT : k1 + 1 ≤ xs.length := hk1
        generalize (six b).getD k2 0 = z at *
        apply w_reg [7] rfl; intro Q hQ
        simp (disch := omega) [wrap64, wrapU, hne, h1, h2, h3, h4, hA, eo_one T22', eo_none T22', hI1, hI2, hL, hW2, hS, hT, eop, fillV, splice, List.replicate, cellsI_len]
        apply after_some rfl; apply hQ; clear hQ Q
        apply w_seq
        apply w_reg [6] rfl; intro Q hQ
        simp (disch := omega) [wrap64, wrapU, hne, h1, h2, h3, h4, hA, eo_one T22', eo_none T22', hI1, hI2, hL, hW2, hS, hT, eop, fillV, splice, List.replicate, cellsI_len]
        apply after_some rfl; apply hQ; clear hQ Q
        apply w_ret
        repeat (first | with_reducible apply kseq_ret | with_reducible apply kloop_ret | with_reducible apply kblock_ret)
        have hF := frz_ms (full := false) (getW_set (H := [newBlk xs.length (cellsI xs), newBlk 6 [.int .i64 (-1), .int .i64 524288, .int .i64 524289, .int .i64 1048576, .int .i64 1048577, .int .i64 b]]) (ver := xs.length) (cs := cellsI (xs.set k1 z)) (b := 0) (by simp))
        rw [List.length_set] at hF
        have hS2 : List.take k1 (cellsI xs) ++ V.int .i64 z :: List.drop (k1 + 1) (cellsI xs) = cellsI (xs.set k1 z) := by rw [← hS]; simp [splice]
        have hY : Odd xs a b = xs.set k1 z := hO2 (by simpa using hc)
        have hY2 : Odd xs a b ≠ [] := by rw [hY]; simpa using hne
        refine fin_frz rfl (v := IV (Odd xs a b)) (by rw [IV, if_neg hY2, hY, hS2]; exact hF) (IV_pure _) ?_
        unfold IV; split <;> rfl

end Go.Ae.Ln

namespace Go.Ae.Ln

/-- Where nothing wraps, a wrapped sum is the sum. -/
theorem foldl_addW {M : Int} : ∀ (xs : List Int) (acc : Int), (∀ x ∈ xs, 0 ≤ x ∧ x ≤ M) → 0 ≤ acc → acc + M * xs.length ≤ 9223372036854775807 → xs.foldl addW acc = acc + xs.sum
  | [], acc, _, _, _ => by simp
  | x :: r, acc, h, h0, hb => by
    have hx := h x (by simp)
    have hM : 0 ≤ M := by omega
    have h1 : 0 ≤ M * (r.length : Int) := Int.mul_nonneg hM (Int.natCast_nonneg _)
    have h2 : M * ((x :: r).length : Int) = M * (r.length : Int) + M := by
      rw [List.length_cons]; push_cast; rw [Int.mul_add, Int.mul_one]
    rw [h2] at hb
    have h3 : addW acc x = acc + x := wrap64 (by omega) (by omega)
    rw [List.foldl_cons, h3, foldl_addW r (acc + x) (fun y hy => h y (by simp [hy])) (by omega) (by omega), List.sum_cons]
    omega

theorem sumW_eq {M : Int} {xs : List Int} (h : ∀ x ∈ xs, 0 ≤ x ∧ x ≤ M) (hb : M * xs.length ≤ 9223372036854775807) : sumW xs = xs.sum := by
  rw [sumW, foldl_addW xs 0 h (by omega) (by omega)]; omega

theorem sum_nonneg : ∀ {xs : List Int}, (∀ x ∈ xs, 0 ≤ x) → 0 ≤ xs.sum
  | [], _ => by simp
  | x :: r, h => by
    have h1 := h x (by simp)
    have h2 := sum_nonneg (xs := r) (fun y hy => h y (by simp [hy]))
    rw [List.sum_cons]; omega

theorem sum_zero : ∀ {xs : List Int}, (∀ x ∈ xs, 0 ≤ x) → xs.sum = 0 → ∀ x ∈ xs, x = 0
  | [], _, _, x, hx => by simp at hx
  | y :: r, h, hs, x, hx => by
    have h1 := h y (by simp)
    have h2 := sum_nonneg (xs := r) (fun z hz => h z (by simp [hz]))
    rw [List.sum_cons] at hs
    rcases List.mem_cons.1 hx with rfl | hx
    · omega
    · exact sum_zero (xs := r) (fun z hz => h z (by simp [hz])) (by omega) x hx

theorem foldl_gcd_dvd : ∀ (xs : List Int) (acc : Nat), xs.foldl (fun n x => Nat.gcd x.toNat n) acc ∣ acc ∧ ∀ x ∈ xs, xs.foldl (fun n x => Nat.gcd x.toNat n) acc ∣ x.toNat
  | [], acc => ⟨Nat.dvd_refl _, by simp⟩
  | x :: r, acc => by
    obtain ⟨h1, h2⟩ := foldl_gcd_dvd r (Nat.gcd x.toNat acc)
    refine ⟨Nat.dvd_trans h1 (Nat.gcd_dvd_right _ _), fun y hy => ?_⟩
    rcases List.mem_cons.1 hy with rfl | hy
    · exact Nat.dvd_trans h1 (Nat.gcd_dvd_left _ _)
    · exact h2 y hy

theorem gcdL_dvd {xs : List Int} {x : Int} (hx : x ∈ xs) : gcdL xs ∣ x.toNat := (foldl_gcd_dvd xs 0).2 x hx

theorem foldl_gcd_mul (t : Nat) : ∀ (xs : List Int) (acc : Nat), (∀ x ∈ xs, 0 ≤ x) → (xs.map (· * (t : Int))).foldl (fun n x => Nat.gcd x.toNat n) (acc * t) = xs.foldl (fun n x => Nat.gcd x.toNat n) acc * t
  | [], acc, _ => rfl
  | x :: r, acc, h => by
    have hx := h x (by simp)
    have h1 : (x * (t : Int)).toNat = x.toNat * t := by
      obtain ⟨k, rfl⟩ := Int.eq_ofNat_of_zero_le hx
      rw [← Int.natCast_mul]; rfl
    rw [List.map_cons, List.foldl_cons, List.foldl_cons, h1, Nat.gcd_mul_right]
    exact foldl_gcd_mul t r _ (fun y hy => h y (by simp [hy]))

theorem gcdL_mul (t : Nat) {xs : List Int} (h : ∀ x ∈ xs, 0 ≤ x) : gcdL (xs.map (· * (t : Int))) = gcdL xs * t := by
  have := foldl_gcd_mul t xs 0 h
  rwa [Nat.zero_mul] at this

/-- Multiplied weights have the same lowest terms. -/
theorem lowest_mul {t : Nat} (ht : 1 ≤ t) {xs : List Int} (h : ∀ x ∈ xs, 0 ≤ x) : Lowest (xs.map (· * (t : Int))) = Lowest xs := by
  unfold Lowest
  rw [gcdL_mul t h, List.map_map]
  refine List.map_congr_left fun x hx => ?_
  simp only [Function.comp]
  have h0 := h x hx
  rcases Nat.eq_zero_or_pos (gcdL xs) with hg | hg
  · have hd := gcdL_dvd hx
    rw [hg, Nat.zero_dvd] at hd
    have : x = 0 := by omega
    subst this
    simp
  · have e1 : max (((gcdL xs * t : Nat) : Int)) 1 = (gcdL xs : Int) * (t : Int) := by
      have : 1 ≤ gcdL xs * t := Nat.mul_pos hg ht
      rw [← Int.natCast_mul]; omega
    have e2 : max ((gcdL xs : Int)) 1 = (gcdL xs : Int) := by omega
    rw [e1, e2]
    exact Int.mul_tdiv_mul_of_pos_left x (gcdL xs : Int) (by omega : (0 : Int) < t)

/-- Lowest terms are right weights. -/
theorem lowest_range {M : Int} {xs : List Int} (h : ∀ x ∈ xs, 0 ≤ x ∧ x ≤ M) : ∀ x ∈ Lowest xs, 0 ≤ x ∧ x ≤ M := by
  intro y hy
  obtain ⟨x, hx, rfl⟩ := List.mem_map.1 hy
  have h1 := h x hx
  have hg : (0 : Int) ≤ max (gcdL xs : Int) 1 := by omega
  refine ⟨Int.tdiv_nonneg h1.1 hg, ?_⟩
  rw [Int.tdiv_eq_ediv_of_nonneg h1.1]
  exact Int.le_trans (Int.ediv_le_self _ h1.1) h1.2

end Go.Ae.Ln

namespace Go.Ae.Ln
open Go.Proofs

theorem m3 : LE.mode 3 = .snap := rfl
theorem m4 : LE.mode 4 = .snap := rfl
theorem m5 : LE.mode 5 = .snap := rfl
theorem m7 : LE.mode 7 = .snap := rfl
theorem m12 : LE.mode 12 = .snap := rfl
theorem m13 : LE.mode 13 = .snap := rfl
theorem m14 : LE.mode 14 = .snap := rfl
theorem m22 : LE.mode 22 = .snap := rfl
theorem m23 : LE.mode 23 = .snap := rfl
theorem m24 : LE.mode 24 = .snap := rfl
theorem m25 : LE.mode 25 = .snap := rfl
theorem m27 : LE.mode 27 = .snap := rfl
theorem m29 : LE.mode 29 = .snap := rfl
theorem m30 : LE.mode 30 = .snap := rfl
theorem m31 : LE.mode 31 = .snap := rfl
theorem m32 : LE.mode 32 = .snap := rfl
theorem m33 : LE.mode 33 = .snap := rfl
theorem m34 : LE.mode 34 = .snap := rfl
theorem m35 : LE.mode 35 = .snap := rfl
theorem m36 : LE.mode 36 = .snap := rfl
theorem m37 : LE.mode 37 = .snap := rfl
theorem m41 : LE.mode 41 = .snap := rfl
theorem m42 : LE.mode 42 = .snap := rfl
theorem m43 : LE.mode 43 = .snap := rfl
theorem m6 : LE.mode 6 = .mv := rfl
theorem m8 : LE.mode 8 = .mv := rfl
theorem m9 : LE.mode 9 = .mv := rfl
theorem m10 : LE.mode 10 = .mv := rfl
theorem m11 : LE.mode 11 = .mv := rfl
theorem m15 : LE.mode 15 = .mv := rfl
theorem m16 : LE.mode 16 = .mv := rfl
theorem m17 : LE.mode 17 = .mv := rfl
theorem m18 : LE.mode 18 = .mv := rfl
theorem m19 : LE.mode 19 = .mv := rfl
theorem m20 : LE.mode 20 = .mv := rfl
theorem m21 : LE.mode 21 = .mv := rfl
theorem m28 : LE.mode 28 = .mv := rfl
theorem m38 : LE.mode 38 = .mv := rfl
theorem m46 : LE.mode 46 = .mv := rfl
attribute [simp] m3 m4 m5 m7 m12 m13 m14 m22 m23 m24 m25 m27 m29 m30 m31 m32 m33 m34 m35 m36 m37 m41 m42 m43 m6 m8 m9 m10 m11 m15 m16 m17 m18 m19 m20 m21 m28 m38 m46
theorem fo390 : fldOff Try.prog 39 0 = some 0 := by kernel_rfl
theorem fo391 : fldOff Try.prog 39 1 = some 1 := by kernel_rfl
theorem sz39 (h : 39 < Try.prog.types.size) : (Try.prog.types[39]'h).size = 2 := by kernel_rfl
attribute [simp] fo390 fo391 sz39

theorem wrapU_neg {n : Int} (h1 : -9223372036854775808 ≤ n) (h2 : n < 0) : IntKind.u64.wrap (-IntKind.u64.wrap n) = (n.natAbs : Int) := by
  simp only [IntKind.wrap, IntKind.bits, IntKind.signed]
  simp
  omega

theorem convU {cl : Call} {f : FuncId} {al : AL} {H : Heap} {d : Option Tmp} {x : Operand} : stepO LE cl f d (.convert 3 53 x) al H = match rhoA LE al x with
      | some (.int _ n) => some (.int .u64 (IntKind.u64.wrap n), H)
      | some v => (qop LE H (fun _ => some v) (.convert 3 53 x)).map fun v => (v, H)
      | none => none := so_conv t3 t53
theorem convI {cl : Call} {f : FuncId} {al : AL} {H : Heap} {d : Option Tmp} {x : Operand} : stepO LE cl f d (.convert 53 3 x) al H = match rhoA LE al x with
      | some (.int _ n) => some (.int .i64 (IntKind.i64.wrap n), H)
      | some v => (qop LE H (fun _ => some v) (.convert 53 3 x)).map fun v => (v, H)
      | none => none := so_conv t53 t3

/-- A valid fraction. -/
def VF (p q : Int) : Bool := decide (p = 0 ∧ q = 0) || decide (1 ≤ q ∧ q ≤ 2147483648 ∧ -2147483648 ≤ p ∧ p ≤ 2147483648 ∧ Nat.gcd p.natAbs q.natAbs = 1)

/-- The fraction in lowest terms and the error of Make. -/
def MakeF (p q : Int) : (Int × Int) × Int :=
  if q = 0 then ((0, 0), 1)
  else if 2147483648 < p.natAbs / Nat.gcd p.natAbs q.natAbs ∨ 2147483648 < q.natAbs / Nat.gcd p.natAbs q.natAbs then ((0, 0), 5)
  else if decide (p < 0) = decide (q < 0) then (((p.natAbs / Nat.gcd p.natAbs q.natAbs : Nat), (q.natAbs / Nat.gcd p.natAbs q.natAbs : Nat)), 0)
  else ((-((p.natAbs / Nat.gcd p.natAbs q.natAbs : Nat) : Int), (q.natAbs / Nat.gcd p.natAbs q.natAbs : Nat)), 0)

theorem eqR (p q a b : Int) : binV Try.prog .eql 39 (.agg [.int .i64 p, .int .i64 q]) (.agg [.int .i64 a, .int .i64 b]) = some (.bool (decide (p = a ∧ q = b))) := by
  have h1 : eqFree Try.prog 39 (.agg [.int .i64 p, .int .i64 q]) = true := by kernel_rfl
  have h2 : Try.prog.stoodInHeld 39 = false := by kernel_rfl
  have e1 : ∀ (x y : Int), eqV Try.prog 9998 3 (.int .i64 x) (.int .i64 y) = some (decide (x = y)) := fun x y => by unfold eqV; simp; rfl
  have h3 : eqV Try.prog 9999 39 (.agg [.int .i64 p, .int .i64 q]) (.agg [.int .i64 a, .int .i64 b]) = some (decide (p = a ∧ q = b)) := by
    unfold eqV
    simp only [t39, h2, fieldsRatio, List.toList_toArray, eqV.eqFields, partV, t3, TI.agg]
    simp [e1]
    by_cases hp : p = a <;> by_cases hq : q = b <;> simp [hp, hq]
  simp [binV, h1, h3]
theorem buildR0 : buildV Try.prog 39 [] = some (.agg [.int .i64 0, .int .i64 0]) := by kernel_rfl
theorem pl39 : places Try.prog fieldsRatio.toList = some [(0, 1), (1, 1)] := by kernel_rfl
theorem buildR {p q : Int} : buildV Try.prog 39 [(0, .int .i64 p), (1, .int .i64 q)] = some (.agg [.int .i64 p, .int .i64 q]) := by
  simp [buildV, pl39, fillV, splice, V.cells]

abbrev RV (p q : Int) : V := .agg [.int .i64 p, .int .i64 q]

/-- diorama/ratio.size -/
theorem f35_runs {n : Int} (hn : I64 n) : Runs LE 35 [.int .i64 n] (.int .u64 (n.natAbs : Int)) := by
  have h1 := hn.1
  have h2 := hn.2
  refine runs_W (m := 10) Try.func35 rfl rfl (Nat.le_of_ble_eq_true rfl) ?_
  simp only [alOf]
  apply w_seq
  apply w_reg [0] rfl; intro Q hQ
  simp (disch := omega) [wrap64, wrapU, convU, wrapU_neg]
  apply after_some rfl; apply hQ; clear hQ Q
  apply w_seq
  apply w_seq
  apply w_reg [0, 4] rfl; intro Q hQ
  simp (disch := omega) [wrap64, wrapU, convU, wrapU_neg]
  apply after_some rfl; apply hQ; clear hQ Q
  apply w_cond _ rfl <;> intro hc
  · first
    | (simp at hc; done)
    | try simp at hc
      apply w_seq
      apply w_reg [2] rfl; intro Q hQ
      simp (disch := omega) [wrap64, wrapU, convU, wrapU_neg]
      apply after_some rfl; apply hQ; clear hQ Q
      apply w_ret
      repeat (first | with_reducible apply kseq_ret | with_reducible apply kloop_ret | with_reducible apply kblock_ret)
      apply fin_pure rfl
      · first | rfl | (congr 1; done) | (congr 1; omega)
      · rfl
  · first
    | (simp at hc; done)
    | try simp at hc
      apply w_skip
      apply w_seq
      apply w_reg [2] rfl; intro Q hQ
      simp (disch := omega) [wrap64, wrapU, convU, wrapU_neg]
      apply after_some rfl; apply hQ; clear hQ Q
      apply w_ret
      repeat (first | with_reducible apply kseq_ret | with_reducible apply kloop_ret | with_reducible apply kblock_ret)
      apply fin_pure rfl
      · first | rfl | (congr 1; done) | (congr 1; omega)
      · rfl

/-- diorama/dioramaref04.Size -/
theorem f43_runs {n : Int} (hn : I64 n) : Runs LE 43 [.int .i64 n] (.int .u64 (n.natAbs : Int)) := by
  have h1 := hn.1
  have h2 := hn.2
  refine runs_W (m := 12) Try.func43 rfl rfl (Nat.le_of_ble_eq_true rfl) ?_
  simp only [alOf]
  apply w_seq
  apply w_reg [0] rfl; intro Q hQ
  simp (disch := omega) [wrap64, wrapU, convU]
  apply after_some rfl; apply hQ; clear hQ Q
  apply w_seq
  apply w_seq
  apply w_reg [0, 4] rfl; intro Q hQ
  simp (disch := omega) [wrap64, wrapU, convU]
  apply after_some rfl; apply hQ; clear hQ Q
  apply w_cond _ rfl <;> intro hc
  · first
    | (simp at hc; done)
    | try simp at hc
      apply w_seq
      apply w_reg [2] rfl; intro Q hQ
      simp (disch := omega) [wrap64, wrapU, convU]
      apply after_some rfl; apply hQ; clear hQ Q
      apply w_ret
      repeat (first | with_reducible apply kseq_ret | with_reducible apply kloop_ret | with_reducible apply kblock_ret)
      apply fin_pure rfl
      · first | rfl | (congr 1; done) | (congr 1; omega)
      · rfl
  · first
    | (simp at hc; done)
    | try simp at hc
      apply w_skip
      apply w_seq
      apply w_reg [2] rfl; intro Q hQ
      simp (disch := omega) [wrap64, wrapU, convU]
      apply after_some rfl; apply hQ; clear hQ Q
      apply w_ret
      repeat (first | with_reducible apply kseq_ret | with_reducible apply kloop_ret | with_reducible apply kblock_ret)
      apply fin_pure rfl
      · first | rfl | (congr 1; done) | (congr 1; omega)
      · rfl

theorem c35 {n : Int} (h1 : -9223372036854775808 ≤ n) (h2 : n ≤ 9223372036854775807) (H : Heap) : call LE 35 [.int .i64 n] H = some (.int .u64 (n.natAbs : Int), H) := call_pure rfl (.inl rfl) rfl (f35_runs ⟨h1, h2⟩) H
theorem c43 {n : Int} (h1 : -9223372036854775808 ≤ n) (h2 : n ≤ 9223372036854775807) (H : Heap) : call LE 43 [.int .i64 n] H = some (.int .u64 (n.natAbs : Int), H) := call_pure rfl (.inl rfl) rfl (f43_runs ⟨h1, h2⟩) H

/-- diorama/ratio.gcd$1 -/
theorem c44 : ∀ (b a : Nat) (H : Heap) (p ver : Nat), a < 18446744073709551616 → b < 18446744073709551616 → getBlk H p ver = some [.fn 44 [] [.mp p ver 0]] → call LE 44 [.int .u64 (a : Int), .int .u64 (b : Int), .mp p ver 0] H = some (.int .u64 (Nat.gcd a b : Int), H) := by
  refine fun b => Nat.strongRecOn b ?_
  intro b ih a H p ver ha hb hH
  have hR := getBlk_ro hH
  have hB : behind (roH H) (.mp p ver 0) = some [.fn 44 [] [.mp p ver 0]] := by simp [behind, hR]
  have hI : b ≠ 0 → call LE 44 [.int .u64 (b : Int), .int .u64 ((a : Int).tmod (b : Int)), .mp p ver 0] (roH H) = some (.int .u64 (Nat.gcd a b : Int), roH H) := fun h => by
    rw [Int.tmod_eq_emod_of_nonneg (Int.natCast_nonneg a), Nat.gcd_comm a b, Nat.gcd_rec b a, Nat.gcd_comm (a % b) b]
    exact ih (a % b) (Nat.mod_lt _ (by omega)) b (roH H) p ver hb (Nat.lt_trans (Nat.mod_lt _ (by omega)) hb) hR
  refine call_ro (H' := roH H) rfl rfl (run_W (m := 15) Try.func44 rfl rfl (Nat.le_of_ble_eq_true rfl) ?_) rfl
  simp only [alOf]
  apply w_seq
  apply w_reg [0, 1, 2] rfl; intro Q hQ
  simp (disch := omega) [wrap64, wrapU, hB, hI]
  apply after_some rfl; apply hQ; clear hQ Q
  apply w_seq
  apply w_seq
  apply w_reg [0, 1, 2, 7] rfl; intro Q hQ
  simp (disch := omega) [wrap64, wrapU, hB, hI]
  apply after_some rfl; apply hQ; clear hQ Q
  apply w_cond _ rfl <;> intro hc
  · first
    | (simp at hc; done)
    | try simp at hc
      apply w_seq
      apply w_reg [5] rfl; intro Q hQ
      simp (disch := omega) [wrap64, wrapU, hB, hI]
      apply after_some rfl; apply hQ; clear hQ Q
      apply w_ret
      repeat (first | with_reducible apply kseq_ret | with_reducible apply kloop_ret | with_reducible apply kblock_ret)
      refine ⟨rfl, ?_, rfl⟩
      show some _ = some _
      subst hc
      simp
  · first
    | (simp at hc; done)
    | try simp at hc
      apply w_skip
      apply w_seq
      apply w_drw [5] rfl (by kernel_rfl) 0 rfl; intro Q hQ
      simp (disch := omega) [wrap64, wrapU, hB, hI]
      apply after_some rfl; apply hQ; clear hQ Q
      apply w_ret
      repeat (first | with_reducible apply kseq_ret | with_reducible apply kloop_ret | with_reducible apply kblock_ret)
      exact ⟨rfl, rfl, rfl⟩

/-- diorama/ratio.gcd -/
theorem f36_runs {a b : Nat} (ha : a < 18446744073709551616) (hb : b < 18446744073709551616) : Runs LE 36 [.int .u64 (a : Int), .int .u64 (b : Int)] (.int .u64 (Nat.gcd a b : Int)) := by
  have hB : behind [some (0, false, [.fn 44 [] [.mp 0 0 0]])] (.mp 0 0 0) = some [.fn 44 [] [.mp 0 0 0]] := rfl
  have hC := c44 b a [some (0, false, [.fn 44 [] [.mp 0 0 0]])] 0 0 ha hb rfl
  refine runs_W (m := 11) Try.func36 rfl rfl (Nat.le_of_ble_eq_true rfl) ?_
  simp only [alOf]
  apply w_seq
  apply w_reg [0, 1] rfl; intro Q hQ
  simp (disch := omega) [wrap64, wrapU, hB, hC, getW, newBlk, setBlk, splice]
  apply after_some rfl; apply hQ; clear hQ Q
  apply w_seq
  apply w_reg [0, 1, 5] rfl; intro Q hQ
  simp (disch := omega) [wrap64, wrapU, hB, hC, getW, newBlk, setBlk, splice]
  apply after_some rfl; apply hQ; clear hQ Q
  apply w_seq
  apply w_reg [0, 1, 5] rfl; intro Q hQ
  simp (disch := omega) [wrap64, wrapU, hB, hC, getW, newBlk, setBlk, splice]
  apply after_some rfl; apply hQ; clear hQ Q
  apply w_seq
  apply w_reg [4] rfl; intro Q hQ
  simp (disch := omega) [wrap64, wrapU, hB, hC, getW, newBlk, setBlk, splice]
  apply after_some rfl; apply hQ; clear hQ Q
  apply w_ret
  repeat (first | with_reducible apply kseq_ret | with_reducible apply kloop_ret | with_reducible apply kblock_ret)
  apply fin_pure rfl
  · rfl
  · rfl

theorem c36n {a b : Nat} (ha : a < 18446744073709551616) (hb : b < 18446744073709551616) (H : Heap) : call LE 36 [.int .u64 (a : Int), .int .u64 (b : Int)] H = some (.int .u64 (Nat.gcd a b : Int), H) := call_pure rfl (.inl rfl) rfl (f36_runs ha hb) H
theorem c36 {x y : Int} (h1 : 0 ≤ x) (h2 : x < 18446744073709551616) (h3 : 0 ≤ y) (h4 : y < 18446744073709551616) (H : Heap) : call LE 36 [.int .u64 x, .int .u64 y] H = some (.int .u64 (Int.gcd x y : Int), H) := by
  obtain ⟨a, rfl⟩ := Int.eq_ofNat_of_zero_le h1
  obtain ⟨b, rfl⟩ := Int.eq_ofNat_of_zero_le h3
  exact c36n (by omega) (by omega) H

/-- diorama/dioramaref04.Common -/
theorem f42_runs (a b : Nat) (ha : a < 18446744073709551616) (hb : b < 18446744073709551616) : Runs LE 42 [.int .u64 (a : Int), .int .u64 (b : Int)] (.int .u64 (Nat.gcd a b : Int)) := by
  refine runs_W (m := 14) Try.func42 rfl rfl (Nat.le_of_ble_eq_true rfl) ?_
  simp only [alOf]
  apply w_seq
  apply w_reg [0, 1] rfl; intro Q hQ
  simp (disch := omega) [wrap64, wrapU]
  apply after_some rfl; apply hQ; clear hQ Q
  apply w_seq
  apply w_block
  -- LOOP live [0, 1]
  refine w_loop (fun m al H => ∃ (x y : Nat), m = y ∧ x < 18446744073709551616 ∧ y < 18446744073709551616 ∧ Nat.gcd x y = Nat.gcd a b ∧ al = [(0, .int .u64 (x : Int)), (1, .int .u64 (y : Int))] ∧ H = []) (b) ?_ ?_
  · exact ⟨a, b, rfl, ha, hb, rfl, rfl, rfl⟩
  rintro m al H ⟨x, y, rfl, hx, hy, hg, rfl, rfl⟩
  apply w_seq
  apply w_seq
  apply w_reg [0, 1, 7] rfl; intro Q hQ
  simp (disch := omega) [wrap64, wrapU]
  apply after_some rfl; apply hQ; clear hQ Q
  apply w_cond _ rfl <;> intro hc
  · first
    | (simp at hc; done)
    | try simp at hc
      apply w_skip
      apply w_block
      apply w_seq
      apply w_reg [1, 5] rfl; intro Q hQ
      simp (disch := omega) [wrap64, wrapU]
      apply after_some rfl; apply hQ; clear hQ Q
      apply w_seq
      apply w_reg [0, 5] rfl; intro Q hQ
      simp (disch := omega) [wrap64, wrapU]
      apply after_some rfl; apply hQ; clear hQ Q
      apply w_reg [0, 1] rfl; intro Q hQ
      simp (disch := omega) [wrap64, wrapU]
      apply after_some rfl; apply hQ; clear hQ Q
      repeat (with_reducible apply kblock_nrm)
      refine kloop_back (x % m) (Nat.mod_lt _ (by omega)) ⟨m, x % m, rfl, hy, Nat.lt_trans (Nat.mod_lt _ (by omega)) hy, ?_, ?_, rfl⟩
      · rw [← hg, Nat.gcd_comm m, ← Nat.gcd_rec, Nat.gcd_comm]
      · rw [Int.tmod_eq_emod_of_nonneg (Int.natCast_nonneg x)]; rfl
  · first
    | (simp at hc; done)
    | try simp at hc
      apply w_exit
      repeat (first | with_reducible apply kseq_exit | with_reducible apply kloop_exit | with_reducible apply kblock_exit | with_reducible apply kblock_pass (by decide))
      apply w_seq
      apply w_reg [4] rfl; intro Q hQ
      simp (disch := omega) [wrap64, wrapU]
      apply after_some rfl; apply hQ; clear hQ Q
      apply w_ret
      repeat (first | with_reducible apply kseq_ret | with_reducible apply kloop_ret | with_reducible apply kblock_ret)
      apply fin_pure rfl
      · subst hc; rw [← hg]; simp
      · rfl

theorem c42n {a b : Nat} (ha : a < 18446744073709551616) (hb : b < 18446744073709551616) (H : Heap) : call LE 42 [.int .u64 (a : Int), .int .u64 (b : Int)] H = some (.int .u64 (Nat.gcd a b : Int), H) := call_pure rfl (.inl rfl) rfl (f42_runs a b ha hb) H
theorem c42 {x y : Int} (h1 : 0 ≤ x) (h2 : x < 18446744073709551616) (h3 : 0 ≤ y) (h4 : y < 18446744073709551616) (H : Heap) : call LE 42 [.int .u64 x, .int .u64 y] H = some (.int .u64 (Int.gcd x y : Int), H) := by
  obtain ⟨a, rfl⟩ := Int.eq_ofNat_of_zero_le h1
  obtain ⟨b, rfl⟩ := Int.eq_ofNat_of_zero_le h3
  exact c42n (by omega) (by omega) H

/-- diorama/ratio.proper -/
theorem f46_runs {p q : Int} : Runs LE 46 [RV p q] (RV p (if q = 0 then 1 else q)) := by
  refine runs_W (m := 8) Try.func46 rfl rfl (Nat.le_of_ble_eq_true rfl) ?_
  simp only [alOf]
  apply w_seq
  apply w_reg [1, 2] rfl; intro Q hQ
  simp (disch := omega) [wrap64, wrapU, splice, leW, wrl]
  apply after_some rfl; apply hQ; clear hQ Q
  apply w_seq
  apply w_seq
  apply w_reg [1, 2, 5] rfl; intro Q hQ
  simp (disch := omega) [wrap64, wrapU, splice, leW, wrl]
  apply after_some rfl; apply hQ; clear hQ Q
  apply w_cond _ rfl <;> intro hc
  · first
    | (simp at hc; done)
    | try simp at hc
      apply w_reg [1, 2] rfl; intro Q hQ
      simp (disch := omega) [wrap64, wrapU, splice, leW, wrl]
      apply after_some rfl; apply hQ; clear hQ Q
      apply w_seq
      apply w_reg [2] rfl; intro Q hQ
      simp (disch := omega) [wrap64, wrapU, splice, leW, wrl]
      apply after_some rfl; apply hQ; clear hQ Q
      apply w_ret
      repeat (first | with_reducible apply kseq_ret | with_reducible apply kloop_ret | with_reducible apply kblock_ret)
      apply fin_pure rfl
      · rw [if_pos (by simpa using hc)]; rfl
      · rfl
  · first
    | (simp at hc; done)
    | try simp at hc
      apply w_skip
      apply w_seq
      apply w_reg [2] rfl; intro Q hQ
      simp (disch := omega) [wrap64, wrapU, splice, leW, wrl]
      apply after_some rfl; apply hQ; clear hQ Q
      apply w_ret
      repeat (first | with_reducible apply kseq_ret | with_reducible apply kloop_ret | with_reducible apply kblock_ret)
      apply fin_pure rfl
      · rw [if_neg (by simpa using hc)]; rfl
      · rfl

theorem c46 {p q : Int} (H : Heap) : call LE 46 [RV p q] H = some (RV p (if q = 0 then 1 else q), H) := call_pure rfl (.inr rfl) rfl f46_runs H

/-- diorama/ratio.Valid -/
theorem f31_runs {p q : Int} (hp : I64 p) (hq : I64 q) : Runs LE 31 [RV p q] (.bool (VF p q)) := by
  have h1 := hp.1
  have h2 := hp.2
  have h3 := hq.1
  have h4 := hq.2
  have h5 := @c35 p h1 h2
  have h6 := @c35 q h3 h4
  have h7 := @c36
  have hE := eqR p q 0 0
  refine runs_W (m := 34) Try.func31 rfl rfl (Nat.le_of_ble_eq_true rfl) ?_
  simp only [alOf]
  apply w_seq
  apply w_reg [1] rfl; intro Q hQ
  simp (disch := omega) [wrap64, wrapU, splice, leW, h5, h6, h7, hE, buildR0]
  apply after_some rfl; apply hQ; clear hQ Q
  apply w_seq
  apply w_seq
  apply w_reg [1, 5] rfl; intro Q hQ
  simp (disch := omega) [wrap64, wrapU, splice, leW, h5, h6, h7, hE, buildR0]
  apply after_some rfl; apply hQ; clear hQ Q
  apply w_cond _ rfl <;> intro hc
  · first
    | (simp at hc; done)
    | try simp at hc
      apply w_seq
      apply w_reg [2] rfl; intro Q hQ
      simp (disch := omega) [wrap64, wrapU, splice, leW, h5, h6, h7, hE, buildR0]
      apply after_some rfl; apply hQ; clear hQ Q
      apply w_ret
      repeat (first | with_reducible apply kseq_ret | with_reducible apply kloop_ret | with_reducible apply kblock_ret)
      apply fin_pure rfl
      · simp_all [VF]
      · rfl
  · first
    | (simp at hc; done)
    | try simp at hc
      apply w_skip
      apply w_seq
      apply w_drw [2] rfl (by kernel_rfl) 0 rfl; intro Q hQ
      simp (disch := omega) [wrap64, wrapU, splice, leW, h5, h6, h7, hE, buildR0]
      repeat' ((first | with_reducible apply after_guard | with_reducible apply after_guardD) <;> (intro hg; have hg' := hg; try simp at hg') <;> simp (disch := omega) [wrap64, wrapU, splice, leW, h5, h6, h7, hE, buildR0, *])
      all_goals (apply after_some rfl; apply hQ; clear hQ Q)
      all_goals
        skip
        apply w_ret
        repeat (first | with_reducible apply kseq_ret | with_reducible apply kloop_ret | with_reducible apply kblock_ret)
        apply fin_pure rfl
        · simp only [VF]; congr 1; rw [Bool.eq_iff_iff]; simp_all; try omega
        · rfl

theorem c31 {p q : Int} (hp : I64 p) (hq : I64 q) (H : Heap) : call LE 31 [RV p q] H = some (.bool (VF p q), H) := call_pure rfl (.inl rfl) rfl (f31_runs hp hq) H

end Go.Ae.Ln

namespace Go.Ae.Ln
open Go.Proofs

theorem c33' : True := trivial

/-- The sign is not the same. -/
def odds (p q : Int) : Bool := decide (decide (p < 0) ≠ decide (q < 0))

def den (q : Int) : Int := if q = 0 then 1 else q

def CmpF (p q a b : Int) : Int :=
  if VF p q = false ∨ VF a b = false ∨ p * den b = a * den q then 0 else if p * den b < a * den q then -1 else 1

theorem bneq {P : Program} {t : TypeId} {x y : Bool} (h : tinf P t = some ⟨.bool, 1, 1, .bool false⟩) : binV P .neq t (.bool x) (.bool y) = some (.bool (decide (x ≠ y))) := by
  have h1 : eqV P 9999 t (.bool x) (.bool y) = some (x == y) := by
    unfold eqV; simp [h]
  simp only [binV, eqFree, h1]
  cases x <;> cases y <;> rfl

/-- diorama/dioramaref04.Valid -/
theorem f33_runs {p q : Int} (hp : I64 p) (hq : I64 q) : Runs LE 33 [RV p q] (.bool (VF p q)) := by
  have h1 := hp.1
  have h2 := hp.2
  have h3 := hq.1
  have h4 := hq.2
  have h5 := @c43
  have h7 := @c42
  refine runs_W (m := 37) Try.func33 rfl rfl (Nat.le_of_ble_eq_true rfl) ?_
  simp only [alOf]
  apply w_seq
  apply w_reg [1] rfl; intro Q hQ
  simp (disch := omega) [wrap64, wrapU, splice, leW, h5, h7]
  apply after_some rfl; apply hQ; clear hQ Q
  apply w_seq
  apply w_seq
  apply w_reg [1, 10] rfl; intro Q hQ
  simp (disch := omega) [wrap64, wrapU, splice, leW, h5, h7]
  repeat' ((first | with_reducible apply after_guard | with_reducible apply after_guardD) <;> (intro hg; have hg' := hg; try simp at hg') <;> simp (disch := omega) [wrap64, wrapU, splice, leW, h5, h7, *])
  all_goals (apply after_some rfl; apply hQ; clear hQ Q)
  all_goals
    skip
    apply w_cond _ rfl <;> intro hc
    · first
      | (simp at hc; done)
      | try simp at hc
        apply w_seq
        apply w_reg [2] rfl; intro Q hQ
        simp (disch := omega) [wrap64, wrapU, splice, leW, h5, h7]
        apply after_some rfl; apply hQ; clear hQ Q
        apply w_ret
        repeat (first | with_reducible apply kseq_ret | with_reducible apply kloop_ret | with_reducible apply kblock_ret)
        apply fin_pure rfl
        · simp_all [VF]
        · rfl
    · first
      | (simp at hc; done)
      | try simp at hc
        apply w_skip
        apply w_seq
        apply w_seq
        apply w_reg [1, 28] rfl; intro Q hQ
        simp (disch := omega) [wrap64, wrapU, splice, leW, h5, h7]
        repeat' ((first | with_reducible apply after_guard | with_reducible apply after_guardD) <;> (intro hg; have hg' := hg; try simp at hg') <;> simp (disch := omega) [wrap64, wrapU, splice, leW, h5, h7, *])
        all_goals (apply after_some rfl; apply hQ; clear hQ Q)
        all_goals
          skip
          apply w_cond _ rfl <;> intro hc
          · first
            | (simp at hc; done)
            | try simp at hc
              apply w_seq
              apply w_reg [2] rfl; intro Q hQ
              simp (disch := omega) [wrap64, wrapU, splice, leW, h5, h7]
              apply after_some rfl; apply hQ; clear hQ Q
              apply w_ret
              repeat (first | with_reducible apply kseq_ret | with_reducible apply kloop_ret | with_reducible apply kblock_ret)
              apply fin_pure rfl
              · simp only [VF]; congr 1; rw [Bool.eq_iff_iff]; simp_all; try omega
              · rfl
          · first
            | (simp at hc; done)
            | try simp at hc
              apply w_skip
              apply w_seq
              apply w_drw [2] rfl (by kernel_rfl) 0 rfl; intro Q hQ
              simp (disch := omega) [wrap64, wrapU, splice, leW, h5, h7]
              apply after_some rfl; apply hQ; clear hQ Q
              apply w_ret
              repeat (first | with_reducible apply kseq_ret | with_reducible apply kloop_ret | with_reducible apply kblock_ret)
              apply fin_pure rfl
              · simp only [VF]; congr 1; rw [Bool.eq_iff_iff]; simp_all; try omega
              · rfl

theorem c33 {p q : Int} (hp : I64 p) (hq : I64 q) (H : Heap) : call LE 33 [RV p q] H = some (.bool (VF p q), H) := call_pure rfl (.inl rfl) rfl (f33_runs hp hq) H

/-- diorama/ratio.both -/
theorem f38_runs {p q a b : Int} (hp : I64 p) (hq : I64 q) (ha : I64 a) (hb : I64 b) : Runs LE 38 [RV p q, RV a b] (.tup [RV p (den q), RV a (den b), .bool (VF p q && VF a b)]) := by
  have h1 := @c46 p q
  have h2 := @c46 a b
  have h3 := @c31 p q hp hq
  have h4 := @c31 a b ha hb
  refine runs_W (m := 17) Try.func38 rfl rfl (Nat.le_of_ble_eq_true rfl) ?_
  simp only [alOf]
  apply w_seq
  apply w_reg [2, 3, 4, 5] rfl; intro Q hQ
  simp (disch := omega) [wrap64, wrapU, V.pureL, V.pure, splice, leW, wrl, h1, h2, h3, h4]
  apply after_some rfl; apply hQ; clear hQ Q
  apply w_seq
  apply w_drw [4, 5, 6] rfl (by kernel_rfl) 0 rfl; intro Q hQ
  simp (disch := omega) [wrap64, wrapU, V.pureL, V.pure, splice, leW, wrl, h1, h2, h3, h4]
  repeat' ((first | with_reducible apply after_guard | with_reducible apply after_guardD) <;> (intro hg; have hg' := hg; try simp at hg') <;> simp (disch := omega) [wrap64, wrapU, V.pureL, V.pure, splice, leW, wrl, h1, h2, h3, h4, *])
  all_goals (apply after_some rfl; apply hQ; clear hQ Q)
  all_goals
    skip
    apply w_ret
    repeat (first | with_reducible apply kseq_ret | with_reducible apply kloop_ret | with_reducible apply kblock_ret)
    apply fin_pure rfl
    · simp_all [den, splice]
    · rfl

theorem c38 {p q a b : Int} (hp : I64 p) (hq : I64 q) (ha : I64 a) (hb : I64 b) (H : Heap) : call LE 38 [RV p q, RV a b] H = some (.tup [RV p (den q), RV a (den b), .bool (VF p q && VF a b)], H) := call_pure rfl (.inr rfl) rfl (f38_runs hp hq ha hb) H

/-- diorama/ratio.Make -/
theorem f19_runs {p q : Int} (hp : I64 p) (hq : I64 q) : Runs LE 19 [.int .i64 p, .int .i64 q] (.tup [RV (MakeF p q).1.1 (MakeF p q).1.2, .int .i64 (MakeF p q).2]) := by
  have h1 := hp.1
  have h2 := hp.2
  have h3 := hq.1
  have h4 := hq.2
  have h5 := @c35
  have h7 := @c36
  refine runs_W (m := 48) Try.func19 rfl rfl (Nat.le_of_ble_eq_true rfl) ?_
  simp only [alOf]
  apply w_seq
  apply w_reg [0, 1, 4] rfl; intro Q hQ
  simp (disch := omega) [wrap64, wrapU, V.pureL, V.pure, splice, leW, wrl, h5, h7, buildR0, buildR, convI, bneq t4]
  apply after_some rfl; apply hQ; clear hQ Q
  apply w_seq
  apply w_seq
  apply w_reg [0, 1, 4, 11] rfl; intro Q hQ
  simp (disch := omega) [wrap64, wrapU, V.pureL, V.pure, splice, leW, wrl, h5, h7, buildR0, buildR, convI, bneq t4]
  apply after_some rfl; apply hQ; clear hQ Q
  apply w_cond _ rfl <;> intro hc
  · first
    | (simp at hc; done)
    | try simp at hc
      apply w_seq
      apply w_reg [4, 5] rfl; intro Q hQ
      simp (disch := omega) [wrap64, wrapU, V.pureL, V.pure, splice, leW, wrl, h5, h7, buildR0, buildR, convI, bneq t4]
      apply after_some rfl; apply hQ; clear hQ Q
      apply w_ret
      repeat (first | with_reducible apply kseq_ret | with_reducible apply kloop_ret | with_reducible apply kblock_ret)
      apply fin_pure rfl
      · rw [MakeF, if_pos (by simpa using hc)]; rfl
      · rfl
  · first
    | (simp at hc; done)
    | try simp at hc
      apply w_skip
      apply w_seq
      apply w_reg [0, 1, 4, 6, 7] rfl; intro Q hQ
      simp (disch := omega) [wrap64, wrapU, V.pureL, V.pure, splice, leW, wrl, h5, h7, buildR0, buildR, convI, bneq t4]
      apply after_some rfl; apply hQ; clear hQ Q
      apply w_seq
      apply w_reg [0, 1, 4, 6, 7, 8] rfl; intro Q hQ
      simp (disch := omega) [wrap64, wrapU, V.pureL, V.pure, splice, leW, wrl, h5, h7, buildR0, buildR, convI, bneq t4]
      apply after_some rfl; apply hQ; clear hQ Q
      apply w_seq
      have hg : 0 < Nat.gcd p.natAbs q.natAbs := Nat.gcd_pos_of_pos_right _ (by omega)
      have hd1 : (p.natAbs : Int).tdiv (Nat.gcd p.natAbs q.natAbs : Int) = ((p.natAbs / Nat.gcd p.natAbs q.natAbs : Nat) : Int) := (Int.ofNat_tdiv _ _).symm
      have hd2 : (q.natAbs : Int).tdiv (Nat.gcd p.natAbs q.natAbs : Int) = ((q.natAbs / Nat.gcd p.natAbs q.natAbs : Nat) : Int) := (Int.ofNat_tdiv _ _).symm
      have hM0 : q ≠ 0 := by simpa using hc
      have hM : MakeF p q = if 2147483648 < p.natAbs / Nat.gcd p.natAbs q.natAbs ∨ 2147483648 < q.natAbs / Nat.gcd p.natAbs q.natAbs then ((0, 0), 5)
        else if decide (p < 0) = decide (q < 0) then ((((p.natAbs / Nat.gcd p.natAbs q.natAbs : Nat) : Int), ((q.natAbs / Nat.gcd p.natAbs q.natAbs : Nat) : Int)), 0)
        else ((-((p.natAbs / Nat.gcd p.natAbs q.natAbs : Nat) : Int), ((q.natAbs / Nat.gcd p.natAbs q.natAbs : Nat) : Int)), 0) := by rw [MakeF, if_neg hM0]
      have hb1 := Nat.div_le_self p.natAbs (Nat.gcd p.natAbs q.natAbs)
      have hb2 := Nat.div_le_self q.natAbs (Nat.gcd p.natAbs q.natAbs)
      generalize p.natAbs / Nat.gcd p.natAbs q.natAbs = x at *
      generalize q.natAbs / Nat.gcd p.natAbs q.natAbs = y at *
      apply w_drw [0, 1, 4, 6, 7] rfl (by kernel_rfl) 0 rfl; intro Q hQ
      simp (disch := omega) [wrap64, wrapU, V.pureL, V.pure, splice, leW, wrl, h5, h7, buildR0, buildR, convI, bneq t4, hd1, hd2]
      apply after_some rfl; apply hQ; clear hQ Q
      apply w_seq
      apply w_seq
      apply w_reg [0, 1, 4, 6, 7, 31] rfl; intro Q hQ
      simp (disch := omega) [wrap64, wrapU, V.pureL, V.pure, splice, leW, wrl, h5, h7, buildR0, buildR, convI, bneq t4, hd1, hd2]
      repeat' ((first | with_reducible apply after_guard | with_reducible apply after_guardD) <;> (intro hg; have hg' := hg; try simp at hg') <;> simp (disch := omega) [wrap64, wrapU, V.pureL, V.pure, splice, leW, wrl, h5, h7, buildR0, buildR, convI, bneq t4, *])
      all_goals (apply after_some rfl; apply hQ; clear hQ Q)
      all_goals
        skip
        apply w_cond _ rfl <;> intro hc
        · first
          | (simp at hc; done)
          | try simp at hc
            apply w_seq
            apply w_reg [4, 5] rfl; intro Q hQ
            simp (disch := omega) [wrap64, wrapU, V.pureL, V.pure, splice, leW, wrl, h5, h7, buildR0, buildR, convI, bneq t4, hd1, hd2]
            apply after_some rfl; apply hQ; clear hQ Q
            apply w_ret
            repeat (first | with_reducible apply kseq_ret | with_reducible apply kloop_ret | with_reducible apply kblock_ret)
            apply fin_pure rfl
            · first | (rw [hM, if_pos (by first | (left; omega) | (right; omega))]; rfl) | (rw [hM, if_neg (by omega), if_neg (by simpa using hc)]; rfl) | (rw [hM, if_neg (by omega), if_pos (by simpa using hc)]; rfl)
            · rfl
        · first
          | (simp at hc; done)
          | try simp at hc
            apply w_skip
            apply w_seq
            apply w_reg [0, 1, 4, 9] rfl; intro Q hQ
            simp (disch := omega) [wrap64, wrapU, V.pureL, V.pure, splice, leW, wrl, h5, h7, buildR0, buildR, convI, bneq t4, hd1, hd2]
            apply after_some rfl; apply hQ; clear hQ Q
            apply w_seq
            apply w_seq
            apply w_reg [4, 9, 42] rfl; intro Q hQ
            simp (disch := omega) [wrap64, wrapU, V.pureL, V.pure, splice, leW, wrl, h5, h7, buildR0, buildR, convI, bneq t4, hd1, hd2]
            apply after_some rfl; apply hQ; clear hQ Q
            apply w_cond _ rfl <;> intro hc
            · first
              | (simp at hc; done)
              | try simp at hc
                apply w_reg [4, 9] rfl; intro Q hQ
                simp (disch := omega) [wrap64, wrapU, V.pureL, V.pure, splice, leW, wrl, h5, h7, buildR0, buildR, convI, bneq t4, hd1, hd2]
                apply after_some rfl; apply hQ; clear hQ Q
                apply w_seq
                apply w_reg [4, 5] rfl; intro Q hQ
                simp (disch := omega) [wrap64, wrapU, V.pureL, V.pure, splice, leW, wrl, h5, h7, buildR0, buildR, convI, bneq t4, hd1, hd2]
                apply after_some rfl; apply hQ; clear hQ Q
                apply w_ret
                repeat (first | with_reducible apply kseq_ret | with_reducible apply kloop_ret | with_reducible apply kblock_ret)
                apply fin_pure rfl
                · first | (rw [hM, if_pos (by first | (left; omega) | (right; omega))]; rfl) | (rw [hM, if_neg (by omega), if_neg (by simpa using hc)]; rfl) | (rw [hM, if_neg (by omega), if_pos (by simpa using hc)]; rfl)
                · rfl
            · first
              | (simp at hc; done)
              | try simp at hc
                apply w_skip
                apply w_seq
                apply w_reg [4, 5] rfl; intro Q hQ
                simp (disch := omega) [wrap64, wrapU, V.pureL, V.pure, splice, leW, wrl, h5, h7, buildR0, buildR, convI, bneq t4, hd1, hd2]
                apply after_some rfl; apply hQ; clear hQ Q
                apply w_ret
                repeat (first | with_reducible apply kseq_ret | with_reducible apply kloop_ret | with_reducible apply kblock_ret)
                apply fin_pure rfl
                · first | (rw [hM, if_pos (by first | (left; omega) | (right; omega))]; rfl) | (rw [hM, if_neg (by omega), if_neg (by simpa using hc)]; rfl) | (rw [hM, if_neg (by omega), if_pos (by simpa using hc)]; rfl)
                · rfl

theorem c19 {p q : Int} (hp1 : -9223372036854775808 ≤ p) (hp2 : p ≤ 9223372036854775807) (hq1 : -9223372036854775808 ≤ q) (hq2 : q ≤ 9223372036854775807) (H : Heap) : call LE 19 [.int .i64 p, .int .i64 q] H = some (.tup [RV (MakeF p q).1.1 (MakeF p q).1.2, .int .i64 (MakeF p q).2], H) := call_pure rfl (.inr rfl) rfl (f19_runs ⟨hp1, hp2⟩ ⟨hq1, hq2⟩) H

theorem vf_range {p q : Int} (h : VF p q = true) : -2147483648 ≤ p ∧ p ≤ 2147483648 ∧ 1 ≤ den q ∧ den q ≤ 2147483648 := by
  simp only [VF, Bool.or_eq_true, decide_eq_true_eq] at h
  unfold den
  rcases h with ⟨rfl, rfl⟩ | h
  · simp
  · rw [if_neg (by omega)]; omega

theorem mul_range {x y : Int} (h1 : -2147483648 ≤ x) (h2 : x ≤ 2147483648) (h3 : -2147483648 ≤ y) (h4 : y ≤ 2147483648) : -4611686018427387904 ≤ x * y ∧ x * y ≤ 4611686018427387904 := by
  have h5 : (x * y).natAbs ≤ 2147483648 * 2147483648 := by
    rw [Int.natAbs_mul]; exact Nat.mul_le_mul (by omega) (by omega)
  omega

theorem i64_den {q : Int} (h : I64 q) : I64 (den q) := by unfold den; split <;> (try exact h); simp [I64]

/-- diorama/ratio.Mul -/
theorem f21_runs {p q a b : Int} (h1 : VF p q = true) (h2 : VF a b = true) : Runs LE 21 [RV p q, RV a b] (.tup [RV (MakeF (p * a) (den q * den b)).1.1 (MakeF (p * a) (den q * den b)).1.2, .int .i64 (MakeF (p * a) (den q * den b)).2]) := by
  have hr1 := vf_range h1
  have hr2 := vf_range h2
  have hi : I64 q ∧ I64 b := by
    constructor
    · have := hr1.2.2; unfold den at this; split at this <;> constructor <;> omega
    · have := hr2.2.2; unfold den at this; split at this <;> constructor <;> omega
  have h3 := @c38 p q a b ⟨by omega, by omega⟩ hi.1 ⟨by omega, by omega⟩ hi.2
  rw [h1, h2] at h3
  obtain ⟨h4, h5⟩ := mul_range hr1.1 hr1.2.1 hr2.1 hr2.2.1
  obtain ⟨h6, h7⟩ := mul_range (x := den q) (y := den b) (by omega) (by omega) (by omega) (by omega)
  refine runs_W (m := 30) Try.func21 rfl rfl (Nat.le_of_ble_eq_true rfl) ?_
  simp only [alOf]
  apply w_seq
  apply w_reg [2, 3, 4] rfl; intro Q hQ
  simp (disch := omega) [wrap64, wrapU, V.pureL, V.pure, splice, leW, wrl, h3, c19]
  apply after_some rfl; apply hQ; clear hQ Q
  apply w_seq
  apply w_reg [2, 3, 4, 6] rfl; intro Q hQ
  simp (disch := omega) [wrap64, wrapU, V.pureL, V.pure, splice, leW, wrl, h3, c19]
  apply after_some rfl; apply hQ; clear hQ Q
  apply w_seq
  apply w_seq
  apply w_reg [2, 3, 4, 15] rfl; intro Q hQ
  simp (disch := omega) [wrap64, wrapU, V.pureL, V.pure, splice, leW, wrl, h3, c19]
  apply after_some rfl; apply hQ; clear hQ Q
  apply w_cond _ rfl <;> intro hc
  · first
    | (simp at hc; done)
    | try simp at hc
      apply w_seq
      apply w_reg [4, 5] rfl; intro Q hQ
      simp (disch := omega) [wrap64, wrapU, V.pureL, V.pure, splice, leW, wrl, h3, c19]
      apply after_some rfl; apply hQ; clear hQ Q
      apply w_ret
      repeat (first | with_reducible apply kseq_ret | with_reducible apply kloop_ret | with_reducible apply kblock_ret)
      apply fin_pure rfl
      · simp_all [splice]
      · rfl
  · first
    | (simp at hc; done)
    | try simp at hc
      apply w_skip
      apply w_seq
      apply w_reg [4, 5] rfl; intro Q hQ
      simp (disch := omega) [wrap64, wrapU, V.pureL, V.pure, splice, leW, wrl, h3, c19]
      apply after_some rfl; apply hQ; clear hQ Q
      apply w_ret
      repeat (first | with_reducible apply kseq_ret | with_reducible apply kloop_ret | with_reducible apply kblock_ret)
      apply fin_pure rfl
      · simp_all [splice]
      · rfl

theorem c21 {p q a b : Int} (h1 : VF p q = true) (h2 : VF a b = true) (H : Heap) : call LE 21 [RV p q, RV a b] H = some (.tup [RV (MakeF (p * a) (den q * den b)).1.1 (MakeF (p * a) (den q * den b)).1.2, .int .i64 (MakeF (p * a) (den q * den b)).2], H) := call_pure rfl (.inr rfl) rfl (f21_runs h1 h2) H

/-- diorama/ratio.Compare -/
theorem f22_runs {p q a b : Int} (h1 : VF p q = true) (h2 : VF a b = true) : Runs LE 22 [RV p q, RV a b] (.int .i64 (if p * den b = a * den q then 0 else if p * den b < a * den q then -1 else 1)) := by
  have hr1 := vf_range h1
  have hr2 := vf_range h2
  have hi : I64 q ∧ I64 b := by
    constructor
    · have := hr1.2.2; unfold den at this; split at this <;> constructor <;> omega
    · have := hr2.2.2; unfold den at this; split at this <;> constructor <;> omega
  have h3 := @c38 p q a b ⟨by omega, by omega⟩ hi.1 ⟨by omega, by omega⟩ hi.2
  rw [h1, h2] at h3
  obtain ⟨h4, h5⟩ := mul_range (x := p) (y := den b) (by omega) (by omega) (by omega) (by omega)
  obtain ⟨h6, h7⟩ := mul_range (x := a) (y := den q) (by omega) (by omega) (by omega) (by omega)
  refine runs_W (m := 37) Try.func22 rfl rfl (Nat.le_of_ble_eq_true rfl) ?_
  simp only [alOf]
  apply w_seq
  apply w_reg [2, 3] rfl; intro Q hQ
  simp (disch := omega) [wrap64, wrapU, V.pureL, V.pure, splice, leW, wrl, h3, c19]
  apply after_some rfl; apply hQ; clear hQ Q
  apply w_seq
  apply w_reg [2, 3, 5] rfl; intro Q hQ
  simp (disch := omega) [wrap64, wrapU, V.pureL, V.pure, splice, leW, wrl, h3, c19]
  apply after_some rfl; apply hQ; clear hQ Q
  apply w_seq
  apply w_drw [5, 6, 7] rfl (by kernel_rfl) 0 rfl; intro Q hQ
  simp (disch := omega) [wrap64, wrapU, V.pureL, V.pure, splice, leW, wrl, h3, c19]
  apply after_some rfl; apply hQ; clear hQ Q
  apply w_seq
  apply w_block
  apply w_seq
  apply w_reg [6, 7, 25] rfl; intro Q hQ
  simp (disch := omega) [wrap64, wrapU, V.pureL, V.pure, splice, leW, wrl, h3, c19]
  repeat' ((first | with_reducible apply after_guard | with_reducible apply after_guardD) <;> (intro hg; have hg' := hg; try simp at hg') <;> simp (disch := omega) [wrap64, wrapU, V.pureL, V.pure, splice, leW, wrl, h3, c19, *])
  all_goals (apply after_some rfl; apply hQ; clear hQ Q)
  all_goals
    skip
    apply w_cond _ rfl <;> intro hc
    · first
      | (simp at hc; done)
      | try simp at hc
        apply w_seq
        apply w_reg [4] rfl; intro Q hQ
        simp (disch := omega) [wrap64, wrapU, V.pureL, V.pure, splice, leW, wrl, h3, c19]
        apply after_some rfl; apply hQ; clear hQ Q
        apply w_ret
        repeat (first | with_reducible apply kseq_ret | with_reducible apply kloop_ret | with_reducible apply kblock_ret)
        apply fin_pure rfl
        · simp_all [splice]
        · rfl
    · first
      | (simp at hc; done)
      | try simp at hc
        apply w_seq
        apply w_reg [33] rfl; intro Q hQ
        simp (disch := omega) [wrap64, wrapU, V.pureL, V.pure, splice, leW, wrl, h3, c19]
        apply after_some rfl; apply hQ; clear hQ Q
        apply w_cond _ rfl <;> intro hc
        · first
          | (simp at hc; done)
          | try simp at hc
            apply w_seq
            apply w_reg [4] rfl; intro Q hQ
            simp (disch := omega) [wrap64, wrapU, V.pureL, V.pure, splice, leW, wrl, h3, c19]
            apply after_some rfl; apply hQ; clear hQ Q
            apply w_ret
            repeat (first | with_reducible apply kseq_ret | with_reducible apply kloop_ret | with_reducible apply kblock_ret)
            apply fin_pure rfl
            · simp_all [splice]
            · rfl
        · first
          | (simp at hc; done)
          | try simp at hc
            apply w_skip
            apply w_seq
            apply w_reg [4] rfl; intro Q hQ
            simp (disch := omega) [wrap64, wrapU, V.pureL, V.pure, splice, leW, wrl, h3, c19]
            apply after_some rfl; apply hQ; clear hQ Q
            apply w_ret
            repeat (first | with_reducible apply kseq_ret | with_reducible apply kloop_ret | with_reducible apply kblock_ret)
            apply fin_pure rfl
            · simp_all [splice]
            · rfl

theorem c22 {p q a b : Int} (h1 : VF p q = true) (h2 : VF a b = true) (H : Heap) : call LE 22 [RV p q, RV a b] H = some (.int .i64 (if p * den b = a * den q then 0 else if p * den b < a * den q then -1 else 1), H) := call_pure rfl (.inl rfl) rfl (f22_runs h1 h2) H

end Go.Ae.Ln
