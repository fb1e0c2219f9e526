/-
  What functions of the learn laws return: blends.
-/
import Derived.Test.YtobammkdioeknaaLe2
set_option linter.unusedVariables false
set_option linter.unusedSimpArgs false
namespace Go.Ae.Ln
open Go.Proofs

theorem t61 : tinf Try.prog 61 = some ⟨.array 2 4, 2, 2, .agg [.bool false, .bool false]⟩ := by kernel_rfl
attribute [simp] t61
theorem build61 {a b : Bool} : buildV Try.prog 61 [(0, .bool a), (1, .bool b)] = some (.agg [.bool a, .bool b]) := by cases a <;> cases b <;> kernel_rfl
theorem neq61 {a b : Bool} : binV Try.prog .neq 61 (.agg [.bool a, .bool b]) (.agg [.bool true, .bool true]) = some (.bool (!(a && b))) := by cases a <;> cases b <;> kernel_rfl
theorem load_array {n : Nat} {e : TypeId} {sz by_ : Nat} {z : V} {cs : List V} : loadCs ⟨.array n e, sz, by_, z⟩ cs = if sz ≤ cs.length then some (.agg (cs.take sz)) else none := rfl

theorem no_one {ρ : Operand → Option V} {x : Operand} : nop LE ρ (.buildSlice 22 1 #[(0, x)]) = match ρ x with
    | some (.int k n) => some (.sl true [[.int k n]])
    | some v => nop LE (fun _ => some v) (.buildSlice 22 1 #[(0, .tmp 0)])
    | none => none := by
  cases hx : ρ x with
  | none => simp [nop, partsO, hx]
  | some v =>
    cases v with
    | int k n => simp [nop, partsO, hx, fillV, splice, V.cells, allOne, V.one, chunk]
    | _ => simp [nop, partsO, hx]

def BothE (xs ys : List Int) : Int := if xs.length ≠ ys.length then 1 else if Right xs = true ∧ Right ys = true then 0 else 5

def maxL (xs : List Int) : Int := xs.tail.foldl max (xs.headD 0)

/-- The numbers of a blend, not in lowest terms. -/
def bl (xs ys : List Int) (p q : Int) : List Int := List.zipWith (fun x y => (q - p) * x * sumW ys + p * y * sumW xs) xs ys

def BlendR (xs ys : List Int) (p q : Int) : List Int × Int :=
  if xs.length ≠ ys.length then ([], 1)
  else if Right xs = false ∨ Right ys = false ∨ VF p q = false ∨ p < 0 ∨ max q 1 < p ∨ 1024 < max q 1 then ([], 5)
  else if Within (Lowest (bl xs ys p (max q 1))) 1048576 = true then (Lowest (bl xs ys p (max q 1)), 0) else ([], 5)

theorem right_props {xs : List Int} (h : Right xs = true) : 1 ≤ xs.length ∧ xs.length ≤ 12 ∧ (∀ x ∈ xs, 0 ≤ x ∧ x ≤ 1048576) ∧ sumW xs = xs.sum ∧ 0 < sumW xs ∧ sumW xs ≤ 12582912 := by
  simp only [Right, Bool.and_eq_true, decide_eq_true_eq] at h
  obtain ⟨h1, h2, h3⟩ := within_inside h.1
  have h4 := inside_get h1
  have h5 : sumW xs = xs.sum := sumW_eq h4 (by omega)
  refine ⟨h2, h3, h4, h5, h.2, ?_⟩
  rw [h5]
  have : ∀ (l : List Int), (∀ x ∈ l, 0 ≤ x ∧ x ≤ 1048576) → l.sum ≤ 1048576 * (l.length : Int) := by
    intro l
    induction l with
    | nil => intro _; simp
    | cons x r ih =>
      intro hx
      have h1 := hx x (by simp)
      have h2 := ih fun y hy => hx y (by simp [hy])
      rw [List.sum_cons, List.length_cons]; push_cast; omega
  have := this xs h4
  omega

theorem term_range {c x s : Int} (h1 : 0 ≤ c) (h2 : c ≤ 1024) (h3 : 0 ≤ x) (h4 : x ≤ 1048576) (h5 : 0 ≤ s) (h6 : s ≤ 12582912) : 0 ≤ c * x ∧ c * x ≤ 1073741824 ∧ 0 ≤ c * x * s ∧ c * x * s ≤ 13510798882111488 := by
  have a1 : 0 ≤ c * x := Int.mul_nonneg h1 h3
  have a2 : c * x ≤ 1024 * 1048576 := Int.mul_le_mul h2 h4 h3 (by omega)
  have a3 : 0 ≤ c * x * s := Int.mul_nonneg a1 h5
  have a4 : c * x * s ≤ (1024 * 1048576) * 12582912 := Int.mul_le_mul a2 h6 h5 (by omega)
  omega

theorem bl_len {xs ys : List Int} {p q : Int} (h : xs.length = ys.length) : (bl xs ys p q).length = xs.length := by simp [bl, h]
theorem bl_get {xs ys : List Int} {p q : Int} (h : xs.length = ys.length) {j : Nat} (hj : j < xs.length) : (bl xs ys p q)[j]'(by rw [bl_len h]; exact hj) = (q - p) * xs[j] * sumW ys + p * (ys[j]'(by omega)) * sumW xs := by simp [bl]
theorem bl_range {xs ys : List Int} {p q : Int} (h : xs.length = ys.length) (hx : Right xs = true) (hy : Right ys = true) (h1 : 0 ≤ p) (h2 : p ≤ q) (h3 : q ≤ 1024) : ∀ z ∈ bl xs ys p q, 0 ≤ z ∧ z ≤ 27021597764222976 := by
  intro z hz
  obtain ⟨j, hj, rfl⟩ := List.mem_iff_getElem.1 hz
  rw [bl_len h] at hj
  rw [bl_get h hj]
  obtain ⟨_, _, a1, _, a2, a3⟩ := right_props hx
  obtain ⟨_, _, b1, _, b2, b3⟩ := right_props hy
  have c1 := rangeN a1 hj
  have c2 := rangeN b1 (show j < ys.length by omega)
  have := term_range (c := q - p) (x := xs[j]) (s := sumW ys) (by omega) (by omega) c1.1 c1.2 (by omega) b3
  have := term_range (c := p) (x := ys[j]) (s := sumW xs) (by omega) (by omega) c2.1 c2.2 (by omega) a3
  omega

/-- diorama/learn.right -/
theorem f41_runs {v : V} {xs : List Int} (hv : IsInts v xs) (hl : xs.length < 4611686018427387904) : Runs LE 41 [v] (.bool (Right xs)) := by
  have h3 := c25 hv hl 1048576
  have h4 := f27_runs hv hl
  have h5 := fun H => call_pure (E := LE) rfl (.inl rfl) (pureL_cons hv.pure rfl) h4 H
  refine runs_W (m := 10) Try.func41 rfl rfl (Nat.le_of_ble_eq_true rfl) ?_
  simp only [alOf]
  apply w_seq
  apply w_reg [0] rfl; intro Q hQ
  simp (disch := omega) [wrap64, wrapU, h3, h5]
  apply after_some rfl; apply hQ; clear hQ Q
  apply w_seq
  apply w_reg [2] rfl; intro Q hQ
  simp (disch := omega) [wrap64, wrapU, h3, h5]
  repeat' ((first | with_reducible apply after_guard | with_reducible apply after_guardD) <;> (intro hg; have hg' := hg; try simp at hg') <;> simp (disch := omega) [wrap64, wrapU, h3, h5, *])
  all_goals (apply after_some rfl; apply hQ; clear hQ Q)
  all_goals
    skip
    apply w_ret
    repeat (first | with_reducible apply kseq_ret | with_reducible apply kloop_ret | with_reducible apply kblock_ret)
    apply fin_pure rfl
    · first | simp_all [Right] | (simp only [Right]; congr 1; rw [Bool.eq_iff_iff]; simp_all)
    · rfl

theorem c41 {v : V} {xs : List Int} (hv : IsInts v xs) (hl : xs.length < 4611686018427387904) (H : Heap) : call LE 41 [v] H = some (.bool (Right xs), H) := call_pure rfl (.inl rfl) (pureL_cons hv.pure rfl) (f41_runs hv hl) H
theorem c27 {v : V} {xs : List Int} (hv : IsInts v xs) (hl : xs.length < 4611686018427387904) (H : Heap) : call LE 27 [v] H = some (.int .i64 (sumW xs), H) := call_pure rfl (.inl rfl) (pureL_cons hv.pure rfl) (f27_runs hv hl) H

/-- diorama/learn.both -/
theorem f30_runs {v u : V} {xs ys : List Int} (hv : IsInts v xs) (hu : IsInts u ys) (hl : xs.length < 4611686018427387904) (hm : ys.length < 4611686018427387904) : Runs LE 30 [v, u] (.int .i64 (BothE xs ys)) := by
  have h1 := lenL hv
  have h2 := lenL hu
  have h3 := c41 hv hl
  have h4 := c41 hu hm
  refine runs_W (m := 21) Try.func30 rfl rfl (Nat.le_of_ble_eq_true rfl) ?_
  simp only [alOf]
  apply w_seq
  apply w_reg [0, 1] rfl; intro Q hQ
  simp (disch := omega) [wrap64, wrapU, V.pureL, V.pure, splice, leW, wrl, h1, h2, h3, h4, build61, neq61, load_array]
  apply after_some rfl; apply hQ; clear hQ Q
  apply w_seq
  apply w_seq
  apply w_reg [0, 1, 5] rfl; intro Q hQ
  simp (disch := omega) [wrap64, wrapU, V.pureL, V.pure, splice, leW, wrl, h1, h2, h3, h4, build61, neq61, load_array]
  apply after_some rfl; apply hQ; clear hQ Q
  apply w_block
  apply w_seq
  apply w_reg [5, 11] rfl; intro Q hQ
  simp (disch := omega) [wrap64, wrapU, V.pureL, V.pure, splice, leW, wrl, h1, h2, h3, h4, build61, neq61, load_array]
  apply after_some rfl; apply hQ; clear hQ Q
  apply w_cond _ rfl <;> intro hc
  · first
    | (simp at hc; done)
    | try simp [Int.natCast_inj] at hc
      apply w_seq
      apply w_reg [4] rfl; intro Q hQ
      simp (disch := omega) [wrap64, wrapU, V.pureL, V.pure, splice, leW, wrl, h1, h2, h3, h4, build61, neq61, load_array]
      apply after_some rfl; apply hQ; clear hQ Q
      apply w_ret
      repeat (first | with_reducible apply kseq_ret | with_reducible apply kloop_ret | with_reducible apply kblock_ret)
      apply fin_pure rfl
      · simp_all [BothE]
      · rfl
  · first
    | (simp at hc; done)
    | try simp [Int.natCast_inj] at hc
      apply w_seq
      apply w_reg [17] rfl; intro Q hQ
      simp (disch := omega) [wrap64, wrapU, V.pureL, V.pure, splice, leW, wrl, h1, h2, h3, h4, build61, neq61, load_array]
      apply after_some rfl; apply hQ; clear hQ Q
      apply w_cond _ rfl <;> intro hc
      · first
        | (simp at hc; done)
        | try simp [Int.natCast_inj] at hc
          apply w_seq
          apply w_reg [4] rfl; intro Q hQ
          simp (disch := omega) [wrap64, wrapU, V.pureL, V.pure, splice, leW, wrl, h1, h2, h3, h4, build61, neq61, load_array]
          apply after_some rfl; apply hQ; clear hQ Q
          apply w_ret
          repeat (first | with_reducible apply kseq_ret | with_reducible apply kloop_ret | with_reducible apply kblock_ret)
          apply fin_pure rfl
          · simp_all [BothE]; rcases hc with h | h <;> simp_all
          · rfl
      · first
        | (simp at hc; done)
        | try simp [Int.natCast_inj] at hc
          apply w_skip
          apply w_seq
          apply w_reg [4] rfl; intro Q hQ
          simp (disch := omega) [wrap64, wrapU, V.pureL, V.pure, splice, leW, wrl, h1, h2, h3, h4, build61, neq61, load_array]
          apply after_some rfl; apply hQ; clear hQ Q
          apply w_ret
          repeat (first | with_reducible apply kseq_ret | with_reducible apply kloop_ret | with_reducible apply kblock_ret)
          apply fin_pure rfl
          · simp_all [BothE]
          · rfl

theorem c30 {v u : V} {xs ys : List Int} (hv : IsInts v xs) (hu : IsInts u ys) (hl : xs.length < 4611686018427387904) (hm : ys.length < 4611686018427387904) (H : Heap) : call LE 30 [v, u] H = some (.int .i64 (BothE xs ys), H) := call_pure rfl (.inl rfl) (pureL_cons hv.pure (pureL_cons hu.pure rfl)) (f30_runs hv hu hl hm) H

/-- slices.Max[[]int,int] -/
theorem f32_runs {v : V} {xs : List Int} (hv : IsInts v xs) (hl : xs.length < 4611686018427387904) (hne : xs ≠ []) : Runs LE 32 [v] (.int .i64 (maxL xs)) := by
  have h1 := lenL hv
  have h2 := @idxL v xs hv
  have h0 : 0 < xs.length := List.length_pos_iff.2 hne
  have h3 : indexAddrV Try.prog 22 v 0 = some (.rp [.int .i64 xs[0]]) := h2 (i := 0) h0
  have hM : ∀ (g h : Int), (if g > h then g else h) = max h g := fun g h => by omega
  refine runs_W (m := 25) Try.func32 rfl rfl (Nat.le_of_ble_eq_true rfl) ?_
  simp only [alOf]
  apply w_seq
  apply w_reg [0] rfl; intro Q hQ
  simp (disch := omega) [wrap64, wrapU, h1, h2, h3, hM, ql_max]
  apply after_some rfl; apply hQ; clear hQ Q
  apply w_seq
  apply w_seq
  apply w_reg [0, 7] rfl; intro Q hQ
  simp (disch := omega) [wrap64, wrapU, h1, h2, h3, hM, ql_max]
  apply after_some rfl; apply hQ; clear hQ Q
  apply w_cond _ rfl <;> intro hc
  · first
    | (simp at hc; done)
    | (exfalso; simp at hc; omega)
    | try simp [Int.natCast_inj] at hc
      apply w_reg [0] rfl; intro Q hQ
      simp (disch := omega) [wrap64, wrapU, h1, h2, h3, hM, ql_max]
      apply after_some rfl; apply hQ; clear hQ Q
      apply w_seq
      apply w_reg [0, 3] rfl; intro Q hQ
      simp (disch := omega) [wrap64, wrapU, h1, h2, h3, hM, ql_max]
      apply after_some rfl; apply hQ; clear hQ Q
      apply w_seq
      apply w_seq
      apply w_reg [0, 3, 4] rfl; intro Q hQ
      simp (disch := omega) [wrap64, wrapU, h1, h2, h3, hM, ql_max]
      apply after_some rfl; apply hQ; clear hQ Q
      apply w_block
      -- LOOP live [0, 3, 4]
      refine w_loop (fun m al H => ∃ (i : Nat) (acc : Int), m = xs.length - i ∧ 1 ≤ i ∧ i ≤ xs.length ∧ (xs.drop i).foldl max acc = maxL xs ∧ al = [(0, v), (3, .int .i64 acc), (4, .int .i64 (i : Int))] ∧ H = []) (xs.length - 1) ?_ ?_
      · refine ⟨1, xs[0], rfl, by omega, by omega, ?_, rfl, rfl⟩
        cases xs with
        | nil => exact absurd rfl hne
        | cons x r => rfl
      rintro m al H ⟨i, acc, hm, hi1, hi, hs, rfl, rfl⟩
      apply w_seq
      apply w_seq
      apply w_reg [0, 3, 4, 15] rfl; intro Q hQ
      simp (disch := omega) [wrap64, wrapU, h1, h2, h3, hM, ql_max]
      apply after_some rfl; apply hQ; clear hQ Q
      apply w_cond _ rfl <;> intro hc
      · first
        | (simp at hc; done)
        | (exfalso; simp at hc; omega)
        | try simp [Int.natCast_inj] at hc
          apply w_skip
          apply w_seq
          apply w_block
          apply w_reg [0, 3, 4] rfl; intro Q hQ
          simp (disch := omega) [wrap64, wrapU, h1, h2, h3, hM, ql_max]
          apply after_some rfl; apply hQ; clear hQ Q
          apply w_reg [0, 3, 4] rfl; intro Q hQ
          simp (disch := omega) [wrap64, wrapU, h1, h2, h3, hM, ql_max]
          apply after_some rfl; apply hQ; clear hQ Q
          repeat (with_reducible apply kblock_nrm)
          refine kloop_back (xs.length - (i + 1)) (by omega) ⟨i + 1, _, rfl, by omega, by omega, ?_, rfl, rfl⟩
          rw [← hs, List.drop_eq_getElem_cons hc]
          rfl
      · first
        | (simp at hc; done)
        | (exfalso; simp at hc; omega)
        | try simp [Int.natCast_inj] at hc
          apply w_exit
          repeat (first | with_reducible apply kseq_exit | with_reducible apply kloop_exit | with_reducible apply kblock_exit | with_reducible apply kblock_pass (by decide))
          apply w_seq
          apply w_reg [2] rfl; intro Q hQ
          simp (disch := omega) [wrap64, wrapU, h1, h2, h3, hM, ql_max]
          apply after_some rfl; apply hQ; clear hQ Q
          apply w_ret
          repeat (first | with_reducible apply kseq_ret | with_reducible apply kloop_ret | with_reducible apply kblock_ret)
          apply fin_pure rfl
          · have : i = xs.length := by omega
            subst this
            rw [List.drop_length, List.foldl_nil] at hs
            rw [hs]
          · rfl
  · first
    | (simp at hc; done)
    | (exfalso; simp at hc; omega)
    | try simp [Int.natCast_inj] at hc
      apply w_skip
      apply w_seq
      apply w_reg [0, 3] rfl; intro Q hQ
      simp (disch := omega) [wrap64, wrapU, h1, h2, h3, hM, ql_max]
      apply after_some rfl; apply hQ; clear hQ Q
      apply w_seq
      apply w_seq
      apply w_reg [0, 3, 4] rfl; intro Q hQ
      simp (disch := omega) [wrap64, wrapU, h1, h2, h3, hM, ql_max]
      apply after_some rfl; apply hQ; clear hQ Q
      apply w_block
      -- LOOP live [0, 3, 4]
      refine w_loop (fun m al H => ∃ (i : Nat) (acc : Int), m = xs.length - i ∧ 1 ≤ i ∧ i ≤ xs.length ∧ (xs.drop i).foldl max acc = maxL xs ∧ al = [(0, v), (3, .int .i64 acc), (4, .int .i64 (i : Int))] ∧ H = []) (xs.length - 1) ?_ ?_
      · refine ⟨1, xs[0], rfl, by omega, by omega, ?_, rfl, rfl⟩
        cases xs with
        | nil => exact absurd rfl hne
        | cons x r => rfl
      rintro m al H ⟨i, acc, hm, hi1, hi, hs, rfl, rfl⟩
      apply w_seq
      apply w_seq
      apply w_reg [0, 3, 4, 15] rfl; intro Q hQ
      simp (disch := omega) [wrap64, wrapU, h1, h2, h3, hM, ql_max]
      apply after_some rfl; apply hQ; clear hQ Q
      apply w_cond _ rfl <;> intro hc
      · first
        | (simp at hc; done)
        | (exfalso; simp at hc; omega)
        | try simp [Int.natCast_inj] at hc
          apply w_skip
          apply w_seq
          apply w_block
          apply w_reg [0, 3, 4] rfl; intro Q hQ
          simp (disch := omega) [wrap64, wrapU, h1, h2, h3, hM, ql_max]
          apply after_some rfl; apply hQ; clear hQ Q
          apply w_reg [0, 3, 4] rfl; intro Q hQ
          simp (disch := omega) [wrap64, wrapU, h1, h2, h3, hM, ql_max]
          apply after_some rfl; apply hQ; clear hQ Q
          repeat (with_reducible apply kblock_nrm)
          refine kloop_back (xs.length - (i + 1)) (by omega) ⟨i + 1, _, rfl, by omega, by omega, ?_, rfl, rfl⟩
          rw [← hs, List.drop_eq_getElem_cons hc]
          rfl
      · first
        | (simp at hc; done)
        | (exfalso; simp at hc; omega)
        | try simp [Int.natCast_inj] at hc
          apply w_exit
          repeat (first | with_reducible apply kseq_exit | with_reducible apply kloop_exit | with_reducible apply kblock_exit | with_reducible apply kblock_pass (by decide))
          apply w_seq
          apply w_reg [2] rfl; intro Q hQ
          simp (disch := omega) [wrap64, wrapU, h1, h2, h3, hM, ql_max]
          apply after_some rfl; apply hQ; clear hQ Q
          apply w_ret
          repeat (first | with_reducible apply kseq_ret | with_reducible apply kloop_ret | with_reducible apply kblock_ret)
          apply fin_pure rfl
          · have : i = xs.length := by omega
            subst this
            rw [List.drop_length, List.foldl_nil] at hs
            rw [hs]
          · rfl

theorem c32 {v : V} {xs : List Int} (hv : IsInts v xs) (hl : xs.length < 4611686018427387904) (hne : xs ≠ []) (H : Heap) : call LE 32 [v] H = some (.int .i64 (maxL xs), H) := call_pure rfl (.inl rfl) (pureL_cons hv.pure rfl) (f32_runs hv hl hne) H

/-- diorama/dioramaref27.Blend -/
theorem f17_runs {v u : V} {xs ys : List Int} (hv : IsInts v xs) (hu : IsInts u ys) (hl : xs.length < 4611686018427387904) (hm : ys.length < 4611686018427387904) {p q : Int} (hp : I64 p) (hq : I64 q) : Runs LE 17 [v, u, RV p q] (WV (BlendR xs ys p q)) := by
  have h1 := lenL hv
  have h2 := lenL hu
  have h3 := @idxL v xs hv
  have h4 := @idxL u ys hu
  have h5 := c13 hv hl
  have h6 := c13 hu hm
  have h7 := c24 hv hl
  have h8 := c24 hu hm
  have h9 := c33 hp hq
  have hM : (if 1 > q then 1 else q) = max q 1 := by omega
  have hX : ∀ H, rhoA LE H (.tmp 0) = rhoA LE H (.tmp 0) := fun _ => rfl
  refine runs_W (m := 85) Try.func17 rfl rfl (Nat.le_of_ble_eq_true rfl) ?_
  simp only [alOf]
  apply w_seq
  apply w_reg [0, 1, 5] rfl; intro Q hQ
  simp (disch := omega) [wrap64, wrapU, V.pureL, V.pure, splice, leW, wrl, h1, h2, h3, h4, h5, h6, h7, h8, h9, hM, ql_max]
  apply after_some rfl; apply hQ; clear hQ Q
  apply w_seq
  apply w_seq
  apply w_reg [0, 1, 5, 15] rfl; intro Q hQ
  simp (disch := omega) [wrap64, wrapU, V.pureL, V.pure, splice, leW, wrl, h1, h2, h3, h4, h5, h6, h7, h8, h9, hM, ql_max]
  apply after_some rfl; apply hQ; clear hQ Q
  apply w_cond _ rfl <;> intro hc
  · first
    | (simp at hc; done)
    | try simp [Int.natCast_inj] at hc
      apply w_seq
      apply w_reg [6, 7] rfl; intro Q hQ
      simp (disch := omega) [wrap64, wrapU, V.pureL, V.pure, splice, leW, wrl, h1, h2, h3, h4, h5, h6, h7, h8, h9, hM, ql_max]
      apply after_some rfl; apply hQ; clear hQ Q
      apply w_ret
      repeat (first | with_reducible apply kseq_ret | with_reducible apply kloop_ret | with_reducible apply kblock_ret)
      apply fin_pure rfl
      · simp_all [BlendR, WV, IV]
      · exact WV_pure _
  · first
    | (simp at hc; done)
    | try simp [Int.natCast_inj] at hc
      apply w_skip
      apply w_seq
      apply w_reg [0, 1, 5, 8] rfl; intro Q hQ
      simp (disch := omega) [wrap64, wrapU, V.pureL, V.pure, splice, leW, wrl, h1, h2, h3, h4, h5, h6, h7, h8, h9, hM, ql_max]
      apply after_some rfl; apply hQ; clear hQ Q
      apply w_seq
      apply w_seq
      apply w_reg [0, 1, 5, 8, 46] rfl; intro Q hQ
      simp (disch := omega) [wrap64, wrapU, V.pureL, V.pure, splice, leW, wrl, h1, h2, h3, h4, h5, h6, h7, h8, h9, hM, ql_max]
      repeat' ((first | with_reducible apply after_guard | with_reducible apply after_guardD) <;> (intro hg; have hg' := hg; try simp at hg') <;> simp (disch := omega) [wrap64, wrapU, V.pureL, V.pure, splice, leW, wrl, h1, h2, h3, h4, h5, h6, h7, h8, h9, hM, ql_max, *])
      all_goals (apply after_some rfl; apply hQ; clear hQ Q)
      all_goals
        skip
        apply w_cond _ rfl <;> intro hc
        · first
          | (simp at hc; done)
          | try simp [Int.natCast_inj] at hc
            apply w_seq
            apply w_reg [6, 7] rfl; intro Q hQ
            simp (disch := omega) [wrap64, wrapU, V.pureL, V.pure, splice, leW, wrl, h1, h2, h3, h4, h5, h6, h7, h8, h9, hM, ql_max]
            apply after_some rfl; apply hQ; clear hQ Q
            apply w_ret
            repeat (first | with_reducible apply kseq_ret | with_reducible apply kloop_ret | with_reducible apply kblock_ret)
            apply fin_pure rfl
            · simp_all [BlendR, WV, IV]; try omega
            · exact WV_pure _
        · first
          | (simp at hc; done)
          | try simp [Int.natCast_inj] at hc
            apply w_skip
            apply w_seq
            apply w_reg [0, 1, 5, 8, 9] rfl; intro Q hQ
            simp (disch := omega) [wrap64, wrapU, V.pureL, V.pure, splice, leW, wrl, h1, h2, h3, h4, h5, h6, h7, h8, h9, hM, ql_max]
            apply after_some rfl; apply hQ; clear hQ Q
            apply w_seq
            apply w_seq
            apply w_reg [0, 1, 5, 8, 9, 10] rfl; intro Q hQ
            simp (disch := omega) [wrap64, wrapU, V.pureL, V.pure, splice, leW, wrl, h1, h2, h3, h4, h5, h6, h7, h8, h9, hM, ql_max]
            apply after_some rfl; apply hQ; clear hQ Q
            apply w_block
            -- LOOP live [0, 1, 5, 8, 9, 10]
            refine w_loop (fun m al H => ∃ (i : Nat) (w : V), m = xs.length - i ∧ i ≤ xs.length ∧ Mut H w ((bl xs ys p (max q 1)).take i) ∧ al = [(0, v), (1, u), (5, .rp [.int .i64 p, .int .i64 q]), (8, .int .i64 (max q 1)), (9, w), (10, .int .i64 (i : Int))]) (xs.length) ?_ ?_
            · exact ⟨0, .nil, by simp, by omega, .nil, rfl⟩
            rintro m al H ⟨j, w, hm2, hj, hU, rfl⟩
            have hlen : xs.length = ys.length := by omega
            have hR1 : Right xs = true := by simp_all
            have hR2 : Right ys = true := by simp_all
            obtain ⟨xa, xb, xc, xd, xe, xf⟩ := right_props hR1
            obtain ⟨ya, yb, yc, yd, ye, yf⟩ := right_props hR2
            have hp0 : 0 ≤ p := by omega
            have hp1 : p ≤ max q 1 := by omega
            have hq1 : max q 1 ≤ 1024 := by omega
            have hZ := bl_range (p := p) (q := max q 1) hlen hR1 hR2 hp0 hp1 hq1
            have hBL := @bl_len xs ys p (max q 1) hlen
            have hBR : BlendR xs ys p q = if Within (Lowest (bl xs ys p (max q 1))) 1048576 = true then (Lowest (bl xs ys p (max q 1)), 0) else ([], 5) := by
              have hV : VF p q = true := by simp_all
              unfold BlendR
              rw [if_neg (by omega), if_neg (by simp [hR1, hR2, hV]; omega)]
            apply w_seq
            apply w_seq
            apply w_reg [0, 1, 5, 8, 9, 10, 50] rfl; intro Q hQ
            simp (disch := omega) [wrap64, wrapU, V.pureL, V.pure, splice, leW, wrl, h1, h2, h3, h4, h5, h6, h7, h8, h9, hM, ql_max]
            apply after_some rfl; apply hQ; clear hQ Q
            apply w_cond _ rfl <;> intro hc
            · first
              | (simp at hc; done)
              | try simp [Int.natCast_inj] at hc
                apply w_skip
                apply w_seq
                apply w_block
                have cx := rangeN xc hc
                have cy := rangeN yc (show j < ys.length by omega)
                have b1 := term_range (c := max q 1 - p) (x := xs[j]) (s := sumW ys) (by omega) (by omega) cx.1 cx.2 (by omega) yf
                have b2 := term_range (c := p) (x := ys[j]) (s := sumW xs) (by omega) (by omega) cy.1 cy.2 (by omega) xf
                have hB := hU.append1_eq T22 ((max q 1 - p) * xs[j] * sumW ys + p * ys[j] * sumW xs) (by simp; omega)
                apply w_drw [0, 1, 5, 8, 9, 10] rfl (by kernel_rfl) 0 rfl; intro Q hQ
                simp (disch := omega) [wrap64, wrapU, V.pureL, V.pure, splice, leW, wrl, h1, h2, h3, h4, h5, h6, h7, h8, h9, hM, ql_max, hB, no_one]
                apply after_some rfl; apply hQ; clear hQ Q
                apply w_reg [0, 1, 5, 8, 9, 10] rfl; intro Q hQ
                simp (disch := omega) [wrap64, wrapU, V.pureL, V.pure, splice, leW, wrl, h1, h2, h3, h4, h5, h6, h7, h8, h9, hM, ql_max, hB, no_one]
                apply after_some rfl; apply hQ; clear hQ Q
                repeat (with_reducible apply kblock_nrm)
                refine kloop_back (xs.length - (j + 1)) (by omega) ⟨j + 1, _, rfl, by omega, ?_, rfl⟩
                rw [List.take_succ_eq_append_getElem (by rw [bl_len hlen]; exact hc), bl_get hlen hc]
                exact hU.append1_mut T22 _ (by simp; omega)
            · first
              | (simp at hc; done)
              | try simp [Int.natCast_inj] at hc
                apply w_exit
                repeat (first | with_reducible apply kseq_exit | with_reducible apply kloop_exit | with_reducible apply kblock_exit | with_reducible apply kblock_pass (by decide))
                have hz : j = xs.length := by omega
                subst hz
                rw [List.take_of_length_le (by omega)] at hU
                obtain ⟨H2, h10⟩ := call_mut_mv (f := 18) rfl hU (f18_runs (IV_is _) (by omega) (fun x hx => by have := hZ x hx; omega))
                have h11 := c29 (IV_is (Lowest (bl xs ys p (max q 1)))) (by simp [Lowest]; omega) 1048576
                apply w_seq
                apply w_reg [9] rfl; intro Q hQ
                simp (disch := omega) [wrap64, wrapU, V.pureL, V.pure, splice, leW, wrl, h1, h2, h3, h4, h5, h6, h7, h8, h9, hM, ql_max, h10, h11]
                apply after_some rfl; apply hQ; clear hQ Q
                apply w_seq
                apply w_seq
                apply w_reg [9, 83] rfl; intro Q hQ
                simp (disch := omega) [wrap64, wrapU, V.pureL, V.pure, splice, leW, wrl, h1, h2, h3, h4, h5, h6, h7, h8, h9, hM, ql_max, h10, h11]
                apply after_some rfl; apply hQ; clear hQ Q
                apply w_cond _ rfl <;> intro hc
                · first
                  | (simp at hc; done)
                  | try simp [Int.natCast_inj] at hc
                    apply w_seq
                    apply w_reg [6, 7] rfl; intro Q hQ
                    simp (disch := omega) [wrap64, wrapU, V.pureL, V.pure, splice, leW, wrl, h1, h2, h3, h4, h5, h6, h7, h8, h9, hM, ql_max, h10, h11]
                    apply after_some rfl; apply hQ; clear hQ Q
                    apply w_ret
                    repeat (first | with_reducible apply kseq_ret | with_reducible apply kloop_ret | with_reducible apply kblock_ret)
                    apply fin_pure rfl
                    · rw [hBR, if_neg (by simpa using hc)]; rfl
                    · exact WV_pure _
                · first
                  | (simp at hc; done)
                  | try simp [Int.natCast_inj] at hc
                    apply w_skip
                    apply w_seq
                    apply w_reg [6, 7] rfl; intro Q hQ
                    simp (disch := omega) [wrap64, wrapU, V.pureL, V.pure, splice, leW, wrl, h1, h2, h3, h4, h5, h6, h7, h8, h9, hM, ql_max, h10, h11]
                    apply after_some rfl; apply hQ; clear hQ Q
                    apply w_ret
                    repeat (first | with_reducible apply kseq_ret | with_reducible apply kloop_ret | with_reducible apply kblock_ret)
                    apply fin_pure rfl
                    · rw [hBR, if_pos (by simpa using hc)]; rfl
                    · exact WV_pure _

end Go.Ae.Ln

namespace Go.Ae.Ln
open Go.Proofs

theorem foldl_max_le {M : Int} : ∀ (xs : List Int) (a : Int), xs.foldl max a ≤ M ↔ a ≤ M ∧ ∀ x ∈ xs, x ≤ M
  | [], a => by simp
  | x :: r, a => by
    rw [List.foldl_cons, foldl_max_le r (max a x)]
    simp only [List.mem_cons, forall_eq_or_imp]
    constructor
    · rintro ⟨h1, h2⟩; exact ⟨by omega, by omega, h2⟩
    · rintro ⟨h1, h2, h3⟩; exact ⟨by omega, h3⟩

theorem maxL_le {M : Int} {xs : List Int} (hne : xs ≠ []) : maxL xs ≤ M ↔ ∀ x ∈ xs, x ≤ M := by
  cases xs with
  | nil => exact absurd rfl hne
  | cons x r =>
    show r.foldl max x ≤ M ↔ _
    rw [foldl_max_le]; simp

theorem within_max {xs : List Int} {M : Int} (h0 : ∀ x ∈ xs, 0 ≤ x) (h1 : 1 ≤ xs.length) (h2 : xs.length ≤ 12) : Within xs M = decide (maxL xs ≤ M) := by
  have hne : xs ≠ [] := by intro h; subst h; simp at h1
  rw [Bool.eq_iff_iff, decide_eq_true_eq, maxL_le hne]
  simp only [Within, Inside, Bool.and_eq_true, List.all_eq_true, decide_eq_true_eq]
  constructor
  · rintro ⟨h, _⟩ x hx; exact (h x hx).2
  · intro h; exact ⟨fun x hx => ⟨h0 x hx, h x hx⟩, h1, h2⟩

/-- A list that is filled up to place i. -/
def fillT (L : List Int) (i : Nat) : List Int := L.take i ++ List.replicate (L.length - i) 0
theorem fillT_len (L : List Int) {i : Nat} (h : i ≤ L.length) : (fillT L i).length = L.length := by simp [fillT]; omega
theorem fillT_set {L : List Int} {i : Nat} (h : i < L.length) : (fillT L i).set i L[i] = fillT L (i + 1) := by
  have h1 : (L.take i).length = i := by simp; omega
  have h2 : L.length - i = (L.length - (i + 1)) + 1 := by omega
  rw [fillT, List.set_append, h1, if_neg (by omega), Nat.sub_self, h2, List.replicate_succ, List.set_cons_zero, fillT, List.take_succ_eq_append_getElem h, List.append_assoc]
  rfl
theorem fillT_all (L : List Int) : fillT L L.length = L := by simp [fillT]
theorem splice_fillT {L : List Int} {i : Nat} (h : i < L.length) : splice (cellsI (fillT L i)) i [.int .i64 L[i]] = cellsI (fillT L (i + 1)) := by
  rw [splice_cells (by rw [fillT_len L (by omega)]; exact h), fillT_set h]

theorem blend_err {xs ys : List Int} {p q : Int} (h : BothE xs ys ≠ 0) : BlendR xs ys p q = ([], BothE xs ys) := by
  unfold BothE at h ⊢
  unfold BlendR
  by_cases h1 : xs.length = ys.length
  · by_cases h2 : Right xs = true ∧ Right ys = true
    · simp [h1, h2] at h
    · have h3 : Right xs = false ∨ Right ys = false ∨ VF p q = false ∨ p < 0 ∨ max q 1 < p ∨ 1024 < max q 1 := by
        cases hx : Right xs with
        | false => exact Or.inl rfl
        | true => cases hy : Right ys with
          | false => exact Or.inr (Or.inl rfl)
          | true => exact absurd ⟨hx, hy⟩ h2
      rw [if_neg (fun h => h h1), if_pos h3, if_neg (fun h => h h1), if_neg h2]
  · rw [if_pos h1, if_pos h1]

theorem eo_make {f : FuncId} {d : Option Tmp} {H : Heap} {ρ : Operand → Option V} {x : Operand} {n : Nat} (h1 : 1 ≤ n) (h2 : n ≤ 1000) (hx : ρ x = some (.int .i64 (n : Int))) : eop LE f d H ρ (.makeSlice 22 x x) = some (.ms 1 H.length n 0 n true, H ++ [newBlk n (cellsI (List.replicate n 0))]) := by
  have h3 : (List.replicate n [V.int .i64 0]).flatten = cellsI (List.replicate n 0) := by
    rw [cellsI, List.map_replicate, List.flatten_replicate_singleton]
  have h4 : (8 : Int) * (n : Int) ≤ (room : Int) := by unfold room; omega
  have h5 : (cellsI (List.replicate n 0)).length = n := by rw [cellsI_len, List.length_replicate]
  simp only [eop, leP, t22, t3, hx, cells_int, List.length_cons, List.length_nil]
  rw [if_pos (by refine ⟨by omega, by omega, h4, by omega, by omega, ?_⟩ <;> simp), if_neg (by omega)]
  simp only [Int.toNat_natCast, h3, h5, decide_true]

/-- diorama/learn.Blend -/
theorem f16_runs {v u : V} {xs ys : List Int} (hv : IsInts v xs) (hu : IsInts u ys) (hl : xs.length < 4611686018427387904) (hm : ys.length < 4611686018427387904) {p q : Int} (hp : I64 p) (hq : I64 q) : Runs LE 16 [v, u, RV p q] (WV (BlendR xs ys p q)) := by
  have h1 := lenL hv
  have h3 := @idxL v xs hv
  have h4 := @idxL u ys hu
  have h5 := c30 hv hu hl hm
  have h7 := c27 hv hl
  have h8 := c27 hu hm
  have h9 := c31 hp hq
  have hM : (if 1 > q then 1 else q) = max q 1 := by omega
  refine runs_W (m := 83) Try.func16 rfl rfl (Nat.le_of_ble_eq_true rfl) ?_
  simp only [alOf]
  apply w_seq
  apply w_reg [0, 1, 5] rfl; intro Q hQ
  simp (disch := omega) [wrap64, wrapU, V.pureL, V.pure, leW, wrl, h1, h3, h4, h5, h7, h8, h9, hM, ql_max]
  apply after_some rfl; apply hQ; clear hQ Q
  apply w_seq
  apply w_seq
  apply w_reg [0, 1, 5, 8] rfl; intro Q hQ
  simp (disch := omega) [wrap64, wrapU, V.pureL, V.pure, leW, wrl, h1, h3, h4, h5, h7, h8, h9, hM, ql_max]
  apply after_some rfl; apply hQ; clear hQ Q
  apply w_seq
  apply w_reg [0, 1, 5, 8, 19] rfl; intro Q hQ
  simp (disch := omega) [wrap64, wrapU, V.pureL, V.pure, leW, wrl, h1, h3, h4, h5, h7, h8, h9, hM, ql_max]
  apply after_some rfl; apply hQ; clear hQ Q
  apply w_cond _ rfl <;> intro hc
  · first
    | (simp at hc; done)
    | try simp [Int.natCast_inj] at hc
      apply w_seq
      apply w_reg [6, 7] rfl; intro Q hQ
      simp (disch := omega) [wrap64, wrapU, V.pureL, V.pure, leW, wrl, h1, h3, h4, h5, h7, h8, h9, hM, ql_max]
      apply after_some rfl; apply hQ; clear hQ Q
      apply w_ret
      repeat (first | with_reducible apply kseq_ret | with_reducible apply kloop_ret | with_reducible apply kblock_ret)
      apply fin_pure rfl
      · rw [blend_err (by simpa using hc)]; rfl
      · exact WV_pure _
  · first
    | (simp at hc; done)
    | try simp [Int.natCast_inj] at hc
      apply w_skip
      apply w_seq
      have hE : BothE xs ys = 0 := by simpa using hc
      have hlen : xs.length = ys.length := by
        rcases Nat.decEq xs.length ys.length with h | h
        · rw [BothE, if_pos h] at hE; omega
        · exact h
      have hR : Right xs = true ∧ Right ys = true := by
        rcases Classical.em (Right xs = true ∧ Right ys = true) with h | h
        · exact h
        · rw [BothE, if_neg (by omega), if_neg h] at hE; omega
      obtain ⟨hR1, hR2⟩ := hR
      obtain ⟨xa, xb, xc, xd, xe, xf⟩ := right_props hR1
      obtain ⟨ya, yb, yc, yd, ye, yf⟩ := right_props hR2
      have hBL := @bl_len xs ys p (max q 1) hlen
      have hBR1 : BlendR xs ys p q = if VF p q = false ∨ p < 0 ∨ max q 1 < p ∨ 1024 < max q 1 then ([], 5) else if Within (Lowest (bl xs ys p (max q 1))) 1048576 = true then (Lowest (bl xs ys p (max q 1)), 0) else ([], 5) := by
        unfold BlendR
        rw [if_neg (by omega)]
        simp only [hR1, hR2, Bool.true_eq_false, false_or]
      apply w_drw [0, 1, 5, 9, 10] rfl (by kernel_rfl) 0 rfl; intro Q hQ
      simp (disch := omega) [wrap64, wrapU, V.pureL, V.pure, leW, wrl, h1, h3, h4, h5, h7, h8, h9, hM, ql_max]
      apply after_some rfl; apply hQ; clear hQ Q
      apply w_seq
      apply w_seq
      apply w_reg [0, 1, 9, 10, 41] rfl; intro Q hQ
      simp (disch := omega) [wrap64, wrapU, V.pureL, V.pure, leW, wrl, h1, h3, h4, h5, h7, h8, h9, hM, ql_max]
      repeat' ((first | with_reducible apply after_guard | with_reducible apply after_guardD) <;> (intro hg; have hg' := hg; try simp at hg') <;> simp (disch := omega) [wrap64, wrapU, V.pureL, V.pure, leW, wrl, h1, h3, h4, h5, h7, h8, h9, hM, ql_max, *])
      all_goals (apply after_some rfl; apply hQ; clear hQ Q)
      all_goals
        skip
        apply w_cond _ rfl <;> intro hc
        · first
          | (simp at hc; done)
          | try simp [Int.natCast_inj] at hc
            apply w_seq
            apply w_reg [6, 7] rfl; intro Q hQ
            simp (disch := omega) [wrap64, wrapU, V.pureL, V.pure, leW, wrl, h1, h3, h4, h5, h7, h8, h9, hM, ql_max]
            apply after_some rfl; apply hQ; clear hQ Q
            apply w_ret
            repeat (first | with_reducible apply kseq_ret | with_reducible apply kloop_ret | with_reducible apply kblock_ret)
            apply fin_pure rfl
            · simp_all [BlendR, WV, IV]; try omega
            · exact WV_pure _
        · first
          | (simp at hc; done)
          | try simp [Int.natCast_inj] at hc
            apply w_skip
            apply w_seq
            apply w_reg [0, 1, 9, 10, 11, 12] rfl; intro Q hQ
            simp (disch := omega) [wrap64, wrapU, V.pureL, V.pure, leW, wrl, h1, h3, h4, h5, h7, h8, h9, hM, ql_max]
            apply after_some rfl; apply hQ; clear hQ Q
            apply w_seq
            have hp0 : 0 ≤ p := by omega
            have hp1 : p ≤ max q 1 := by omega
            have hq1 : max q 1 ≤ 1024 := by omega
            have hZ := bl_range (p := p) (q := max q 1) hlen hR1 hR2 hp0 hp1 hq1
            have hBR : BlendR xs ys p q = if Within (Lowest (bl xs ys p (max q 1))) 1048576 = true then (Lowest (bl xs ys p (max q 1)), 0) else ([], 5) := by
              have hV : VF p q = true := by simp_all
              rw [hBR1, if_neg (by simp [hV]; omega)]
            have hMk : ∀ al, eop LE 16 (some 48) [] (rhoA LE ((47, .int .i64 (xs.length : Int)) :: al)) (.makeSlice 22 (.tmp 47) (.tmp 47)) = some (.ms 1 0 xs.length 0 xs.length true, [newBlk xs.length (cellsI (List.replicate xs.length 0))]) := fun al => eo_make (H := []) (by omega) (by omega) (by simp)
            have h20 := fun n => @ms_len Try.prog 22 3 T22 0 n 0 xs.length true
            have h21 := @ms_idx Try.prog 22 3 T22 0 xs.length xs.length
            apply w_reg [0, 1, 9, 10, 11, 12, 13] rfl; intro Q hQ
            simp (disch := omega) [wrap64, wrapU, V.pureL, V.pure, leW, wrl, h1, h3, h4, h5, h7, h8, h9, hM, ql_max, hMk, h20, h21]
            apply after_some rfl; apply hQ; clear hQ Q
            apply w_seq
            apply w_seq
            apply w_reg [0, 1, 9, 10, 11, 12, 13, 50, 51] rfl; intro Q hQ
            simp (disch := omega) [wrap64, wrapU, V.pureL, V.pure, leW, wrl, h1, h3, h4, h5, h7, h8, h9, hM, ql_max, hMk, h20, h21]
            apply after_some rfl; apply hQ; clear hQ Q
            apply w_block
            -- LOOP live [0, 1, 9, 10, 11, 12, 13, 50, 51]
            refine w_loop (fun m al H => ∃ (i : Nat), m = xs.length - i ∧ i ≤ xs.length ∧ getW H 0 xs.length = some (cellsI (fillT (bl xs ys p (max q 1)) i)) ∧ al = [(0, v), (1, u), (9, .int .i64 p), (10, .int .i64 (max q 1)), (11, .int .i64 (sumW xs)), (12, .int .i64 (sumW ys)), (13, .ms 1 0 xs.length 0 xs.length true), (50, .int .i64 (xs.length : Int)), (51, .int .i64 (i : Int))]) (xs.length) ?_ ?_
            · exact ⟨0, by simp, by omega, by simp [fillT, hBL], rfl⟩
            rintro m al H ⟨j, hm2, hj, hU, rfl⟩
            apply w_seq
            apply w_reg [0, 1, 9, 10, 11, 12, 13, 50, 51, 52] rfl; intro Q hQ
            simp (disch := omega) [wrap64, wrapU, V.pureL, V.pure, leW, wrl, h1, h3, h4, h5, h7, h8, h9, hM, ql_max, hMk, h20, h21]
            apply after_some rfl; apply hQ; clear hQ Q
            apply w_seq
            apply w_cond _ rfl <;> intro hc
            · first
              | (simp at hc; done)
              | try simp [Int.natCast_inj] at hc
                apply w_skip
                apply w_seq
                apply w_block
                apply w_seq
                apply w_reg [0, 1, 9, 10, 11, 12, 13, 14, 50, 51] rfl; intro Q hQ
                simp (disch := omega) [wrap64, wrapU, V.pureL, V.pure, leW, wrl, h1, h3, h4, h5, h7, h8, h9, hM, ql_max, hMk, h20, h21]
                apply after_some rfl; apply hQ; clear hQ Q
                have cx := rangeN xc hc
                have cy := rangeN yc (show j < ys.length by omega)
                have b1 := term_range (c := max q 1 - p) (x := xs[j]) (s := sumW ys) (by omega) (by omega) cx.1 cx.2 (by omega) yf
                have b2 := term_range (c := p) (x := ys[j]) (s := sumW xs) (by omega) (by omega) cy.1 cy.2 (by omega) xf
                have hS := splice_fillT (L := bl xs ys p (max q 1)) (i := j) (by rw [hBL]; exact hc)
                rw [bl_get hlen hc] at hS
                have hF := fillT_len (bl xs ys p (max q 1)) (i := j) (by omega)
                have hT : j + 1 ≤ xs.length := hc
                apply w_drw [0, 1, 9, 10, 11, 12, 13, 50, 51] rfl (by kernel_rfl) 0 rfl; intro Q hQ
                simp (disch := omega) [wrap64, wrapU, V.pureL, V.pure, leW, wrl, h1, h3, h4, h5, h7, h8, h9, hM, ql_max, hMk, h20, h21, hT, hU, hS, hF, hBL, cellsI_len]
                apply after_some rfl; apply hQ; clear hQ Q
                apply w_reg [0, 1, 9, 10, 11, 12, 13, 50, 51] rfl; intro Q hQ
                simp (disch := omega) [wrap64, wrapU, V.pureL, V.pure, leW, wrl, h1, h3, h4, h5, h7, h8, h9, hM, ql_max, hMk, h20, h21, hT, hU, hS, hF, hBL, cellsI_len]
                apply after_some rfl; apply hQ; clear hQ Q
                repeat (with_reducible apply kblock_nrm)
                refine kloop_back (xs.length - (j + 1)) (by omega) ⟨j + 1, rfl, by omega, ?_, rfl⟩
                exact getW_set (getW_lt hU)
            · first
              | (simp at hc; done)
              | try simp [Int.natCast_inj] at hc
                apply w_exit
                repeat (first | with_reducible apply kseq_exit | with_reducible apply kloop_exit | with_reducible apply kblock_exit | with_reducible apply kblock_pass (by decide))
                have hz : j = xs.length := by omega
                subst hz
                rw [← hBL, fillT_all, hBL] at hU
                have hFr := frz_ms (full := true) hU
                rw [hBL] at hFr
                have hne : bl xs ys p (max q 1) ≠ [] := by intro h; rw [h] at hBL; simp at hBL; omega
                have h10 : call LE 28 [.ms 1 0 xs.length 0 xs.length true] H = some (.sl false (intsI (Lowest (bl xs ys p (max q 1)))), H.set 0 none) := call_mv rfl rfl (by simp only [frzList, hFr]) (pureL_cons (by simp only [V.pure]; exact intsI_pure _) rfl) (f28_runs (.inr ⟨true, rfl⟩) hne (by omega) (fun x hx => by have := hZ x hx; omega))
                have hnl : Lowest (bl xs ys p (max q 1)) ≠ [] := by simpa [Lowest] using hne
                have h11 := c32 (v := .sl false (intsI (Lowest (bl xs ys p (max q 1))))) (.inr ⟨false, rfl⟩) (by simp [Lowest]; omega) hnl
                have hWi := @within_max (Lowest (bl xs ys p (max q 1))) 1048576 (fun x hx => (lowest_range hZ x hx).1) (by simp [Lowest]; omega) (by simp [Lowest]; omega)
                apply w_seq
                apply w_seq
                apply w_reg [13] rfl; intro Q hQ
                simp (disch := omega) [wrap64, wrapU, V.pureL, V.pure, leW, wrl, h1, h3, h4, h5, h7, h8, h9, hM, ql_max, hMk, h20, h21, h10, h11]
                apply after_some rfl; apply hQ; clear hQ Q
                apply w_seq
                apply w_reg [13, 81] rfl; intro Q hQ
                simp (disch := omega) [wrap64, wrapU, V.pureL, V.pure, leW, wrl, h1, h3, h4, h5, h7, h8, h9, hM, ql_max, hMk, h20, h21, h10, h11]
                apply after_some rfl; apply hQ; clear hQ Q
                apply w_cond _ rfl <;> intro hc
                · first
                  | (simp at hc; done)
                  | try simp [Int.natCast_inj] at hc
                    apply w_seq
                    apply w_reg [6, 7] rfl; intro Q hQ
                    simp (disch := omega) [wrap64, wrapU, V.pureL, V.pure, leW, wrl, h1, h3, h4, h5, h7, h8, h9, hM, ql_max, hMk, h20, h21, h10, h11]
                    apply after_some rfl; apply hQ; clear hQ Q
                    apply w_ret
                    repeat (first | with_reducible apply kseq_ret | with_reducible apply kloop_ret | with_reducible apply kblock_ret)
                    apply fin_pure rfl
                    · rw [hBR, if_neg (by rw [hWi]; simpa using hc)]; rfl
                    · exact WV_pure _
                · first
                  | (simp at hc; done)
                  | try simp [Int.natCast_inj] at hc
                    apply w_skip
                    apply w_seq
                    apply w_reg [6, 7] rfl; intro Q hQ
                    simp (disch := omega) [wrap64, wrapU, V.pureL, V.pure, leW, wrl, h1, h3, h4, h5, h7, h8, h9, hM, ql_max, hMk, h20, h21, h10, h11]
                    apply after_some rfl; apply hQ; clear hQ Q
                    apply w_ret
                    repeat (first | with_reducible apply kseq_ret | with_reducible apply kloop_ret | with_reducible apply kblock_ret)
                    apply fin_pure rfl
                    · rw [hBR, if_pos (by rw [hWi]; simpa using hc)]; simp only [WV, IV, if_neg hnl]
                    · exact WV_pure _

end Go.Ae.Ln

namespace Go.Ae.Ln
open Go.Proofs

def farL (xs ys : List Int) : List Int := List.zipWith (fun x y => ((x * sumW ys - y * sumW xs).natAbs : Int)) xs ys
def farD (xs ys : List Int) : Int := (farL xs ys).sum
def farA (xs ys : List Int) : Int := 2 * sumW xs * sumW ys
def farN (xs ys : List Int) : Nat := Nat.gcd (farA xs ys).toNat (farD xs ys).toNat

def FarR (xs ys : List Int) : (Int × Int) × Int :=
  if BothE xs ys ≠ 0 then ((0, 0), BothE xs ys)
  else if (MakeF ((farD xs ys).tdiv (farN xs ys)) ((farA xs ys).tdiv (farN xs ys))).2 ≠ 0 then ((0, 0), 5)
  else (MakeF ((farD xs ys).tdiv (farN xs ys)) ((farA xs ys).tdiv (farN xs ys)))

theorem farL_len {xs ys : List Int} (h : xs.length = ys.length) : (farL xs ys).length = xs.length := by simp [farL, h]
theorem farL_get {xs ys : List Int} (h : xs.length = ys.length) {j : Nat} (hj : j < xs.length) : (farL xs ys)[j]'(by rw [farL_len h]; exact hj) = ((xs[j] * sumW ys - (ys[j]'(by omega)) * sumW xs).natAbs : Int) := by simp [farL]

theorem prod_range {x s : Int} (h3 : 0 ≤ x) (h4 : x ≤ 1048576) (h5 : 0 ≤ s) (h6 : s ≤ 12582912) : 0 ≤ x * s ∧ x * s ≤ 13194139533312 := by
  have a1 : 0 ≤ x * s := Int.mul_nonneg h3 h5
  have a2 : x * s ≤ 1048576 * 12582912 := Int.mul_le_mul h4 h6 h5 (by omega)
  omega

theorem sum_le {M : Int} : ∀ {l : List Int}, (∀ x ∈ l, 0 ≤ x ∧ x ≤ M) → 0 ≤ l.sum ∧ l.sum ≤ M * (l.length : Int)
  | [], _ => by simp
  | x :: r, h => by
    have h1 := h x (by simp)
    have h2 := sum_le (l := r) fun y hy => h y (by simp [hy])
    rw [List.sum_cons, List.length_cons]; push_cast
    rw [Int.mul_add]; omega

theorem farL_range {xs ys : List Int} (h : xs.length = ys.length) (hx : Right xs = true) (hy : Right ys = true) : ∀ z ∈ farL xs ys, 0 ≤ z ∧ z ≤ 13194139533312 := by
  intro z hz
  obtain ⟨j, hj, rfl⟩ := List.mem_iff_getElem.1 hz
  rw [farL_len h] at hj
  rw [farL_get h hj]
  obtain ⟨_, _, a1, _, a2, a3⟩ := right_props hx
  obtain ⟨_, _, b1, _, b2, b3⟩ := right_props hy
  have c1 := rangeN a1 hj
  have c2 := rangeN b1 (show j < ys.length by omega)
  have := prod_range (x := xs[j]) (s := sumW ys) c1.1 c1.2 (by omega) b3
  have := prod_range (x := ys[j]) (s := sumW xs) c2.1 c2.2 (by omega) a3
  omega

theorem sum_take_le {M : Int} {l : List Int} (h : ∀ x ∈ l, 0 ≤ x ∧ x ≤ M) (j : Nat) : 0 ≤ (l.take j).sum ∧ (l.take j).sum ≤ M * (l.length : Int) := by
  have h1 := sum_le (l := l.take j) fun x hx => h x (List.mem_of_mem_take hx)
  have h2 := sum_le (l := l.drop j) fun x hx => h x (List.mem_of_mem_drop hx)
  have h3 : (l.take j).sum + (l.drop j).sum = l.sum := by rw [← List.sum_append, List.take_append_drop]
  have h4 := sum_le h
  omega

noncomputable def two (f : FuncId) (d : Option Tmp) (H : Heap) (v w : V) : Option (V × Heap) := eop LE f d H (fun o => match o with
    | .tmp 0 => some v
    | _ => some w) (.buildSlice 22 2 #[(0, .tmp 0), (1, .tmp 1)])
theorem two_int {f : FuncId} {d : Option Tmp} {H : Heap} {k k' : IntKind} {a b : Int} : two f d H (.int k a) (.int k' b) = some (.ms 1 H.length 2 0 2 true, H ++ [newBlk 2 [.int k a, .int k' b]]) := by
  simp [two, eop, partsO, fillV, splice, V.cells, allOne, V.one, List.replicate]
theorem eo_two {f : FuncId} {d : Option Tmp} {H : Heap} {ρ : Operand → Option V} {x y : Operand} : eop LE f d H ρ (.buildSlice 22 2 #[(0, x), (1, y)]) = match ρ x, ρ y with
    | some v, some w => two f d H v w
    | _, _ => none := by
  cases hx : ρ x with
  | none => simp [eop, partsO, hx]
  | some v =>
    cases hy : ρ y with
    | none => simp [eop, partsO, hx, hy]
    | some w => simp [two, eop, partsO, hx, hy]

theorem tdiv_range {x n M : Int} (h1 : 0 ≤ x) (h2 : x ≤ M) (hn : 1 ≤ n) : 0 ≤ x.tdiv n ∧ x.tdiv n ≤ M := by
  rw [Int.tdiv_eq_ediv_of_nonneg h1]
  exact ⟨Int.ediv_nonneg h1 (by omega), Int.le_trans (Int.ediv_le_self _ h1) h2⟩

theorem max_abs {d e : Int} : (if e - d > d - e then e - d else d - e) = ((d - e).natAbs : Int) := by split <;> omega

/-- diorama/learn.Far -/
theorem f20_runs {v u : V} {xs ys : List Int} (hv : IsInts v xs) (hu : IsInts u ys) (hl : xs.length < 4611686018427387904) (hm : ys.length < 4611686018427387904) : Runs LE 20 [v, u] (.tup [RV (FarR xs ys).1.1 (FarR xs ys).1.2, .int .i64 (FarR xs ys).2]) := by
  have h1 := lenL hv
  have h3 := @idxL v xs hv
  have h4 := @idxL u ys hu
  have h5 := c30 hv hu hl hm
  have h7 := c27 hv hl
  have h8 := c27 hu hm
  refine runs_W (m := 84) Try.func20 rfl rfl (Nat.le_of_ble_eq_true rfl) ?_
  simp only [alOf]
  apply w_seq
  apply w_reg [0, 1, 4] rfl; intro Q hQ
  simp (disch := omega) [wrap64, wrapU, V.pureL, V.pure, splice, leW, wrl, h1, h3, h4, h5, h7, h8, ql_max, max_abs, buildR0, c19]
  apply after_some rfl; apply hQ; clear hQ Q
  apply w_seq
  apply w_seq
  apply w_reg [0, 1, 4, 6] rfl; intro Q hQ
  simp (disch := omega) [wrap64, wrapU, V.pureL, V.pure, splice, leW, wrl, h1, h3, h4, h5, h7, h8, ql_max, max_abs, buildR0, c19]
  apply after_some rfl; apply hQ; clear hQ Q
  apply w_seq
  apply w_reg [0, 1, 4, 6, 18] rfl; intro Q hQ
  simp (disch := omega) [wrap64, wrapU, V.pureL, V.pure, splice, leW, wrl, h1, h3, h4, h5, h7, h8, ql_max, max_abs, buildR0, c19]
  apply after_some rfl; apply hQ; clear hQ Q
  apply w_cond _ rfl <;> intro hc
  · first
    | (simp at hc; done)
    | try simp [Int.natCast_inj] at hc
      apply w_seq
      apply w_reg [4, 5] rfl; intro Q hQ
      simp (disch := omega) [wrap64, wrapU, V.pureL, V.pure, splice, leW, wrl, h1, h3, h4, h5, h7, h8, ql_max, max_abs, buildR0, c19]
      apply after_some rfl; apply hQ; clear hQ Q
      apply w_ret
      repeat (first | with_reducible apply kseq_ret | with_reducible apply kloop_ret | with_reducible apply kblock_ret)
      apply fin_pure rfl
      · rw [FarR, if_pos (by simpa using hc)]; simp
      · rfl
  · first
    | (simp at hc; done)
    | try simp [Int.natCast_inj] at hc
      apply w_skip
      apply w_seq
      have hE : BothE xs ys = 0 := by simpa using hc
      have hlen : xs.length = ys.length := by
        rcases Nat.decEq xs.length ys.length with h | h
        · rw [BothE, if_pos h] at hE; omega
        · exact h
      have hR : Right xs = true ∧ Right ys = true := by
        rcases Classical.em (Right xs = true ∧ Right ys = true) with h | h
        · exact h
        · rw [BothE, if_neg (by omega), if_neg h] at hE; omega
      obtain ⟨hR1, hR2⟩ := hR
      obtain ⟨xa, xb, xc, xd, xe, xf⟩ := right_props hR1
      obtain ⟨ya, yb, yc, yd, ye, yf⟩ := right_props hR2
      have hFL := @farL_len xs ys hlen
      have hZ := farL_range hlen hR1 hR2
      have hSm := sum_take_le hZ
      apply w_reg [0, 1, 4, 7, 8] rfl; intro Q hQ
      simp (disch := omega) [wrap64, wrapU, V.pureL, V.pure, splice, leW, wrl, h1, h3, h4, h5, h7, h8, ql_max, max_abs, buildR0, c19]
      apply after_some rfl; apply hQ; clear hQ Q
      apply w_seq
      apply w_reg [0, 1, 4, 7, 8, 9] rfl; intro Q hQ
      simp (disch := omega) [wrap64, wrapU, V.pureL, V.pure, splice, leW, wrl, h1, h3, h4, h5, h7, h8, ql_max, max_abs, buildR0, c19]
      apply after_some rfl; apply hQ; clear hQ Q
      apply w_seq
      apply w_seq
      apply w_reg [0, 1, 4, 7, 8, 9, 26, 27] rfl; intro Q hQ
      simp (disch := omega) [wrap64, wrapU, V.pureL, V.pure, splice, leW, wrl, h1, h3, h4, h5, h7, h8, ql_max, max_abs, buildR0, c19]
      apply after_some rfl; apply hQ; clear hQ Q
      apply w_block
      -- LOOP live [0, 1, 4, 7, 8, 9, 26, 27]
      refine w_loop (fun m al H => ∃ (i : Nat), m = xs.length - i ∧ i ≤ xs.length ∧ al = [(0, v), (1, u), (4, .mp 0 0 0), (7, .int .i64 (sumW xs)), (8, .int .i64 (sumW ys)), (9, .int .i64 (((farL xs ys).take i).sum)), (26, .int .i64 (xs.length : Int)), (27, .int .i64 (i : Int))] ∧ H = [newBlk 0 [.int .i64 0, .int .i64 0]]) (xs.length) ?_ ?_
      · exact ⟨0, by simp, by omega, rfl, rfl⟩
      rintro m al H ⟨j, hm2, hj, rfl, rfl⟩
      apply w_seq
      apply w_reg [0, 1, 4, 7, 8, 9, 26, 27, 28] rfl; intro Q hQ
      simp (disch := omega) [wrap64, wrapU, V.pureL, V.pure, splice, leW, wrl, h1, h3, h4, h5, h7, h8, ql_max, max_abs, buildR0, c19]
      apply after_some rfl; apply hQ; clear hQ Q
      apply w_seq
      apply w_cond _ rfl <;> intro hc
      · first
        | (simp at hc; done)
        | try simp [Int.natCast_inj] at hc
          apply w_skip
          apply w_seq
          apply w_block
          apply w_seq
          apply w_reg [0, 1, 4, 7, 8, 9, 10, 26, 27] rfl; intro Q hQ
          simp (disch := omega) [wrap64, wrapU, V.pureL, V.pure, splice, leW, wrl, h1, h3, h4, h5, h7, h8, ql_max, max_abs, buildR0, c19]
          apply after_some rfl; apply hQ; clear hQ Q
          have cx := rangeN xc hc
          have cy := rangeN yc (show j < ys.length by omega)
          have b1 := prod_range (x := xs[j]) (s := sumW ys) cx.1 cx.2 (by omega) yf
          have b2 := prod_range (x := ys[j]) (s := sumW xs) cy.1 cy.2 (by omega) xf
          have b3 := hSm j
          apply w_drw [0, 1, 4, 7, 8, 9, 26, 27] rfl (by kernel_rfl) 0 rfl; intro Q hQ
          simp (disch := omega) [wrap64, wrapU, V.pureL, V.pure, splice, leW, wrl, h1, h3, h4, h5, h7, h8, ql_max, max_abs, buildR0, c19]
          apply after_some rfl; apply hQ; clear hQ Q
          apply w_reg [0, 1, 4, 7, 8, 9, 26, 27] rfl; intro Q hQ
          simp (disch := omega) [wrap64, wrapU, V.pureL, V.pure, splice, leW, wrl, h1, h3, h4, h5, h7, h8, ql_max, max_abs, buildR0, c19]
          apply after_some rfl; apply hQ; clear hQ Q
          repeat (with_reducible apply kblock_nrm)
          refine kloop_back (xs.length - (j + 1)) (by omega) ⟨j + 1, rfl, by omega, ?_, rfl⟩
          rw [List.take_succ_eq_append_getElem (by rw [hFL]; exact hc), List.sum_append, farL_get hlen hc]
          simp
      · first
        | (simp at hc; done)
        | try simp [Int.natCast_inj] at hc
          apply w_exit
          repeat (first | with_reducible apply kseq_exit | with_reducible apply kloop_exit | with_reducible apply kblock_exit | with_reducible apply kblock_pass (by decide))
          have hz : j = xs.length := by omega
          subst hz
          rw [← hFL, List.take_length, hFL]
          have hA : farA xs ys = 2 * sumW xs * sumW ys := rfl
          have hD : farD xs ys = (farL xs ys).sum := rfl
          have hA1 : 1 ≤ sumW xs * sumW ys := Int.mul_pos (by omega) (by omega)
          have hA2 : sumW xs * sumW ys ≤ 12582912 * 12582912 := Int.mul_le_mul xf yf (by omega) (by omega)
          have hA3 : 2 * sumW xs * sumW ys = 2 * (sumW xs * sumW ys) := Int.mul_assoc ..
          have hD1 := sum_le hZ
          rw [hFL] at hD1
          rw [← hD] at hD1 ⊢
          have hN : (1 : Int) ≤ (farN xs ys : Int) := by
            have : 0 < farN xs ys := Nat.gcd_pos_of_pos_left _ (by rw [hA, hA3]; omega)
            omega
          have hQ1 := tdiv_range (x := farD xs ys) (n := (farN xs ys : Int)) (M := 1000000000000000) (by omega) (by omega) hN
          have hQ2 := tdiv_range (x := farA xs ys) (n := (farN xs ys : Int)) (M := 1000000000000000) (by rw [hA, hA3]; omega) (by rw [hA, hA3]; omega) hN
          have h10 : call LE 37 [.ms 1 1 2 0 2 true] [newBlk 0 [.int .i64 0, .int .i64 0], newBlk 2 [.int .i64 (farD xs ys), .int .i64 (2 * sumW xs * sumW ys)]] = some (.int .i64 (farN xs ys : Int), [newBlk 0 [.int .i64 0, .int .i64 0], newBlk 2 [.int .i64 (farD xs ys), .int .i64 (2 * sumW xs * sumW ys)]]) := by
            have hS := snap_ms (H := [newBlk 0 [.int .i64 0, .int .i64 0], newBlk 2 [.int .i64 (farD xs ys), .int .i64 (2 * sumW xs * sumW ys)]]) (b := 1) (ver := 2) (ys := [farD xs ys, 2 * sumW xs * sumW ys]) (full := true) (by simp [cellsI])
            have hR := f37_runs (v := .sl true (intsI [farD xs ys, 2 * sumW xs * sumW ys])) (xs := [farD xs ys, 2 * sumW xs * sumW ys]) (.inr ⟨true, rfl⟩) (by simp) (fun x hx => by
              simp only [List.mem_cons, List.not_mem_nil, or_false] at hx
              rcases hx with rfl | rfl <;> omega)
            have hG : gcdL [farD xs ys, 2 * sumW xs * sumW ys] = farN xs ys := by simp [gcdL, farN, hA]
            rw [hG] at hR
            exact call_snap rfl rfl rfl (by simp only [mapO_cons, mapO_nil]; rw [show V.ms 1 1 2 0 2 true = V.ms 1 1 2 0 [farD xs ys, 2 * sumW xs * sumW ys].length true from rfl, hS]) hR rfl
          rw [hA] at hQ2
          have hFR : FarR xs ys = if (MakeF ((farD xs ys).tdiv (farN xs ys)) ((2 * sumW xs * sumW ys).tdiv (farN xs ys))).2 ≠ 0 then ((0, 0), 5) else (MakeF ((farD xs ys).tdiv (farN xs ys)) ((2 * sumW xs * sumW ys).tdiv (farN xs ys))) := by
            unfold FarR
            rw [if_neg (by omega), hA]
          apply w_seq
          apply w_reg [4, 7, 8, 9, 11] rfl; intro Q hQ
          simp (disch := omega) [wrap64, wrapU, V.pureL, V.pure, splice, leW, wrl, h1, h3, h4, h5, h7, h8, ql_max, max_abs, buildR0, c19, h10, eo_two, two_int]
          apply after_some rfl; apply hQ; clear hQ Q
          apply w_seq
          apply w_drw [4, 12, 13] rfl (by kernel_rfl) 1 rfl; intro Q hQ
          simp (disch := omega) [wrap64, wrapU, V.pureL, V.pure, splice, leW, wrl, h1, h3, h4, h5, h7, h8, ql_max, max_abs, buildR0, c19, h10, eo_two, two_int]
          apply after_some rfl; apply hQ; clear hQ Q
          apply w_seq
          apply w_seq
          apply w_reg [4, 12, 81] rfl; intro Q hQ
          simp (disch := omega) [wrap64, wrapU, V.pureL, V.pure, splice, leW, wrl, h1, h3, h4, h5, h7, h8, ql_max, max_abs, buildR0, c19, h10, eo_two, two_int]
          apply after_some rfl; apply hQ; clear hQ Q
          apply w_cond _ rfl <;> intro hc
          · first
            | (simp at hc; done)
            | try simp [Int.natCast_inj] at hc
              apply w_seq
              apply w_reg [4, 5] rfl; intro Q hQ
              simp (disch := omega) [wrap64, wrapU, V.pureL, V.pure, splice, leW, wrl, h1, h3, h4, h5, h7, h8, ql_max, max_abs, buildR0, c19, h10, eo_two, two_int]
              apply after_some rfl; apply hQ; clear hQ Q
              apply w_ret
              repeat (first | with_reducible apply kseq_ret | with_reducible apply kloop_ret | with_reducible apply kblock_ret)
              apply fin_pure rfl
              · rw [hFR, if_pos (by simpa using hc)]; simp [splice]
              · rfl
          · first
            | (simp at hc; done)
            | try simp [Int.natCast_inj] at hc
              apply w_skip
              apply w_seq
              apply w_reg [4, 5] rfl; intro Q hQ
              simp (disch := omega) [wrap64, wrapU, V.pureL, V.pure, splice, leW, wrl, h1, h3, h4, h5, h7, h8, ql_max, max_abs, buildR0, c19, h10, eo_two, two_int]
              apply after_some rfl; apply hQ; clear hQ Q
              apply w_ret
              repeat (first | with_reducible apply kseq_ret | with_reducible apply kloop_ret | with_reducible apply kblock_ret)
              apply fin_pure rfl
              · rw [hFR, if_neg (by simpa using hc)]; simp [splice]; exact (show (MakeF ((farD xs ys).tdiv ↑(farN xs ys)) ((2 * sumW xs * sumW ys).tdiv ↑(farN xs ys))).2 = 0 by simpa using hc).symm
              · rfl

theorem c20 {v u : V} {xs ys : List Int} (hv : IsInts v xs) (hu : IsInts u ys) (hl : xs.length < 4611686018427387904) (hm : ys.length < 4611686018427387904) (H : Heap) : call LE 20 [v, u] H = some (.tup [RV (FarR xs ys).1.1 (FarR xs ys).1.2, .int .i64 (FarR xs ys).2], H) := call_pure rfl (.inr rfl) (pureL_cons hv.pure (pureL_cons hu.pure rfl)) (f20_runs hv hu hl hm) H
theorem c16 {v u : V} {xs ys : List Int} (hv : IsInts v xs) (hu : IsInts u ys) (hl : xs.length < 4611686018427387904) (hm : ys.length < 4611686018427387904) {p q : Int} (hp : I64 p) (hq : I64 q) (H : Heap) : call LE 16 [v, u, RV p q] H = some (WV (BlendR xs ys p q), H) := call_pure rfl (.inr rfl) (pureL_cons hv.pure (pureL_cons hu.pure rfl)) (f16_runs hv hu hl hm hp hq) H
theorem c17 {v u : V} {xs ys : List Int} (hv : IsInts v xs) (hu : IsInts u ys) (hl : xs.length < 4611686018427387904) (hm : ys.length < 4611686018427387904) {p q : Int} (hp : I64 p) (hq : I64 q) (H : Heap) : call LE 17 [v, u, RV p q] H = some (WV (BlendR xs ys p q), H) := call_pure rfl (.inr rfl) (pureL_cons hv.pure (pureL_cons hu.pure rfl)) (f17_runs hv hu hl hm hp hq) H

end Go.Ae.Ln

namespace Go.Ae.Ln

theorem made_props (xs : List Int) (n : Nat) (hn : 1 ≤ n) (hn2 : n ≤ 20) {most : Int} (hm : 1 ≤ most) (hm2 : most ≤ 1000) : (Made xs n most).length = n ∧ (∀ x ∈ Made xs n most, 0 ≤ x ∧ x ≤ most) ∧ 1 ≤ (Made xs n most).sum := by
  have h0 : ∀ x ∈ madeAll xs n most, 0 ≤ x ∧ x ≤ most := by
    intro x hx
    obtain ⟨i, _, rfl⟩ := List.mem_map.1 hx
    have := around_range (z := at0 xs i) hm
    omega
  have hlen := madeAll_len xs n most
  have hs : sumW (madeAll xs n most) = (madeAll xs n most).sum := sumW_eq h0 (by
    rw [hlen]
    have : most * (n : Int) ≤ 1000 * 20 := Int.mul_le_mul hm2 (by omega) (by omega) (by omega)
    omega)
  have hp := sum_nonneg (fun x hx => (h0 x hx).1)
  unfold Made
  split
  · rename_i hq
    have hk := around_range (z := at0 xs 0) (most := (n : Int)) (by omega)
    generalize hkk : (Around (at0 xs 0) n).toNat = k
    have hk2 : k < (madeAll xs n most).length := by omega
    refine ⟨by rw [List.length_set, hlen], fun x hx => ?_, ?_⟩
    · rcases List.mem_or_eq_of_mem_set hx with h | rfl
      · exact h0 x h
      · omega
    · have h1 : ∀ x ∈ (madeAll xs n most).set k 1, 0 ≤ x := fun x hx => by
        rcases List.mem_or_eq_of_mem_set hx with h | rfl
        · exact (h0 x h).1
        · omega
      have h2 := sum_nonneg h1
      have h3 : ((madeAll xs n most).set k 1).sum ≠ 0 := fun h => by
        have := sum_zero h1 h 1 (List.mem_set hk2 1)
        omega
      omega
  · rename_i hq
    refine ⟨hlen, h0, ?_⟩
    rw [hs] at hq
    omega

/-- Small numbers, one to twelve of them, one positive, are right weights. -/
theorem right_small {xs : List Int} {M : Int} (h1 : 1 ≤ xs.length) (h2 : xs.length ≤ 12) (h3 : ∀ x ∈ xs, 0 ≤ x ∧ x ≤ M) (hM : M ≤ 1048576) (h4 : 1 ≤ xs.sum) : Right xs = true ∧ sumW xs = xs.sum := by
  have h5 : ∀ x ∈ xs, 0 ≤ x ∧ x ≤ 1048576 := fun x hx => by have := h3 x hx; omega
  have h6 : sumW xs = xs.sum := sumW_eq h5 (by omega)
  refine ⟨?_, h6⟩
  simp only [Right, Within, Inside, Bool.and_eq_true, List.all_eq_true, decide_eq_true_eq]
  exact ⟨⟨h5, h1, h2⟩, by omega⟩

theorem make_small {p q : Int} (h1 : 0 ≤ p) (h2 : p ≤ 2147483648) (h3 : 1 ≤ q) (h4 : q ≤ 2147483648) :
    ∃ a b : Int, MakeF p q = ((a, b), 0) ∧ a * q = p * b ∧ 0 ≤ a ∧ a ≤ p ∧ 1 ≤ b ∧ b ≤ q ∧ VF a b = true := by
  obtain ⟨p, rfl⟩ := Int.eq_ofNat_of_zero_le h1
  obtain ⟨q, rfl⟩ := Int.eq_ofNat_of_zero_le (show 0 ≤ q by omega)
  have hq : 0 < q := by omega
  have hg : 0 < Nat.gcd p q := Nat.gcd_pos_of_pos_right _ hq
  have d1 := Nat.gcd_dvd_left p q
  have d2 := Nat.gcd_dvd_right p q
  have l1 := Nat.div_le_self p (Nat.gcd p q)
  have l2 := Nat.div_le_self q (Nat.gcd p q)
  have l3 : 0 < q / Nat.gcd p q := Nat.div_pos (Nat.le_of_dvd hq d2) hg
  have e1 := Nat.div_mul_cancel d1
  have e2 := Nat.div_mul_cancel d2
  have co : Nat.gcd (p / Nat.gcd p q) (q / Nat.gcd p q) = 1 := by
    rw [Nat.gcd_div d1 d2, Nat.div_self hg]
  have n1 : ((p : Int)).natAbs = p := rfl
  have n2 : ((q : Int)).natAbs = q := rfl
  have hM : MakeF (p : Int) (q : Int) = if 2147483648 < p / Nat.gcd p q ∨ 2147483648 < q / Nat.gcd p q then ((0, 0), 5) else ((((p / Nat.gcd p q : Nat) : Int), ((q / Nat.gcd p q : Nat) : Int)), 0) := by
    unfold MakeF
    simp only [n1, n2]
    rw [if_neg (show ¬(q : Int) = 0 by omega)]
    have a : decide ((p : Int) < 0) = false := by simp
    have b : decide ((q : Int) < 0) = false := by simp
    rw [a, b]
    simp
  generalize Nat.gcd p q = g at *
  generalize p / g = u at *
  generalize q / g = v at *
  refine ⟨(u : Int), (v : Int), ?_, ?_, by omega, by omega, by omega, by omega, ?_⟩
  · rw [hM, if_neg (by omega)]
  · have : u * q = p * v := by
      rw [← e1, ← e2]
      rw [Nat.mul_assoc u g v, Nat.mul_comm g v]
    exact_mod_cast this
  · have m1 : (u : Int).natAbs = u := rfl
    have m2 : (v : Int).natAbs = v := rfl
    simp only [VF, m1, m2, Bool.or_eq_true, decide_eq_true_eq]
    exact Or.inr ⟨by omega, by omega, by omega, by omega, co⟩

theorem den_pos {q : Int} (h : 1 ≤ q) : den q = q := if_neg (by omega)

theorem far_small {a b : List Int} (h : a.length = b.length) (ha : Right a = true) (hb : Right b = true) (h1 : farA a b ≤ 2147483648) (h2 : farD a b ≤ 2147483648) :
    ∃ x y : Int, FarR a b = ((x, y), 0) ∧ x * farA a b = farD a b * y ∧ 0 ≤ x ∧ x ≤ farD a b ∧ 1 ≤ y ∧ y ≤ farA a b ∧ VF x y = true := by
  have hE : BothE a b = 0 := by rw [BothE, if_neg (by omega), if_pos ⟨ha, hb⟩]
  obtain ⟨a1, a2, a3, a4, a5, a6⟩ := right_props ha
  obtain ⟨b1, b2, b3, b4, b5, b6⟩ := right_props hb
  have hA : 1 ≤ farA a b := by
    have : 1 ≤ sumW a * sumW b := Int.mul_pos (by omega) (by omega)
    have e : farA a b = 2 * (sumW a * sumW b) := Int.mul_assoc ..
    omega
  have hD : 0 ≤ farD a b := sum_nonneg fun z hz => (farL_range h ha hb z hz).1
  obtain ⟨A, hA'⟩ := Int.eq_ofNat_of_zero_le (show 0 ≤ farA a b by omega)
  obtain ⟨D, hD'⟩ := Int.eq_ofNat_of_zero_le hD
  have hN : farN a b = Nat.gcd A D := by unfold farN; rw [hA', hD']; rfl
  have hg : 0 < Nat.gcd A D := Nat.gcd_pos_of_pos_left _ (by omega)
  have d1 := Nat.gcd_dvd_left A D
  have d2 := Nat.gcd_dvd_right A D
  have e1 := Nat.div_mul_cancel d1
  have e2 := Nat.div_mul_cancel d2
  have l1 := Nat.div_le_self A (Nat.gcd A D)
  have l2 := Nat.div_le_self D (Nat.gcd A D)
  have l3 : 0 < A / Nat.gcd A D := Nat.div_pos (Nat.le_of_dvd (by omega) d1) hg
  have q1 : (farD a b).tdiv (farN a b) = ((D / Nat.gcd A D : Nat) : Int) := by rw [hD', hN]; exact (Int.ofNat_tdiv _ _).symm
  have q2 : (farA a b).tdiv (farN a b) = ((A / Nat.gcd A D : Nat) : Int) := by rw [hA', hN]; exact (Int.ofNat_tdiv _ _).symm
  have hFR : FarR a b = if (MakeF ((farD a b).tdiv (farN a b)) ((farA a b).tdiv (farN a b))).2 ≠ 0 then ((0, 0), 5) else (MakeF ((farD a b).tdiv (farN a b)) ((farA a b).tdiv (farN a b))) := by
    unfold FarR; rw [if_neg (by omega)]
  generalize farN a b = n at *
  subst hN
  generalize Nat.gcd A D = g at *
  generalize A / g = u at *
  generalize D / g = v at *
  obtain ⟨x, y, m1, m2, m3, m4, m5, m6, m7⟩ := make_small (p := (v : Int)) (q := (u : Int)) (by omega) (by omega) (by omega) (by omega)
  refine ⟨x, y, ?_, ?_, m3, by omega, m5, by omega, m7⟩
  · rw [hFR, q1, q2, m1, if_neg (by simp)]
  · rw [hA', hD', ← e1, ← e2]
    push_cast
    calc x * ((u : Int) * g) = (x * u) * g := (Int.mul_assoc ..).symm
      _ = (v * y) * g := by rw [m2]
      _ = v * g * y := by rw [Int.mul_right_comm]

theorem sum_map_mul (c : Int) : ∀ l : List Int, (l.map (c * ·)).sum = c * l.sum
  | [] => by simp
  | x :: r => by rw [List.map_cons, List.sum_cons, List.sum_cons, sum_map_mul c r, Int.mul_add]

theorem sum_bl (s t : Int) (p q : Int) : ∀ (xs ys : List Int), xs.length = ys.length → (List.zipWith (fun x y => (q - p) * x * s + p * y * t) xs ys).sum = (q - p) * xs.sum * s + p * ys.sum * t
  | [], [], _ => by simp
  | x :: r, y :: r', h => by
    have ih := sum_bl s t p q r r' (by simpa using h)
    rw [List.zipWith_cons_cons, List.sum_cons, ih, List.sum_cons, List.sum_cons]
    simp only [Int.mul_add, Int.add_mul]
    omega
  | [], _ :: _, h => by simp at h
  | _ :: _, [], h => by simp at h

/-- Lowest terms: a common divisor times them. -/
theorem lowest_spec {xs : List Int} (h : ∀ x ∈ xs, 0 ≤ x) (hs : 1 ≤ xs.sum) : ∃ g : Int, 1 ≤ g ∧ (Lowest xs).map (g * ·) = xs := by
  have hg : 0 < gcdL xs := by
    rcases Nat.eq_zero_or_pos (gcdL xs) with h0 | h0
    · exfalso
      have hz : ∀ x ∈ xs, x = 0 := fun x hx => by
        have hd := gcdL_dvd hx
        rw [h0, Nat.zero_dvd] at hd
        have := h x hx
        omega
      have : xs.sum = 0 := by
        have e : xs = List.replicate xs.length 0 := List.eq_replicate_iff.2 ⟨rfl, hz⟩
        rw [e]; simp
      omega
    · exact h0
  refine ⟨(gcdL xs : Int), by omega, ?_⟩
  unfold Lowest
  rw [List.map_map]
  have e : max ((gcdL xs : Int)) 1 = (gcdL xs : Int) := by omega
  rw [e]
  conv => rhs; rw [← List.map_id xs]
  refine List.map_congr_left fun x hx => ?_
  have hd := gcdL_dvd hx
  have h0 := h x hx
  obtain ⟨k, rfl⟩ := Int.eq_ofNat_of_zero_le h0
  have hd' : gcdL xs ∣ k := hd
  show (gcdL xs : Int) * (k : Int).tdiv (gcdL xs : Int) = (k : Int)
  rw [← Int.ofNat_tdiv]
  have := Nat.mul_div_cancel' hd'
  exact_mod_cast this

theorem sum_natAbs_mul (c : Int) (hc : 0 ≤ c) : ∀ l : List Int, ((l.map (c * ·)).map fun z => (z.natAbs : Int)).sum = c * (l.map fun z => (z.natAbs : Int)).sum
  | [] => by simp
  | x :: r => by
    rw [List.map_cons, List.map_cons, List.sum_cons, List.map_cons, List.sum_cons, sum_natAbs_mul c hc r, Int.mul_add, Int.natAbs_mul]
    push_cast
    rw [show ((c.natAbs : Int)) = c by omega]

/-- The way to a blend, times the divisor. -/
theorem far_bl {s t p q : Int} (hs : 0 ≤ s) (ht : 0 ≤ t) (hp : 0 ≤ p) (S : Int) (hS : S = q * s * t) : ∀ (xs ys bs : List Int), xs.length = ys.length → bs = List.zipWith (fun x y => (q - p) * x * t + p * y * s) xs ys →
    (List.zipWith (fun x b => ((x * S - b * s).natAbs : Int)) xs bs).sum = s * p * (List.zipWith (fun x y => ((x * t - y * s).natAbs : Int)) xs ys).sum
  | [], [], bs, _, h => by subst h; simp
  | x :: r, y :: r', bs, hl, h => by
    subst h
    have ih := far_bl hs ht hp S hS r r' _ (by simpa using hl) rfl
    rw [List.zipWith_cons_cons, List.zipWith_cons_cons, List.sum_cons, ih, List.zipWith_cons_cons, List.sum_cons, Int.mul_add]
    congr 1
    have e : x * S - ((q - p) * x * t + p * y * s) * s = s * p * (x * t - y * s) := by
      subst hS
      simp only [Int.sub_mul, Int.mul_sub, Int.add_mul]
      have e1 : x * (q * s * t) = q * x * t * s := by ac_rfl
      have e2 : p * x * t * s = s * p * (x * t) := by ac_rfl
      have e3 : p * y * s * s = s * p * (y * s) := by ac_rfl
      omega
    rw [e, Int.natAbs_mul, Int.natAbs_mul]
    push_cast
    rw [show ((s.natAbs : Int)) = s by omega, show ((p.natAbs : Int)) = p by omega]
  | [], _ :: _, _, h, _ => by simp at h
  | _ :: _, [], _, h, _ => by simp at h

theorem mem_le_sum : ∀ {l : List Int} {x : Int}, (∀ z ∈ l, 0 ≤ z) → x ∈ l → x ≤ l.sum
  | [], _, _, hx => by simp at hx
  | y :: r, x, h, hx => by
    have hr := sum_nonneg (xs := r) fun z hz => h z (by simp [hz])
    have hy := h y (by simp)
    rw [List.sum_cons]
    rcases List.mem_cons.1 hx with rfl | hx
    · omega
    · have := mem_le_sum (fun z hz => h z (by simp [hz])) hx
      omega

/-- What the law of the way to a blend asks. -/
theorem between {a b : List Int} {P Q : Int} (hl : a.length = b.length) (h1 : 1 ≤ a.length) (h5 : a.length ≤ 5) (ha : ∀ x ∈ a, 0 ≤ x ∧ x ≤ 12) (hb : ∀ x ∈ b, 0 ≤ x ∧ x ≤ 12) (ga : 1 ≤ a.sum) (gb : 1 ≤ b.sum)
    (hP : 0 ≤ P) (hPQ : P ≤ Q) (hQ1 : 1 ≤ Q) (hQ : Q ≤ 12) (hV : VF P Q = true) :
    ∃ (C : List Int) (x1 x2 y1 y2 w1 w2 : Int), C.length = a.length ∧ BlendR a b P Q = (C, 0) ∧ FarR a b = ((x1, x2), 0) ∧ VF x1 x2 = true ∧ FarR a C = ((y1, y2), 0) ∧ VF y1 y2 = true ∧
      MakeF (x1 * P) (den x2 * den Q) = ((w1, w2), 0) ∧ VF w1 w2 = true ∧ y1 * den w2 = w1 * den y2 := by
  obtain ⟨ra, sa⟩ := right_small h1 (by omega) ha (by omega) ga
  obtain ⟨rb, sb⟩ := right_small (by omega) (by omega) hb (by omega) gb
  have ua := (sum_le ha).2
  have ub := (sum_le hb).2
  have ua : a.sum ≤ 60 := by omega
  have ub : b.sum ≤ 60 := by omega
  have hm : max Q 1 = Q := by omega
  have hlen := @bl_len a b P Q hl
  have hbl := bl_range hl ra rb hP hPQ (by omega)
  have hss : (bl a b P Q).sum = Q * a.sum * b.sum := by
    unfold bl
    rw [sum_bl _ _ _ _ a b hl, sa, sb]
    simp only [Int.sub_mul]
    have : P * b.sum * a.sum = P * a.sum * b.sum := by ac_rfl
    omega
  have hab : 1 ≤ a.sum * b.sum := Int.mul_pos (by omega) (by omega)
  have hab2 : a.sum * b.sum ≤ 60 * 60 := Int.mul_le_mul ua ub (by omega) (by omega)
  have hq1 : 1 ≤ Q * (a.sum * b.sum) := Int.mul_pos (by omega) (by omega)
  have hq2 : Q * (a.sum * b.sum) ≤ 12 * 3600 := Int.mul_le_mul hQ (by omega) (by omega) (by omega)
  rw [Int.mul_assoc] at hss
  obtain ⟨g, hg, hG⟩ := lowest_spec (fun z hz => (hbl z hz).1) (show 1 ≤ (bl a b P Q).sum by omega)
  have hC0 := lowest_range hbl
  have hCl : (Lowest (bl a b P Q)).length = a.length := by simp [Lowest, hlen]
  generalize hCe : Lowest (bl a b P Q) = C at *
  have hgs : g * C.sum = (bl a b P Q).sum := by rw [← sum_map_mul, hG]
  have hC1 : 1 ≤ C.sum := by
    rcases (by omega : 0 < C.sum ∨ C.sum ≤ 0) with h | h
    · omega
    · have : g * C.sum ≤ 0 := Int.mul_nonpos_of_nonneg_of_nonpos (by omega) h
      omega
  have hC2 : C.sum ≤ 43200 := by
    have : 1 * C.sum ≤ g * C.sum := Int.mul_le_mul_of_nonneg_right hg (by omega)
    omega
  have hCx : ∀ x ∈ C, 0 ≤ x ∧ x ≤ 1048576 := fun x hx => by
    have h2 := (hC0 x hx).1
    refine ⟨h2, ?_⟩
    have := mem_le_sum (fun z hz => (hC0 z hz).1) hx
    omega
  obtain ⟨rc, sc⟩ := right_small (xs := C) (by omega) (by omega) hCx (by omega) hC1
  have hB : BlendR a b P Q = (C, 0) := by
    unfold BlendR
    have hW : Within C 1048576 = true := by
      simp only [Right, Bool.and_eq_true] at rc
      exact rc.1
    rw [if_neg (by omega), if_neg (by simp [ra, rb, hV]; omega), hm, hCe, if_pos hW]
  have hA : farA a b = 2 * (a.sum * b.sum) := by unfold farA; rw [sa, sb, Int.mul_assoc]
  have hD : 0 ≤ farD a b ∧ farD a b ≤ 60 * 60 * 12 := by
    have h2 : ∀ z ∈ farL a b, 0 ≤ z ∧ z ≤ 720 := by
      intro z hz
      obtain ⟨j, hj, rfl⟩ := List.mem_iff_getElem.1 hz
      rw [farL_len hl] at hj
      rw [farL_get hl hj, sa, sb]
      have c1 := rangeN ha hj
      have c2 := rangeN hb (show j < b.length by omega)
      have e1 : 0 ≤ a[j] * b.sum := Int.mul_nonneg c1.1 (by omega)
      have e2 : a[j] * b.sum ≤ 12 * 60 := Int.mul_le_mul c1.2 ub (by omega) (by omega)
      have e3 : 0 ≤ b[j] * a.sum := Int.mul_nonneg c2.1 (by omega)
      have e4 : b[j] * a.sum ≤ 12 * 60 := Int.mul_le_mul c2.2 ua (by omega) (by omega)
      omega
    have h3 := sum_le h2
    rw [farL_len hl] at h3
    unfold farD
    omega
  obtain ⟨x1, x2, hF, fe, f1, f2, f3, f4, f5⟩ := far_small hl ra rb (by omega) (by omega)
  -- the way to the blend
  have key : g * farD a C = a.sum * P * farD a b := by
    have hz : bl a b P Q = List.zipWith (fun x y => (Q - P) * x * b.sum + P * y * a.sum) a b := by unfold bl; rw [sa, sb]
    have h2 := far_bl (s := a.sum) (t := b.sum) (p := P) (q := Q) (by omega) (by omega) hP (Q * a.sum * b.sum) rfl a b (bl a b P Q) hl hz
    have h3 : farD a b = (List.zipWith (fun x y => ((x * b.sum - y * a.sum).natAbs : Int)) a b).sum := by unfold farD farL; rw [sa, sb]
    rw [h3, ← h2]
    have h4 : farD a C = ((List.zipWith (fun x c => x * C.sum - c * a.sum) a C).map fun z => (z.natAbs : Int)).sum := by
      unfold farD farL; rw [sa, sc, List.map_zipWith]
    rw [h4, ← sum_natAbs_mul g (by omega), ← hG, List.map_zipWith, List.map_zipWith, List.zipWith_map_right]
    congr 1
    congr 1
    funext x c
    have : g * (x * C.sum - c * a.sum) = x * (Q * a.sum * b.sum) - g * c * a.sum := by
      rw [Int.mul_sub, Int.mul_assoc Q, ← hss, ← hgs]
      have e1 : g * (x * C.sum) = x * (g * C.sum) := by ac_rfl
      have e2 : g * (c * a.sum) = g * c * a.sum := by ac_rfl
      omega
    rw [this]
  have keyA : g * farA a C = a.sum * Q * farA a b := by
    unfold farA
    rw [sa, sb, sc]
    have e1 : g * (2 * a.sum * C.sum) = 2 * a.sum * (g * C.sum) := by ac_rfl
    rw [e1, hgs, hss]
    ac_rfl
  have hac : a.length = C.length := by omega
  have hA2 : 1 ≤ a.sum * C.sum ∧ a.sum * C.sum ≤ 60 * 43200 := ⟨Int.mul_pos (by omega) (by omega), Int.mul_le_mul ua hC2 (by omega) (by omega)⟩
  have hA3 : farA a C = 2 * (a.sum * C.sum) := by unfold farA; rw [sa, sc, Int.mul_assoc]
  have hD3 : 0 ≤ farD a C := sum_nonneg fun z hz => (farL_range hac ra rc z hz).1
  have hD2 : farD a C ≤ 2147483648 := by
    have e1 : 1 * farD a C ≤ g * farD a C := Int.mul_le_mul_of_nonneg_right hg hD3
    have e2 : a.sum * P ≤ 60 * 12 := Int.mul_le_mul ua (by omega) hP (by omega)
    have e3 : a.sum * P * farD a b ≤ (60 * 12) * (60 * 60 * 12) := Int.mul_le_mul e2 hD.2 hD.1 (by omega)
    omega
  obtain ⟨y1, y2, hF2, ge, g1, g2, g3, g4, g5⟩ := far_small hac ra rc (by omega) hD2
  have hxP : 0 ≤ x1 * P ∧ x1 * P ≤ 43200 * 12 := ⟨Int.mul_nonneg f1 hP, Int.mul_le_mul (by omega) (by omega) hP (by omega)⟩
  have hxQ : 1 ≤ x2 * Q ∧ x2 * Q ≤ 7200 * 12 := ⟨Int.mul_pos (by omega) (by omega), Int.mul_le_mul (by omega) hQ (by omega) (by omega)⟩
  obtain ⟨w1, w2, hM, we, k1, k2, k3, k4, k5⟩ := make_small hxP.1 (by omega) hxQ.1 (by omega)
  refine ⟨C, x1, x2, y1, y2, w1, w2, hCl, hB, hF, f5, hF2, g5, by rw [den_pos f3, den_pos hQ1]; exact hM, k5, ?_⟩
  rw [den_pos k3, den_pos g3]
  -- y1 w2 = w1 y2
  have c1 : y1 * (Q * farA a b) = P * farD a b * y2 := by
    have h2 : (g * farA a C) * y1 = (g * farD a C) * y2 := by
      rw [Int.mul_assoc, Int.mul_assoc, ← ge]; ac_rfl
    rw [keyA, key] at h2
    have h3 : a.sum * (y1 * (Q * farA a b)) = a.sum * (P * farD a b * y2) := by
      have e1 : a.sum * (y1 * (Q * farA a b)) = a.sum * Q * farA a b * y1 := by ac_rfl
      have e2 : a.sum * (P * farD a b * y2) = a.sum * P * farD a b * y2 := by ac_rfl
      rw [e1, e2, h2]
    exact Int.eq_of_mul_eq_mul_left (by omega) h3
  have hpos : 0 < Q * farA a b * x2 := Int.mul_pos (Int.mul_pos (by omega) (by omega)) (by omega)
  refine Int.eq_of_mul_eq_mul_left (a := Q * farA a b * x2) (by omega) ?_
  calc Q * farA a b * x2 * (y1 * w2) = (y1 * (Q * farA a b)) * (x2 * w2) := by ac_rfl
    _ = (P * farD a b * y2) * (x2 * w2) := by rw [c1]
    _ = (farD a b * x2) * (P * y2 * w2) := by ac_rfl
    _ = (x1 * farA a b) * (P * y2 * w2) := by rw [fe]
    _ = (x1 * P * w2) * (farA a b * y2) := by ac_rfl
    _ = (w1 * (x2 * Q)) * (farA a b * y2) := by rw [we]
    _ = Q * farA a b * x2 * (w1 * y2) := by ac_rfl

end Go.Ae.Ln
