/-
  The evaluator over the cut of the learn laws: its program, its hints, its types.
-/
import Derived.Test.YtobammkdioeknaaProg
import Derived.Test.YtobammkdioeknaaAe5
set_option linter.unusedVariables false
set_option linter.unusedSimpArgs false
namespace Go.Ae.Ln
open Go.Proofs

def flats : List Nat := [3, 4, 5, 7, 12, 13, 14, 22, 23, 24, 25, 27, 29, 30, 31, 32, 33, 34, 35, 36, 37, 39, 40, 41, 42, 43, 47]
def wrl : List (Nat × Nat) := [(46, 1), (22, 3), (22, 2), (21, 3), (21, 2)]

def modeL (f : FuncId) : Mode := if f = 26 then .inl else if f = 44 ∨ f = 45 then .ro else if flats.contains f then .snap else .mv

/-- The program with its hints. -/
noncomputable def LE : Env where
  P := Try.prog
  glob := fun _ => none
  mode := modeL
  wr := fun f d => wrl.contains (f, d)
  frz := fun _ _ => []
  ext := fun _ => none

theorem mixed : Try.prog.follows .mixedOrders = true := by kernel_rfl
theorem noNg : (Try.prog.funcs.all fun fn => fn.name != "runtime.NumGoroutine") = true := by kernel_rfl

theorem ok : EnvOk LE where
  mixed := mixed
  ng := fun g fn h => by
    have h1 := Array.all_eq_true.1 noNg
    obtain ⟨hg, rfl⟩ := Array.getElem?_eq_some_iff.1 (show Try.prog.funcs[g]? = some fn from h)
    simpa using h1 g hg
  ext := fun f g h => by cases h

theorem t3 : tinf Try.prog 3 = some ⟨.int .i64, 1, 8, .int .i64 0⟩ := by kernel_rfl
theorem t4 : tinf Try.prog 4 = some ⟨.bool, 1, 1, .bool false⟩ := by kernel_rfl
theorem t22 : tinf Try.prog 22 = some ⟨.slice 3, 1, 24, .nil⟩ := by kernel_rfl
theorem t24 : tinf Try.prog 24 = some ⟨.func #[3, 3] #[3] false, 1, 8, .nf⟩ := by kernel_rfl
theorem t55 : tinf Try.prog 55 = some ⟨.func #[53, 53] #[53] false, 1, 8, .nf⟩ := by kernel_rfl
theorem t26 : tinf Try.prog 26 = some ⟨.slice 22, 1, 24, .nil⟩ := by kernel_rfl
theorem t27 : tinf Try.prog 27 = some ⟨.int .i64, 1, 8, .int .i64 0⟩ := by kernel_rfl
theorem t34 : tinf Try.prog 34 = some ⟨.slice 26, 1, 24, .nil⟩ := by kernel_rfl
theorem t35 : tinf Try.prog 35 = some ⟨.slice 39, 1, 24, .nil⟩ := by kernel_rfl
def fieldsRatio : Array Field := #[⟨ "P", 3, 0, false, "", "", 0⟩, ⟨ "Q", 3, 1, false, "", "", 8⟩]
theorem t39 : tinf Try.prog 39 = some ⟨.struct fieldsRatio, 2, 16, .agg [.int .i64 0, .int .i64 0]⟩ := by kernel_rfl
theorem t53 : tinf Try.prog 53 = some ⟨.int .u64, 1, 8, .int .u64 0⟩ := by kernel_rfl
theorem t60 : tinf Try.prog 60 = some ⟨.func #[3] #[4] false, 1, 8, .nf⟩ := by kernel_rfl

theorem leP : LE.P = Try.prog := rfl
theorem leX (f : FuncId) : LE.ext f = none := rfl
theorem leF (f : FuncId) (k : Nat) : LE.frz f k = [] := rfl

theorem leW (f d : Nat) : LE.wr f d = wrl.contains (f, d) := rfl
theorem leM (f : Nat) : LE.mode f = modeL f := rfl

def Around (n most : Int) : Int := if most < 1 then 0 else (if n < 0 then - (n + 1) else n).tmod most

theorem runs_W {f : FuncId} {fn : Func} {c : Code} {args : List V} {v : V} (hf : Try.prog.funcs[f]? = some fn) (hc : fn.body = some c) {m : Nat} (hm : fn.ntmps = m) (hn : args.length ≤ m)
    (h : W LE f m c (alOf 0 args) [] fun x al' H' => x = .ret ∧ ∃ v0 H'', resultsA LE fn al' H' = some v0 ∧ frzV 12 H' v0 = some (v, H'') ∧ v.pure = true ∧ (v.scalar = true → v0 = v)) : Runs LE f args v := by
  subst hm
  obtain ⟨v0, H', h1, h2⟩ := run_of_W (E := LE) (K := fun _ al H' => ∃ v0 H'', look al 0 = some v0 ∧ frzV 12 H' v0 = some (v, H'') ∧ v.pure = true ∧ (v.scalar = true → v0 = v)) hf hc hn (h.mono fun x al H' hk => by
    obtain ⟨rfl, v0, H'', h1, h2⟩ := hk
    exact ⟨.inl rfl, v0, h1, v0, H'', rfl, h2⟩)
  obtain ⟨v0', H'', h3, h4, h5, h6⟩ := h2
  simp only [look, if_true, Option.some.injEq] at h3
  subst h3
  exact ⟨v0, H', H'', h1, h4, h5, h6⟩

attribute [simp] t24 t55 t3 t4 t22 t26 t27 t34 t35 t39 t53 t60 leP leX leF

theorem fin_pure {fn : Func} {al : AL} {H : Heap} {v v' : V} (h : resultsA LE fn al H = some v') (he : v' = v) (hp : v.pure = true) : X.ret = X.ret ∧ ∃ v0 H'', resultsA LE fn al H = some v0 ∧ frzV 12 H v0 = some (v, H'') ∧ v.pure = true ∧ (v.scalar = true → v0 = v) := by
  subst he
  exact ⟨rfl, v', H, h, by simp only [frzV, hp, if_true], hp, fun _ => rfl⟩

theorem fin_frz {fn : Func} {al : AL} {H H'' : Heap} {v v0 : V} (h : resultsA LE fn al H = some v0) (hf : frzV 12 H v0 = some (v, H'')) (hp : v.pure = true) (hs : v.scalar = false) : X.ret = X.ret ∧ ∃ v0 H'', resultsA LE fn al H = some v0 ∧ frzV 12 H v0 = some (v, H'') ∧ v.pure = true ∧ (v.scalar = true → v0 = v) :=
  ⟨rfl, v0, H'', h, hf, hp, fun h => by rw [hs] at h; cases h⟩

theorem T22 : IntsT Try.prog 22 3 := ⟨t22, t3⟩
theorem lenL {v : V} {xs : List Int} (h : IsInts v xs) : lenV Try.prog 22 v = some xs.length := h.len T22
theorem idxL {v : V} {xs : List Int} (h : IsInts v xs) {i : Nat} (hi : i < xs.length) : indexAddrV Try.prog 22 v (i : Int) = some (.rp [.int .i64 xs[i]]) := h.idx T22 hi

def addW (a x : Int) : Int := IntKind.i64.wrap (a + x)
def sumW (xs : List Int) : Int := xs.foldl addW 0

theorem rangeN {xs : List Int} {P : Int → Prop} (h : ∀ x ∈ xs, P x) {i : Nat} (hi : i < xs.length) : P xs[i] := h _ (List.getElem_mem hi)

abbrev I64 (x : Int) : Prop := -9223372036854775808 ≤ x ∧ x ≤ 9223372036854775807

theorem pureL_cons {v : V} {r : List V} (h1 : v.pure = true) (h2 : V.pureL r = true) : V.pureL (v :: r) = true := by simp only [V.pureL, h1, h2, Bool.and_self]

def Inside (xs : List Int) (most : Int) : Bool := xs.all fun x => decide (0 ≤ x ∧ x ≤ most)
def Within (xs : List Int) (most : Int) : Bool := Inside xs most && decide (1 ≤ xs.length ∧ xs.length ≤ 12)
def Right (xs : List Int) : Bool := Within xs 1048576 && decide (0 < sumW xs)

theorem inside_step {xs : List Int} {most : Int} {i : Nat} (h : i < xs.length) : Inside (xs.drop i) most = (decide (0 ≤ xs[i] ∧ xs[i] ≤ most) && Inside (xs.drop (i + 1)) most) := by
  rw [List.drop_eq_getElem_cons h]; rfl

theorem inside_end {xs : List Int} {most : Int} {i : Nat} (h : xs.length ≤ i) : Inside (xs.drop i) most = true := by
  rw [List.drop_eq_nil_of_le h]; rfl

end Go.Ae.Ln

namespace Go.Ae.Ln
open Go.Proofs

/-- diorama/dioramaref01.Around -/
theorem f7_runs {a b : Int} (ha : I64 a) : Runs LE 7 [.int .i64 a, .int .i64 b] (.int .i64 (Around a b)) := by
  obtain ⟨ha1, ha2⟩ := ha
  refine runs_W (m := 15) Try.func7 rfl rfl (Nat.le_of_ble_eq_true rfl) ?_
  simp only [alOf]
  apply w_seq
  apply w_reg [0, 1] rfl; intro Q hQ
  simp (disch := omega) [wrap64, wrapU]
  apply after_some rfl; apply hQ; clear hQ Q
  apply w_seq
  apply w_seq
  apply w_reg [0, 1, 6] rfl; intro Q hQ
  simp (disch := omega) [wrap64, wrapU]
  apply after_some rfl; apply hQ; clear hQ Q
  apply w_cond _ rfl <;> intro hc
  · first
    | (simp at hc; done)
    | try simp at hc
      apply w_reg [0, 1] rfl; intro Q hQ
      simp (disch := omega) [wrap64, wrapU]
      apply after_some rfl; apply hQ; clear hQ Q
      apply w_seq
      apply w_seq
      apply w_reg [0, 1, 11] rfl; intro Q hQ
      simp (disch := omega) [wrap64, wrapU]
      apply after_some rfl; apply hQ; clear hQ Q
      apply w_cond _ rfl <;> intro hc
      · first
        | (simp at hc; done)
        | try simp at hc
          apply w_seq
          apply w_reg [4] rfl; intro Q hQ
          simp (disch := omega) [wrap64, wrapU]
          apply after_some rfl; apply hQ; clear hQ Q
          apply w_ret
          repeat (first | with_reducible apply kseq_ret | with_reducible apply kloop_ret | with_reducible apply kblock_ret)
          apply fin_pure rfl
          · congr 1; simp only [Around]; (repeat' split) <;> first | rfl | omega | (simp [Int.neg_tmod]; done)
          · rfl
      · first
        | (simp at hc; done)
        | try simp at hc
          apply w_skip
          apply w_seq
          apply w_reg [4] rfl; intro Q hQ
          simp (disch := omega) [wrap64, wrapU]
          apply after_some rfl; apply hQ; clear hQ Q
          apply w_ret
          repeat (first | with_reducible apply kseq_ret | with_reducible apply kloop_ret | with_reducible apply kblock_ret)
          apply fin_pure rfl
          · congr 1; simp only [Around]; (repeat' split) <;> first | rfl | omega | (simp [Int.neg_tmod]; done)
          · rfl
  · first
    | (simp at hc; done)
    | try simp at hc
      apply w_skip
      apply w_seq
      apply w_seq
      apply w_reg [0, 1, 11] rfl; intro Q hQ
      simp (disch := omega) [wrap64, wrapU]
      apply after_some rfl; apply hQ; clear hQ Q
      apply w_cond _ rfl <;> intro hc
      · first
        | (simp at hc; done)
        | try simp at hc
          apply w_seq
          apply w_reg [4] rfl; intro Q hQ
          simp (disch := omega) [wrap64, wrapU]
          apply after_some rfl; apply hQ; clear hQ Q
          apply w_ret
          repeat (first | with_reducible apply kseq_ret | with_reducible apply kloop_ret | with_reducible apply kblock_ret)
          apply fin_pure rfl
          · congr 1; simp only [Around]; (repeat' split) <;> first | rfl | omega | (simp [Int.neg_tmod]; done)
          · rfl
      · first
        | (simp at hc; done)
        | try simp at hc
          apply w_skip
          apply w_seq
          apply w_reg [4] rfl; intro Q hQ
          simp (disch := omega) [wrap64, wrapU]
          apply after_some rfl; apply hQ; clear hQ Q
          apply w_ret
          repeat (first | with_reducible apply kseq_ret | with_reducible apply kloop_ret | with_reducible apply kblock_ret)
          apply fin_pure rfl
          · congr 1; simp only [Around]; (repeat' split) <;> first | rfl | omega | (simp [Int.neg_tmod]; done)
          · rfl

theorem c7 {a b : Int} {H : Heap} (h1 : -9223372036854775808 ≤ a) (h2 : a ≤ 9223372036854775807) : call LE 7 [.int .i64 a, .int .i64 b] H = some (.int .i64 (Around a b), H) :=
  call_pure rfl (.inl rfl) rfl (f7_runs ⟨h1, h2⟩) H

/-- diorama/dioramaref01.At -/
theorem f23_runs {v : V} {xs : List Int} (hv : IsInts v xs) (hl : xs.length < 4611686018427387904) (hx : ∀ x ∈ xs, I64 x) (i : Nat) (most : Int) : Runs LE 23 [v, .int .i64 (i : Int), .int .i64 most] (.int .i64 (Around (xs.getD i 0) most)) := by
  have h1 := lenL hv
  have h2 := @idxL v xs hv
  have hc7 : i < xs.length → ∀ (b : Int) (H : Heap), call LE 7 [.int .i64 (xs.getD i 0), .int .i64 b] H = some (.int .i64 (Around (xs.getD i 0) b), H) := fun h b H => by
    rw [List.getD_eq_getElem?_getD, List.getElem?_eq_getElem h]
    exact c7 (rangeN hx h).1 (rangeN hx h).2
  have h3 : i < xs.length → indexAddrV Try.prog 22 v (i : Int) = some (.rp [.int .i64 (xs.getD i 0)]) := fun h => by
    rw [List.getD_eq_getElem?_getD, List.getElem?_eq_getElem h]
    exact h2 h
  clear h2
  generalize hz : xs.getD i 0 = z at hc7 h3 ⊢
  refine runs_W (m := 21) Try.func23 rfl rfl (Nat.le_of_ble_eq_true rfl) ?_
  simp only [alOf]
  apply w_seq
  apply w_reg [0, 1, 2] rfl; intro Q hQ
  simp (disch := omega) [wrap64, wrapU, h1, h3, hc7]
  apply after_some rfl; apply hQ; clear hQ Q
  apply w_seq
  apply w_seq
  apply w_reg [0, 1, 2, 14] rfl; intro Q hQ
  simp (disch := omega) [wrap64, wrapU, h1, h3, hc7]
  repeat' ((first | with_reducible apply after_guard | with_reducible apply after_guardD) <;> (intro hg; have hg' := hg; try simp at hg') <;> simp (disch := omega) [wrap64, wrapU, h1, h3, hc7, *])
  all_goals (apply after_some rfl; apply hQ; clear hQ Q)
  all_goals
    skip
    apply w_cond _ rfl <;> intro hc
    · first
      | (simp at hc; done)
      | try simp at hc
        apply w_seq
        apply w_reg [6] rfl; intro Q hQ
        simp (disch := omega) [wrap64, wrapU, h1, h3, hc7]
        apply after_some rfl; apply hQ; clear hQ Q
        apply w_ret
        repeat (first | with_reducible apply kseq_ret | with_reducible apply kloop_ret | with_reducible apply kblock_ret)
        apply fin_pure rfl
        · first | rfl | (exfalso; omega) | (congr 1; have : z = 0 := by { rw [← hz, List.getD_eq_getElem?_getD, List.getElem?_eq_none (by omega)]; rfl }; subst this; simp [Around])
        · rfl
    · first
      | (simp at hc; done)
      | try simp at hc
        apply w_skip
        apply w_seq
        apply w_reg [6] rfl; intro Q hQ
        simp (disch := omega) [wrap64, wrapU, h1, h3, hc7]
        apply after_some rfl; apply hQ; clear hQ Q
        apply w_ret
        repeat (first | with_reducible apply kseq_ret | with_reducible apply kloop_ret | with_reducible apply kblock_ret)
        apply fin_pure rfl
        · first | rfl | (exfalso; omega) | (congr 1; have : z = 0 := by { rw [← hz, List.getD_eq_getElem?_getD, List.getElem?_eq_none (by omega)]; rfl }; subst this; simp [Around])
        · rfl

/-- diorama/dioramaref27.Sum -/
theorem f24_runs {v : V} {xs : List Int} (hv : IsInts v xs) (hl : xs.length < 4611686018427387904) : Runs LE 24 [v] (.int .i64 (sumW xs)) := by
  have h1 := lenL hv
  have h2 := @idxL v xs hv
  refine runs_W (m := 18) Try.func24 rfl rfl (Nat.le_of_ble_eq_true rfl) ?_
  simp only [alOf]
  apply w_seq
  apply w_reg [0] rfl; intro Q hQ
  simp (disch := omega) [wrap64, wrapU, h1, h2]
  apply after_some rfl; apply hQ; clear hQ Q
  apply w_seq
  apply w_reg [0, 3] rfl; intro Q hQ
  simp (disch := omega) [wrap64, wrapU, h1, h2]
  apply after_some rfl; apply hQ; clear hQ Q
  apply w_seq
  apply w_seq
  apply w_reg [0, 3, 4] rfl; intro Q hQ
  simp (disch := omega) [wrap64, wrapU, h1, h2]
  apply after_some rfl; apply hQ; clear hQ Q
  apply w_block
  -- LOOP live [0, 3, 4]
  refine w_loop (fun m al H => ∃ (i : Nat) (acc : Int), m = xs.length - i ∧ i ≤ xs.length ∧ (xs.drop i).foldl addW acc = sumW xs ∧ al = [(0, v), (3, .int .i64 acc), (4, .int .i64 (i : Int))] ∧ H = []) (xs.length) ?_ ?_
  · exact ⟨0, 0, by simp, by omega, rfl, rfl, rfl⟩
  rintro m al H ⟨i, acc, hm, hi, hs, rfl, rfl⟩
  apply w_seq
  apply w_seq
  apply w_reg [0, 3, 4, 8] rfl; intro Q hQ
  simp (disch := omega) [wrap64, wrapU, h1, h2]
  apply after_some rfl; apply hQ; clear hQ Q
  apply w_cond _ rfl <;> intro hc
  · first
    | (simp at hc; done)
    | try simp at hc
      apply w_skip
      apply w_seq
      apply w_block
      apply w_reg [0, 3, 4] rfl; intro Q hQ
      simp (disch := omega) [wrap64, wrapU, h1, h2]
      apply after_some rfl; apply hQ; clear hQ Q
      apply w_reg [0, 3, 4] rfl; intro Q hQ
      simp (disch := omega) [wrap64, wrapU, h1, h2]
      apply after_some rfl; apply hQ; clear hQ Q
      repeat (with_reducible apply kblock_nrm)
      refine kloop_back (xs.length - (i + 1)) (by omega) ⟨i + 1, _, rfl, by omega, ?_, rfl, rfl⟩
      rw [← hs, List.drop_eq_getElem_cons hc]
      rfl
  · first
    | (simp at hc; done)
    | try simp at hc
      apply w_exit
      repeat (first | with_reducible apply kseq_exit | with_reducible apply kloop_exit | with_reducible apply kblock_exit | with_reducible apply kblock_pass (by decide))
      apply w_seq
      apply w_reg [2] rfl; intro Q hQ
      simp (disch := omega) [wrap64, wrapU, h1, h2]
      apply after_some rfl; apply hQ; clear hQ Q
      apply w_ret
      repeat (first | with_reducible apply kseq_ret | with_reducible apply kloop_ret | with_reducible apply kblock_ret)
      apply fin_pure rfl
      · have : i = xs.length := by omega
        subst this
        simpa using hs
      · rfl

theorem c24 {v : V} {xs : List Int} (hv : IsInts v xs) (hl : xs.length < 4611686018427387904) (H : Heap) : call LE 24 [v] H = some (.int .i64 (sumW xs), H) :=
  call_pure rfl (.inl rfl) (pureL_cons hv.pure rfl) (f24_runs hv hl) H

/-- diorama/learn.sum -/
theorem f27_runs {v : V} {xs : List Int} (hv : IsInts v xs) (hl : xs.length < 4611686018427387904) : Runs LE 27 [v] (.int .i64 (sumW xs)) := by
  have h1 := lenL hv
  have h2 := @idxL v xs hv
  refine runs_W (m := 17) Try.func27 rfl rfl (Nat.le_of_ble_eq_true rfl) ?_
  simp only [alOf]
  apply w_seq
  apply w_reg [0] rfl; intro Q hQ
  simp (disch := omega) [wrap64, wrapU, h1, h2]
  apply after_some rfl; apply hQ; clear hQ Q
  apply w_seq
  apply w_reg [0, 3] rfl; intro Q hQ
  simp (disch := omega) [wrap64, wrapU, h1, h2]
  apply after_some rfl; apply hQ; clear hQ Q
  apply w_seq
  apply w_seq
  apply w_reg [3, 6, 7, 8] rfl; intro Q hQ
  simp (disch := omega) [wrap64, wrapU, h1, h2]
  apply after_some rfl; apply hQ; clear hQ Q
  apply w_block
  -- LOOP live [3, 6, 7, 8]
  refine w_loop (fun m al H => ∃ (i : Nat) (acc : Int), m = xs.length - i ∧ i ≤ xs.length ∧ (xs.drop i).foldl addW acc = sumW xs ∧ al = [(3, .int .i64 acc), (6, v), (7, .int .i64 (xs.length : Int)), (8, .int .i64 (i : Int))] ∧ H = []) (xs.length) ?_ ?_
  · exact ⟨0, 0, by simp, by omega, rfl, rfl, rfl⟩
  rintro m al H ⟨i, acc, hm, hi, hs, rfl, rfl⟩
  apply w_seq
  apply w_reg [3, 6, 7, 8, 9] rfl; intro Q hQ
  simp (disch := omega) [wrap64, wrapU, h1, h2]
  apply after_some rfl; apply hQ; clear hQ Q
  apply w_seq
  apply w_cond _ rfl <;> intro hc
  · first
    | (simp at hc; done)
    | try simp at hc
      apply w_skip
      apply w_seq
      apply w_block
      apply w_seq
      apply w_reg [3, 5, 6, 7, 8] rfl; intro Q hQ
      simp (disch := omega) [wrap64, wrapU, h1, h2]
      apply after_some rfl; apply hQ; clear hQ Q
      apply w_reg [3, 6, 7, 8] rfl; intro Q hQ
      simp (disch := omega) [wrap64, wrapU, h1, h2]
      apply after_some rfl; apply hQ; clear hQ Q
      apply w_reg [3, 6, 7, 8] rfl; intro Q hQ
      simp (disch := omega) [wrap64, wrapU, h1, h2]
      apply after_some rfl; apply hQ; clear hQ Q
      repeat (with_reducible apply kblock_nrm)
      refine kloop_back (xs.length - (i + 1)) (by omega) ⟨i + 1, _, rfl, by omega, ?_, rfl, rfl⟩
      rw [← hs, List.drop_eq_getElem_cons hc]
      rfl
  · first
    | (simp at hc; done)
    | try simp at hc
      apply w_exit
      repeat (first | with_reducible apply kseq_exit | with_reducible apply kloop_exit | with_reducible apply kblock_exit | with_reducible apply kblock_pass (by decide))
      apply w_seq
      apply w_reg [2] rfl; intro Q hQ
      simp (disch := omega) [wrap64, wrapU, h1, h2]
      apply after_some rfl; apply hQ; clear hQ Q
      apply w_ret
      repeat (first | with_reducible apply kseq_ret | with_reducible apply kloop_ret | with_reducible apply kblock_ret)
      apply fin_pure rfl
      · have : i = xs.length := by omega
        subst this
        simpa using hs
      · rfl

/-- diorama/dioramaref27.Within -/
theorem f29_runs {v : V} {xs : List Int} (hv : IsInts v xs) (hl : xs.length < 4611686018427387904) (most : Int) : Runs LE 29 [v, .int .i64 most] (.bool (Within xs most)) := by
  have h1 := lenL hv
  have h2 := @idxL v xs hv
  refine runs_W (m := 33) Try.func29 rfl rfl (Nat.le_of_ble_eq_true rfl) ?_
  simp only [alOf]
  apply w_seq
  apply w_reg [0, 1] rfl; intro Q hQ
  simp (disch := omega) [wrap64, wrapU, h1, h2]
  apply after_some rfl; apply hQ; clear hQ Q
  apply w_seq
  apply w_seq
  apply w_reg [0, 1, 5] rfl; intro Q hQ
  simp (disch := omega) [wrap64, wrapU, h1, h2]
  apply after_some rfl; apply hQ; clear hQ Q
  apply w_block
  -- LOOP live [0, 1, 5]
  refine w_loop (fun m al H => ∃ (i : Nat), m = xs.length - i ∧ i ≤ xs.length ∧ Inside (xs.drop i) most = Inside xs most ∧ al = [(0, v), (1, .int .i64 most), (5, .int .i64 (i : Int))] ∧ H = []) (xs.length) ?_ ?_
  · exact ⟨0, by simp, by omega, rfl, rfl, rfl⟩
  rintro m al H ⟨i, hm, hi, hs, rfl, rfl⟩
  apply w_seq
  apply w_seq
  apply w_reg [0, 1, 5, 9] rfl; intro Q hQ
  simp (disch := omega) [wrap64, wrapU, h1, h2]
  apply after_some rfl; apply hQ; clear hQ Q
  apply w_cond _ rfl <;> intro hc
  · first
    | (simp at hc; done)
    | try simp at hc
      apply w_skip
      apply w_seq
      apply w_block
      apply w_seq
      apply w_reg [0, 1, 5, 24] rfl; intro Q hQ
      simp (disch := omega) [wrap64, wrapU, h1, h2]
      repeat' ((first | with_reducible apply after_guard | with_reducible apply after_guardD) <;> (intro hg; have hg' := hg; try simp at hg') <;> simp (disch := omega) [wrap64, wrapU, h1, h2, *])
      all_goals (apply after_some rfl; apply hQ; clear hQ Q)
      all_goals
        skip
        apply w_cond _ rfl <;> intro hc
        · first
          | (simp at hc; done)
          | try simp at hc
            apply w_seq
            apply w_reg [4] rfl; intro Q hQ
            simp (disch := omega) [wrap64, wrapU, h1, h2]
            apply after_some rfl; apply hQ; clear hQ Q
            apply w_ret
            repeat (first | with_reducible apply kseq_ret | with_reducible apply kloop_ret | with_reducible apply kblock_ret)
            apply fin_pure rfl
            · have hz : Inside xs most = false := by { rw [← hs, inside_step (i := i) (by assumption)]; simp; intro; omega }
              congr 1
              simp [Within, hz]
            · rfl
        · first
          | (simp at hc; done)
          | try simp at hc
            apply w_skip
            apply w_reg [0, 1, 5] rfl; intro Q hQ
            simp (disch := omega) [wrap64, wrapU, h1, h2]
            apply after_some rfl; apply hQ; clear hQ Q
            repeat (with_reducible apply kblock_nrm)
            refine kloop_back (xs.length - (i + 1)) (by omega) ⟨i + 1, rfl, by omega, ?_, rfl, rfl⟩
            rw [← hs, inside_step (i := i) (by assumption)]
            simp only [Bool.eq_and_self, decide_eq_true_eq]
            intro _
            exact ⟨by assumption, by assumption⟩
  · first
    | (simp at hc; done)
    | try simp at hc
      apply w_exit
      repeat (first | with_reducible apply kseq_exit | with_reducible apply kloop_exit | with_reducible apply kblock_exit | with_reducible apply kblock_pass (by decide))
      apply w_seq
      apply w_reg [4] rfl; intro Q hQ
      simp (disch := omega) [wrap64, wrapU, h1, h2]
      repeat' ((first | with_reducible apply after_guard | with_reducible apply after_guardD) <;> (intro hg; have hg' := hg; try simp at hg') <;> simp (disch := omega) [wrap64, wrapU, h1, h2, *])
      all_goals (apply after_some rfl; apply hQ; clear hQ Q)
      all_goals
        skip
        apply w_ret
        repeat (first | with_reducible apply kseq_ret | with_reducible apply kloop_ret | with_reducible apply kblock_ret)
        apply fin_pure rfl
        · have hz : Inside xs most = true := by rw [← hs, inside_end (by assumption)]
          congr 1
          rw [Bool.eq_iff_iff]
          simp [Within, hz]
          omega
        · rfl

theorem c29 {v : V} {xs : List Int} (hv : IsInts v xs) (hl : xs.length < 4611686018427387904) (most : Int) (H : Heap) : call LE 29 [v, .int .i64 most] H = some (.bool (Within xs most), H) :=
  call_pure rfl (.inl rfl) (pureL_cons hv.pure rfl) (f29_runs hv hl most) H

/-- diorama/dioramaref27.Gcd -/
theorem f34_runs (a b : Nat) (ha : a < 9223372036854775808) (hb : b < 9223372036854775808) : Runs LE 34 [.int .i64 (a : Int), .int .i64 (b : Int)] (.int .i64 (Nat.gcd a b : Int)) := by
  refine runs_W (m := 14) Try.func34 rfl rfl (Nat.le_of_ble_eq_true rfl) ?_
  simp only [alOf]
  apply w_seq
  apply w_reg [0, 1] rfl; intro Q hQ
  simp (disch := omega) [wrap64, wrapU]
  apply after_some rfl; apply hQ; clear hQ Q
  apply w_seq
  apply w_block
  -- LOOP live [0, 1]
  refine w_loop (fun m al H => ∃ (x y : Nat), m = y ∧ x < 9223372036854775808 ∧ y < 9223372036854775808 ∧ Nat.gcd x y = Nat.gcd a b ∧ al = [(0, .int .i64 (x : Int)), (1, .int .i64 (y : Int))] ∧ H = []) (b) ?_ ?_
  · exact ⟨a, b, rfl, ha, hb, rfl, rfl, rfl⟩
  rintro m al H ⟨x, y, hm, hx, hy, hs, rfl, rfl⟩
  apply w_seq
  apply w_seq
  apply w_reg [0, 1, 7] rfl; intro Q hQ
  simp (disch := omega) [wrap64, wrapU]
  apply after_some rfl; apply hQ; clear hQ Q
  apply w_cond _ rfl <;> intro hc
  · first
    | (simp at hc; done)
    | try simp at hc
      apply w_skip
      apply w_block
      apply w_seq
      apply w_reg [1, 5] rfl; intro Q hQ
      simp (disch := omega) [wrap64, wrapU]
      apply after_some rfl; apply hQ; clear hQ Q
      apply w_seq
      apply w_reg [0, 5] rfl; intro Q hQ
      simp (disch := omega) [wrap64, wrapU]
      apply after_some rfl; apply hQ; clear hQ Q
      apply w_reg [0, 1] rfl; intro Q hQ
      simp (disch := omega) [wrap64, wrapU]
      apply after_some rfl; apply hQ; clear hQ Q
      repeat (with_reducible apply kblock_nrm)
      refine kloop_back (x % y) (by rw [hm]; exact Nat.mod_lt _ (by omega)) ⟨y, x % y, rfl, hy, Nat.lt_trans (Nat.mod_lt _ (by omega)) hy, ?_, by rw [Int.tmod_eq_emod_of_nonneg (Int.natCast_nonneg x)]; rfl, rfl⟩
      rw [← hs, Nat.gcd_comm y, ← Nat.gcd_rec, Nat.gcd_comm]
  · first
    | (simp at hc; done)
    | try simp at hc
      apply w_exit
      repeat (first | with_reducible apply kseq_exit | with_reducible apply kloop_exit | with_reducible apply kblock_exit | with_reducible apply kblock_pass (by decide))
      apply w_seq
      apply w_reg [4] rfl; intro Q hQ
      simp (disch := omega) [wrap64, wrapU]
      apply after_some rfl; apply hQ; clear hQ Q
      apply w_ret
      repeat (first | with_reducible apply kseq_ret | with_reducible apply kloop_ret | with_reducible apply kblock_ret)
      apply fin_pure rfl
      · simp_all
      · rfl

end Go.Ae.Ln

namespace Go.Ae.Ln
open Go.Proofs

/-- The first number out of range, from place i on. -/
def firstBad (most : Int) : List Int → Nat → Int
  | [], _ => -1
  | x :: r, i => if x < 0 ∨ x > most then (i : Int) else firstBad most r (i + 1)

theorem firstBad_inside (most : Int) : ∀ (xs : List Int) (i : Nat), decide (firstBad most xs i ≥ 0) = !Inside xs most
  | [], i => by simp [firstBad, Inside]
  | x :: r, i => by
    have ih := firstBad_inside most r (i + 1)
    simp only [firstBad]
    split
    · rename_i h
      have : Inside (x :: r) most = false := by
        simp only [Inside, List.all_cons, Bool.and_eq_false_imp, decide_eq_true_eq]
        omega
      rw [this]; simp
    · rename_i h
      rw [ih]
      have : Inside (x :: r) most = Inside r most := by
        simp only [Inside, List.all_cons]
        have : decide (0 ≤ x ∧ x ≤ most) = true := by simp; omega
        rw [this, Bool.true_and]
      rw [this]

/-- diorama/learn.within$1 -/
theorem f40_runs (x most : Int) : Runs LE 40 [.int .i64 x, .rp [.int .i64 most]] (.bool (decide (x < 0 ∨ x > most))) := by
  refine runs_W (m := 11) Try.func40 rfl rfl (Nat.le_of_ble_eq_true rfl) ?_
  simp only [alOf]
  apply w_seq
  apply w_reg [0, 1] rfl; intro Q hQ
  simp (disch := omega) [wrap64, wrapU]
  apply after_some rfl; apply hQ; clear hQ Q
  apply w_seq
  apply w_reg [3] rfl; intro Q hQ
  simp (disch := omega) [wrap64, wrapU]
  repeat' ((first | with_reducible apply after_guard | with_reducible apply after_guardD) <;> (intro hg; have hg' := hg; try simp at hg') <;> simp (disch := omega) [wrap64, wrapU, *])
  all_goals (apply after_some rfl; apply hQ; clear hQ Q)
  all_goals
    skip
    apply w_ret
    repeat (first | with_reducible apply kseq_ret | with_reducible apply kloop_ret | with_reducible apply kblock_ret)
    apply fin_pure rfl
    · first | (simp_all; done) | (congr 1; rw [Bool.eq_iff_iff]; simp_all; first | omega | (intros; omega))
    · rfl

theorem c40 (x most : Int) (H : Heap) : call LE 40 [.int .i64 x, .rp [.int .i64 most]] H = some (.bool (decide (x < 0 ∨ x > most)), H) :=
  call_pure rfl (.inl rfl) rfl (f40_runs x most) H

/-- slices.IndexFunc[[]int,int] -/
theorem f47_runs {v : V} {xs : List Int} (hv : IsInts v xs) (hl : xs.length < 4611686018427387904) (most : Int) : Runs LE 47 [v, .fn 40 [] [.rp [.int .i64 most]]] (.int .i64 (firstBad most xs 0)) := by
  have h1 := lenL hv
  have h2 := @idxL v xs hv
  have h3 := c40
  refine runs_W (m := 19) Try.func47 rfl rfl (Nat.le_of_ble_eq_true rfl) ?_
  simp only [alOf]
  apply w_seq
  apply w_reg [0, 1] rfl; intro Q hQ
  simp (disch := omega) [wrap64, wrapU, h1, h2, h3]
  apply after_some rfl; apply hQ; clear hQ Q
  apply w_seq
  apply w_seq
  apply w_reg [0, 1, 7, 8] rfl; intro Q hQ
  simp (disch := omega) [wrap64, wrapU, h1, h2, h3]
  apply after_some rfl; apply hQ; clear hQ Q
  apply w_block
  -- LOOP live [0, 1, 7, 8]
  refine w_loop (fun m al H => ∃ (i : Nat), m = xs.length - i ∧ i ≤ xs.length ∧ firstBad most (xs.drop i) i = firstBad most xs 0 ∧ al = [(0, v), (1, .fn 40 [] [.rp [.int .i64 most]]), (7, .int .i64 (xs.length : Int)), (8, .int .i64 (i : Int))] ∧ H = []) (xs.length) ?_ ?_
  · exact ⟨0, by simp, by omega, rfl, rfl, rfl⟩
  rintro m al H ⟨i, hm, hi, hs, rfl, rfl⟩
  apply w_seq
  apply w_reg [0, 1, 7, 8, 9] rfl; intro Q hQ
  simp (disch := omega) [wrap64, wrapU, h1, h2, h3]
  apply after_some rfl; apply hQ; clear hQ Q
  apply w_seq
  apply w_cond _ rfl <;> intro hc
  · first
    | (simp at hc; done)
    | try simp at hc
      apply w_skip
      apply w_seq
      apply w_block
      apply w_seq
      apply w_reg [0, 1, 5, 7, 8] rfl; intro Q hQ
      simp (disch := omega) [wrap64, wrapU, h1, h2, h3]
      apply after_some rfl; apply hQ; clear hQ Q
      apply w_seq
      apply w_reg [0, 1, 5, 7, 8, 16] rfl; intro Q hQ
      simp (disch := omega) [wrap64, wrapU, h1, h2, h3]
      apply after_some rfl; apply hQ; clear hQ Q
      apply w_cond _ rfl <;> intro hc
      · first
        | (simp at hc; done)
        | try simp at hc
          apply w_seq
          apply w_reg [4] rfl; intro Q hQ
          simp (disch := omega) [wrap64, wrapU, h1, h2, h3]
          apply after_some rfl; apply hQ; clear hQ Q
          apply w_ret
          repeat (first | with_reducible apply kseq_ret | with_reducible apply kloop_ret | with_reducible apply kblock_ret)
          apply fin_pure rfl
          · congr 1; rw [← hs, List.drop_eq_getElem_cons (i := i) (by assumption)]; simp_all [firstBad]
          · rfl
      · first
        | (simp at hc; done)
        | try simp at hc
          apply w_skip
          apply w_reg [0, 1, 7, 8] rfl; intro Q hQ
          simp (disch := omega) [wrap64, wrapU, h1, h2, h3]
          apply after_some rfl; apply hQ; clear hQ Q
          repeat (with_reducible apply kblock_nrm)
          refine kloop_back (xs.length - (i + 1)) (by omega) ⟨i + 1, rfl, by omega, ?_, rfl, rfl⟩
          rw [← hs, List.drop_eq_getElem_cons (i := i) (by assumption)]
          simp only [firstBad]
          rw [if_neg (by omega)]
  · first
    | (simp at hc; done)
    | try simp at hc
      apply w_exit
      repeat (first | with_reducible apply kseq_exit | with_reducible apply kloop_exit | with_reducible apply kblock_exit | with_reducible apply kblock_pass (by decide))
      apply w_seq
      apply w_reg [4] rfl; intro Q hQ
      simp (disch := omega) [wrap64, wrapU, h1, h2, h3]
      apply after_some rfl; apply hQ; clear hQ Q
      apply w_ret
      repeat (first | with_reducible apply kseq_ret | with_reducible apply kloop_ret | with_reducible apply kblock_ret)
      apply fin_pure rfl
      · congr 1; rw [← hs, List.drop_eq_nil_of_le (by assumption)]; rfl
      · rfl

theorem c47 {v : V} {xs : List Int} (hv : IsInts v xs) (hl : xs.length < 4611686018427387904) (most : Int) (H : Heap) : call LE 47 [v, .fn 40 [] [.rp [.int .i64 most]]] H = some (.int .i64 (firstBad most xs 0), H) :=
  call_pure rfl (.inl rfl) (pureL_cons hv.pure rfl) (f47_runs hv hl most) H

/-- slices.ContainsFunc[[]int,int] -/
theorem f39_runs {v : V} {xs : List Int} (hv : IsInts v xs) (hl : xs.length < 4611686018427387904) (most : Int) : Runs LE 39 [v, .fn 40 [] [.rp [.int .i64 most]]] (.bool (!Inside xs most)) := by
  have h3 := c47 hv hl most
  refine runs_W (m := 9) Try.func39 rfl rfl (Nat.le_of_ble_eq_true rfl) ?_
  simp only [alOf]
  apply w_seq
  apply w_reg [0, 1] rfl; intro Q hQ
  simp (disch := omega) [wrap64, wrapU, h3]
  apply after_some rfl; apply hQ; clear hQ Q
  apply w_seq
  apply w_reg [4] rfl; intro Q hQ
  simp (disch := omega) [wrap64, wrapU, h3]
  apply after_some rfl; apply hQ; clear hQ Q
  apply w_ret
  repeat (first | with_reducible apply kseq_ret | with_reducible apply kloop_ret | with_reducible apply kblock_ret)
  apply fin_pure rfl
  · congr 1; exact firstBad_inside most xs 0
  · rfl

theorem c39 {v : V} {xs : List Int} (hv : IsInts v xs) (hl : xs.length < 4611686018427387904) (most : Int) (H : Heap) : call LE 39 [v, .fn 40 [] [.rp [.int .i64 most]]] H = some (.bool (!Inside xs most), H) :=
  call_pure rfl (.inl rfl) (pureL_cons hv.pure rfl) (f39_runs hv hl most) H

/-- diorama/learn.within -/
theorem f25_runs {v : V} {xs : List Int} (hv : IsInts v xs) (hl : xs.length < 4611686018427387904) (most : Int) : Runs LE 25 [v, .int .i64 most] (.bool (Within xs most)) := by
  have h1 := lenL hv
  have h3 := c39 hv hl most
  refine runs_W (m := 19) Try.func25 rfl rfl (Nat.le_of_ble_eq_true rfl) ?_
  simp only [alOf]
  apply w_seq
  apply w_reg [0, 3] rfl; intro Q hQ
  simp (disch := omega) [wrap64, wrapU, h1, h3, leW, wrl]
  apply after_some rfl; apply hQ; clear hQ Q
  apply w_seq
  apply w_reg [4] rfl; intro Q hQ
  simp (disch := omega) [wrap64, wrapU, h1, h3, leW, wrl]
  repeat' ((first | with_reducible apply after_guard | with_reducible apply after_guardD) <;> (intro hg; have hg' := hg; try simp at hg') <;> simp (disch := omega) [wrap64, wrapU, h1, h3, leW, wrl, *])
  all_goals (apply after_some rfl; apply hQ; clear hQ Q)
  all_goals
    skip
    apply w_ret
    repeat (first | with_reducible apply kseq_ret | with_reducible apply kloop_ret | with_reducible apply kblock_ret)
    apply fin_pure rfl
    · congr 1; simp only [Within]; rw [Bool.eq_iff_iff]; simp_all; try omega
    · rfl

theorem c25 {v : V} {xs : List Int} (hv : IsInts v xs) (hl : xs.length < 4611686018427387904) (most : Int) (H : Heap) : call LE 25 [v, .int .i64 most] H = some (.bool (Within xs most), H) :=
  call_pure rfl (.inl rfl) (pureL_cons hv.pure rfl) (f25_runs hv hl most) H

/-- diorama/dioramaref27.Right -/
theorem f13_runs {v : V} {xs : List Int} (hv : IsInts v xs) (hl : xs.length < 4611686018427387904) : Runs LE 13 [v] (.bool (Right xs)) := by
  have h3 := c29 hv hl
  have h4 := c24 hv hl
  refine runs_W (m := 9) Try.func13 rfl rfl (Nat.le_of_ble_eq_true rfl) ?_
  simp only [alOf]
  apply w_seq
  apply w_reg [0] rfl; intro Q hQ
  simp (disch := omega) [wrap64, wrapU, h3, h4]
  apply after_some rfl; apply hQ; clear hQ Q
  apply w_seq
  apply w_seq
  apply w_reg [0, 5] rfl; intro Q hQ
  simp (disch := omega) [wrap64, wrapU, h3, h4]
  apply after_some rfl; apply hQ; clear hQ Q
  apply w_cond _ rfl <;> intro hc
  · first
    | (simp at hc; done)
    | try simp at hc
      apply w_seq
      apply w_reg [2] rfl; intro Q hQ
      simp (disch := omega) [wrap64, wrapU, h3, h4]
      apply after_some rfl; apply hQ; clear hQ Q
      apply w_ret
      repeat (first | with_reducible apply kseq_ret | with_reducible apply kloop_ret | with_reducible apply kblock_ret)
      apply fin_pure rfl
      · congr 1; simp_all [Right]
      · rfl
  · first
    | (simp at hc; done)
    | try simp at hc
      apply w_skip
      apply w_seq
      apply w_reg [2] rfl; intro Q hQ
      simp (disch := omega) [wrap64, wrapU, h3, h4]
      apply after_some rfl; apply hQ; clear hQ Q
      apply w_ret
      repeat (first | with_reducible apply kseq_ret | with_reducible apply kloop_ret | with_reducible apply kblock_ret)
      apply fin_pure rfl
      · congr 1; simp_all [Right]
      · rfl

theorem c13 {v : V} {xs : List Int} (hv : IsInts v xs) (hl : xs.length < 4611686018427387904) (H : Heap) : call LE 13 [v] H = some (.bool (Right xs), H) :=
  call_pure rfl (.inl rfl) (pureL_cons hv.pure rfl) (f13_runs hv hl) H

/-- diorama/dioramaref01.SameInts -/
theorem f12_runs {v u : V} {xs ys : List Int} (hv : IsInts v xs) (hu : IsInts u ys) (hl : xs.length < 4611686018427387904) (hm : ys.length < 4611686018427387904) : Runs LE 12 [v, u] (.bool (decide (xs = ys))) := by
  have h1 := lenL hv
  have h2 := @idxL v xs hv
  have h3 := lenL hu
  have h4 := @idxL u ys hu
  refine runs_W (m := 26) Try.func12 rfl rfl (Nat.le_of_ble_eq_true rfl) ?_
  simp only [alOf]
  apply w_seq
  apply w_reg [0, 1] rfl; intro Q hQ
  simp (disch := omega) [wrap64, wrapU, h1, h2, h3, h4]
  apply after_some rfl; apply hQ; clear hQ Q
  apply w_seq
  apply w_seq
  apply w_reg [0, 1, 10] rfl; intro Q hQ
  simp (disch := omega) [wrap64, wrapU, h1, h2, h3, h4]
  apply after_some rfl; apply hQ; clear hQ Q
  apply w_cond _ rfl <;> intro hc
  · first
    | (simp at hc; done)
    | try simp at hc
      apply w_seq
      apply w_reg [4] rfl; intro Q hQ
      simp (disch := omega) [wrap64, wrapU, h1, h2, h3, h4]
      apply after_some rfl; apply hQ; clear hQ Q
      apply w_ret
      repeat (first | with_reducible apply kseq_ret | with_reducible apply kloop_ret | with_reducible apply kblock_ret)
      apply fin_pure rfl
      · congr 1; symm; rw [decide_eq_false_iff_not]; intro h; subst h; simp at hc
      · rfl
  · first
    | (simp at hc; done)
    | try simp at hc
      apply w_skip
      apply w_seq
      apply w_seq
      apply w_reg [0, 1, 5] rfl; intro Q hQ
      simp (disch := omega) [wrap64, wrapU, h1, h2, h3, h4]
      apply after_some rfl; apply hQ; clear hQ Q
      apply w_block
      -- LOOP live [0, 1, 5]
      refine w_loop (fun m al H => ∃ (i : Nat), m = xs.length - i ∧ i ≤ xs.length ∧ xs.length = ys.length ∧ (xs.drop i = ys.drop i ↔ xs = ys) ∧ al = [(0, v), (1, u), (5, .int .i64 (i : Int))] ∧ H = []) (xs.length) ?_ ?_
      · exact ⟨0, by simp, by omega, by omega, by simp, rfl, rfl⟩
      rintro m al H ⟨i, hm, hi, hy, hs, rfl, rfl⟩
      apply w_seq
      apply w_seq
      apply w_reg [0, 1, 5, 14] rfl; intro Q hQ
      simp (disch := omega) [wrap64, wrapU, h1, h2, h3, h4]
      apply after_some rfl; apply hQ; clear hQ Q
      apply w_cond _ rfl <;> intro hc
      · first
        | (simp at hc; done)
        | try simp at hc
          apply w_skip
          apply w_seq
          apply w_block
          apply w_seq
          apply w_drw [0, 1, 5, 25] rfl (by kernel_rfl) 0 rfl; intro Q hQ
          simp (disch := omega) [wrap64, wrapU, h1, h2, h3, h4]
          apply after_some rfl; apply hQ; clear hQ Q
          apply w_cond _ rfl <;> intro hc
          · first
            | (simp at hc; done)
            | try simp at hc
              apply w_seq
              apply w_reg [4] rfl; intro Q hQ
              simp (disch := omega) [wrap64, wrapU, h1, h2, h3, h4]
              apply after_some rfl; apply hQ; clear hQ Q
              apply w_ret
              repeat (first | with_reducible apply kseq_ret | with_reducible apply kloop_ret | with_reducible apply kblock_ret)
              apply fin_pure rfl
              · congr 1; symm; rw [decide_eq_false_iff_not]; intro h; subst h; exact hc rfl
              · rfl
          · first
            | (simp at hc; done)
            | try simp at hc
              apply w_skip
              apply w_reg [0, 1, 5] rfl; intro Q hQ
              simp (disch := omega) [wrap64, wrapU, h1, h2, h3, h4]
              apply after_some rfl; apply hQ; clear hQ Q
              repeat (with_reducible apply kblock_nrm)
              refine kloop_back (xs.length - (i + 1)) (by omega) ⟨i + 1, rfl, by omega, hy, ?_, rfl, rfl⟩
              refine ⟨fun h => hs.1 ?_, fun h => by rw [h]⟩
              rw [List.drop_eq_getElem_cons (l := xs) (i := i) (by omega), List.drop_eq_getElem_cons (l := ys) (i := i) (by omega), h, hc]
      · first
        | (simp at hc; done)
        | try simp at hc
          apply w_exit
          repeat (first | with_reducible apply kseq_exit | with_reducible apply kloop_exit | with_reducible apply kblock_exit | with_reducible apply kblock_pass (by decide))
          apply w_seq
          apply w_reg [4] rfl; intro Q hQ
          simp (disch := omega) [wrap64, wrapU, h1, h2, h3, h4]
          apply after_some rfl; apply hQ; clear hQ Q
          apply w_ret
          repeat (first | with_reducible apply kseq_ret | with_reducible apply kloop_ret | with_reducible apply kblock_ret)
          apply fin_pure rfl
          · congr 1; symm; rw [decide_eq_true_eq, ← hs, List.drop_eq_nil_of_le (by omega), List.drop_eq_nil_of_le (by omega)]
          · rfl

theorem c12 {v u : V} {xs ys : List Int} (hv : IsInts v xs) (hu : IsInts u ys) (hl : xs.length < 4611686018427387904) (hm : ys.length < 4611686018427387904) (H : Heap) : call LE 12 [v, u] H = some (.bool (decide (xs = ys)), H) :=
  call_pure rfl (.inl rfl) (pureL_cons hv.pure (pureL_cons hu.pure rfl)) (f12_runs hv hu hl hm) H

end Go.Ae.Ln

namespace Go.Ae.Ln
open Go.Proofs

theorem T22' : IntsT LE.P 22 3 := T22

def gcdL (xs : List Int) : Nat := xs.foldl (fun n x => Nat.gcd x.toNat n) 0

theorem gcd_lt {a b m : Nat} (ha : a < m) (hb : b < m) : Nat.gcd a b < m := by
  rcases Nat.eq_zero_or_pos a with rfl | h
  · simpa using hb
  · exact Nat.lt_of_le_of_lt (Nat.gcd_le_left b h) ha

/-- slices.Clone[[]int,int] -/
theorem c26 {v : V} {xs : List Int} (hv : IsInts v xs) (hne : xs ≠ []) (hl : xs.length < 17592186044415) (H : Heap) : call LE 26 [v] H = some (.ms 1 H.length xs.length 0 xs.length false, H ++ [newBlk xs.length (cellsI xs)]) := by
  have h1 := append_clone (H := H) T22 hv hne hl
  obtain ⟨full, rfl⟩ : ∃ full, v = .sl full (intsI xs) := by
    rcases hv with ⟨_, h⟩ | h
    · exact absurd h hne
    · exact h
  have h2 := @eq_nil Try.prog 22 3 T22 full (intsI xs)
  rw [call_inl rfl rfl]
  refine run_W (m := 8) Try.func26 rfl rfl (Nat.le_of_ble_eq_true rfl) ?_
  simp only [alOf]
  apply w_seq
  apply w_reg [0] rfl; intro Q hQ
  simp (disch := omega) [wrap64, wrapU, h1, h2, eo_none T22']
  apply after_some rfl; apply hQ; clear hQ Q
  apply w_seq
  apply w_seq
  apply w_reg [0, 4] rfl; intro Q hQ
  simp (disch := omega) [wrap64, wrapU, h1, h2, eo_none T22']
  apply after_some rfl; apply hQ; clear hQ Q
  apply w_cond _ rfl <;> intro hc
  · first
    | (simp at hc; done)
    | try simp at hc
      apply w_seq
      apply w_reg [2] rfl; intro Q hQ
      simp (disch := omega) [wrap64, wrapU, h1, h2, eo_none T22']
      apply after_some rfl; apply hQ; clear hQ Q
      apply w_ret
      repeat (first | with_reducible apply kseq_ret | with_reducible apply kloop_ret | with_reducible apply kblock_ret)
      exact ⟨rfl, rfl, rfl⟩
  · first
    | (simp at hc; done)
    | try simp at hc
      apply w_skip
      apply w_seq
      apply w_reg [2] rfl; intro Q hQ
      simp (disch := omega) [wrap64, wrapU, h1, h2, eo_none T22']
      apply after_some rfl; apply hQ; clear hQ Q
      apply w_ret
      repeat (first | with_reducible apply kseq_ret | with_reducible apply kloop_ret | with_reducible apply kblock_ret)
      exact ⟨rfl, rfl, rfl⟩

/-- diorama/learn.gcd$1 -/
theorem c45 : ∀ (b a : Nat) (H : Heap) (p ver : Nat), a < 9223372036854775808 → b < 9223372036854775808 → getBlk H p ver = some [.fn 45 [] [.mp p ver 0]] → call LE 45 [.int .i64 (a : Int), .int .i64 (b : Int), .mp p ver 0] H = some (.int .i64 (Nat.gcd a b : Int), H) := by
  refine fun b => Nat.strongRecOn b ?_
  intro b ih a H p ver ha hb hH
  have hR := getBlk_ro hH
  have hB : behind (roH H) (.mp p ver 0) = some [.fn 45 [] [.mp p ver 0]] := by simp [behind, hR]
  have hI : b ≠ 0 → call LE 45 [.int .i64 (b : Int), .int .i64 ((a : Int).tmod (b : Int)), .mp p ver 0] (roH H) = some (.int .i64 (Nat.gcd a b : Int), roH H) := fun h => by
    rw [Int.tmod_eq_emod_of_nonneg (Int.natCast_nonneg a), Nat.gcd_comm a b, Nat.gcd_rec b a, Nat.gcd_comm (a % b) b]
    exact ih (a % b) (Nat.mod_lt _ (by omega)) b (roH H) p ver hb (Nat.lt_trans (Nat.mod_lt _ (by omega)) hb) hR
  refine call_ro (H' := roH H) rfl rfl (run_W (m := 15) Try.func45 rfl rfl (Nat.le_of_ble_eq_true rfl) ?_) rfl
  simp only [alOf]
  apply w_seq
  apply w_reg [0, 1, 2] rfl; intro Q hQ
  simp (disch := omega) [wrap64, wrapU, hB, hI]
  apply after_some rfl; apply hQ; clear hQ Q
  apply w_seq
  apply w_seq
  apply w_reg [0, 1, 2, 7] rfl; intro Q hQ
  simp (disch := omega) [wrap64, wrapU, hB, hI]
  apply after_some rfl; apply hQ; clear hQ Q
  apply w_cond _ rfl <;> intro hc
  · first
    | (simp at hc; done)
    | try simp at hc
      apply w_seq
      apply w_reg [5] rfl; intro Q hQ
      simp (disch := omega) [wrap64, wrapU, hB, hI]
      apply after_some rfl; apply hQ; clear hQ Q
      apply w_ret
      repeat (first | with_reducible apply kseq_ret | with_reducible apply kloop_ret | with_reducible apply kblock_ret)
      refine ⟨rfl, ?_, rfl⟩
      show some _ = some _
      subst hc
      simp
  · first
    | (simp at hc; done)
    | try simp at hc
      apply w_skip
      apply w_seq
      apply w_drw [5] rfl (by kernel_rfl) 0 rfl; intro Q hQ
      simp (disch := omega) [wrap64, wrapU, hB, hI]
      apply after_some rfl; apply hQ; clear hQ Q
      apply w_ret
      repeat (first | with_reducible apply kseq_ret | with_reducible apply kloop_ret | with_reducible apply kblock_ret)
      exact ⟨rfl, rfl, rfl⟩

/-- diorama/learn.gcd -/
theorem f37_runs {v : V} {xs : List Int} (hv : IsInts v xs) (hl : xs.length < 4611686018427387904) (hx : ∀ x ∈ xs, 0 ≤ x ∧ x < 9223372036854775808) : Runs LE 37 [v] (.int .i64 (gcdL xs : Int)) := by
  have h1 := lenL hv
  have h2 := @idxL v xs hv
  let H0 : Heap := [newBlk 0 [.fn 45 [] [.mp 0 0 0]]]
  have hB : behind H0 (.mp 0 0 0) = some [.fn 45 [] [.mp 0 0 0]] := rfl
  have hC : ∀ (i : Nat) (acc : Nat) (hi : i < xs.length) (ha : acc < 9223372036854775808), call LE 45 [.int .i64 xs[i], .int .i64 (acc : Int), .mp 0 0 0] H0 = some (.int .i64 (Nat.gcd xs[i].toNat acc : Int), H0) := fun i acc hi ha => by
    have h3 := rangeN hx hi
    have h4 := c45 acc xs[i].toNat H0 0 0 (by omega) ha rfl
    rwa [Int.toNat_of_nonneg h3.1] at h4
  refine runs_W (m := 20) Try.func37 rfl rfl (Nat.le_of_ble_eq_true rfl) ?_
  simp only [alOf]
  apply w_seq
  apply w_reg [0] rfl; intro Q hQ
  simp (disch := omega) [wrap64, wrapU, h1, h2, hB, hC]
  apply after_some rfl; apply hQ; clear hQ Q
  apply w_seq
  apply w_reg [0, 3] rfl; intro Q hQ
  simp (disch := omega) [wrap64, wrapU, h1, h2, hB, hC]
  apply after_some rfl; apply hQ; clear hQ Q
  apply w_seq
  apply w_reg [0, 3] rfl; intro Q hQ
  simp (disch := omega) [wrap64, wrapU, h1, h2, hB, hC]
  apply after_some rfl; apply hQ; clear hQ Q
  apply w_seq
  apply w_reg [0, 3, 4] rfl; intro Q hQ
  simp (disch := omega) [wrap64, wrapU, h1, h2, hB, hC]
  apply after_some rfl; apply hQ; clear hQ Q
  apply w_seq
  apply w_seq
  apply w_reg [3, 4, 8, 9, 10] rfl; intro Q hQ
  simp (disch := omega) [wrap64, wrapU, h1, h2, hB, hC]
  apply after_some rfl; apply hQ; clear hQ Q
  apply w_block
  -- LOOP live [3, 4, 8, 9, 10]
  refine w_loop (fun m al H => ∃ (i acc : Nat), m = xs.length - i ∧ i ≤ xs.length ∧ acc < 9223372036854775808 ∧ (xs.drop i).foldl (fun n x => Nat.gcd x.toNat n) acc = gcdL xs ∧ al = [(3, .mp 0 0 0), (4, .int .i64 (acc : Int)), (8, v), (9, .int .i64 (xs.length : Int)), (10, .int .i64 (i : Int))] ∧ H = H0) (xs.length) ?_ ?_
  · exact ⟨0, 0, by simp, by omega, by omega, rfl, rfl, rfl⟩
  rintro m al H ⟨i, acc, hm, hi, ha, hs, rfl, rfl⟩
  apply w_seq
  apply w_reg [3, 4, 8, 9, 10, 11] rfl; intro Q hQ
  simp (disch := omega) [wrap64, wrapU, h1, h2, hB, hC]
  apply after_some rfl; apply hQ; clear hQ Q
  apply w_seq
  apply w_cond _ rfl <;> intro hc
  · first
    | (simp at hc; done)
    | try simp at hc
      apply w_skip
      apply w_seq
      apply w_block
      apply w_seq
      apply w_reg [3, 4, 6, 8, 9, 10] rfl; intro Q hQ
      simp (disch := omega) [wrap64, wrapU, h1, h2, hB, hC]
      apply after_some rfl; apply hQ; clear hQ Q
      apply w_reg [3, 4, 8, 9, 10] rfl; intro Q hQ
      simp (disch := omega) [wrap64, wrapU, h1, h2, hB, hC]
      apply after_some rfl; apply hQ; clear hQ Q
      apply w_reg [3, 4, 8, 9, 10] rfl; intro Q hQ
      simp (disch := omega) [wrap64, wrapU, h1, h2, hB, hC]
      apply after_some rfl; apply hQ; clear hQ Q
      repeat (with_reducible apply kblock_nrm)
      have h3 := rangeN hx hc
      refine kloop_back (xs.length - (i + 1)) (by omega) ⟨i + 1, _, rfl, by omega, gcd_lt (a := xs[i].toNat) (b := acc) (by omega) ha, ?_, rfl, rfl⟩
      rw [← hs, List.drop_eq_getElem_cons hc]
      rfl
  · first
    | (simp at hc; done)
    | try simp at hc
      apply w_exit
      repeat (first | with_reducible apply kseq_exit | with_reducible apply kloop_exit | with_reducible apply kblock_exit | with_reducible apply kblock_pass (by decide))
      apply w_seq
      apply w_reg [2] rfl; intro Q hQ
      simp (disch := omega) [wrap64, wrapU, h1, h2, hB, hC]
      apply after_some rfl; apply hQ; clear hQ Q
      apply w_ret
      repeat (first | with_reducible apply kseq_ret | with_reducible apply kloop_ret | with_reducible apply kblock_ret)
      apply fin_pure rfl
      · have : i = xs.length := by omega
        subst this
        rw [List.drop_length, List.foldl_nil] at hs
        rw [hs]
      · rfl

theorem c37 {v : V} {xs : List Int} (hv : IsInts v xs) (hl : xs.length < 4611686018427387904) (hx : ∀ x ∈ xs, 0 ≤ x ∧ x < 9223372036854775808) (H : Heap) : call LE 37 [v] H = some (.int .i64 (gcdL xs : Int), H) :=
  call_pure rfl (.inl rfl) (pureL_cons hv.pure rfl) (f37_runs hv hl hx) H

end Go.Ae.Ln

namespace Go.Ae.Ln
open Go.Proofs

def Lowest (xs : List Int) : List Int := xs.map fun x => x.tdiv (max (gcdL xs : Int) 1)

theorem wrap_div {x g : Int} (h1 : 0 ≤ x) (h2 : x < 9223372036854775808) (hg : 1 ≤ g) : IntKind.i64.wrap (x.tdiv g) = x.tdiv g := by
  have h3 := Int.tdiv_nonneg h1 (by omega : 0 ≤ g)
  have h4 : x.tdiv g ≤ x := by
    rw [Int.tdiv_eq_ediv_of_nonneg h1]
    exact Int.ediv_le_self g h1
  exact wrap64 (by omega) (by omega)

/-- diorama/learn.lowest -/
theorem f28_runs {v : V} {xs : List Int} (hv : IsInts v xs) (hne : xs ≠ []) (hl : xs.length < 17592186044415) (hx : ∀ x ∈ xs, 0 ≤ x ∧ x < 9223372036854775808) : Runs LE 28 [v] (.sl false (intsI (Lowest xs))) := by
  have h3 := c26 hv hne hl []
  have h4 := c37 hv (by omega) hx
  rw [List.nil_append, List.length_nil] at h3
  have h5 := fun (n : Nat) => @ms_len Try.prog 22 3 T22 0 n 0 xs.length false
  have h6 := @ms_idx Try.prog 22 3 T22 0 xs.length xs.length
  refine runs_W (m := 26) Try.func28 rfl rfl (Nat.le_of_ble_eq_true rfl) ?_
  simp only [alOf]
  apply w_seq
  apply w_reg [0] rfl; intro Q hQ
  simp (disch := omega) [wrap64, wrapU, h3, h4, h5, h6]
  apply after_some rfl; apply hQ; clear hQ Q
  apply w_seq
  apply w_reg [0, 3] rfl; intro Q hQ
  simp (disch := omega) [wrap64, wrapU, h3, h4, h5, h6]
  apply after_some rfl; apply hQ; clear hQ Q
  apply w_seq
  apply w_seq
  apply w_reg [3, 4] rfl; intro Q hQ
  simp (disch := omega) [wrap64, wrapU, h3, h4, h5, h6]
  apply after_some rfl; apply hQ; clear hQ Q
  apply w_seq
  apply w_reg [3, 4, 11] rfl; intro Q hQ
  simp (disch := omega) [wrap64, wrapU, h3, h4, h5, h6]
  apply after_some rfl; apply hQ; clear hQ Q
  apply w_cond _ rfl <;> intro hc
  · first
    | (simp at hc; done)
    | try simp at hc
      apply w_seq
      apply w_reg [3, 4, 13, 14] rfl; intro Q hQ
      simp (disch := omega) [wrap64, wrapU, h3, h4, h5, h6]
      apply after_some rfl; apply hQ; clear hQ Q
      apply w_block
      -- LOOP live [3, 4, 13, 14]
      refine w_loop (fun m al H => ∃ (i : Nat), m = xs.length - i ∧ i ≤ xs.length ∧ getW H 0 xs.length = some (cellsI (upTo (fun x => x.tdiv (gcdL xs : Int)) xs i)) ∧ al = [(3, .ms 1 0 xs.length 0 xs.length false), (4, .int .i64 (gcdL xs : Int)), (13, .int .i64 (xs.length : Int)), (14, .int .i64 (i : Int))]) (xs.length) ?_ ?_
      · exact ⟨0, by simp, by omega, by rw [upTo_zero]; simp [getW, newBlk], rfl⟩
      rintro m al H ⟨i, hm, hi, hW, rfl⟩
      have hB : ∀ (hi : i < xs.length), behind H (.mp 0 xs.length i) = some (.int .i64 xs[i] :: cellsI (xs.drop (i + 1))) := fun hi => behind_upTo _ hW hi
      have hD : ∀ (hi : i < xs.length), IntKind.i64.wrap (xs[i].tdiv (gcdL xs : Int)) = xs[i].tdiv (gcdL xs : Int) := fun hi => wrap_div (rangeN hx hi).1 (rangeN hx hi).2 (by omega)
      have hE : ∀ (hi : i < xs.length), i + 1 ≤ xs.length := fun hi => hi
      have hS : ∀ (hi : i < xs.length), splice (cellsI (upTo (fun x => x.tdiv (gcdL xs : Int)) xs i)) i [.int .i64 (xs[i].tdiv (gcdL xs : Int))] = cellsI (upTo (fun x => x.tdiv (gcdL xs : Int)) xs (i + 1)) := fun hi => splice_upTo (fun x => x.tdiv (gcdL xs : Int)) hi
      apply w_seq
      apply w_reg [3, 4, 13, 14, 15] rfl; intro Q hQ
      simp (disch := omega) [wrap64, wrapU, h3, h4, h5, h6, hB, hD, hE, hS, hW, cellsI_len, upTo_len]
      apply after_some rfl; apply hQ; clear hQ Q
      apply w_seq
      apply w_cond _ rfl <;> intro hc
      · first
        | (simp at hc; done)
        | try simp at hc
          apply w_skip
          apply w_seq
          apply w_block
          apply w_seq
          apply w_reg [3, 4, 5, 13, 14] rfl; intro Q hQ
          simp (disch := omega) [wrap64, wrapU, h3, h4, h5, h6, hB, hD, hE, hS, hW, cellsI_len, upTo_len]
          apply after_some rfl; apply hQ; clear hQ Q
          apply w_reg [3, 4, 13, 14] rfl; intro Q hQ
          simp (disch := omega) [wrap64, wrapU, h3, h4, h5, h6, hB, hD, hE, hS, hW, cellsI_len, upTo_len]
          apply after_some rfl; apply hQ; clear hQ Q
          apply w_reg [3, 4, 13, 14] rfl; intro Q hQ
          simp (disch := omega) [wrap64, wrapU, h3, h4, h5, h6, hB, hD, hE, hS, hW, cellsI_len, upTo_len]
          apply after_some rfl; apply hQ; clear hQ Q
          repeat (with_reducible apply kblock_nrm)
          refine kloop_back (xs.length - (i + 1)) (by omega) ⟨i + 1, rfl, by omega, ?_, rfl⟩
          exact getW_set (getW_lt hW)
      · first
        | (simp at hc; done)
        | try simp at hc
          apply w_exit
          repeat (first | with_reducible apply kseq_exit | with_reducible apply kloop_exit | with_reducible apply kblock_exit | with_reducible apply kblock_pass (by decide))
          apply w_seq
          apply w_reg [2] rfl; intro Q hQ
          simp (disch := omega) [wrap64, wrapU, h3, h4, h5, h6, hB, hD, hE, hS, hW, cellsI_len, upTo_len]
          apply after_some rfl; apply hQ; clear hQ Q
          apply w_ret
          repeat (first | with_reducible apply kseq_ret | with_reducible apply kloop_ret | with_reducible apply kblock_ret)
          have hz : i = xs.length := by omega
          subst hz
          rw [upTo_all] at hW
          have hF := frz_ms (full := false) hW
          have hY : xs.map (fun x => x.tdiv (gcdL xs : Int)) = Lowest xs := by
            unfold Lowest
            rw [show max (gcdL xs : Int) 1 = (gcdL xs : Int) by omega]
          rw [List.length_map, hY] at hF
          exact fin_frz rfl hF (intsI_pure _) rfl
  · first
    | (simp at hc; done)
    | try simp at hc
      apply w_skip
      apply w_seq
      apply w_reg [2] rfl; intro Q hQ
      simp (disch := omega) [wrap64, wrapU, h3, h4, h5, h6]
      apply after_some rfl; apply hQ; clear hQ Q
      apply w_ret
      repeat (first | with_reducible apply kseq_ret | with_reducible apply kloop_ret | with_reducible apply kblock_ret)
      have hW : getW [newBlk xs.length (cellsI xs)] 0 xs.length = some (cellsI xs) := by simp [getW, newBlk]
      have hF := frz_ms (full := false) hW
      have hY : Lowest xs = xs := by
        unfold Lowest
        rw [show max (gcdL xs : Int) 1 = 1 by omega]
        simp
      rw [← hY] at hF
      exact fin_frz rfl (by rw [hY] at hF ⊢; exact hF) (intsI_pure _) rfl

theorem c28 {v : V} {xs : List Int} (hv : IsInts v xs) (hne : xs ≠ []) (hl : xs.length < 17592186044415) (hx : ∀ x ∈ xs, 0 ≤ x ∧ x < 9223372036854775808) (H : Heap) : call LE 28 [v] H = some (.sl false (intsI (Lowest xs)), H) :=
  call_pure rfl (.inr rfl) (pureL_cons hv.pure rfl) (f28_runs hv hne hl hx) H

end Go.Ae.Ln

namespace Go.Ae.Ln
open Go.Proofs

theorem c34 (a b : Nat) (ha : a < 9223372036854775808) (hb : b < 9223372036854775808) (H : Heap) : call LE 34 [.int .i64 (a : Int), .int .i64 (b : Int)] H = some (.int .i64 (Nat.gcd a b : Int), H) :=
  call_pure rfl (.inl rfl) rfl (f34_runs a b ha hb) H

/-- diorama/dioramaref27.Lowest -/
theorem f18_runs {v : V} {xs : List Int} (hv : IsInts v xs) (hl : xs.length < 17592186044415) (hx : ∀ x ∈ xs, 0 ≤ x ∧ x < 9223372036854775808) : Runs LE 18 [v] (IV (Lowest xs)) := by
  have h1 := lenL hv
  have h2 := @idxL v xs hv
  have hC : ∀ (i : Nat) (acc : Nat) (hi : i < xs.length) (ha : acc < 9223372036854775808), call LE 34 [.int .i64 (acc : Int), .int .i64 xs[i]] [] = some (.int .i64 (Nat.gcd acc xs[i].toNat : Int), []) := fun i acc hi ha => by
    have h3 := rangeN hx hi
    have h4 := c34 acc xs[i].toNat ha (by omega) []
    rwa [Int.toNat_of_nonneg h3.1] at h4
  have hM : ∀ (g : Int), (if 1 > g then 1 else g) = max g 1 := fun g => by omega
  refine runs_W (m := 36) Try.func18 rfl rfl (Nat.le_of_ble_eq_true rfl) ?_
  simp only [alOf]
  apply w_seq
  apply w_reg [0] rfl; intro Q hQ
  simp (disch := omega) [wrap64, wrapU, h1, h2, hC, hM, ql_max, eo_one T22']
  apply after_some rfl; apply hQ; clear hQ Q
  apply w_seq
  apply w_reg [0, 3] rfl; intro Q hQ
  simp (disch := omega) [wrap64, wrapU, h1, h2, hC, hM, ql_max, eo_one T22']
  apply after_some rfl; apply hQ; clear hQ Q
  apply w_seq
  apply w_seq
  apply w_reg [0, 3, 4] rfl; intro Q hQ
  simp (disch := omega) [wrap64, wrapU, h1, h2, hC, hM, ql_max, eo_one T22']
  apply after_some rfl; apply hQ; clear hQ Q
  apply w_block
  -- LOOP live [0, 3, 4]
  refine w_loop (fun m al H => ∃ (i acc : Nat), m = xs.length - i ∧ i ≤ xs.length ∧ acc < 9223372036854775808 ∧ (xs.drop i).foldl (fun n x => Nat.gcd x.toNat n) acc = gcdL xs ∧ al = [(0, v), (3, .int .i64 (acc : Int)), (4, .int .i64 (i : Int))] ∧ H = []) (xs.length) ?_ ?_
  · exact ⟨0, 0, by simp, by omega, by omega, rfl, rfl, rfl⟩
  rintro m al H ⟨i, acc, hm, hi, ha, hs, rfl, rfl⟩
  apply w_seq
  apply w_seq
  apply w_reg [0, 3, 4, 10] rfl; intro Q hQ
  simp (disch := omega) [wrap64, wrapU, h1, h2, hC, hM, ql_max, eo_one T22']
  apply after_some rfl; apply hQ; clear hQ Q
  apply w_cond _ rfl <;> intro hc
  · first
    | (simp at hc; done)
    | try simp at hc
      apply w_skip
      apply w_seq
      apply w_block
      apply w_reg [0, 3, 4] rfl; intro Q hQ
      simp (disch := omega) [wrap64, wrapU, h1, h2, hC, hM, ql_max, eo_one T22']
      apply after_some rfl; apply hQ; clear hQ Q
      apply w_reg [0, 3, 4] rfl; intro Q hQ
      simp (disch := omega) [wrap64, wrapU, h1, h2, hC, hM, ql_max, eo_one T22']
      apply after_some rfl; apply hQ; clear hQ Q
      repeat (with_reducible apply kblock_nrm)
      have h3 := rangeN hx hc
      refine kloop_back (xs.length - (i + 1)) (by omega) ⟨i + 1, _, rfl, by omega, gcd_lt (a := acc) (b := xs[i].toNat) ha (by omega), ?_, rfl, rfl⟩
      rw [← hs, List.drop_eq_getElem_cons hc, List.foldl_cons, Nat.gcd_comm acc]
  · first
    | (simp at hc; done)
    | try simp at hc
      apply w_exit
      repeat (first | with_reducible apply kseq_exit | with_reducible apply kloop_exit | with_reducible apply kblock_exit | with_reducible apply kblock_pass (by decide))
      apply w_seq
      apply w_reg [0, 3, 5] rfl; intro Q hQ
      simp (disch := omega) [wrap64, wrapU, h1, h2, hC, hM, ql_max, eo_one T22']
      apply after_some rfl; apply hQ; clear hQ Q
      apply w_seq
      apply w_seq
      apply w_reg [0, 3, 5, 6] rfl; intro Q hQ
      simp (disch := omega) [wrap64, wrapU, h1, h2, hC, hM, ql_max, eo_one T22']
      apply after_some rfl; apply hQ; clear hQ Q
      apply w_block
      -- LOOP live [0, 3, 5, 6]
      refine w_loop (fun m al H => ∃ (i : Nat) (u : V), m = xs.length - i ∧ i ≤ xs.length ∧ Mut H u ((xs.take i).map fun x => x.tdiv (max (gcdL xs : Int) 1)) ∧ al = [(0, v), (3, .int .i64 (gcdL xs : Int)), (5, u), (6, .int .i64 (i : Int))]) (xs.length) ?_ ?_
      · refine ⟨0, .nil, by simp, by omega, .nil, ?_⟩
        have : i = xs.length := by omega
        subst this
        rw [List.drop_length, List.foldl_nil] at hs
        rw [hs]
        rfl
      rintro m al H ⟨j, u, hm2, hj, hU, rfl⟩
      have hB : ∀ (hj : j < xs.length), appendV Try.prog (H ++ [newBlk 1 [.int .i64 (xs[j].tdiv (max (gcdL xs : Int) 1))]]) 22 u (.ms 1 H.length 1 0 1 true) = some (appL Try.prog 22 H u (xs[j].tdiv (max (gcdL xs : Int) 1)), appH Try.prog 22 H u (xs[j].tdiv (max (gcdL xs : Int) 1))) := fun hj => hU.append_eq T22 _ (by simp; omega)
      have hD : ∀ (hj : j < xs.length), IntKind.i64.wrap (xs[j].tdiv (max (gcdL xs : Int) 1)) = xs[j].tdiv (max (gcdL xs : Int) 1) := fun hj => wrap_div (rangeN hx hj).1 (rangeN hx hj).2 (by omega)
      apply w_seq
      apply w_seq
      apply w_reg [0, 3, 5, 6, 22] rfl; intro Q hQ
      simp (disch := omega) [wrap64, wrapU, h1, h2, hC, hM, ql_max, eo_one T22', hB, hD]
      apply after_some rfl; apply hQ; clear hQ Q
      apply w_cond _ rfl <;> intro hc
      · first
        | (simp at hc; done)
        | try simp at hc
          apply w_skip
          apply w_seq
          apply w_block
          apply w_reg [0, 3, 5, 6] rfl; intro Q hQ
          simp (disch := omega) [wrap64, wrapU, h1, h2, hC, hM, ql_max, eo_one T22', hB, hD]
          apply after_some rfl; apply hQ; clear hQ Q
          apply w_reg [0, 3, 5, 6] rfl; intro Q hQ
          simp (disch := omega) [wrap64, wrapU, h1, h2, hC, hM, ql_max, eo_one T22', hB, hD]
          apply after_some rfl; apply hQ; clear hQ Q
          repeat (with_reducible apply kblock_nrm)
          refine kloop_back (xs.length - (j + 1)) (by omega) ⟨j + 1, _, rfl, by omega, ?_, rfl⟩
          rw [List.take_succ_eq_append_getElem hc, List.map_append]
          exact hU.append_mut T22 _ (by simp; omega)
      · first
        | (simp at hc; done)
        | try simp at hc
          apply w_exit
          repeat (first | with_reducible apply kseq_exit | with_reducible apply kloop_exit | with_reducible apply kblock_exit | with_reducible apply kblock_pass (by decide))
          apply w_seq
          apply w_reg [2] rfl; intro Q hQ
          simp (disch := omega) [wrap64, wrapU, h1, h2, hC, hM, ql_max, eo_one T22', hB, hD]
          apply after_some rfl; apply hQ; clear hQ Q
          apply w_ret
          repeat (first | with_reducible apply kseq_ret | with_reducible apply kloop_ret | with_reducible apply kblock_ret)
          have hz : j = xs.length := by omega
          subst hz
          rw [List.take_length] at hU
          obtain ⟨H2, hF⟩ := hU.frz
          refine fin_frz rfl hF (IV_pure _) ?_
          unfold IV; split <;> rfl

theorem c18 {v : V} {xs : List Int} (hv : IsInts v xs) (hl : xs.length < 17592186044415) (hx : ∀ x ∈ xs, 0 ≤ x ∧ x < 9223372036854775808) (H : Heap) : call LE 18 [v] H = some (IV (Lowest xs), H) :=
  call_pure rfl (.inr rfl) (pureL_cons hv.pure rfl) (f18_runs hv hl hx) H

end Go.Ae.Ln

namespace Go.Ae.Ln
open Go.Proofs

theorem call_mut_snap {f : FuncId} (hm : LE.mode f = .snap) {H : Heap} {w r : V} {ys : List Int} (hM : Mut H w ys) (hr : Runs LE f [IV ys] r) (hs : r.scalar = true) : call LE f [w] H = some (r, H) := by
  rcases hM with ⟨rfl, rfl⟩ | ⟨b, ver, rfl, hb, hne⟩
  · exact call_pure rfl (.inl hm) rfl hr H
  · refine call_snap rfl hm rfl ?_ hr hs
    rw [mapO_cons, snap_ms hb, IV, if_neg hne]
    rfl

theorem call_mut_mv {f : FuncId} (hm : LE.mode f = .mv) {H : Heap} {w r : V} {ys : List Int} (hM : Mut H w ys) (hr : Runs LE f [IV ys] r) : ∃ H', call LE f [w] H = some (r, H') := by
  obtain ⟨H', h⟩ := hM.frz
  refine ⟨H', call_mv rfl hm ?_ (pureL_cons (IV_pure ys) rfl) hr⟩
  simp only [frzList, h]

/-- The weights and the error of counts. -/
def WeightsR (xs : List Int) (s : Int) : List Int × Int :=
  if Within xs 524288 = false ∨ s < 0 ∨ s > 1024 then ([], 5)
  else if sumW (xs.map (· + s)) = 0 then ([], 5)
  else (Lowest (xs.map (· + s)), 0)

def WV (p : List Int × Int) : V := .tup [IV p.1, .int .i64 p.2]

theorem WV_pure (p : List Int × Int) : (WV p).pure = true := by simp only [WV, V.pure, V.pureL, IV_pure, Bool.and_self]

theorem inside_get {xs : List Int} {most : Int} (h : Inside xs most = true) : ∀ x ∈ xs, 0 ≤ x ∧ x ≤ most := by
  intro x hx
  have := List.all_eq_true.1 h x hx
  simpa using this

theorem within_inside {xs : List Int} {most : Int} (h : Within xs most = true) : Inside xs most = true ∧ 1 ≤ xs.length ∧ xs.length ≤ 12 := by
  simpa [Within] using h

/-- diorama/dioramaref27.Weights -/
theorem f11_runs {v : V} {xs : List Int} (hv : IsInts v xs) (hl : xs.length < 4611686018427387904) (s : Int) : Runs LE 11 [v, .int .i64 s] (WV (WeightsR xs s)) := by
  have h1 := lenL hv
  have h2 := @idxL v xs hv
  have h3 := c29 hv hl 524288
  refine runs_W (m := 39) Try.func11 rfl rfl (Nat.le_of_ble_eq_true rfl) ?_
  simp only [alOf]
  apply w_seq
  apply w_reg [0, 1] rfl; intro Q hQ
  simp (disch := omega) [wrap64, wrapU, h1, h2, h3, eo_one T22']
  apply after_some rfl; apply hQ; clear hQ Q
  apply w_seq
  apply w_seq
  apply w_reg [0, 1, 18] rfl; intro Q hQ
  simp (disch := omega) [wrap64, wrapU, h1, h2, h3, eo_one T22']
  repeat' ((first | with_reducible apply after_guard | with_reducible apply after_guardD) <;> (intro hg; have hg' := hg; try simp at hg') <;> simp (disch := omega) [wrap64, wrapU, h1, h2, h3, eo_one T22', *])
  all_goals (apply after_some rfl; apply hQ; clear hQ Q)
  all_goals
    skip
    apply w_cond _ rfl <;> intro hc
    · first
      | (simp at hc; done)
      | try simp at hc
        apply w_seq
        apply w_reg [4, 5] rfl; intro Q hQ
        simp (disch := omega) [wrap64, wrapU, h1, h2, h3, eo_one T22']
        apply after_some rfl; apply hQ; clear hQ Q
        apply w_ret
        repeat (first | with_reducible apply kseq_ret | with_reducible apply kloop_ret | with_reducible apply kblock_ret)
        apply fin_pure rfl
        · simp_all [WV, WeightsR, IV]
        · exact WV_pure _
    · first
      | (simp at hc; done)
      | try simp at hc
        apply w_skip
        apply w_seq
        apply w_reg [0, 1, 6] rfl; intro Q hQ
        simp (disch := omega) [wrap64, wrapU, h1, h2, h3, eo_one T22']
        apply after_some rfl; apply hQ; clear hQ Q
        apply w_seq
        apply w_seq
        apply w_reg [0, 1, 6, 7] rfl; intro Q hQ
        simp (disch := omega) [wrap64, wrapU, h1, h2, h3, eo_one T22']
        apply after_some rfl; apply hQ; clear hQ Q
        apply w_block
        -- LOOP live [0, 1, 6, 7]
        refine w_loop (fun m al H => ∃ (i : Nat) (u : V), m = xs.length - i ∧ i ≤ xs.length ∧ Mut H u ((xs.take i).map (· + s)) ∧ al = [(0, v), (1, .int .i64 s), (6, u), (7, .int .i64 (i : Int))]) (xs.length) ?_ ?_
        · exact ⟨0, .nil, by simp, by omega, .nil, rfl⟩
        rintro m al H ⟨j, u, hm2, hj, hU, rfl⟩
        have hW : Within xs 524288 = true := by simp_all
        obtain ⟨hI, hL1, hL2⟩ := within_inside hW
        have hX := inside_get hI
        have hs1 : 0 ≤ s := by omega
        have hs2 : s ≤ 1024 := by omega
        have hB : ∀ (hj : j < xs.length), appendV Try.prog (H ++ [newBlk 1 [.int .i64 (xs[j] + s)]]) 22 u (.ms 1 H.length 1 0 1 true) = some (appL Try.prog 22 H u (xs[j] + s), appH Try.prog 22 H u (xs[j] + s)) := fun hj => hU.append_eq T22 _ (by simp; omega)
        have hD : ∀ (hj : j < xs.length), IntKind.i64.wrap (xs[j] + s) = xs[j] + s := fun hj => by
          have h9 := rangeN hX hj
          exact wrap64 (by omega) (by omega)
        apply w_seq
        apply w_seq
        apply w_reg [0, 1, 6, 7, 22] rfl; intro Q hQ
        simp (disch := omega) [wrap64, wrapU, h1, h2, h3, eo_one T22', hB, hD]
        apply after_some rfl; apply hQ; clear hQ Q
        apply w_cond _ rfl <;> intro hc
        · first
          | (simp at hc; done)
          | try simp at hc
            apply w_skip
            apply w_seq
            apply w_block
            apply w_reg [0, 1, 6, 7] rfl; intro Q hQ
            simp (disch := omega) [wrap64, wrapU, h1, h2, h3, eo_one T22', hB, hD]
            apply after_some rfl; apply hQ; clear hQ Q
            apply w_reg [0, 1, 6, 7] rfl; intro Q hQ
            simp (disch := omega) [wrap64, wrapU, h1, h2, h3, eo_one T22', hB, hD]
            apply after_some rfl; apply hQ; clear hQ Q
            repeat (with_reducible apply kblock_nrm)
            refine kloop_back (xs.length - (j + 1)) (by omega) ⟨j + 1, _, rfl, by omega, ?_, rfl⟩
            rw [List.take_succ_eq_append_getElem hc, List.map_append]
            exact hU.append_mut T22 _ (by simp; omega)
        · first
          | (simp at hc; done)
          | try simp at hc
            apply w_exit
            repeat (first | with_reducible apply kseq_exit | with_reducible apply kloop_exit | with_reducible apply kblock_exit | with_reducible apply kblock_pass (by decide))
            have hz : j = xs.length := by omega
            subst hz
            rw [List.take_length] at hU
            have h4 := call_mut_snap rfl hU (f24_runs (IV_is _) (by simp; omega)) rfl
            obtain ⟨H2, h5⟩ := call_mut_mv (f := 18) rfl hU (f18_runs (IV_is _) (by simp; omega) (fun x hx => by
              obtain ⟨y, hy, rfl⟩ := List.mem_map.1 hx
              have := hX y hy
              omega))
            clear hB hD
            apply w_seq
            apply w_seq
            apply w_reg [6, 36] rfl; intro Q hQ
            simp (disch := omega) [wrap64, wrapU, h1, h2, h3, eo_one T22', h4, h5]
            apply after_some rfl; apply hQ; clear hQ Q
            apply w_cond _ rfl <;> intro hc
            · first
              | (simp at hc; done)
              | try simp at hc
                apply w_seq
                apply w_reg [4, 5] rfl; intro Q hQ
                simp (disch := omega) [wrap64, wrapU, h1, h2, h3, eo_one T22', h4, h5]
                apply after_some rfl; apply hQ; clear hQ Q
                apply w_ret
                repeat (first | with_reducible apply kseq_ret | with_reducible apply kloop_ret | with_reducible apply kblock_ret)
                apply fin_pure rfl
                · simp_all [WV, WeightsR, IV]
                · exact WV_pure _
            · first
              | (simp at hc; done)
              | try simp at hc
                apply w_skip
                apply w_seq
                apply w_reg [4, 5] rfl; intro Q hQ
                simp (disch := omega) [wrap64, wrapU, h1, h2, h3, eo_one T22', h4, h5]
                apply after_some rfl; apply hQ; clear hQ Q
                apply w_ret
                repeat (first | with_reducible apply kseq_ret | with_reducible apply kloop_ret | with_reducible apply kblock_ret)
                apply fin_pure rfl
                · have hw : WeightsR xs s = (Lowest (xs.map (· + s)), 0) := by
                    unfold WeightsR
                    rw [if_neg (by rw [hW]; simp; omega), if_neg hc]
                  rw [hw]; rfl
                · exact WV_pure _

/-- diorama/learn.Weights -/
theorem f10_runs {v : V} {xs : List Int} (hv : IsInts v xs) (hl : xs.length < 4611686018427387904) (s : Int) : Runs LE 10 [v, .int .i64 s] (WV (WeightsR xs s)) := by
  have h1 := lenL hv
  have h2 := @idxL v xs hv
  have h3 := c25 hv hl 524288
  refine runs_W (m := 39) Try.func10 rfl rfl (Nat.le_of_ble_eq_true rfl) ?_
  simp only [alOf]
  apply w_seq
  apply w_reg [0, 1] rfl; intro Q hQ
  simp (disch := omega) [wrap64, wrapU, h1, h2, h3]
  apply after_some rfl; apply hQ; clear hQ Q
  apply w_seq
  apply w_seq
  apply w_reg [0, 1, 18] rfl; intro Q hQ
  simp (disch := omega) [wrap64, wrapU, h1, h2, h3]
  repeat' ((first | with_reducible apply after_guard | with_reducible apply after_guardD) <;> (intro hg; have hg' := hg; try simp at hg') <;> simp (disch := omega) [wrap64, wrapU, h1, h2, h3, *])
  all_goals (apply after_some rfl; apply hQ; clear hQ Q)
  all_goals
    skip
    apply w_cond _ rfl <;> intro hc
    · first
      | (simp at hc; done)
      | try simp at hc
        apply w_seq
        apply w_reg [4, 5] rfl; intro Q hQ
        simp (disch := omega) [wrap64, wrapU, h1, h2, h3]
        apply after_some rfl; apply hQ; clear hQ Q
        apply w_ret
        repeat (first | with_reducible apply kseq_ret | with_reducible apply kloop_ret | with_reducible apply kblock_ret)
        apply fin_pure rfl
        · simp_all [WV, WeightsR, IV]
        · exact WV_pure _
    · first
      | (simp at hc; done)
      | try simp at hc
        apply w_skip
        apply w_seq
        have hW : Within xs 524288 = true := by simp_all
        obtain ⟨hI, hL1, hL2⟩ := within_inside hW
        have hX := inside_get hI
        have hs1 : 0 ≤ s := by omega
        have hs2 : s ≤ 1024 := by omega
        have hne : xs ≠ [] := by intro h; subst h; simp at hL1
        have h6 := c26 hv hne (by omega) []
        rw [List.nil_append, List.length_nil] at h6
        have h7 := fun (n : Nat) => @ms_len Try.prog 22 3 T22 0 n 0 xs.length false
        have h8 := @ms_idx Try.prog 22 3 T22 0 xs.length xs.length
        apply w_reg [1, 6] rfl; intro Q hQ
        simp (disch := omega) [wrap64, wrapU, h1, h2, h3, h6, h7, h8]
        apply after_some rfl; apply hQ; clear hQ Q
        apply w_seq
        apply w_seq
        apply w_reg [1, 6, 22, 23] rfl; intro Q hQ
        simp (disch := omega) [wrap64, wrapU, h1, h2, h3, h6, h7, h8]
        apply after_some rfl; apply hQ; clear hQ Q
        apply w_block
        -- LOOP live [1, 6, 22, 23]
        refine w_loop (fun m al H => ∃ (i : Nat), m = xs.length - i ∧ i ≤ xs.length ∧ getW H 0 xs.length = some (cellsI (upTo (· + s) xs i)) ∧ al = [(1, .int .i64 s), (6, .ms 1 0 xs.length 0 xs.length false), (22, .int .i64 (xs.length : Int)), (23, .int .i64 (i : Int))]) (xs.length) ?_ ?_
        · exact ⟨0, by simp, by omega, by rw [upTo_zero]; simp [getW, newBlk], rfl⟩
        rintro m al H ⟨j, hm2, hj, hU, rfl⟩
        have hB : ∀ (hi : j < xs.length), behind H (.mp 0 xs.length j) = some (.int .i64 xs[j] :: cellsI (xs.drop (j + 1))) := fun hi => behind_upTo _ hU hi
        have hD : ∀ (hj : j < xs.length), IntKind.i64.wrap (xs[j] + s) = xs[j] + s := fun hj => by
          have h9 := rangeN hX hj
          exact wrap64 (by omega) (by omega)
        have hE : ∀ (hi : j < xs.length), j + 1 ≤ xs.length := fun hi => hi
        have hS : ∀ (hi : j < xs.length), splice (cellsI (upTo (· + s) xs j)) j [.int .i64 (xs[j] + s)] = cellsI (upTo (· + s) xs (j + 1)) := fun hi => splice_upTo (· + s) hi
        apply w_seq
        apply w_reg [1, 6, 22, 23, 24] rfl; intro Q hQ
        simp (disch := omega) [wrap64, wrapU, h1, h2, h3, h6, h7, h8, hB, hD, hE, hS, hU, cellsI_len, upTo_len]
        apply after_some rfl; apply hQ; clear hQ Q
        apply w_seq
        apply w_cond _ rfl <;> intro hc
        · first
          | (simp at hc; done)
          | try simp at hc
            apply w_skip
            apply w_seq
            apply w_block
            apply w_seq
            apply w_reg [1, 6, 7, 22, 23] rfl; intro Q hQ
            simp (disch := omega) [wrap64, wrapU, h1, h2, h3, h6, h7, h8, hB, hD, hE, hS, hU, cellsI_len, upTo_len]
            apply after_some rfl; apply hQ; clear hQ Q
            apply w_reg [1, 6, 22, 23] rfl; intro Q hQ
            simp (disch := omega) [wrap64, wrapU, h1, h2, h3, h6, h7, h8, hB, hD, hE, hS, hU, cellsI_len, upTo_len]
            apply after_some rfl; apply hQ; clear hQ Q
            apply w_reg [1, 6, 22, 23] rfl; intro Q hQ
            simp (disch := omega) [wrap64, wrapU, h1, h2, h3, h6, h7, h8, hB, hD, hE, hS, hU, cellsI_len, upTo_len]
            apply after_some rfl; apply hQ; clear hQ Q
            repeat (with_reducible apply kblock_nrm)
            refine kloop_back (xs.length - (j + 1)) (by omega) ⟨j + 1, rfl, by omega, ?_, rfl⟩
            exact getW_set (getW_lt hU)
        · first
          | (simp at hc; done)
          | try simp at hc
            apply w_exit
            repeat (first | with_reducible apply kseq_exit | with_reducible apply kloop_exit | with_reducible apply kblock_exit | with_reducible apply kblock_pass (by decide))
            have hz : j = xs.length := by omega
            subst hz
            rw [upTo_all] at hU
            have hM : Mut H (.ms 1 0 xs.length 0 xs.length false) (xs.map (· + s)) := .inr ⟨0, xs.length, by rw [List.length_map], hU, by simpa using hne⟩
            have h4 := call_mut_snap rfl hM (f27_runs (IV_is _) (by simp; omega)) rfl
            have hne2 : xs.map (· + s) ≠ [] := by simpa using hne
            obtain ⟨H2, h5⟩ := call_mut_mv (f := 28) rfl hM (f28_runs (IV_is _) hne2 (by simp; omega) (fun x hx => by
              obtain ⟨y, hy, rfl⟩ := List.mem_map.1 hx
              have := hX y hy
              omega))
            clear hB hD hE hS
            apply w_seq
            apply w_seq
            apply w_reg [6, 36] rfl; intro Q hQ
            simp (disch := omega) [wrap64, wrapU, h1, h2, h3, h4, h5]
            apply after_some rfl; apply hQ; clear hQ Q
            apply w_cond _ rfl <;> intro hc
            · first
              | (simp at hc; done)
              | try simp at hc
                apply w_seq
                apply w_reg [4, 5] rfl; intro Q hQ
                simp (disch := omega) [wrap64, wrapU, h1, h2, h3, h4, h5]
                apply after_some rfl; apply hQ; clear hQ Q
                apply w_ret
                repeat (first | with_reducible apply kseq_ret | with_reducible apply kloop_ret | with_reducible apply kblock_ret)
                apply fin_pure rfl
                · simp_all [WV, WeightsR, IV]
                · exact WV_pure _
            · first
              | (simp at hc; done)
              | try simp at hc
                apply w_skip
                apply w_seq
                apply w_reg [4, 5] rfl; intro Q hQ
                simp (disch := omega) [wrap64, wrapU, h1, h2, h3, h4, h5]
                apply after_some rfl; apply hQ; clear hQ Q
                apply w_ret
                repeat (first | with_reducible apply kseq_ret | with_reducible apply kloop_ret | with_reducible apply kblock_ret)
                apply fin_pure rfl
                · have hw : WeightsR xs s = (Lowest (xs.map (· + s)), 0) := by
                    unfold WeightsR
                    rw [if_neg (by rw [hW]; simp; omega), if_neg hc]
                  rw [hw]
                  have hn : Lowest (xs.map (· + s)) ≠ [] := by simpa [Lowest] using hne
                  simp only [WV, IV, if_neg hn]
                · exact WV_pure _

theorem c11 {v : V} {xs : List Int} (hv : IsInts v xs) (hl : xs.length < 4611686018427387904) (s : Int) (H : Heap) : call LE 11 [v, .int .i64 s] H = some (WV (WeightsR xs s), H) :=
  call_pure rfl (.inr rfl) (pureL_cons hv.pure rfl) (f11_runs hv hl s) H
theorem c10 {v : V} {xs : List Int} (hv : IsInts v xs) (hl : xs.length < 4611686018427387904) (s : Int) (H : Heap) : call LE 10 [v, .int .i64 s] H = some (WV (WeightsR xs s), H) :=
  call_pure rfl (.inr rfl) (pureL_cons hv.pure rfl) (f10_runs hv hl s) H

end Go.Ae.Ln

namespace Go.Ae.Ln
open Go.Proofs

theorem lives_run : (match acall LE 200 14 [] [] with
    | some (.bool b, []) => b
    | _ => false) = true := by kernel_rfl

theorem c14 (H : Heap) : call LE 14 [] H = some (.bool true, H) := by
  have h := lives_run
  have h0 : acall LE 200 14 [] [] = some (.bool true, []) := by
    split at h
    · rename_i b hq
      rw [hq, h]
    · cases h
  have h1 : call LE 14 [] [] = some (.bool true, []) := call_of h0
  have hm : LE.mode 14 = .snap := rfl
  have hp : V.pureL ([] : List V) = true := rfl
  rw [call_eq, callFn_eq, leX] at h1 ⊢
  simp only [hm, hp, if_true] at h1 ⊢
  cases hr : runFn LE (exec LE) 14 [] [] with
  | none => rw [hr] at h1; cases h1
  | some p =>
    rw [hr] at h1
    simp only [Option.bind_some] at h1 ⊢
    cases hf : frzV 12 p.2 p.1 with
    | none => rw [hf] at h1; cases h1
    | some q =>
      rw [hf] at h1
      simp only [Option.bind_some] at h1 ⊢
      split at h1
      · rename_i hq
        rw [if_pos hq]
        injection h1 with h1
        injection h1 with h1 _
        rw [h1]
      · cases h1
end Go.Ae.Ln
