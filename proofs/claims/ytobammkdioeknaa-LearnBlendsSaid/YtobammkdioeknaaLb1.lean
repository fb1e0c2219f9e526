/-
  The law of blends.
-/
import Derived.Test.YtobammkdioeknaaLw1
set_option linter.unusedVariables false
set_option linter.unusedSimpArgs false
namespace Go.Ae.Ln
open Go.Proofs

theorem pure_take : ∀ (k : Nat) (l : List V), V.pureL l = true → V.pureL (l.take k) = true
  | 0, _, _ => rfl
  | _ + 1, [], _ => rfl
  | k + 1, v :: r, h => by
    simp only [V.pureL, Bool.and_eq_true, List.take_succ_cons] at h ⊢
    exact ⟨h.1, pure_take k r h.2⟩
theorem pure_drop : ∀ (k : Nat) (l : List V), V.pureL l = true → V.pureL (l.drop k) = true
  | 0, _, h => h
  | _ + 1, [], _ => rfl
  | k + 1, v :: r, h => by
    simp only [V.pureL, Bool.and_eq_true, List.drop_succ_cons] at h ⊢
    exact pure_drop k r h.2
theorem pure_chunk (sz : Nat) : ∀ (n : Nat) (l : List V), V.pureL l = true → V.pureLL (chunk sz n l) = true
  | 0, _, _ => rfl
  | n + 1, l, h => by
    simp only [chunk, V.pureLL, Bool.and_eq_true]
    exact ⟨pure_take sz l h, pure_chunk sz n _ (pure_drop sz l h)⟩

theorem frz_blk {H : Heap} {b ver off sz len : Nat} {full : Bool} {cs : List V} (h : getW H b ver = some cs) (hl : off + len * sz ≤ cs.length) (hs : 0 < sz) (hp : V.pureL cs = true) : frzV 12 H (.ms sz b ver off len full) = some (.sl full (chunk sz len (cs.drop off)), H.set b none) := by
  unfold frzV
  simp only [V.pure, Bool.false_eq_true, if_false, h, if_pos (And.intro hl hs), frzLL_pure 10 _ _ (pure_chunk sz len _ (pure_drop off cs hp))]

def shareL (p q : Int) : List (Int × Int) := [(MakeF (Around p (1 + Around q 20 + 1)) (1 + Around q 20)).1, (0, 0), (1, 1), (3, 2), (-1, 2), (2, 4), (1, 1024), (1, 1025)]
def shareV (p q : Int) : V := .sl true ((shareL p q).map fun x => [.int .i64 x.1, .int .i64 x.2])

theorem lowest_len (xs : List Int) : (Lowest xs).length = xs.length := by simp [Lowest]

theorem blend_ok {xs ys : List Int} {p q : Int} (h : (BlendR xs ys p q).2 = 0) : Right (BlendR xs ys p q).1 = true := by
  unfold BlendR at h ⊢
  split at h
  · simp at h
  · rename_i h1
    rw [if_neg h1]
    split at h
    · simp at h
    · rename_i h2
      rw [if_neg h2]
      split at h
      · rename_i h3
        rw [if_pos h3]
        have hx : Right xs = true := by cases hx : Right xs with | true => rfl | false => exact absurd (Or.inl hx) h2
        have hy : Right ys = true := by cases hy : Right ys with | true => rfl | false => exact absurd (Or.inr (Or.inl hy)) h2
        have hl : xs.length = ys.length := by omega
        have hp : 0 ≤ p ∧ p ≤ max q 1 ∧ max q 1 ≤ 1024 := by
          refine ⟨?_, ?_, ?_⟩
          · rcases Int.lt_or_le p 0 with h | h
            · exact absurd (Or.inr (Or.inr (Or.inr (Or.inl h)))) h2
            · exact h
          · rcases Int.lt_or_le (max q 1) p with h | h
            · exact absurd (Or.inr (Or.inr (Or.inr (Or.inr (Or.inl h))))) h2
            · exact h
          · rcases Int.lt_or_le 1024 (max q 1) with h | h
            · exact absurd (Or.inr (Or.inr (Or.inr (Or.inr (Or.inr h))))) h2
            · exact h
        obtain ⟨_, _, _, a4, a5, a6⟩ := right_props hx
        obtain ⟨_, _, _, b4, b5, b6⟩ := right_props hy
        have hZ := bl_range hl hx hy hp.1 hp.2.1 hp.2.2
        have hsum : 1 ≤ (bl xs ys p (max q 1)).sum := by
          unfold bl
          rw [sum_bl _ _ _ _ xs ys hl, ← a4, ← b4]
          have e : (max q 1 - p) * sumW xs * sumW ys + p * sumW ys * sumW xs = max q 1 * (sumW xs * sumW ys) := by
            simp only [Int.sub_mul, Int.mul_assoc]
            rw [Int.mul_comm (sumW ys)]; omega
          rw [e]
          exact Int.mul_pos (by omega) (Int.mul_pos a5 b5)
        obtain ⟨g, hg, hG⟩ := lowest_spec (fun z hz => (hZ z hz).1) hsum
        have hs : g * (Lowest (bl xs ys p (max q 1))).sum = (bl xs ys p (max q 1)).sum := by rw [← sum_map_mul, hG]
        have h5 : 1 ≤ (Lowest (bl xs ys p (max q 1))).sum := by
          rcases (by omega : 0 < (Lowest (bl xs ys p (max q 1))).sum ∨ (Lowest (bl xs ys p (max q 1))).sum ≤ 0) with h | h
          · omega
          · have : g * (Lowest (bl xs ys p (max q 1))).sum ≤ 0 := Int.mul_nonpos_of_nonneg_of_nonpos (by omega) h
            omega
        obtain ⟨i1, i2, i3⟩ := within_inside h3
        exact (right_small i2 i3 (inside_get i1) (by omega) h5).1
      · simp at h

theorem blend_len (xs ys : List Int) (p q : Int) : (BlendR xs ys p q).1.length ≤ xs.length := by
  unfold BlendR
  split
  · simp
  · split
    · simp
    · split
      · rw [lowest_len]; simp [bl]; omega
      · simp

/-- A blend that is a multiple of weights. -/
theorem blend_mul {xs ys zs : List Int} {p q : Int} {t : Nat} (hl : xs.length = ys.length) (hx : Right xs = true) (hy : Right ys = true) (hV : VF p q = true) (hp : 0 ≤ p) (hq : p ≤ max q 1) (hq2 : max q 1 ≤ 1024)
    (ht : 1 ≤ t) (hb : bl xs ys p (max q 1) = zs.map (· * (t : Int))) (hz : Right zs = true) : BlendR xs ys p q = (Lowest zs, 0) := by
  obtain ⟨z1, z2, z3, z4, z5, z6⟩ := right_props hz
  have hL : Lowest (bl xs ys p (max q 1)) = Lowest zs := by rw [hb]; exact lowest_mul ht fun x hx => (z3 x hx).1
  have hW : Within (Lowest zs) 1048576 = true := by
    simp only [Within, Inside, Bool.and_eq_true, List.all_eq_true, decide_eq_true_eq, lowest_len]
    exact ⟨lowest_range z3, z1, z2⟩
  unfold BlendR
  rw [if_neg (by omega), if_neg (by simp [hx, hy, hV]; omega), hL, if_pos hW]

theorem zip_fst {f : Int → Int → Int} {g : Int → Int} (hf : ∀ x y, f x y = g x) : ∀ (xs ys : List Int), xs.length = ys.length → List.zipWith f xs ys = xs.map g
  | [], [], _ => rfl
  | x :: r, y :: r', h => by rw [List.zipWith_cons_cons, List.map_cons, hf, zip_fst hf r r' (by simpa using h)]
  | [], _ :: _, h => by simp at h
  | _ :: _, [], h => by simp at h
theorem zip_snd {f : Int → Int → Int} {g : Int → Int} (hf : ∀ x y, f x y = g y) : ∀ (xs ys : List Int), xs.length = ys.length → List.zipWith f xs ys = ys.map g
  | [], [], _ => rfl
  | x :: r, y :: r', h => by rw [List.zipWith_cons_cons, List.map_cons, hf, zip_snd hf r r' (by simpa using h)]
  | [], _ :: _, h => by simp at h
  | _ :: _, [], h => by simp at h
theorem zip_same {f : Int → Int → Int} : ∀ (xs : List Int), List.zipWith f xs xs = xs.map fun x => f x x
  | [] => rfl
  | x :: r => by rw [List.zipWith_cons_cons, List.map_cons, zip_same r]

theorem blend_zero {xs ys : List Int} (hl : xs.length = ys.length) (hx : Right xs = true) (hy : Right ys = true) : BlendR xs ys 0 0 = (Lowest xs, 0) := by
  obtain ⟨_, _, _, b4, b5, b6⟩ := right_props hy
  obtain ⟨t, ht⟩ := Int.eq_ofNat_of_zero_le (show 0 ≤ sumW ys by omega)
  refine blend_mul (t := t) hl hx hy rfl (by omega) (by omega) (by omega) (by omega) ?_ hx
  unfold bl
  rw [← ht]
  exact zip_fst (fun x y => by rw [show max (0 : Int) 1 = 1 from rfl]; simp) xs ys hl

theorem blend_one {xs ys : List Int} (hl : xs.length = ys.length) (hx : Right xs = true) (hy : Right ys = true) : BlendR xs ys 1 1 = (Lowest ys, 0) := by
  obtain ⟨_, _, _, b4, b5, b6⟩ := right_props hx
  obtain ⟨t, ht⟩ := Int.eq_ofNat_of_zero_le (show 0 ≤ sumW xs by omega)
  refine blend_mul (t := t) hl hx hy rfl (by omega) (by omega) (by omega) (by omega) ?_ hy
  unfold bl
  rw [← ht]
  exact zip_snd (fun x y => by rw [show max (1 : Int) 1 = 1 from rfl]; simp) xs ys hl

theorem blend_same {xs : List Int} {p q : Int} (hx : Right xs = true) (hV : VF p q = true) (hp : 0 ≤ p) (hq : p ≤ max q 1) (hq2 : max q 1 ≤ 1024) : BlendR xs xs p q = (Lowest xs, 0) := by
  obtain ⟨_, _, _, b4, b5, b6⟩ := right_props hx
  have hm : 1 ≤ max q 1 * sumW xs := Int.mul_pos (by omega) (by omega)
  obtain ⟨t, ht⟩ := Int.eq_ofNat_of_zero_le (show 0 ≤ max q 1 * sumW xs by omega)
  refine blend_mul (t := t) rfl hx hx hV hp hq hq2 (by omega) ?_ hx
  unfold bl
  rw [← ht, zip_same]
  refine List.map_congr_left fun x _ => ?_
  simp only [Int.sub_mul]
  have e : max q 1 * x * sumW xs = x * (max q 1 * sumW xs) := by ac_rfl
  omega

theorem ms_idx0 {e : TypeId} {ty : TypeId} {i2 : TI} (h1 : tinf Try.prog ty = some ⟨.slice e, 1, 24, .nil⟩) (h2 : tinf Try.prog e = some i2) {b ver off len i : Nat} {full : Bool} (hi : i < len) : indexAddrV Try.prog ty (.ms i2.size b ver off len full) (i : Int) = some (.mp b ver (off + i * i2.size)) := by
  simp [indexAddrV, sizeT, h1, h2, hi]

/-- diorama/dioramalaw27.shares -/
theorem f15_runs {p q : Int} (hp : I64 p) (hq : I64 q) : Runs LE 15 [.int .i64 p, .int .i64 q] (shareV p q) := by
  have r2 := around_range (z := q) (most := 20) (by omega)
  have r3 := around_range (z := p) (most := 1 + Around q 20 + 1) (by omega)
  have h2 : ∀ H, call LE 7 [.int .i64 q, .int .i64 20] H = some (.int .i64 (Around q 20), H) := fun H => c7 hq.1 hq.2
  have h3 : ∀ H, call LE 7 [.int .i64 p, .int .i64 (1 + Around q 20 + 1)] H = some (.int .i64 (Around p (1 + Around q 20 + 1)), H) := fun H => c7 hp.1 hp.2
  have h6 := c19 (p := Around p (1 + Around q 20 + 1)) (q := 1 + Around q 20) (by omega) (by omega) (by omega) (by omega)
  refine runs_W (m := 29) Try.func15 rfl rfl (Nat.le_of_ble_eq_true rfl) ?_
  simp only [alOf]
  apply w_seq
  apply w_reg [0, 1] rfl; intro Q hQ
  simp (disch := omega) [wrap64, wrapU, V.pureL, V.pure, splice, leW, wrl, h2, h3, h6, buildR0, buildR, eop, fillV, List.replicate]
  apply after_some rfl; apply hQ; clear hQ Q
  apply w_seq
  apply w_reg [0, 5] rfl; intro Q hQ
  simp (disch := omega) [wrap64, wrapU, V.pureL, V.pure, splice, leW, wrl, h2, h3, h6, buildR0, buildR, eop, fillV, List.replicate]
  apply after_some rfl; apply hQ; clear hQ Q
  apply w_seq
  apply w_reg [6] rfl; intro Q hQ
  simp (disch := omega) [wrap64, wrapU, V.pureL, V.pure, splice, leW, wrl, h2, h3, h6, buildR0, buildR, eop, fillV, List.replicate]
  apply after_some rfl; apply hQ; clear hQ Q
  apply w_seq
  apply w_reg [4] rfl; intro Q hQ
  simp (disch := omega) [wrap64, wrapU, V.pureL, V.pure, splice, leW, wrl, h2, h3, h6, buildR0, buildR, eop, fillV, List.replicate]
  apply after_some rfl; apply hQ; clear hQ Q
  apply w_ret
  repeat (first | with_reducible apply kseq_ret | with_reducible apply kloop_ret | with_reducible apply kblock_ret)
  refine fin_frz rfl (frz_blk (cs := [.int .i64 (MakeF (Around p (1 + Around q 20 + 1)) (1 + Around q 20)).1.1, .int .i64 (MakeF (Around p (1 + Around q 20 + 1)) (1 + Around q 20)).1.2, .int .i64 0, .int .i64 0, .int .i64 1, .int .i64 1, .int .i64 3, .int .i64 2, .int .i64 (-1), .int .i64 2, .int .i64 2, .int .i64 4, .int .i64 1, .int .i64 1024, .int .i64 1, .int .i64 1025]) ?_ (by simp) (by omega) rfl) rfl rfl
  simp

theorem c15 {p q : Int} (hp : I64 p) (hq : I64 q) (H : Heap) : call LE 15 [.int .i64 p, .int .i64 q] H = some (shareV p q, H) := call_pure rfl (.inr rfl) rfl (f15_runs hp hq) H

end Go.Ae.Ln

namespace Go.Ae.Ln
open Go.Proofs

theorem odd_len {xs : List Int} {a b : Int} (h : xs.length ≤ 100) : (Odd xs a b).length ≤ 101 := by
  unfold Odd; split
  · simp; omega
  · simp; omega
theorem cells_ms {sz b ver off len : Nat} {full : Bool} : (V.ms sz b ver off len full).cells = [.ms sz b ver off len full] := rfl
theorem one_ms {sz b ver off len : Nat} {full : Bool} : (V.ms sz b ver off len full).one = true := rfl

/-- diorama/dioramalaw27.LearnBlends -/
theorem f4_runs {v u : V} {xs ys : List Int} (hv : IsInts v xs) (hu : IsInts u ys) (hl : xs.length < 4611686018427387904) (hm : ys.length < 4611686018427387904) (hx : ∀ x ∈ xs, I64 x) (hy : ∀ x ∈ ys, I64 x) {n p q at_ by_ : Int} (hn : I64 n) (hp : I64 p) (hq : I64 q) (ha : I64 at_) (hb : I64 by_) : Runs LE 4 [v, u, .int .i64 n, .int .i64 p, .int .i64 q, .int .i64 at_, .int .i64 by_] (.bool true) := by
  have r1 := around_range (z := n) (most := 6) (by omega)
  have r2 := around_range (z := q) (most := 20) (by omega)
  have r3 := around_range (z := p) (most := 1 + Around q 20 + 1) (by omega)
  have h1 : ∀ H, call LE 7 [.int .i64 n, .int .i64 6] H = some (.int .i64 (Around n 6), H) := fun H => c7 hn.1 hn.2
  obtain ⟨k, hk⟩ := Int.eq_ofNat_of_zero_le (show 0 ≤ 1 + Around n 6 by omega)
  have h4 : ∀ H, call LE 6 [v, .int .i64 (1 + Around n 6), .int .i64 40] H = some (IV (Made xs k 40), H) := fun H => by
    rw [hk]; exact c6 hv hl hx k (by omega) (by omega) 40 H
  have h5 : ∀ H, call LE 6 [u, .int .i64 (1 + Around n 6), .int .i64 40] H = some (IV (Made ys k 40), H) := fun H => by
    rw [hk]; exact c6 hu hm hy k (by omega) (by omega) 40 H
  obtain ⟨a1, a2, a3⟩ := made_props xs k (by omega) (by omega) (most := 40) (by omega) (by omega)
  obtain ⟨b1, b2, b3⟩ := made_props ys k (by omega) (by omega) (most := 40) (by omega) (by omega)
  generalize Made xs k 40 = A at *
  generalize Made ys k 40 = B at *
  have hneA : A ≠ [] := by intro h; subst h; simp at a1; omega
  have hneB : B ≠ [] := by intro h; subst h; simp at b1; omega
  have h6 := c8 (IV_is A) hneA (by omega) ha hb
  have h7 := c8 (IV_is B) hneB (by omega) ha hb
  have h8 := c15 hp hq
  obtain ⟨rA, sA⟩ := right_small (by omega) (by omega) a2 (by omega) a3
  obtain ⟨rB, sB⟩ := right_small (by omega) (by omega) b2 (by omega) b3
  obtain ⟨P, Q, m1, m2, m3, m4, m5, m6, m7⟩ := make_small (p := Around p (1 + Around q 20 + 1)) (q := 1 + Around q 20) (by omega) (by omega) (by omega) (by omega)
  have hPQ : P ≤ Q := by
    have e1 : Around p (1 + Around q 20 + 1) * Q ≤ (1 + Around q 20) * Q := Int.mul_le_mul_of_nonneg_right (by omega) (by omega)
    rw [← m2, Int.mul_comm (1 + Around q 20)] at e1
    exact Int.le_of_mul_le_mul_right e1 (by omega)
  have hS : shareV p q = .sl true [[.int .i64 P, .int .i64 Q], [.int .i64 0, .int .i64 0], [.int .i64 1, .int .i64 1], [.int .i64 3, .int .i64 2], [.int .i64 (-1), .int .i64 2], [.int .i64 2, .int .i64 4], [.int .i64 1, .int .i64 1024], [.int .i64 1, .int .i64 1025]] := by
    simp only [shareV, shareL, m1]
    rfl
  rw [hS] at h8
  have g1 := c16 (IV_is A) (IV_is B) (by omega) (by omega) (p := 0) (q := 0) ⟨by omega, by omega⟩ ⟨by omega, by omega⟩
  rw [blend_zero (by omega) rA rB] at g1
  have g2 := c16 (IV_is A) (IV_is B) (by omega) (by omega) (p := 1) (q := 1) ⟨by omega, by omega⟩ ⟨by omega, by omega⟩
  rw [blend_one (by omega) rA rB] at g2
  have g3 := c16 (IV_is A) (IV_is A) (by omega) (by omega) (p := P) (q := Q) ⟨by omega, by omega⟩ ⟨by omega, by omega⟩
  rw [blend_same rA m7 m3 (by omega) (by omega)] at g3
  have g4 := c18 (IV_is A) (by omega) (fun x hx => by have := a2 x hx; omega)
  have g5 := c18 (IV_is B) (by omega) (fun x hx => by have := b2 x hx; omega)
  have g6 := c12 (IV_is (Lowest A)) (IV_is (Lowest A)) (by rw [lowest_len]; omega) (by rw [lowest_len]; omega)
  have g7 := c12 (IV_is (Lowest B)) (IV_is (Lowest B)) (by rw [lowest_len]; omega) (by rw [lowest_len]; omega)
  have hOA := odd_len (xs := A) (a := at_) (b := by_) (by omega)
  have hOB := odd_len (xs := B) (a := at_) (b := by_) (by omega)
  have hLV : ∀ i : Nat, i < 6 → ∃ b w1 w2 y1 y2 rest, behind [newBlk 2 [IV A, IV B], newBlk 2 [IV (Odd A at_ by_), IV B], newBlk 2 [IV A, IV (Odd B at_ by_)], newBlk 2 [.nil, .nil], newBlk 2 [IV (Odd A at_ by_), IV (Odd B at_ by_)], newBlk 2 [IV A, IV A], newBlk 6 [.ms 1 0 2 0 2 true, .ms 1 1 2 0 2 true, .ms 1 2 2 0 2 true, .ms 1 3 2 0 2 true, .ms 1 4 2 0 2 true, .ms 1 5 2 0 2 true]] (.mp 6 6 i) = some (.ms 1 b 2 0 2 true :: rest) ∧ behind [newBlk 2 [IV A, IV B], newBlk 2 [IV (Odd A at_ by_), IV B], newBlk 2 [IV A, IV (Odd B at_ by_)], newBlk 2 [.nil, .nil], newBlk 2 [IV (Odd A at_ by_), IV (Odd B at_ by_)], newBlk 2 [IV A, IV A], newBlk 6 [.ms 1 0 2 0 2 true, .ms 1 1 2 0 2 true, .ms 1 2 2 0 2 true, .ms 1 3 2 0 2 true, .ms 1 4 2 0 2 true, .ms 1 5 2 0 2 true]] (.mp b 2 0) = some [w1, w2] ∧ behind [newBlk 2 [IV A, IV B], newBlk 2 [IV (Odd A at_ by_), IV B], newBlk 2 [IV A, IV (Odd B at_ by_)], newBlk 2 [.nil, .nil], newBlk 2 [IV (Odd A at_ by_), IV (Odd B at_ by_)], newBlk 2 [IV A, IV A], newBlk 6 [.ms 1 0 2 0 2 true, .ms 1 1 2 0 2 true, .ms 1 2 2 0 2 true, .ms 1 3 2 0 2 true, .ms 1 4 2 0 2 true, .ms 1 5 2 0 2 true]] (.mp b 2 1) = some [w2] ∧ IsInts w1 y1 ∧ IsInts w2 y2 ∧ y1.length ≤ 1000 ∧ y2.length ≤ 1000 := by
    intro i hi
    match i, hi with
    | 0, _ => exact ⟨0, _, _, A, B, _, rfl, rfl, rfl, IV_is _, IV_is _, by omega, by omega⟩
    | 1, _ => exact ⟨1, _, _, Odd A at_ by_, B, _, rfl, rfl, rfl, IV_is _, IV_is _, by omega, by omega⟩
    | 2, _ => exact ⟨2, _, _, A, Odd B at_ by_, _, rfl, rfl, rfl, IV_is _, IV_is _, by omega, by omega⟩
    | 3, _ => exact ⟨3, _, _, [], [], _, rfl, rfl, rfl, .inl ⟨rfl, rfl⟩, .inl ⟨rfl, rfl⟩, by simp, by simp⟩
    | 4, _ => exact ⟨4, _, _, Odd A at_ by_, Odd B at_ by_, _, rfl, rfl, rfl, IV_is _, IV_is _, by omega, by omega⟩
    | 5, _ => exact ⟨5, _, _, A, A, _, rfl, rfl, rfl, IV_is _, IV_is _, by omega, by omega⟩
  have hSV : ∀ j : Nat, j < 8 → ∃ x y, I64 x ∧ I64 y ∧ indexAddrV Try.prog 35 (.sl true [[.int .i64 P, .int .i64 Q], [.int .i64 0, .int .i64 0], [.int .i64 1, .int .i64 1], [.int .i64 3, .int .i64 2], [.int .i64 (-1), .int .i64 2], [.int .i64 2, .int .i64 4], [.int .i64 1, .int .i64 1024], [.int .i64 1, .int .i64 1025]]) (j : Int) = some (.rp [.int .i64 x, .int .i64 y]) := by
    intro j hj
    match j, hj with
    | 0, _ => exact ⟨P, Q, ⟨by omega, by omega⟩, ⟨by omega, by omega⟩, by simp [indexAddrV, sizeT]⟩
    | 1, _ => exact ⟨0, 0, by simp [I64], by simp [I64], by simp [indexAddrV, sizeT]⟩
    | 2, _ => exact ⟨1, 1, by simp [I64], by simp [I64], by simp [indexAddrV, sizeT]⟩
    | 3, _ => exact ⟨3, 2, by simp [I64], by simp [I64], by simp [indexAddrV, sizeT]⟩
    | 4, _ => exact ⟨-1, 2, by simp [I64], by simp [I64], by simp [indexAddrV, sizeT]⟩
    | 5, _ => exact ⟨2, 4, by simp [I64], by simp [I64], by simp [indexAddrV, sizeT]⟩
    | 6, _ => exact ⟨1, 1024, by simp [I64], by simp [I64], by simp [indexAddrV, sizeT]⟩
    | 7, _ => exact ⟨1, 1025, by simp [I64], by simp [I64], by simp [indexAddrV, sizeT]⟩
  have hS0 : indexAddrV Try.prog 35 (.sl true [[.int .i64 P, .int .i64 Q], [.int .i64 0, .int .i64 0], [.int .i64 1, .int .i64 1], [.int .i64 3, .int .i64 2], [.int .i64 (-1), .int .i64 2], [.int .i64 2, .int .i64 4], [.int .i64 1, .int .i64 1024], [.int .i64 1, .int .i64 1025]]) 0 = some (.rp [.int .i64 P, .int .i64 Q]) := by simp [indexAddrV, sizeT]
  have hS8 : lenV Try.prog 35 (.sl true [[.int .i64 P, .int .i64 Q], [.int .i64 0, .int .i64 0], [.int .i64 1, .int .i64 1], [.int .i64 3, .int .i64 2], [.int .i64 (-1), .int .i64 2], [.int .i64 2, .int .i64 4], [.int .i64 1, .int .i64 1024], [.int .i64 1, .int .i64 1025]]) = some 8 := by simp [lenV]
  have hL6 : lenV Try.prog 34 (.ms 1 6 6 0 6 true) = some 6 := by simp [lenV]
  have i34 := @ms_idx0 26 34 _ t34 t26 6 6 0 6
  have i26 : ∀ b, indexAddrV Try.prog 26 (.ms 1 b 2 0 2 true) 0 = some (.mp b 2 0) := fun b => by simpa using @ms_idx0 22 26 _ t26 t22 b 2 0 2 0 true (by omega)
  have i261 : ∀ b, indexAddrV Try.prog 26 (.ms 1 b 2 0 2 true) 1 = some (.mp b 2 1) := fun b => by simpa using @ms_idx0 22 26 _ t26 t22 b 2 0 2 1 true (by omega)
  simp only [Nat.zero_add, Nat.mul_one] at i34
  generalize hSS : V.sl true [[V.int .i64 P, .int .i64 Q], [.int .i64 0, .int .i64 0], [.int .i64 1, .int .i64 1], [.int .i64 3, .int .i64 2], [.int .i64 (-1), .int .i64 2], [.int .i64 2, .int .i64 4], [.int .i64 1, .int .i64 1024], [.int .i64 1, .int .i64 1025]] = SS at *
  generalize hHH : ([newBlk 2 [IV A, IV B], newBlk 2 [IV (Odd A at_ by_), IV B], newBlk 2 [IV A, IV (Odd B at_ by_)], newBlk 2 [.nil, .nil], newBlk 2 [IV (Odd A at_ by_), IV (Odd B at_ by_)], newBlk 2 [IV A, IV A], newBlk 6 [.ms 1 0 2 0 2 true, .ms 1 1 2 0 2 true, .ms 1 2 2 0 2 true, .ms 1 3 2 0 2 true, .ms 1 4 2 0 2 true, .ms 1 5 2 0 2 true]] : Heap) = HH at *
  refine runs_W (m := 195) Try.func4 rfl rfl (Nat.le_of_ble_eq_true rfl) ?_
  simp only [alOf]
  apply w_seq
  apply w_reg [0, 1, 2, 3, 4, 5, 6] rfl; intro Q hQ
  simp (disch := omega) [wrap64, wrapU, V.pureL, V.pure, splice, leW, wrl, h1, h4, h5, h6, h7, h8, c14, WV, g1, g2, g3, g4, g5, g6, g7, hS0, hS8, hL6, i34, i26, i261, IV_pure, eop, fillV, List.replicate, cells_IV, one_IV, cells_ms, one_ms, buildR0, buildR]
  apply after_some rfl; apply hQ; clear hQ Q
  apply w_seq
  apply w_reg [0, 1, 3, 4, 5, 6, 15] rfl; intro Q hQ
  simp (disch := omega) [wrap64, wrapU, V.pureL, V.pure, splice, leW, wrl, h1, h4, h5, h6, h7, h8, c14, WV, g1, g2, g3, g4, g5, g6, g7, hS0, hS8, hL6, i34, i26, i261, IV_pure, eop, fillV, List.replicate, cells_IV, one_IV, cells_ms, one_ms, buildR0, buildR]
  apply after_some rfl; apply hQ; clear hQ Q
  apply w_seq
  apply w_reg [1, 3, 4, 5, 6, 15, 16] rfl; intro Q hQ
  simp (disch := omega) [wrap64, wrapU, V.pureL, V.pure, splice, leW, wrl, h1, h4, h5, h6, h7, h8, c14, WV, g1, g2, g3, g4, g5, g6, g7, hS0, hS8, hL6, i34, i26, i261, IV_pure, eop, fillV, List.replicate, cells_IV, one_IV, cells_ms, one_ms, buildR0, buildR]
  apply after_some rfl; apply hQ; clear hQ Q
  apply w_seq
  apply w_reg [3, 4, 5, 6, 16, 17] rfl; intro Q hQ
  simp (disch := omega) [wrap64, wrapU, V.pureL, V.pure, splice, leW, wrl, h1, h4, h5, h6, h7, h8, c14, WV, g1, g2, g3, g4, g5, g6, g7, hS0, hS8, hL6, i34, i26, i261, IV_pure, eop, fillV, List.replicate, cells_IV, one_IV, cells_ms, one_ms, buildR0, buildR]
  apply after_some rfl; apply hQ; clear hQ Q
  apply w_seq
  apply w_reg [3, 4, 16, 17, 18] rfl; intro Q hQ
  simp (disch := omega) [wrap64, wrapU, V.pureL, V.pure, splice, leW, wrl, h1, h4, h5, h6, h7, h8, c14, WV, g1, g2, g3, g4, g5, g6, g7, hS0, hS8, hL6, i34, i26, i261, IV_pure, eop, fillV, List.replicate, cells_IV, one_IV, cells_ms, one_ms, buildR0, buildR]
  apply after_some rfl; apply hQ; clear hQ Q
  apply w_seq
  apply w_reg [16, 17, 18, 19] rfl; intro Q hQ
  simp (disch := omega) [wrap64, wrapU, V.pureL, V.pure, splice, leW, wrl, h1, h4, h5, h6, h7, h8, c14, WV, g1, g2, g3, g4, g5, g6, g7, hS0, hS8, hL6, i34, i26, i261, IV_pure, eop, fillV, List.replicate, cells_IV, one_IV, cells_ms, one_ms, buildR0, buildR]
  apply after_some rfl; apply hQ; clear hQ Q
  apply w_seq
  apply w_seq
  apply w_reg [16, 17, 18, 19, 20] rfl; intro Q hQ
  simp (disch := omega) [wrap64, wrapU, V.pureL, V.pure, splice, leW, wrl, h1, h4, h5, h6, h7, h8, c14, WV, g1, g2, g3, g4, g5, g6, g7, hS0, hS8, hL6, i34, i26, i261, IV_pure, eop, fillV, List.replicate, cells_IV, one_IV, cells_ms, one_ms, buildR0, buildR]
  apply after_some rfl; apply hQ; clear hQ Q
  apply w_block
  -- LOOP live [16, 17, 18, 19, 20]
  refine w_loop (fun m al H => ∃ (i : Nat), m = 6 - i ∧ i ≤ 6 ∧ al = [(16, IV A), (17, IV B), (18, .ms 1 6 6 0 6 true), (19, SS), (20, .int .i64 (i : Int))] ∧ HH = H) (6) ?_ ?_
  · exact ⟨0, by omega, by omega, rfl, by rw [← hHH]⟩
  rintro m al H ⟨i, hm, hi, rfl, rfl⟩
  apply w_seq
  apply w_seq
  apply w_reg [16, 17, 18, 19, 20, 76] rfl; intro Q hQ
  simp (disch := omega) [wrap64, wrapU, V.pureL, V.pure, splice, leW, wrl, h1, h4, h5, h6, h7, h8, c14, WV, g1, g2, g3, g4, g5, g6, g7, hS0, hS8, hL6, i34, i26, i261, IV_pure, eop, fillV, List.replicate, cells_IV, one_IV, cells_ms, one_ms, buildR0, buildR]
  apply after_some rfl; apply hQ; clear hQ Q
  apply w_cond _ rfl <;> intro hc
  · first
    | (simp at hc; done)
    | try simp [Int.natCast_inj] at hc
      apply w_skip
      apply w_seq
      apply w_block
      apply w_seq
      apply w_reg [16, 17, 18, 19, 20, 21] rfl; intro Q hQ
      simp (disch := omega) [wrap64, wrapU, V.pureL, V.pure, splice, leW, wrl, h1, h4, h5, h6, h7, h8, c14, WV, g1, g2, g3, g4, g5, g6, g7, hS0, hS8, hL6, i34, i26, i261, IV_pure, eop, fillV, List.replicate, cells_IV, one_IV, cells_ms, one_ms, buildR0, buildR]
      apply after_some rfl; apply hQ; clear hQ Q
      apply w_block
      -- LOOP live [16, 17, 18, 19, 20, 21]
      refine w_loop (fun m al H => ∃ (j : Nat), m = 8 - j ∧ j ≤ 8 ∧ al = [(16, IV A), (17, IV B), (18, .ms 1 6 6 0 6 true), (19, SS), (20, .int .i64 (i : Int)), (21, .int .i64 (j : Int))] ∧ HH = H) (8) ?_ ?_
      · exact ⟨0, by omega, by omega, rfl, rfl⟩
      rintro m al H ⟨j, hm2, hj, rfl, rfl⟩
      apply w_seq
      apply w_seq
      apply w_reg [16, 17, 18, 19, 20, 21, 82] rfl; intro Q hQ
      simp (disch := omega) [wrap64, wrapU, V.pureL, V.pure, splice, leW, wrl, h1, h4, h5, h6, h7, h8, c14, WV, g1, g2, g3, g4, g5, g6, g7, hS0, hS8, hL6, i34, i26, i261, IV_pure, eop, fillV, List.replicate, cells_IV, one_IV, cells_ms, one_ms, buildR0, buildR]
      apply after_some rfl; apply hQ; clear hQ Q
      apply w_cond _ rfl <;> intro hc
      · first
        | (simp at hc; done)
        | try simp [Int.natCast_inj] at hc
          apply w_skip
          apply w_seq
          apply w_block
          apply w_seq
          obtain ⟨bb, w1, w2, y1, y2, rest, l1, l2, l3, q1, q2, q3, q4⟩ := hLV i (by omega)
          obtain ⟨x, y, ex, ey, hsv⟩ := hSV j (by omega)
          have e10 := c16 q1 q2 (by omega) (by omega) ex ey
          have e11 := c17 q1 q2 (by omega) (by omega) ex ey
          have hlen := blend_len y1 y2 x y
          have e12 := c12 (IV_is (BlendR y1 y2 x y).1) (IV_is (BlendR y1 y2 x y).1) (by omega) (by omega)
          have e13 := c13 (IV_is (BlendR y1 y2 x y).1) (by omega)
          have hR := @blend_ok y1 y2 x y
          have p1 := q1.pure
          have p2 := q2.pure
          apply w_drw [16, 17, 18, 19, 20, 21, 22, 23] rfl (by kernel_rfl) 0 rfl; intro Q hQ
          simp (disch := omega) [wrap64, wrapU, V.pureL, V.pure, splice, leW, wrl, h1, h4, h5, h6, h7, h8, c14, WV, g1, g2, g3, g4, g5, g6, g7, hS0, hS8, hL6, i34, i26, i261, IV_pure, eop, fillV, List.replicate, cells_IV, one_IV, cells_ms, one_ms, buildR0, buildR, l1, l2, l3, hsv, e10, e11, e12, e13, hR, p1, p2]
          apply after_some rfl; apply hQ; clear hQ Q
          apply w_seq
          apply w_drw [16, 17, 18, 19, 20, 21, 22, 23, 24, 25] rfl (by kernel_rfl) 0 rfl; intro Q hQ
          simp (disch := omega) [wrap64, wrapU, V.pureL, V.pure, splice, leW, wrl, h1, h4, h5, h6, h7, h8, c14, WV, g1, g2, g3, g4, g5, g6, g7, hS0, hS8, hL6, i34, i26, i261, IV_pure, eop, fillV, List.replicate, cells_IV, one_IV, cells_ms, one_ms, buildR0, buildR, l1, l2, l3, hsv, e10, e11, e12, e13, hR, p1, p2]
          apply after_some rfl; apply hQ; clear hQ Q
          apply w_seq
          apply w_reg [16, 17, 18, 19, 20, 21, 142] rfl; intro Q hQ
          simp (disch := omega) [wrap64, wrapU, V.pureL, V.pure, splice, leW, wrl, h1, h4, h5, h6, h7, h8, c14, WV, g1, g2, g3, g4, g5, g6, g7, hS0, hS8, hL6, i34, i26, i261, IV_pure, eop, fillV, List.replicate, cells_IV, one_IV, cells_ms, one_ms, buildR0, buildR, l1, l2, l3, hsv, e10, e11, e12, e13, hR, p1, p2]
          repeat' ((first | with_reducible apply after_guard | with_reducible apply after_guardD) <;> (intro hg; have hg' := hg; try simp at hg') <;> simp (disch := omega) [wrap64, wrapU, V.pureL, V.pure, splice, leW, wrl, h1, h4, h5, h6, h7, h8, c14, WV, g1, g2, g3, g4, g5, g6, g7, hS0, hS8, hL6, i34, i26, i261, IV_pure, eop, fillV, List.replicate, cells_IV, one_IV, cells_ms, one_ms, buildR0, buildR, l1, l2, l3, hsv, e10, e11, e12, e13, hR, p1, p2, *])
          all_goals (apply after_some rfl; apply hQ; clear hQ Q)
          all_goals
            skip
            apply w_cond _ rfl <;> intro hc
            · first
              | (simp at hc; done)
              | try simp [Int.natCast_inj] at hc
                apply w_seq
                apply w_reg [14] rfl; intro Q hQ
                simp (disch := omega) [wrap64, wrapU, V.pureL, V.pure, splice, leW, wrl, h1, h4, h5, h6, h7, h8, c14, WV, g1, g2, g3, g4, g5, g6, g7, hS0, hS8, hL6, i34, i26, i261, IV_pure, eop, fillV, List.replicate, cells_IV, one_IV, cells_ms, one_ms, buildR0, buildR, l1, l2, l3, hsv, e10, e11, e12, e13, hR, p1, p2]
                apply after_some rfl; apply hQ; clear hQ Q
                apply w_ret
                repeat (first | with_reducible apply kseq_ret | with_reducible apply kloop_ret | with_reducible apply kblock_ret)
                apply fin_pure rfl
                · rfl
                · rfl
            · first
              | (simp at hc; done)
              | try simp [Int.natCast_inj] at hc
                apply w_skip
                apply w_reg [16, 17, 18, 19, 20, 21] rfl; intro Q hQ
                simp (disch := omega) [wrap64, wrapU, V.pureL, V.pure, splice, leW, wrl, h1, h4, h5, h6, h7, h8, c14, WV, g1, g2, g3, g4, g5, g6, g7, hS0, hS8, hL6, i34, i26, i261, IV_pure, eop, fillV, List.replicate, cells_IV, one_IV, cells_ms, one_ms, buildR0, buildR, l1, l2, l3, hsv, e10, e11, e12, e13, hR, p1, p2]
                apply after_some rfl; apply hQ; clear hQ Q
                repeat (with_reducible apply kblock_nrm)
                exact kloop_back (8 - (j + 1)) (by omega) ⟨j + 1, rfl, by omega, rfl, rfl⟩
      · first
        | (simp at hc; done)
        | try simp [Int.natCast_inj] at hc
          apply w_exit
          repeat (first | with_reducible apply kseq_exit | with_reducible apply kloop_exit | with_reducible apply kblock_exit | with_reducible apply kblock_pass (by decide))
          apply w_reg [16, 17, 18, 19, 20] rfl; intro Q hQ
          simp (disch := omega) [wrap64, wrapU, V.pureL, V.pure, splice, leW, wrl, h1, h4, h5, h6, h7, h8, c14, WV, g1, g2, g3, g4, g5, g6, g7, hS0, hS8, hL6, i34, i26, i261, IV_pure, eop, fillV, List.replicate, cells_IV, one_IV, cells_ms, one_ms, buildR0, buildR]
          apply after_some rfl; apply hQ; clear hQ Q
          repeat (with_reducible apply kblock_nrm)
          exact kloop_back (6 - (i + 1)) (by omega) ⟨i + 1, rfl, by omega, rfl, rfl⟩
  · first
    | (simp at hc; done)
    | try simp [Int.natCast_inj] at hc
      apply w_exit
      repeat (first | with_reducible apply kseq_exit | with_reducible apply kloop_exit | with_reducible apply kblock_exit | with_reducible apply kblock_pass (by decide))
      apply w_seq
      apply w_reg [16, 17, 19, 26, 27] rfl; intro Q hQ
      simp (disch := omega) [wrap64, wrapU, V.pureL, V.pure, splice, leW, wrl, h1, h4, h5, h6, h7, h8, c14, WV, g1, g2, g3, g4, g5, g6, g7, hS0, hS8, hL6, i34, i26, i261, IV_pure, eop, fillV, List.replicate, cells_IV, one_IV, cells_ms, one_ms, buildR0, buildR]
      apply after_some rfl; apply hQ; clear hQ Q
      apply w_seq
      apply w_reg [16, 17, 19, 26, 27, 28, 29] rfl; intro Q hQ
      simp (disch := omega) [wrap64, wrapU, V.pureL, V.pure, splice, leW, wrl, h1, h4, h5, h6, h7, h8, c14, WV, g1, g2, g3, g4, g5, g6, g7, hS0, hS8, hL6, i34, i26, i261, IV_pure, eop, fillV, List.replicate, cells_IV, one_IV, cells_ms, one_ms, buildR0, buildR]
      apply after_some rfl; apply hQ; clear hQ Q
      apply w_seq
      apply w_reg [16, 17, 26, 27, 28, 29, 30, 31] rfl; intro Q hQ
      simp (disch := omega) [wrap64, wrapU, V.pureL, V.pure, splice, leW, wrl, h1, h4, h5, h6, h7, h8, c14, WV, g1, g2, g3, g4, g5, g6, g7, hS0, hS8, hL6, i34, i26, i261, IV_pure, eop, fillV, List.replicate, cells_IV, one_IV, cells_ms, one_ms, buildR0, buildR]
      apply after_some rfl; apply hQ; clear hQ Q
      apply w_seq
      apply w_seq
      apply w_reg [16, 17, 26, 28, 30, 175] rfl; intro Q hQ
      simp (disch := omega) [wrap64, wrapU, V.pureL, V.pure, splice, leW, wrl, h1, h4, h5, h6, h7, h8, c14, WV, g1, g2, g3, g4, g5, g6, g7, hS0, hS8, hL6, i34, i26, i261, IV_pure, eop, fillV, List.replicate, cells_IV, one_IV, cells_ms, one_ms, buildR0, buildR]
      repeat' ((first | with_reducible apply after_guard | with_reducible apply after_guardD) <;> (intro hg; have hg' := hg; try simp at hg') <;> simp (disch := omega) [wrap64, wrapU, V.pureL, V.pure, splice, leW, wrl, h1, h4, h5, h6, h7, h8, c14, WV, g1, g2, g3, g4, g5, g6, g7, hS0, hS8, hL6, i34, i26, i261, IV_pure, eop, fillV, List.replicate, cells_IV, one_IV, cells_ms, one_ms, buildR0, buildR, *])
      all_goals (apply after_some rfl; apply hQ; clear hQ Q)
      all_goals
        skip
        apply w_cond _ rfl <;> intro hc
        · first
          | (simp at hc; done)
          | try simp [Int.natCast_inj] at hc
            apply w_seq
            apply w_reg [14] rfl; intro Q hQ
            simp (disch := omega) [wrap64, wrapU, V.pureL, V.pure, splice, leW, wrl, h1, h4, h5, h6, h7, h8, c14, WV, g1, g2, g3, g4, g5, g6, g7, hS0, hS8, hL6, i34, i26, i261, IV_pure, eop, fillV, List.replicate, cells_IV, one_IV, cells_ms, one_ms, buildR0, buildR]
            apply after_some rfl; apply hQ; clear hQ Q
            apply w_ret
            repeat (first | with_reducible apply kseq_ret | with_reducible apply kloop_ret | with_reducible apply kblock_ret)
            apply fin_pure rfl
            · rfl
            · rfl
        · first
          | (simp at hc; done)
          | try simp [Int.natCast_inj] at hc
            apply w_skip
            apply w_seq
            apply w_reg [14] rfl; intro Q hQ
            simp (disch := omega) [wrap64, wrapU, V.pureL, V.pure, splice, leW, wrl, h1, h4, h5, h6, h7, h8, c14, WV, g1, g2, g3, g4, g5, g6, g7, hS0, hS8, hL6, i34, i26, i261, IV_pure, eop, fillV, List.replicate, cells_IV, one_IV, cells_ms, one_ms, buildR0, buildR]
            repeat' ((first | with_reducible apply after_guard | with_reducible apply after_guardD) <;> (intro hg; have hg' := hg; try simp at hg') <;> simp (disch := omega) [wrap64, wrapU, V.pureL, V.pure, splice, leW, wrl, h1, h4, h5, h6, h7, h8, c14, WV, g1, g2, g3, g4, g5, g6, g7, hS0, hS8, hL6, i34, i26, i261, IV_pure, eop, fillV, List.replicate, cells_IV, one_IV, cells_ms, one_ms, buildR0, buildR, *])
            all_goals (apply after_some rfl; apply hQ; clear hQ Q)
            all_goals
              skip
              apply w_ret
              repeat (first | with_reducible apply kseq_ret | with_reducible apply kloop_ret | with_reducible apply kblock_ret)
              apply fin_pure rfl
              · rfl
              · rfl

theorem c4 {v u : V} {xs ys : List Int} (hv : IsInts v xs) (hu : IsInts u ys) (hl : xs.length < 4611686018427387904) (hm : ys.length < 4611686018427387904) (hx : ∀ x ∈ xs, I64 x) (hy : ∀ x ∈ ys, I64 x) {n p q at_ by_ : Int} (hn : I64 n) (hp : I64 p) (hq : I64 q) (ha : I64 at_) (hb : I64 by_) : call LE 4 [v, u, .int .i64 n, .int .i64 p, .int .i64 q, .int .i64 at_, .int .i64 by_] [] = some (.bool true, []) := call_pure rfl (.inl rfl) (pureL_cons hv.pure (pureL_cons hu.pure rfl)) (f4_runs hv hu hl hm hx hy hn hp hq ha hb) []

end Go.Ae.Ln
