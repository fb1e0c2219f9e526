/-
 The maker's schemas.
-/
import Derived.Test.YtplhjndcokidfaaGreatDoorZ3
set_option linter.unusedVariables false
set_option linter.unusedSimpArgs false
set_option maxRecDepth 20000
set_option maxHeartbeats 4000000
namespace Go.Ae.Zd
open Go.Proofs
attribute [local simp] List.getElem?_cons_zero List.getElem?_cons_succ hxW hxB hxW0 hxWn hxB0 hxBn hxS hxSn hxS0 hxTn hxT0 hxGn hxG0 hx_len hx_app hx_dup hx_dup2 lkU_nil lkU_hit lkU_ne sp_alloc cells_ms one_ms cells_sl one_sl wOf_ lk_nil lk_cons isEmpty_n isEmpty_c no_buildSlice no_makeSlice no_box eo_buildSlice ofVal_str chunk reads loadAt

structure okL (x : LifeT) : Prop where
 states : x.states.list.length ≤ 20
 moves : x.moves.list.length ≤ 40
 ok : ∀ p ∈ x.moves.list, Sm 1000 p.1 ∧ Sm 1000 p.2
structure okX (x : SchemaT) : Prop where
 ver : Sm 2000000 x.version
 kl : x.kinds.list.length ≤ 4
 ll : x.lives.list.length ≤ 2
 rl : x.rules.list.length ≤ 4
 ks : ∀ k ∈ x.kinds.list, okK 24 k
 ls : ∀ k ∈ x.lives.list, okL k
 rs : ∀ k ∈ x.rules.list, okR k

theorem MutG.of {α : Type} {e : α → List V} {n : Nat} {z : SL α} {H H' : Heap} {v : V} {ys : List α} (h : MutG e n z H v ys) (hv : ∀ b ver, v = .ms n b ver 0 ys.length false → H'[b]? = H[b]?) : MutG e n z H' v ys := by
 rcases h with h | ⟨b, ver, h1, h2, h3⟩
 ·exact .inl h
 ·exact .inr ⟨b, ver, h1, by rw [getW_of (hv b ver h1)]; exact h2, h3⟩
theorem MutG.lt {α : Type} {e : α → List V} {n : Nat} {z : SL α} {H : Heap} {v : V} {ys : List α} (h : MutG e n z H v ys) (hn : 0 < n) {b ver : Nat} (hb : H.length ≤ b) : v ≠ .ms n b ver 0 ys.length false := fun hq => by
 rcases h with ⟨h, _⟩ | ⟨b', ver', h1, h2, h3⟩
 ·rw [h] at hq; cases z <;> cases hq
 ·rw [h1] at hq
  have := getW_lt h2
  injection hq with _ h4
  omega

/-- The maker and the kinds that there are. -/
structure SS (l : SL Int) (H : Heap) (i' : Int) (kv : V) (ks : List KindT) (N : Nat) : Prop where
 m : getW H 1 0 = some (mkC l i')
 r : getW H 0 0 = some [.int .i64 0, .nil, .nil, .nil]
 M : MutG eK 4 .nil H kv ks
 hv : ∀ bb ver, bb < 3 ∨ N ≤ bb → kv ≠ .ms 4 bb ver 0 ks.length false
 N3 : 3 ≤ N
 NH : N ≤ H.length
theorem SS.keep {l : SL Int} {H A : Heap} {i' i'' : Int} {kv : V} {ks : List KindT} {N : Nat} (h : SS l H i' kv ks N) (hm : getW A 1 0 = some (mkC l i'')) (hA : ∀ bb, bb < N → bb ≠ 1 → bb ≠ 2 → A[bb]? = H[bb]?) (hN : N ≤ A.length) : SS l A i'' kv ks N where
 m := hm
 r := by rw [getW_of (hA 0 (by have := h.N3; omega) (by decide) (by decide))]; exact h.r
 M := MutG.of h.M fun b ver hq => hA b (by
  rcases Nat.lt_or_ge b N with h1 | h1
  ·exact h1
  ·exact absurd hq (h.hv b ver (.inr h1))) (fun h1 => h.hv b ver (.inl (by omega)) hq) (fun h1 => h.hv b ver (.inl (by omega)) hq)
 hv := h.hv
 N3 := h.N3
 NH := hN

def W4 : List V := [.str [110, 101, 119], .str [111, 112, 101, 110], .str [100, 111, 110, 101], .str [115, 104, 117, 116]]
def W4s : List Str := [[110, 101, 119], [111, 112, 101, 110], [100, 111, 110, 101], [115, 104, 117, 116]]
def lifeS : Str := [108, 105, 102, 101]
/-- The life cycle that is made. -/
structure LLx (H : Heap) (N N2 bs bL q : Nat) (ff : Bool) (mv : V) (ys : List (Int × Int)) : Prop where
 s : getW H bs 4 = some W4
 L : getW H bL 0 = some [.str lifeS, .ms 1 bs 4 0 q ff, mv]
 M : MutG eP 2 .nil H mv ys
 hv : ∀ bb ver, bb < N2 → mv ≠ .ms 2 bb ver 0 ys.length false
 o : N ≤ bs ∧ N ≤ bL ∧ bs ≠ bL ∧ bs < N2 ∧ bL < N2 ∧ N2 ≤ H.length
 q : 2 ≤ q ∧ q ≤ 4
 ok : ∀ p ∈ ys, Sm 1000 p.1 ∧ Sm 1000 p.2
theorem LLx.keep {H A : Heap} {N N2 bs bL q : Nat} {ff : Bool} {mv : V} {ys : List (Int × Int)} (h : LLx H N N2 bs bL q ff mv ys) (h3 : 3 ≤ N) (hA : ∀ bb, bb < H.length → bb ≠ 1 → A[bb]? = H[bb]?) (hN : H.length ≤ A.length) : LLx A N N2 bs bL q ff mv ys where
 s := by obtain ⟨o1, o2, o3, o4, o5, o6⟩ := h.o; rw [getW_of (hA bs (by omega) (by omega))]; exact h.s
 L := by obtain ⟨o1, o2, o3, o4, o5, o6⟩ := h.o; rw [getW_of (hA bL (by omega) (by omega))]; exact h.L
 M := MutG.of h.M fun b ver hq => hA b (by
  rcases Nat.lt_or_ge b H.length with h1 | h1
  ·exact h1
  ·exact absurd hq (MutG.lt h.M (by decide) h1)) (fun h1 => by obtain ⟨o1, o2, o3, o4, o5, o6⟩ := h.o; exact h.hv b ver (by omega) hq)
 hv := h.hv
 o := by obtain ⟨o1, o2, o3, o4, o5, o6⟩ := h.o; exact ⟨o1, o2, o3, o4, o5, by omega⟩
 q := h.q
 ok := h.ok
/-- A move more. -/
theorem LLx.more {H A : Heap} {N N2 bs bL q : Nat} {ff : Bool} {mv mv' : V} {ys : List (Int × Int)} {p : Int × Int} (h : LLx H N N2 bs bL q ff mv ys) (h3 : 3 ≤ N) (hA : ∀ bb, bb < N2 → bb ≠ 1 → A[bb]? = H[bb]?) (hN : H.length ≤ A.length) (hM : MutG eP 2 .nil A mv' (ys ++ [p])) (hv : ∀ bb ver, bb < N2 → mv' ≠ .ms 2 bb ver 0 (ys ++ [p]).length false) (hp : Sm 1000 p.1 ∧ Sm 1000 p.2) : LLx (setBlk A bL 0 [.str lifeS, .ms 1 bs 4 0 q ff, mv']) N N2 bs bL q ff mv' (ys ++ [p]) := by
 obtain ⟨o1, o2, o3, o4, o5, o6⟩ := h.o
 refine ⟨?_, ?_, MutG.setb hM fun ver => hv bL ver o5, hv, ⟨o1, o2, o3, o4, o5, by rw [setBlk_len]; omega⟩, h.q, fun x hx => ?_⟩
 ·rw [gW_ne (Ne.symm o3), getW_of (hA bs o4 (by omega))]; exact h.s
 ·rw [gW_set (by omega)]
 ·rcases List.mem_append.1 hx with hx | hx
  ·exact h.ok x hx
  ·rw [List.mem_singleton.1 hx]; exact hp

theorem MutG.frzP {α : Type} {e : α → List V} {n : Nat} {H : Heap} (E : Ee e n) (hn : 0 < n) {z : SL α} {v : V} {ys : List α} (h : MutG e n z H v ys) (d : Nat) : ∃ H', frzV (d + 2) H v = some (enc e (doneSL z ys), H') ∧ H'.length = H.length ∧ ∀ b, (∀ ver, v ≠ .ms n b ver 0 ys.length false) → H'[b]? = H[b]? := by
 rcases h with ⟨rfl, rfl⟩ | ⟨b, ver, rfl, hb, hne⟩
 ·exact ⟨H, by unfold frzV; rw [if_pos (enc_pure E z)]; rfl, rfl, fun _ _ => rfl⟩
 ·refine ⟨H.set b none, ?_, by simp, fun b' hb' => List.getElem?_set_ne (fun hq => hb' ver (by rw [hq]))⟩
  rw [frz_blk E hn d hb, doneSL, if_neg hne]
theorem frz_life {H : Heap} {bb ver : Nat} {full : Bool} {nm : Str} {wv mv : V} {ws : SL Str} {ms : SL (Int × Int)} {H2 H3 : Heap} (h : getW H bb ver = some [.str nm, wv, mv]) (h1 : frzV 11 (H.set bb none) wv = some (enc eS ws, H2)) (h2 : frzV 11 H2 mv = some (enc eP ms, H3)) : frzV 12 H (.ms 3 bb ver 0 1 full) = some (enc eL (.mk full [⟨nm, ws, ms⟩]), H3) := by
 have e1 : ∀ (H : Heap) (v : V), v.pure = true → frzV 11 H v = some (v, H) := fun H v hv => by unfold frzV; rw [if_pos hv]
 unfold frzV
 simp only [V.pure, Bool.false_eq_true, if_false, h]
 rw [if_pos (by simp)]
 simp only [chunk, List.drop_zero, List.take_succ_cons, List.take_zero]
 simp only [frzLL, frzList, e1 _ (.str _) rfl, h1, h2]
 rfl
theorem MutG.len {α : Type} {P : Program} {ty et : TypeId} {i : TI} {e : α → List V} {n : Nat} {H : Heap} (T : LT P ty et i) {v : V} {ys : List α} (h : MutG e n .nil H v ys) : lenV P ty v = some ys.length := by
 rcases h with ⟨rfl, rfl⟩ | ⟨b, ver, rfl, _, _⟩
 ·exact enc_len T .nil
 ·exact msln T
theorem MutG.notpure {α : Type} {e : α → List V} {n : Nat} {z : SL α} {H : Heap} {v : V} {ys : List α} (h : MutG e n z H v ys) (hn : ys ≠ []) : v.pure = false := by
 rcases h with ⟨_, h⟩ | ⟨b, ver, rfl, _, _⟩
 ·exact absurd h hn
 ·rfl
theorem frz_schema {H H1 H2 : Heap} {ver : Int} {kv rv : V} {li : SL LifeT} {ks : SL KindT} {rs : SL RuleT} (hp : kv.pure = false) (h1 : frzV 11 H kv = some (enc eK ks, H1)) (h2 : frzV 11 H1 rv = some (enc eR rs, H2)) : frzV 12 H (.agg [.int .i64 ver, kv, enc eL li, rv]) = some (.agg (eX ⟨ver, ks, li, rs⟩), H2) := by
 have e1 : ∀ (H : Heap) (v : V), v.pure = true → frzV 11 H v = some (v, H) := fun H v hv => by unfold frzV; rw [if_pos hv]
 unfold frzV
 simp only [V.pure, V.pureL, hp, Bool.and_false, Bool.false_and, Bool.true_and, Bool.false_eq_true, if_false]
 simp only [frzList, e1 _ (.int _ _) rfl, h1, e1 _ (enc eL li) (enc_pure eeL li), h2]
 rfl
theorem SS.up {l : SL Int} {H : Heap} {i' : Int} {kv : V} {ks : List KindT} {N : Nat} (h : SS l H i' kv ks N) : SS l H i' kv ks H.length where
 m := h.m
 r := h.r
 M := h.M
 hv := fun bb ver hb => by
  rcases hb with hb | hb
  ·exact h.hv bb ver (.inl hb)
  ·exact MutG.lt h.M (by decide) hb
 N3 := Nat.le_trans h.N3 h.NH
 NH := Nat.le_refl _
/-- What is made of numbers. -/
def SchQ (v0 : V) (H' : Heap) : Prop := ∃ (x : SchemaT) (H'' : Heap), frzV 12 H' v0 = some (.agg (eX x), H'') ∧ okX x

/-- diorama/dioramaref09.Schema -/
theorem cSchema0 {s : SL Int} (hs : ∀ a ∈ s.list, I64 a) (hsl : s.list.length < 4611686018427387904) : ∃ v H1, runFn LE (exec LE) 22 [enc eI s] [] = some (v, H1) ∧ SchQ v H1 := by
 have hMd : LE.mode 51 = .inl := rfl
 have hMk : LE.mode 52 = .inl := rfl
 have hMr : LE.mode 53 = .inl := rfl
 obtain ⟨k0, hk0, hk1, hk2⟩ : ∃ k0 : Nat, (if (200 : Int) < (s.list.length : Int) then (200 : Int) else (s.list.length : Int)) = (k0 : Int) ∧ k0 ≤ s.list.length ∧ k0 ≤ 200 := by
  split
  ·exact ⟨200, rfl, by omega, by omega⟩
  ·exact ⟨s.list.length, rfl, by omega, by omega⟩
 have hUp := fun H => enc_upto LTi eeI s (H := H) hk1
 obtain ⟨l, hle⟩ : ∃ l, s.upto k0 = l := ⟨_, rfl⟩
 have hl : ∀ a ∈ l.list, I64 a := fun a ha => hs a (by rw [← hle, SL.upto_list] at ha; exact List.mem_of_mem_take ha)
 rw [hle] at hUp
 refine run_E (m := 119) Tryz.func22 rfl rfl (Nat.le_of_ble_eq_true rfl) ?_
 simp only [alOf]
 apply w_seq
 apply w_reg [0, 2] rfl; intro Q hQ
 simp (disch := (first | omega | (repeat (first | exact okU_nil | refine okU1 (by omega) ?_)))) [wrap64, wrapU, leW, wrl, buildV, fillV, splice, hUp, hk0, ql_min, sizeT]
 apply after_some rfl; apply hQ; clear hQ Q
 refine w_cut (fun al H => ∃ i0 : Int, i0 = 0 ∧ getW H 0 0 = some [V.int .i64 0, V.nil, V.nil, V.nil] ∧ getW H 1 0 = some (mkC l i0) ∧ H.length = 2 ∧ al = [(2, .mp 0 0 0), (3, .mp 1 0 0)]) ?_ ?_
 ·skip
  apply w_reg [2, 3] rfl; intro Q hQ
  simp (disch := (first | omega | (repeat (first | exact okU_nil | refine okU1 (by omega) ?_)))) [wrap64, wrapU, leW, wrl, buildV, fillV, splice, hUp, hk0, ql_min, sizeT]
  apply after_some rfl; apply hQ; clear hQ Q
  repeat (with_reducible apply kblock_nrm)
  refine kcut_nrm ?_
  exact ⟨0, rfl, by simp [gw_zero], by simp [gw_succ, gw_zero], rfl, rfl⟩
 rintro al H ⟨i0, hi0, g0, gm, hH2, rfl⟩
 have gmB := getW_blk gm
 have gml := getW_lt gm
 obtain ⟨uT0, uT1, uT2, uT3⟩ := takeEq hl gm (by omega) (by omega)
 have ur4 := AtN_range (j := i0) (n := 4) (by omega) hl
 have ur3 := AtN_range (j := i0 + 1) (n := 3) (by omega) hl
 rw [hx0 H]
 apply w_seq
 apply w_reg [2, 3, 4] rfl; intro Q hQ
 simp (disch := (first | omega | (repeat (first | exact okU_nil | refine okU1 (by omega) ?_)))) [wrap64, wrapU, leW, wrl, buildV, fillV, splice, hUp, hk0, ql_min, sizeT, gm, gmB, uT0, uT1, uT2, uT3, encN, hMd, hMk, hMr]
 apply after_some rfl; apply hQ; clear hQ Q
 refine w_cut (fun al H => ∃ (i' ver : Int) (n : Nat), SS l H i' .nil [] 3 ∧ getW H 2 0 = some [V.int .i64 ver, V.nil, V.nil, V.nil] ∧ 0 ≤ i' ∧ i' ≤ 2 ∧ 0 ≤ ver ∧ ver ≤ 10 ∧ 1 ≤ n ∧ n ≤ 3 ∧ al = [(2, .mp 0 0 0), (3, .mp 1 0 0), (4, .mp 2 0 0), (5, .int .i64 (n : Int))]) ?_ ?_
 ·skip
  apply w_reg [2, 3, 4, 5] rfl; intro Q hQ
  simp (disch := (first | omega | (repeat (first | exact okU_nil | refine okU1 (by omega) ?_)))) [wrap64, wrapU, leW, wrl, buildV, fillV, splice, hUp, hk0, ql_min, sizeT, gm, gmB, uT0, uT1, uT2, uT3, encN, hMd, hMk, hMr]
  apply after_some rfl; apply hQ; clear hQ Q
  repeat (with_reducible apply kblock_nrm)
  refine kcut_nrm ?_
  obtain ⟨n, hn⟩ : ∃ n : Nat, (n : Int) = 1 + AtN l.list (i0 + 1) 3 := ⟨(1 + AtN l.list (i0 + 1) 3).toNat, by omega⟩
  have hm0 : getW (HX H [] [newBlk 0 [V.int .i64 (AtN l.list i0 4), V.nil, V.nil, V.nil]]) H.length 0 = some [V.int .i64 (AtN l.list i0 4), V.nil, V.nil, V.nil] := by simp (disch := (first | omega | (repeat (first | exact okU_nil | refine okU1 (by omega) ?_))))
  refine ⟨i0 + 1 + 1, AtN l.list i0 4, n, ⟨?_, ?_, .nil, fun _ _ _ h => (by cases h), by omega, by rw [hx_len]; simp; omega⟩, ?_, by omega, by omega, by omega, by omega, by omega, by omega, by rw [hH2, hn]⟩
  ·simp (disch := (first | omega | (repeat (first | exact okU_nil | refine okU1 (by omega) ?_))))
  ·simp (disch := (first | omega | (repeat (first | exact okU_nil | refine okU1 (by omega) ?_)))) [g0]
  ·rw [show (2 : Nat) = H.length from hH2.symm]; simp (disch := (first | omega | (repeat (first | exact okU_nil | refine okU1 (by omega) ?_))))
 rintro al H ⟨i', ver, n, hS, g2, hi1, hi2, hv1, hv2, hn1, hn2, rfl⟩
 have gm := hS.m
 have gr := hS.r
 have grB := getW_blk gr
 have h3N := hS.N3
 have hNH := hS.NH
 have g2B := getW_blk g2
 have g2l := getW_lt g2
 have gmB := getW_blk gm
 have gml := getW_lt gm
 obtain ⟨uT0, uT1, uT2, uT3⟩ := takeEq hl gm (by omega) (by omega)
 apply w_seq
 apply w_seq
 apply w_reg [2, 3, 4, 5, 6] rfl; intro Q hQ
 simp (disch := (first | omega | (repeat (first | exact okU_nil | refine okU1 (by omega) ?_)))) [wrap64, wrapU, leW, wrl, buildV, fillV, splice, hUp, hk0, ql_min, sizeT, gm, gmB, uT0, uT1, uT2, uT3, encN, hMd, hMk, hMr, gm, gmB, uT0, uT1, uT2, uT3, encN, hMd, hMk, hMr, gr, grB, g2, g2B]
 apply after_some rfl; apply hQ; clear hQ Q
 apply w_block
 refine w_loop (fun m al H => ∃ (j : Nat) (i' : Int) (kv : V) (ks : List KindT), m = n - j ∧ j ≤ n ∧ ks.length = j ∧ 0 ≤ i' ∧ i' ≤ 2 + 100 * (j : Int) ∧ SS l H i' kv ks H.length ∧ getW H 2 0 = some [V.int .i64 ver, kv, V.nil, V.nil] ∧ (∀ k ∈ ks, okK (20 + j) k) ∧ al = [(2, .mp 0 0 0), (3, .mp 1 0 0), (4, .mp 2 0 0), (5, .int .i64 (n : Int)), (6, .int .i64 (j : Int))]) (n) ?_ ?_
 ·exact ⟨0, i', .nil, [], rfl, by omega, rfl, by omega, by omega, hS.up, g2, fun _ h => (by cases h), rfl⟩
 rintro m al H ⟨j, i', kv, ks, hm, hj, hkl, hi1, hi2, hS, g2, hkk, rfl⟩
 have gm := hS.m
 have gr := hS.r
 have grB := getW_blk gr
 have h3N := hS.N3
 have hNH := hS.NH
 have g2B := getW_blk g2
 have g2l := getW_lt g2
 have gmB := getW_blk gm
 have gml := getW_lt gm
 obtain ⟨uT0, uT1, uT2, uT3⟩ := takeEq hl gm (by omega) (by omega)
 rw [hx0 H]
 apply w_seq
 apply w_seq
 apply w_reg [2, 3, 4, 5, 6, 28] rfl; intro Q hQ
 simp (disch := (first | omega | (repeat (first | exact okU_nil | refine okU1 (by omega) ?_)))) [wrap64, wrapU, leW, wrl, buildV, fillV, splice, hUp, hk0, ql_min, sizeT, gm, gmB, uT0, uT1, uT2, uT3, encN, hMd, hMk, hMr, gm, gmB, uT0, uT1, uT2, uT3, encN, hMd, hMk, hMr, gr, grB, g2, g2B, gm, gmB, uT0, uT1, uT2, uT3, encN, hMd, hMk, hMr, gr, grB, g2, g2B]
 apply after_some rfl; apply hQ; clear hQ Q
 apply w_cond _ rfl <;> intro hc
 ·first
  |(simp at hc; done)
  |try simp [Int.natCast_inj] at hc
   apply w_keep [2, 3, 4, 5, 6] rfl; apply w_skip
   apply w_seq
   apply w_block
   have hjn : j < n := by omega
   obtain ⟨bl, hLS, hblH, hbl3⟩ : ∃ bl, LS 1 bl kv ks H ∧ bl < H.length ∧ (bl = 1 ∨ 3 ≤ bl) := by
    rcases hS.M with ⟨h1, h2⟩ | ⟨b, ver, h1, h2, h3⟩
    ·exact ⟨1, .inl ⟨h1, h2, rfl⟩, gml, .inl rfl⟩
    ·have hb3 : 3 ≤ b := by
      rcases Nat.lt_or_ge b 3 with h | h
      ·exact absurd h1 (hS.hv b ver (.inl h))
      ·exact h
     exact ⟨b, .inr ⟨ver, h1, h2, by omega, h3⟩, getW_lt h2, .inr hb3⟩
   obtain ⟨v1, G1, hK1, k, G2, i2, ks', hK2, hi3, hi4, hK3, hK4, hkl', hkk', hk20, hKq⟩ := cKindM hl gm hi1 (by omega) hLS hblH (by omega) (M := 20 + j) (by omega) hkk
   rw [hx0 H] at hK1
   have h2G := hKq.1
   have hG2 : getW G2 2 0 = some [V.int .i64 ver, kv, V.nil, V.nil] := by rw [getW_of (hKq.2 2 (by omega) (by decide) (by omega))]; exact g2
   have hG2B := getW_blk hG2
   have hM2 : MutG eK 4 .nil G2 kv ks' := by
    rcases hK4 with ⟨h1, h2, _⟩ | ⟨vl, h1, h2, _, h4⟩
    ·exact .inl ⟨h1, h2⟩
    ·exact .inr ⟨bl, vl, h1, h2, h4⟩
   have hv2 : ∀ bb ver, bb < 3 → kv ≠ .ms 4 bb ver 0 ks'.length false := fun bb ver hb => by rw [hkl']; exact hS.hv bb ver (.inl hb)
   obtain ⟨hMc1, hMc2⟩ := MutG.cells hS.M
   rw [hx0 G2] at hK2
   have hAp := app3 (H := (HX G2 [] [])) (v := kv) (x := V.sl true [eK k]) (xs := [k]) (m := 3) LTk eeK (.inl rfl) (MutG.hx (u := []) (r := []) hM2 (by simp)) rfl (by simp [room]; omega) (by rw [hx_len]; simp; omega) hv2
   obtain ⟨hA1, hA2, hA3, hA4, hA5⟩ := hAp
   have hA1' : appendV Tryz.prog (HX G2 [] []) 30 kv (V.sl true [eK k]) = _ := hA1
   have hA6 := getBlk_of (ver := 0) (hA4 2 (by decide))
   have hA7 := getW_of (ver := 0) (hA4 2 (by decide))
   have hA9 : (apV Tryz.prog 30 (HX G2 [] []) kv (V.sl true [eK k])).cells = _ := (MutG.cells hA2).1
   have hA10 : (apV Tryz.prog 30 (HX G2 [] []) kv (V.sl true [eK k])).one = true := (MutG.cells hA2).2
   have hG2l := getW_lt hG2
   have hA8 := hA3
   rw [hx_len] at hA8
   apply w_drwW [2, 3, 4, 5, 6] [(5, [1])] rfl rfl rfl (by kernel_rfl) 0 rfl; intro Q hQ
   simp (disch := (first | omega | (repeat (first | exact okU_nil | refine okU1 (by omega) ?_)))) [wrap64, wrapU, leW, wrl, buildV, fillV, splice, hUp, hk0, ql_min, sizeT, gm, gmB, uT0, uT1, uT2, uT3, encN, hMd, hMk, hMr, gm, gmB, uT0, uT1, uT2, uT3, encN, hMd, hMk, hMr, gr, grB, g2, g2B, gm, gmB, uT0, uT1, uT2, uT3, encN, hMd, hMk, hMr, gr, grB, g2, g2B, hK1, hK2, hG2, hG2B, hA1', hA6, hA7, hA9, hA10, hMc1, hMc2]
   apply after_some rfl; apply hQ; clear hQ Q
   apply w_reg [2, 3, 4, 5, 6] rfl; intro Q hQ
   simp (disch := (first | omega | (repeat (first | exact okU_nil | refine okU1 (by omega) ?_)))) [wrap64, wrapU, leW, wrl, buildV, fillV, splice, hUp, hk0, ql_min, sizeT, gm, gmB, uT0, uT1, uT2, uT3, encN, hMd, hMk, hMr, gm, gmB, uT0, uT1, uT2, uT3, encN, hMd, hMk, hMr, gr, grB, g2, g2B, gm, gmB, uT0, uT1, uT2, uT3, encN, hMd, hMk, hMr, gr, grB, g2, g2B, hK1, hK2, hG2, hG2B, hA1', hA6, hA7, hA9, hA10, hMc1, hMc2]
   apply after_some rfl; apply hQ; clear hQ Q
   repeat (with_reducible apply kblock_nrm)
   have hgo : ∀ bb, bb < 3 → bb ≠ 2 → (setBlk (apH Tryz.prog 30 (HX G2 [] []) kv (V.sl true [eK k])) 2 0 [V.int .i64 ver, apV Tryz.prog 30 (HX G2 [] []) kv (V.sl true [eK k]), V.nil, V.nil])[bb]? = G2[bb]? := fun bb h1 h2 => by
    unfold setBlk
    rw [List.getElem?_set_ne (Ne.symm h2), hA4 bb h1, hxG (by omega) (by simp)]
   have hSM := MutG.setb (b := 2) (ver := 0) (c := [V.int .i64 ver, apV Tryz.prog 30 (HX G2 [] []) kv (V.sl true [eK k]), V.nil, V.nil]) hA2 fun ver => hA5 2 ver (by decide)
   refine kloop_back (n - (j + 1)) (by omega) ⟨j + 1, i2, _, ks' ++ [k], rfl, by omega, by simp; omega, by omega, by push_cast; omega, ⟨?_, ?_, hSM, fun bb ver hb => ?_, ?_, Nat.le_refl _⟩, ?_, ?_, rfl⟩
   ·rw [getW_of (hgo 1 (by decide) (by decide))]; exact hK3
   ·rw [getW_of (hgo 0 (by decide) (by decide)), getW_of (hKq.2 0 (by omega) (by decide) (by omega))]; exact gr
   ·rcases hb with hb | hb
    ·exact hA5 bb ver hb
    ·exact MutG.lt hSM (by decide) hb
   ·rw [setBlk_len]; omega
   ·rw [gW_set (by omega)]
   ·intro x hx
    rcases List.mem_append.1 hx with hx | hx
    ·exact hkk' x hx
    ·rw [List.mem_singleton.1 hx]; exact ⟨hk20.name, hk20.lo, hk20.hi, hk20.ne, by have := hk20.len; omega, hk20.ok⟩
 ·first
  |(simp at hc; done)
  |try simp [Int.natCast_inj] at hc
   apply w_exit
   repeat (first | with_reducible apply kseq_exit | with_reducible apply kloop_exit | with_reducible apply kcut_exit | with_reducible apply kblock_exit | with_reducible apply kblock_pass (by decide))
   apply w_seq
   have ur := AtN_range (j := i') (n := 3) (by omega) hl
   have hjn : j = n := by omega
   obtain ⟨q, hq⟩ : ∃ q : Nat, (q : Int) = 2 + AtN l.list i' 3 := ⟨(2 + AtN l.list i' 3).toNat, by omega⟩
   have hq1 : (2 + AtN l.list i' 3).toNat = q := by omega
   apply w_reg [2, 3, 4, 5, 7] rfl; intro Q hQ
   simp (disch := (first | omega | (repeat (first | exact okU_nil | refine okU1 (by omega) ?_)))) [wrap64, wrapU, leW, wrl, buildV, fillV, splice, hUp, hk0, ql_min, sizeT, gm, gmB, uT0, uT1, uT2, uT3, encN, hMd, hMk, hMr, gm, gmB, uT0, uT1, uT2, uT3, encN, hMd, hMk, hMr, gr, grB, g2, g2B, gm, gmB, uT0, uT1, uT2, uT3, encN, hMd, hMk, hMr, gr, grB, g2, g2B, hq1, sl_ms LTs]
   apply after_some rfl; apply hQ; clear hQ Q
   refine w_cut (fun al H => ∃ (i' : Int) (kv : V) (ks : List KindT) (N N2 bs bL q : Nat) (ff : Bool) (mv : V) (ys : List (Int × Int)), SS l H i' kv ks N ∧ getW H 2 0 = some [V.int .i64 ver, kv, V.nil, V.nil] ∧ LLx H N N2 bs bL q ff mv ys ∧ ks.length = n ∧ (∀ k ∈ ks, okK 24 k) ∧ 0 ≤ i' ∧ i' ≤ 320 ∧ ys.length = 0 ∧ al = [(2, .mp 0 0 0), (3, .mp 1 0 0), (4, .mp 2 0 0), (5, .int .i64 (n : Int)), (7, .ms 1 bs 4 0 q ff), (8, .mp bL 0 0)]) ?_ ?_
   ·skip
    apply w_reg [2, 3, 4, 5, 7, 8] rfl; intro Q hQ
    simp (disch := (first | omega | (repeat (first | exact okU_nil | refine okU1 (by omega) ?_)))) [wrap64, wrapU, leW, wrl, buildV, fillV, splice, hUp, hk0, ql_min, sizeT, gm, gmB, uT0, uT1, uT2, uT3, encN, hMd, hMk, hMr, gm, gmB, uT0, uT1, uT2, uT3, encN, hMd, hMk, hMr, gr, grB, g2, g2B, gm, gmB, uT0, uT1, uT2, uT3, encN, hMd, hMk, hMr, gr, grB, g2, g2B, hq1, sl_ms LTs]
    apply after_some rfl; apply hQ; clear hQ Q
    repeat (with_reducible apply kblock_nrm)
    refine kcut_nrm ?_
    refine ⟨i' + 1, kv, ks, H.length, H.length + 2, H.length, H.length + 1, q, decide (4 = q), .nil, [], hS.keep (i'' := i' + 1) (by simp (disch := (first | omega | (repeat (first | exact okU_nil | refine okU1 (by omega) ?_)))) [gm]) (fun bb h1 h2 h3 => hxG (by omega) (by simp; omega)) (by rw [hx_len]; omega), by simp (disch := (first | omega | (repeat (first | exact okU_nil | refine okU1 (by omega) ?_)))) [g2], ⟨by simp (disch := (first | omega | (repeat (first | exact okU_nil | refine okU1 (by omega) ?_)))); rfl, by simp (disch := (first | omega | (repeat (first | exact okU_nil | refine okU1 (by omega) ?_)))); rfl, .nil, fun _ _ _ h => (by cases h), ⟨by omega, by omega, by omega, by omega, by omega, by rw [hx_len]; simp⟩, ⟨by omega, by omega⟩, fun _ h => (by cases h)⟩, hkl.trans hjn, fun x hx => ⟨(hkk x hx).name, (hkk x hx).lo, (hkk x hx).hi, (hkk x hx).ne, by have := (hkk x hx).len; omega, (hkk x hx).ok⟩, by omega, by omega, rfl, rfl⟩
   rintro al H ⟨i', kv, ks, N, N2, bs, bL, q, ff, mv, ys, hS, g2, hLx, hkn, hkk, hi1, hi2, hyl, rfl⟩
   have gm := hS.m
   have gr := hS.r
   have grB := getW_blk gr
   have h3N := hS.N3
   have hNH := hS.NH
   have g2B := getW_blk g2
   have g2l := getW_lt g2
   have gmB := getW_blk gm
   have gml := getW_lt gm
   obtain ⟨uT0, uT1, uT2, uT3⟩ := takeEq hl gm (by omega) (by omega)
   have gs := hLx.s
   have gsB := getW_blk gs
   have gL := hLx.L
   have gLB := getW_blk gL
   obtain ⟨o1, o2, o3, o4, o5, o6⟩ := hLx.o
   obtain ⟨q1, q2⟩ := hLx.q
   have gsl := getW_lt gs
   have gLl := getW_lt gL
   apply w_seq
   apply w_seq
   apply w_reg [2, 3, 4, 5, 7, 8, 9] rfl; intro Q hQ
   simp (disch := (first | omega | (repeat (first | exact okU_nil | refine okU1 (by omega) ?_)))) [wrap64, wrapU, leW, wrl, buildV, fillV, splice, hUp, hk0, ql_min, sizeT, gm, gmB, uT0, uT1, uT2, uT3, encN, hMd, hMk, hMr, gm, gmB, uT0, uT1, uT2, uT3, encN, hMd, hMk, hMr, gr, grB, g2, g2B, gm, gmB, uT0, uT1, uT2, uT3, encN, hMd, hMk, hMr, gr, grB, g2, g2B, hq1, sl_ms LTs, gm, gmB, uT0, uT1, uT2, uT3, encN, hMd, hMk, hMr, gr, grB, g2, g2B, gs, gsB, gL, gLB, msln LTs]
   apply after_some rfl; apply hQ; clear hQ Q
   apply w_block
   refine w_loop (fun m al H => ∃ (i' : Int) (kv : V) (ks : List KindT) (N N2 bs bL q : Nat) (ff : Bool) (mv : V) (ys : List (Int × Int)) (j : Nat), SS l H i' kv ks N ∧ getW H 2 0 = some [V.int .i64 ver, kv, V.nil, V.nil] ∧ LLx H N N2 bs bL q ff mv ys ∧ ks.length = n ∧ (∀ k ∈ ks, okK 24 k) ∧ 0 ≤ i' ∧ i' ≤ 320 ∧ ys.length = j ∧ m = q - j ∧ j + 1 ≤ q ∧ al = [(2, .mp 0 0 0), (3, .mp 1 0 0), (4, .mp 2 0 0), (5, .int .i64 (n : Int)), (7, .ms 1 bs 4 0 q ff), (8, .mp bL 0 0), (9, .int .i64 (j : Int))]) (q) ?_ ?_
   ·exact ⟨i', kv, ks, N, N2, bs, bL, q, ff, mv, ys, 0, hS, g2, hLx, hkn, hkk, hi1, hi2, by omega, by omega, by omega, rfl⟩
   rintro m al H ⟨i', kv, ks, N, N2, bs, bL, q, ff, mv, ys, j, hS, g2, hLx, hkn, hkk, hi1, hi2, hyl, hm, hj, rfl⟩
   have gm := hS.m
   have gr := hS.r
   have grB := getW_blk gr
   have h3N := hS.N3
   have hNH := hS.NH
   have g2B := getW_blk g2
   have g2l := getW_lt g2
   have gmB := getW_blk gm
   have gml := getW_lt gm
   obtain ⟨uT0, uT1, uT2, uT3⟩ := takeEq hl gm (by omega) (by omega)
   have gs := hLx.s
   have gsB := getW_blk gs
   have gL := hLx.L
   have gLB := getW_blk gL
   obtain ⟨o1, o2, o3, o4, o5, o6⟩ := hLx.o
   obtain ⟨q1, q2⟩ := hLx.q
   have gsl := getW_lt gs
   have gLl := getW_lt gL
   rw [hx0 H]
   apply w_seq
   apply w_seq
   apply w_reg [2, 3, 4, 5, 7, 8, 9, 51] rfl; intro Q hQ
   simp (disch := (first | omega | (repeat (first | exact okU_nil | refine okU1 (by omega) ?_)))) [wrap64, wrapU, leW, wrl, buildV, fillV, splice, hUp, hk0, ql_min, sizeT, gm, gmB, uT0, uT1, uT2, uT3, encN, hMd, hMk, hMr, gm, gmB, uT0, uT1, uT2, uT3, encN, hMd, hMk, hMr, gr, grB, g2, g2B, gm, gmB, uT0, uT1, uT2, uT3, encN, hMd, hMk, hMr, gr, grB, g2, g2B, hq1, sl_ms LTs, gm, gmB, uT0, uT1, uT2, uT3, encN, hMd, hMk, hMr, gr, grB, g2, g2B, gs, gsB, gL, gLB, msln LTs, gm, gmB, uT0, uT1, uT2, uT3, encN, hMd, hMk, hMr, gr, grB, g2, g2B, gs, gsB, gL, gLB, msln LTs]
   apply after_some rfl; apply hQ; clear hQ Q
   apply w_cond _ rfl <;> intro hc
   ·first
    |(simp at hc; done)
    |try simp [Int.natCast_inj] at hc
     apply w_keep [2, 3, 4, 5, 7, 8, 9] rfl; apply w_skip
     apply w_seq
     apply w_block
     have hAp := app3 (H := (HX H [] [newBlk 2 [V.int .i64 (j : Int), V.int .i64 ((j : Int) + 1)]])) (v := mv) (x := (V.ms 2 H.length 2 0 1 true)) (xs := [((j : Int), ((j : Int) + 1))]) (m := N2) LTp eeP (.inl rfl) (MutG.hx hLx.M (by simp)) (by rw [el_ms, hxB0, gb_zero]; simp [chunk, eP]) (by simp [room]; omega) (by rw [hx_len]; simp; omega) hLx.hv
     obtain ⟨hA1, hA2, hA3, hA4, hA5⟩ := hAp
     have hA1' : appendV Tryz.prog (HX H [] [newBlk 2 [V.int .i64 (j : Int), V.int .i64 ((j : Int) + 1)]]) 65 mv (V.ms 2 H.length 2 0 1 true) = _ := hA1
     have hA6 := getBlk_of (ver := 0) (hA4 bL o5)
     have hA7 := getW_of (ver := 0) (hA4 bL o5)
     have hA9 : (apV Tryz.prog 65 (HX H [] [newBlk 2 [V.int .i64 (j : Int), V.int .i64 ((j : Int) + 1)]]) mv (V.ms 2 H.length 2 0 1 true)).cells = _ := (MutG.cells hA2).1
     have hA10 : (apV Tryz.prog 65 (HX H [] [newBlk 2 [V.int .i64 (j : Int), V.int .i64 ((j : Int) + 1)]]) mv (V.ms 2 H.length 2 0 1 true)).one = true := (MutG.cells hA2).2
     obtain ⟨hMc1, hMc2⟩ := MutG.cells hLx.M
     have hA8 := hA3
     rw [hx_len] at hA8
     have hHA : ∀ bb, bb < N2 → bb ≠ 1 → (apH Tryz.prog 65 (HX H [] [newBlk 2 [V.int .i64 (j : Int), V.int .i64 ((j : Int) + 1)]]) mv (V.ms 2 H.length 2 0 1 true))[bb]? = H[bb]? := fun bb h1 h2 => by
      rw [hA4 bb h1, hxG (by omega) (by simp; try omega)]
     have hSk : ∀ bb, bb < N → bb ≠ 1 → bb ≠ 2 → (setBlk (apH Tryz.prog 65 (HX H [] [newBlk 2 [V.int .i64 (j : Int), V.int .i64 ((j : Int) + 1)]]) mv (V.ms 2 H.length 2 0 1 true)) bL 0 [.str lifeS, .ms 1 bs 4 0 q ff, apV Tryz.prog 65 (HX H [] [newBlk 2 [V.int .i64 (j : Int), V.int .i64 ((j : Int) + 1)]]) mv (V.ms 2 H.length 2 0 1 true)])[bb]? = H[bb]? := fun bb h1 h2 h3 => by
      unfold setBlk
      rw [List.getElem?_set_ne (by omega)]
      exact hHA bb (by omega) h2
     have hS2 : getW (setBlk (apH Tryz.prog 65 (HX H [] [newBlk 2 [V.int .i64 (j : Int), V.int .i64 ((j : Int) + 1)]]) mv (V.ms 2 H.length 2 0 1 true)) bL 0 [.str lifeS, .ms 1 bs 4 0 q ff, apV Tryz.prog 65 (HX H [] [newBlk 2 [V.int .i64 (j : Int), V.int .i64 ((j : Int) + 1)]]) mv (V.ms 2 H.length 2 0 1 true)]) 2 0 = some [V.int .i64 ver, kv, V.nil, V.nil] := by
      rw [gW_ne (by omega), getW_of (hHA 2 (by omega) (by decide))]; exact g2
     have hSm : getW (setBlk (apH Tryz.prog 65 (HX H [] [newBlk 2 [V.int .i64 (j : Int), V.int .i64 ((j : Int) + 1)]]) mv (V.ms 2 H.length 2 0 1 true)) bL 0 [.str lifeS, .ms 1 bs 4 0 q ff, apV Tryz.prog 65 (HX H [] [newBlk 2 [V.int .i64 (j : Int), V.int .i64 ((j : Int) + 1)]]) mv (V.ms 2 H.length 2 0 1 true)]) 1 0 = getW (HX H [] [newBlk 2 [V.int .i64 (j : Int), V.int .i64 ((j : Int) + 1)]]) 1 0 := by
      rw [gW_ne (by omega), getW_of (hA4 1 (by omega))]
     apply w_reg [2, 3, 4, 5, 7, 8, 9] rfl; intro Q hQ
     simp (disch := (first | omega | (repeat (first | exact okU_nil | refine okU1 (by omega) ?_)))) [wrap64, wrapU, leW, wrl, buildV, fillV, splice, hUp, hk0, ql_min, sizeT, gm, gmB, uT0, uT1, uT2, uT3, encN, hMd, hMk, hMr, gm, gmB, uT0, uT1, uT2, uT3, encN, hMd, hMk, hMr, gr, grB, g2, g2B, gm, gmB, uT0, uT1, uT2, uT3, encN, hMd, hMk, hMr, gr, grB, g2, g2B, hq1, sl_ms LTs, gm, gmB, uT0, uT1, uT2, uT3, encN, hMd, hMk, hMr, gr, grB, g2, g2B, gs, gsB, gL, gLB, msln LTs, gm, gmB, uT0, uT1, uT2, uT3, encN, hMd, hMk, hMr, gr, grB, g2, g2B, gs, gsB, gL, gLB, msln LTs, hA1', hA6, hA7, hA9, hA10, hMc1, hMc2]
     apply after_some rfl; apply hQ; clear hQ Q
     apply w_reg [2, 3, 4, 5, 7, 8, 9] rfl; intro Q hQ
     simp (disch := (first | omega | (repeat (first | exact okU_nil | refine okU1 (by omega) ?_)))) [wrap64, wrapU, leW, wrl, buildV, fillV, splice, hUp, hk0, ql_min, sizeT, gm, gmB, uT0, uT1, uT2, uT3, encN, hMd, hMk, hMr, gm, gmB, uT0, uT1, uT2, uT3, encN, hMd, hMk, hMr, gr, grB, g2, g2B, gm, gmB, uT0, uT1, uT2, uT3, encN, hMd, hMk, hMr, gr, grB, g2, g2B, hq1, sl_ms LTs, gm, gmB, uT0, uT1, uT2, uT3, encN, hMd, hMk, hMr, gr, grB, g2, g2B, gs, gsB, gL, gLB, msln LTs, gm, gmB, uT0, uT1, uT2, uT3, encN, hMd, hMk, hMr, gr, grB, g2, g2B, gs, gsB, gL, gLB, msln LTs, hA1', hA6, hA7, hA9, hA10, hMc1, hMc2]
     apply after_some rfl; apply hQ; clear hQ Q
     repeat (with_reducible apply kblock_nrm)
     refine kloop_back (q - (j + 1)) (by omega) ⟨i', kv, ks, N, N2, bs, bL, q, ff, _, ys ++ [_], j + 1, hS.keep (i'' := i') (hSm.trans (by simp (disch := (first | omega | (repeat (first | exact okU_nil | refine okU1 (by omega) ?_)))) [gm])) hSk (by rw [setBlk_len]; omega), hS2, hLx.more h3N hHA (by omega) hA2 hA5 (by constructor <;> simp only [Sm] <;> omega), hkn, hkk, by omega, by omega, by simp; omega, rfl, by omega, rfl⟩
   ·first
    |(simp at hc; done)
    |try simp [Int.natCast_inj] at hc
     apply w_exit
     repeat (first | with_reducible apply kseq_exit | with_reducible apply kloop_exit | with_reducible apply kcut_exit | with_reducible apply kblock_exit | with_reducible apply kblock_pass (by decide))
     refine w_cut (fun al H => ∃ (i' : Int) (kv : V) (ks : List KindT) (N N2 bs bL q : Nat) (ff : Bool) (mv : V) (ys : List (Int × Int)), SS l H i' kv ks N ∧ getW H 2 0 = some [V.int .i64 ver, kv, V.nil, V.nil] ∧ LLx H N N2 bs bL q ff mv ys ∧ ks.length = n ∧ (∀ k ∈ ks, okK 24 k) ∧ 0 ≤ i' ∧ i' ≤ 330 ∧ ys.length ≤ 5 ∧ al = [(2, .mp 0 0 0), (3, .mp 1 0 0), (4, .mp 2 0 0), (5, .int .i64 (n : Int)), (7, .ms 1 bs 4 0 q ff), (8, .mp bL 0 0)]) ?_ ?_
     ·skip
      apply w_seq
      apply w_reg [2, 3, 4, 5, 7, 8, 65] rfl; intro Q hQ
      simp (disch := (first | omega | (repeat (first | exact okU_nil | refine okU1 (by omega) ?_)))) [wrap64, wrapU, leW, wrl, buildV, fillV, splice, hUp, hk0, ql_min, sizeT, gm, gmB, uT0, uT1, uT2, uT3, encN, hMd, hMk, hMr, gm, gmB, uT0, uT1, uT2, uT3, encN, hMd, hMk, hMr, gr, grB, g2, g2B, gm, gmB, uT0, uT1, uT2, uT3, encN, hMd, hMk, hMr, gr, grB, g2, g2B, hq1, sl_ms LTs, gm, gmB, uT0, uT1, uT2, uT3, encN, hMd, hMk, hMr, gr, grB, g2, g2B, gs, gsB, gL, gLB, msln LTs, gm, gmB, uT0, uT1, uT2, uT3, encN, hMd, hMk, hMr, gr, grB, g2, g2B, gs, gsB, gL, gLB, msln LTs]
      apply after_some rfl; apply hQ; clear hQ Q
      apply w_cond _ rfl <;> intro hc
      ·first
       |(simp at hc; done)
       |try simp [Int.natCast_inj] at hc
        have hAp := app3 (H := (HX H [(1, 0, mkC l (i' + 1))] [newBlk 2 [V.int .i64 1, V.int .i64 0]])) (v := mv) (x := (V.ms 2 H.length 2 0 1 true)) (xs := [(1, 0)]) (m := N2) LTp eeP (.inl rfl) (MutG.hx hLx.M (by simp; exact fun ver => hLx.hv 1 ver (by omega))) (by rw [el_ms, hxB0, gb_zero]; simp [chunk, eP]) (by simp [room]; omega) (by rw [hx_len]; simp; omega) hLx.hv
        obtain ⟨hA1, hA2, hA3, hA4, hA5⟩ := hAp
        have hA1' : appendV Tryz.prog (HX H [(1, 0, mkC l (i' + 1))] [newBlk 2 [V.int .i64 1, V.int .i64 0]]) 65 mv (V.ms 2 H.length 2 0 1 true) = _ := hA1
        have hA6 := getBlk_of (ver := 0) (hA4 bL o5)
        have hA7 := getW_of (ver := 0) (hA4 bL o5)
        have hA9 : (apV Tryz.prog 65 (HX H [(1, 0, mkC l (i' + 1))] [newBlk 2 [V.int .i64 1, V.int .i64 0]]) mv (V.ms 2 H.length 2 0 1 true)).cells = _ := (MutG.cells hA2).1
        have hA10 : (apV Tryz.prog 65 (HX H [(1, 0, mkC l (i' + 1))] [newBlk 2 [V.int .i64 1, V.int .i64 0]]) mv (V.ms 2 H.length 2 0 1 true)).one = true := (MutG.cells hA2).2
        obtain ⟨hMc1, hMc2⟩ := MutG.cells hLx.M
        have hA8 := hA3
        rw [hx_len] at hA8
        have hHA : ∀ bb, bb < N2 → bb ≠ 1 → (apH Tryz.prog 65 (HX H [(1, 0, mkC l (i' + 1))] [newBlk 2 [V.int .i64 1, V.int .i64 0]]) mv (V.ms 2 H.length 2 0 1 true))[bb]? = H[bb]? := fun bb h1 h2 => by
         rw [hA4 bb h1, hxG (by omega) (by simp; try omega)]
        have hSk : ∀ bb, bb < N → bb ≠ 1 → bb ≠ 2 → (setBlk (apH Tryz.prog 65 (HX H [(1, 0, mkC l (i' + 1))] [newBlk 2 [V.int .i64 1, V.int .i64 0]]) mv (V.ms 2 H.length 2 0 1 true)) bL 0 [.str lifeS, .ms 1 bs 4 0 q ff, apV Tryz.prog 65 (HX H [(1, 0, mkC l (i' + 1))] [newBlk 2 [V.int .i64 1, V.int .i64 0]]) mv (V.ms 2 H.length 2 0 1 true)])[bb]? = H[bb]? := fun bb h1 h2 h3 => by
         unfold setBlk
         rw [List.getElem?_set_ne (by omega)]
         exact hHA bb (by omega) h2
        have hS2 : getW (setBlk (apH Tryz.prog 65 (HX H [(1, 0, mkC l (i' + 1))] [newBlk 2 [V.int .i64 1, V.int .i64 0]]) mv (V.ms 2 H.length 2 0 1 true)) bL 0 [.str lifeS, .ms 1 bs 4 0 q ff, apV Tryz.prog 65 (HX H [(1, 0, mkC l (i' + 1))] [newBlk 2 [V.int .i64 1, V.int .i64 0]]) mv (V.ms 2 H.length 2 0 1 true)]) 2 0 = some [V.int .i64 ver, kv, V.nil, V.nil] := by
         rw [gW_ne (by omega), getW_of (hHA 2 (by omega) (by decide))]; exact g2
        have hSm : getW (setBlk (apH Tryz.prog 65 (HX H [(1, 0, mkC l (i' + 1))] [newBlk 2 [V.int .i64 1, V.int .i64 0]]) mv (V.ms 2 H.length 2 0 1 true)) bL 0 [.str lifeS, .ms 1 bs 4 0 q ff, apV Tryz.prog 65 (HX H [(1, 0, mkC l (i' + 1))] [newBlk 2 [V.int .i64 1, V.int .i64 0]]) mv (V.ms 2 H.length 2 0 1 true)]) 1 0 = getW (HX H [(1, 0, mkC l (i' + 1))] [newBlk 2 [V.int .i64 1, V.int .i64 0]]) 1 0 := by
         rw [gW_ne (by omega), getW_of (hA4 1 (by omega))]
        apply w_reg [2, 3, 4, 5, 7, 8] rfl; intro Q hQ
        simp (disch := (first | omega | (repeat (first | exact okU_nil | refine okU1 (by omega) ?_)))) [wrap64, wrapU, leW, wrl, buildV, fillV, splice, hUp, hk0, ql_min, sizeT, gm, gmB, uT0, uT1, uT2, uT3, encN, hMd, hMk, hMr, gm, gmB, uT0, uT1, uT2, uT3, encN, hMd, hMk, hMr, gr, grB, g2, g2B, gm, gmB, uT0, uT1, uT2, uT3, encN, hMd, hMk, hMr, gr, grB, g2, g2B, hq1, sl_ms LTs, gm, gmB, uT0, uT1, uT2, uT3, encN, hMd, hMk, hMr, gr, grB, g2, g2B, gs, gsB, gL, gLB, msln LTs, gm, gmB, uT0, uT1, uT2, uT3, encN, hMd, hMk, hMr, gr, grB, g2, g2B, gs, gsB, gL, gLB, msln LTs, hA1', hA6, hA7, hA9, hA10, hMc1, hMc2]
        apply after_some rfl; apply hQ; clear hQ Q
        repeat (with_reducible apply kblock_nrm)
        refine kcut_nrm ?_
        refine ⟨i' + 1, kv, ks, N, N2, bs, bL, q, ff, _, ys ++ [_], hS.keep (i'' := i' + 1) (hSm.trans (by simp (disch := (first | omega | (repeat (first | exact okU_nil | refine okU1 (by omega) ?_)))) [gm])) hSk (by rw [setBlk_len]; omega), hS2, hLx.more h3N hHA (by omega) hA2 hA5 (by constructor <;> simp only [Sm] <;> omega), hkn, hkk, by omega, by omega, by simp; omega, rfl⟩
      ·first
       |(simp at hc; done)
       |try simp [Int.natCast_inj] at hc
        apply w_keep [2, 3, 4, 5, 7, 8] rfl; apply w_skip
        repeat (with_reducible apply kblock_nrm)
        refine kcut_nrm ?_
        refine ⟨i' + 1, kv, ks, N, N2, bs, bL, q, ff, mv, ys, hS.keep (i'' := i' + 1) (by simp (disch := (first | omega | (repeat (first | exact okU_nil | refine okU1 (by omega) ?_)))) [gm]) (fun bb h1 h2 h3 => hxG (by omega) (by simp; omega)) (by rw [hx_len]; omega), by simp (disch := (first | omega | (repeat (first | exact okU_nil | refine okU1 (by omega) ?_)))) [g2], hLx.keep h3N (fun bb h1 h2 => hxG h1 (by simp; omega)) (by rw [hx_len]; omega), hkn, hkk, by omega, by omega, by omega, rfl⟩
     rintro al H ⟨i', kv, ks, N, N2, bs, bL, q, ff, mv, ys, hS, g2, hLx, hkn, hkk, hi1, hi2, hyl, rfl⟩
     have gm := hS.m
     have gr := hS.r
     have grB := getW_blk gr
     have h3N := hS.N3
     have hNH := hS.NH
     have g2B := getW_blk g2
     have g2l := getW_lt g2
     have gmB := getW_blk gm
     have gml := getW_lt gm
     obtain ⟨uT0, uT1, uT2, uT3⟩ := takeEq hl gm (by omega) (by omega)
     have gs := hLx.s
     have gsB := getW_blk gs
     have gL := hLx.L
     have gLB := getW_blk gL
     obtain ⟨o1, o2, o3, o4, o5, o6⟩ := hLx.o
     obtain ⟨q1, q2⟩ := hLx.q
     have gsl := getW_lt gs
     have gLl := getW_lt gL
     have ur := AtN_range (j := i') (n := 3) (by omega) hl
     rw [hx0 H]
     refine w_cut (fun al H => ∃ (i' : Int) (kv : V) (ks : List KindT) (N N2 bs bL q : Nat) (ff : Bool) (mv : V) (ys : List (Int × Int)), SS l H i' kv ks N ∧ getW H 2 0 = some [V.int .i64 ver, kv, V.nil, V.nil] ∧ LLx H N N2 bs bL q ff mv ys ∧ ks.length = n ∧ (∀ k ∈ ks, okK 24 k) ∧ 0 ≤ i' ∧ i' ≤ 340 ∧ ys.length ≤ 6 ∧ al = [(2, .mp 0 0 0), (3, .mp 1 0 0), (4, .mp 2 0 0), (5, .int .i64 (n : Int)), (8, .mp bL 0 0)]) ?_ ?_
     ·skip
      apply w_seq
      apply w_reg [2, 3, 4, 5, 7, 8, 74] rfl; intro Q hQ
      simp (disch := (first | omega | (repeat (first | exact okU_nil | refine okU1 (by omega) ?_)))) [wrap64, wrapU, leW, wrl, buildV, fillV, splice, hUp, hk0, ql_min, sizeT, gm, gmB, uT0, uT1, uT2, uT3, encN, hMd, hMk, hMr, gm, gmB, uT0, uT1, uT2, uT3, encN, hMd, hMk, hMr, gr, grB, g2, g2B, gm, gmB, uT0, uT1, uT2, uT3, encN, hMd, hMk, hMr, gr, grB, g2, g2B, hq1, sl_ms LTs, gm, gmB, uT0, uT1, uT2, uT3, encN, hMd, hMk, hMr, gr, grB, g2, g2B, gs, gsB, gL, gLB, msln LTs, gm, gmB, uT0, uT1, uT2, uT3, encN, hMd, hMk, hMr, gr, grB, g2, g2B, gs, gsB, gL, gLB, msln LTs, gm, gmB, uT0, uT1, uT2, uT3, encN, hMd, hMk, hMr, gr, grB, g2, g2B, gs, gsB, gL, gLB, msln LTs]
      apply after_some rfl; apply hQ; clear hQ Q
      apply w_cond _ rfl <;> intro hc
      ·first
       |(simp at hc; done)
       |try simp [Int.natCast_inj] at hc
        have hAp := app3 (H := (HX H [(1, 0, mkC l (i' + 1))] [newBlk 2 [V.int .i64 0, V.int .i64 ((q : Int) - 1)]])) (v := mv) (x := (V.ms 2 H.length 2 0 1 true)) (xs := [(0, ((q : Int) - 1))]) (m := N2) LTp eeP (.inl rfl) (MutG.hx hLx.M (by simp; exact fun ver => hLx.hv 1 ver (by omega))) (by rw [el_ms, hxB0, gb_zero]; simp [chunk, eP]) (by simp [room]; omega) (by rw [hx_len]; simp; omega) hLx.hv
        obtain ⟨hA1, hA2, hA3, hA4, hA5⟩ := hAp
        have hA1' : appendV Tryz.prog (HX H [(1, 0, mkC l (i' + 1))] [newBlk 2 [V.int .i64 0, V.int .i64 ((q : Int) - 1)]]) 65 mv (V.ms 2 H.length 2 0 1 true) = _ := hA1
        have hA6 := getBlk_of (ver := 0) (hA4 bL o5)
        have hA7 := getW_of (ver := 0) (hA4 bL o5)
        have hA9 : (apV Tryz.prog 65 (HX H [(1, 0, mkC l (i' + 1))] [newBlk 2 [V.int .i64 0, V.int .i64 ((q : Int) - 1)]]) mv (V.ms 2 H.length 2 0 1 true)).cells = _ := (MutG.cells hA2).1
        have hA10 : (apV Tryz.prog 65 (HX H [(1, 0, mkC l (i' + 1))] [newBlk 2 [V.int .i64 0, V.int .i64 ((q : Int) - 1)]]) mv (V.ms 2 H.length 2 0 1 true)).one = true := (MutG.cells hA2).2
        obtain ⟨hMc1, hMc2⟩ := MutG.cells hLx.M
        have hA8 := hA3
        rw [hx_len] at hA8
        have hHA : ∀ bb, bb < N2 → bb ≠ 1 → (apH Tryz.prog 65 (HX H [(1, 0, mkC l (i' + 1))] [newBlk 2 [V.int .i64 0, V.int .i64 ((q : Int) - 1)]]) mv (V.ms 2 H.length 2 0 1 true))[bb]? = H[bb]? := fun bb h1 h2 => by
         rw [hA4 bb h1, hxG (by omega) (by simp; try omega)]
        have hSk : ∀ bb, bb < N → bb ≠ 1 → bb ≠ 2 → (setBlk (apH Tryz.prog 65 (HX H [(1, 0, mkC l (i' + 1))] [newBlk 2 [V.int .i64 0, V.int .i64 ((q : Int) - 1)]]) mv (V.ms 2 H.length 2 0 1 true)) bL 0 [.str lifeS, .ms 1 bs 4 0 q ff, apV Tryz.prog 65 (HX H [(1, 0, mkC l (i' + 1))] [newBlk 2 [V.int .i64 0, V.int .i64 ((q : Int) - 1)]]) mv (V.ms 2 H.length 2 0 1 true)])[bb]? = H[bb]? := fun bb h1 h2 h3 => by
         unfold setBlk
         rw [List.getElem?_set_ne (by omega)]
         exact hHA bb (by omega) h2
        have hS2 : getW (setBlk (apH Tryz.prog 65 (HX H [(1, 0, mkC l (i' + 1))] [newBlk 2 [V.int .i64 0, V.int .i64 ((q : Int) - 1)]]) mv (V.ms 2 H.length 2 0 1 true)) bL 0 [.str lifeS, .ms 1 bs 4 0 q ff, apV Tryz.prog 65 (HX H [(1, 0, mkC l (i' + 1))] [newBlk 2 [V.int .i64 0, V.int .i64 ((q : Int) - 1)]]) mv (V.ms 2 H.length 2 0 1 true)]) 2 0 = some [V.int .i64 ver, kv, V.nil, V.nil] := by
         rw [gW_ne (by omega), getW_of (hHA 2 (by omega) (by decide))]; exact g2
        have hSm : getW (setBlk (apH Tryz.prog 65 (HX H [(1, 0, mkC l (i' + 1))] [newBlk 2 [V.int .i64 0, V.int .i64 ((q : Int) - 1)]]) mv (V.ms 2 H.length 2 0 1 true)) bL 0 [.str lifeS, .ms 1 bs 4 0 q ff, apV Tryz.prog 65 (HX H [(1, 0, mkC l (i' + 1))] [newBlk 2 [V.int .i64 0, V.int .i64 ((q : Int) - 1)]]) mv (V.ms 2 H.length 2 0 1 true)]) 1 0 = getW (HX H [(1, 0, mkC l (i' + 1))] [newBlk 2 [V.int .i64 0, V.int .i64 ((q : Int) - 1)]]) 1 0 := by
         rw [gW_ne (by omega), getW_of (hA4 1 (by omega))]
        apply w_reg [2, 3, 4, 5, 8] rfl; intro Q hQ
        simp (disch := (first | omega | (repeat (first | exact okU_nil | refine okU1 (by omega) ?_)))) [wrap64, wrapU, leW, wrl, buildV, fillV, splice, hUp, hk0, ql_min, sizeT, gm, gmB, uT0, uT1, uT2, uT3, encN, hMd, hMk, hMr, gm, gmB, uT0, uT1, uT2, uT3, encN, hMd, hMk, hMr, gr, grB, g2, g2B, gm, gmB, uT0, uT1, uT2, uT3, encN, hMd, hMk, hMr, gr, grB, g2, g2B, hq1, sl_ms LTs, gm, gmB, uT0, uT1, uT2, uT3, encN, hMd, hMk, hMr, gr, grB, g2, g2B, gs, gsB, gL, gLB, msln LTs, gm, gmB, uT0, uT1, uT2, uT3, encN, hMd, hMk, hMr, gr, grB, g2, g2B, gs, gsB, gL, gLB, msln LTs, gm, gmB, uT0, uT1, uT2, uT3, encN, hMd, hMk, hMr, gr, grB, g2, g2B, gs, gsB, gL, gLB, msln LTs, hA1', hA6, hA7, hA9, hA10, hMc1, hMc2]
        apply after_some rfl; apply hQ; clear hQ Q
        repeat (with_reducible apply kblock_nrm)
        refine kcut_nrm ?_
        refine ⟨i' + 1, kv, ks, N, N2, bs, bL, q, ff, _, ys ++ [_], hS.keep (i'' := i' + 1) (hSm.trans (by simp (disch := (first | omega | (repeat (first | exact okU_nil | refine okU1 (by omega) ?_)))) [gm])) hSk (by rw [setBlk_len]; omega), hS2, hLx.more h3N hHA (by omega) hA2 hA5 (by constructor <;> simp only [Sm] <;> omega), hkn, hkk, by omega, by omega, by simp; omega, rfl⟩
      ·first
       |(simp at hc; done)
       |try simp [Int.natCast_inj] at hc
        apply w_keep [2, 3, 4, 5, 8] rfl; apply w_skip
        repeat (with_reducible apply kblock_nrm)
        refine kcut_nrm ?_
        refine ⟨i' + 1, kv, ks, N, N2, bs, bL, q, ff, mv, ys, hS.keep (i'' := i' + 1) (by simp (disch := (first | omega | (repeat (first | exact okU_nil | refine okU1 (by omega) ?_)))) [gm]) (fun bb h1 h2 h3 => hxG (by omega) (by simp; omega)) (by rw [hx_len]; omega), by simp (disch := (first | omega | (repeat (first | exact okU_nil | refine okU1 (by omega) ?_)))) [g2], hLx.keep h3N (fun bb h1 h2 => hxG h1 (by simp; omega)) (by rw [hx_len]; omega), hkn, hkk, by omega, by omega, by omega, rfl⟩
     rintro al H ⟨i', kv, ks, N, N2, bs, bL, q, ff, mv, ys, hS, g2, hLx, hkn, hkk, hi1, hi2, hyl, rfl⟩
     have gm := hS.m
     have gr := hS.r
     have grB := getW_blk gr
     have h3N := hS.N3
     have hNH := hS.NH
     have g2B := getW_blk g2
     have g2l := getW_lt g2
     have gmB := getW_blk gm
     have gml := getW_lt gm
     obtain ⟨uT0, uT1, uT2, uT3⟩ := takeEq hl gm (by omega) (by omega)
     have gs := hLx.s
     have gsB := getW_blk gs
     have gL := hLx.L
     have gLB := getW_blk gL
     obtain ⟨o1, o2, o3, o4, o5, o6⟩ := hLx.o
     obtain ⟨q1, q2⟩ := hLx.q
     have gsl := getW_lt gs
     have gLl := getW_lt gL
     rw [hx0 H]
     refine w_cut (fun al H => ∃ (i' : Int) (kv : V) (ks : List KindT) (N N3 : Nat) (rv : V) (rs : List RuleT) (li : SL LifeT), SS l H i' kv ks N ∧ getW H 2 0 = some [V.int .i64 ver, kv, enc eL li, rv] ∧ ks.length = n ∧ (∀ k ∈ ks, okK 24 k) ∧ MutG eR 5 .nil H rv rs ∧ (∀ bb ver, bb < N3 → rv ≠ .ms 5 bb ver 0 rs.length false) ∧ N ≤ N3 ∧ N3 ≤ H.length ∧ rs.length ≤ 2 ∧ (∀ r ∈ rs, okR r) ∧ li.list.length ≤ 2 ∧ (∀ x ∈ li.list, okL x) ∧ 0 ≤ i' ∧ i' ≤ 340 ∧ al = [(2, .mp 0 0 0), (3, .mp 1 0 0), (4, .mp 2 0 0), (5, .int .i64 (n : Int))]) ?_ ?_
     ·skip
      obtain ⟨hMc1, hMc2⟩ := MutG.cells hLx.M
      have z0 : getW (HX H [] [newBlk 3 [V.str lifeS, V.ms 1 bs 4 0 q ff, mv], newBlk 3 [V.str lifeS, V.ms 1 bs 4 0 q ff, mv]]) (H.length + 1) 3 = some [V.str lifeS, V.ms 1 bs 4 0 q ff, mv] := by simp (disch := (first | omega | (repeat (first | exact okU_nil | refine okU1 (by omega) ?_))))
      have z1 : frzV 11 (List.set (HX H [] [newBlk 3 [V.str lifeS, V.ms 1 bs 4 0 q ff, mv], newBlk 3 [V.str lifeS, V.ms 1 bs 4 0 q ff, mv]]) (H.length + 1) none) (.ms 1 bs 4 0 q ff) = some (enc eS (.mk ff (W4s.take q)), List.set (List.set (HX H [] [newBlk 3 [V.str lifeS, V.ms 1 bs 4 0 q ff, mv], newBlk 3 [V.str lifeS, V.ms 1 bs 4 0 q ff, mv]]) (H.length + 1) none) bs none) := frz_pre eeS (by decide) 9 (ys := W4s) (by rw [gW_none (by omega)]; simp (disch := (first | omega | (repeat (first | exact okU_nil | refine okU1 (by omega) ?_)))) [gs]; rfl) (by simp [W4s]; omega)
      have hset : ∀ bb, bb < H.length → bb ≠ bs → (List.set (List.set (HX H [] [newBlk 3 [V.str lifeS, V.ms 1 bs 4 0 q ff, mv], newBlk 3 [V.str lifeS, V.ms 1 bs 4 0 q ff, mv]]) (H.length + 1) none) bs none)[bb]? = H[bb]? := fun bb h1 h2 => by
       rw [List.getElem?_set_ne (Ne.symm h2), List.getElem?_set_ne (by omega), hxG h1 (by simp)]
      obtain ⟨H3, hz2, hz3, hz4⟩ := MutG.frzP (H := List.set (List.set (HX H [] [newBlk 3 [V.str lifeS, V.ms 1 bs 4 0 q ff, mv], newBlk 3 [V.str lifeS, V.ms 1 bs 4 0 q ff, mv]]) (H.length + 1) none) bs none) eeP (by decide) (MutG.of hLx.M fun b ver hq => hset b (by
       rcases Nat.lt_or_ge b H.length with h1 | h1
       ·exact h1
       ·exact absurd hq (MutG.lt hLx.M (by decide) h1)) (fun h1 => hLx.hv b ver (by omega) hq)) 9
      have hz : frzV 12 (HX H [] [newBlk 3 [V.str lifeS, V.ms 1 bs 4 0 q ff, mv], newBlk 3 [V.str lifeS, V.ms 1 bs 4 0 q ff, mv]]) (.ms 3 (H.length + 1) 3 0 1 false) = _ := frz_life z0 z1 hz2
      rw [hx0 H3] at hz
      have hz5 : H3.length = H.length + 2 := by rw [hz3]; simp [hx_len]
      have hP3 : ∀ bb, bb < N2 → bb ≠ bs → H3[bb]? = H[bb]? := fun bb h1 h2 => by
       rw [hz4 bb fun ver => hLx.hv bb ver h1]; exact hset bb (by omega) h2
      have h32 : getW H3 2 0 = _ := (getW_of (hP3 2 (by omega) (by omega))).trans g2
      have h32B := getW_blk h32
      apply w_reg [2, 3, 4, 5] rfl; intro Q hQ
      simp (disch := (first | omega | (repeat (first | exact okU_nil | refine okU1 (by omega) ?_)))) [wrap64, wrapU, leW, wrl, buildV, fillV, splice, hUp, hk0, ql_min, sizeT, gm, gmB, uT0, uT1, uT2, uT3, encN, hMd, hMk, hMr, gm, gmB, uT0, uT1, uT2, uT3, encN, hMd, hMk, hMr, gr, grB, g2, g2B, gm, gmB, uT0, uT1, uT2, uT3, encN, hMd, hMk, hMr, gr, grB, g2, g2B, hq1, sl_ms LTs, gm, gmB, uT0, uT1, uT2, uT3, encN, hMd, hMk, hMr, gr, grB, g2, g2B, gs, gsB, gL, gLB, msln LTs, gm, gmB, uT0, uT1, uT2, uT3, encN, hMd, hMk, hMr, gr, grB, g2, g2B, gs, gsB, gL, gLB, msln LTs, gm, gmB, uT0, uT1, uT2, uT3, encN, hMd, hMk, hMr, gr, grB, g2, g2B, gs, gsB, gL, gLB, msln LTs, gm, gmB, uT0, uT1, uT2, uT3, encN, hMd, hMk, hMr, gr, grB, g2, g2B, gs, gsB, gL, gLB, msln LTs, hz, hMc1, hMc2, h32, h32B, appNil LTl (by decide), okNew0, okNew1, el_ms, appN_cons, Nat.add_assoc]
      apply after_some rfl; apply hQ; clear hQ Q
      repeat (with_reducible apply kblock_nrm)
      refine kcut_nrm ?_
      refine ⟨i', kv, ks, N, N2, .nil, [], .mk false [(⟨lifeS, .mk ff (W4s.take q), doneSL .nil ys⟩ : LifeT)], hS.keep (i'' := i') (by simp (disch := (first | omega | (repeat (first | exact okU_nil | refine okU1 (by omega) ?_)))); exact (getW_of (hP3 1 (by omega) (by omega))).trans gm) (fun bb h1 h2 h3 => (hxG (by omega) (by simp; omega)).trans (hP3 bb (by omega) (by omega))) (by rw [hx_len]; omega), by simp (disch := (first | omega | (repeat (first | exact okU_nil | refine okU1 (by omega) ?_)))), hkn, hkk, .nil, fun _ _ _ h => (by cases h), by omega, by rw [hx_len]; omega, by simp, fun _ h => (by cases h), by simp [SL.list_mk], fun x hx => ?_, hi1, by omega, rfl⟩
      simp only [SL.list_mk, List.mem_cons, List.not_mem_nil, or_false] at hx
      subst hx
      have hdl : (doneSL SL.nil ys).list = ys := by unfold doneSL; split <;> simp_all [SL.list]
      exact ⟨by simp [SL.list_mk, W4s]; omega, by rw [hdl]; omega, fun p hp => hLx.ok p (by rw [hdl] at hp; exact hp)⟩
     rintro al H ⟨i', kv, ks, N, N3, rv, rs, li, hS, g2, hkn, hkk, hRM, hRv, hN3, hN3', hrl, hrk, hll, hlk, hi1, hi2, rfl⟩
     have gm := hS.m
     have gr := hS.r
     have grB := getW_blk gr
     have h3N := hS.N3
     have hNH := hS.NH
     have g2B := getW_blk g2
     have g2l := getW_lt g2
     have gmB := getW_blk gm
     have gml := getW_lt gm
     obtain ⟨uT0, uT1, uT2, uT3⟩ := takeEq hl gm (by omega) (by omega)
     obtain ⟨hRc1, hRc2⟩ := MutG.cells hRM
     obtain ⟨hkc1, hkc2⟩ := MutG.cells hS.M
     apply w_seq
     apply w_seq
     apply w_reg [2, 3, 4, 5, 10] rfl; intro Q hQ
     simp (disch := (first | omega | (repeat (first | exact okU_nil | refine okU1 (by omega) ?_)))) [wrap64, wrapU, leW, wrl, buildV, fillV, splice, hUp, hk0, ql_min, sizeT, gm, gmB, uT0, uT1, uT2, uT3, encN, hMd, hMk, hMr, gm, gmB, uT0, uT1, uT2, uT3, encN, hMd, hMk, hMr, gr, grB, g2, g2B, gm, gmB, uT0, uT1, uT2, uT3, encN, hMd, hMk, hMr, gr, grB, g2, g2B, hq1, sl_ms LTs, gm, gmB, uT0, uT1, uT2, uT3, encN, hMd, hMk, hMr, gr, grB, g2, g2B, gs, gsB, gL, gLB, msln LTs, gm, gmB, uT0, uT1, uT2, uT3, encN, hMd, hMk, hMr, gr, grB, g2, g2B, gs, gsB, gL, gLB, msln LTs, gm, gmB, uT0, uT1, uT2, uT3, encN, hMd, hMk, hMr, gr, grB, g2, g2B, gs, gsB, gL, gLB, msln LTs, gm, gmB, uT0, uT1, uT2, uT3, encN, hMd, hMk, hMr, gr, grB, g2, g2B, gs, gsB, gL, gLB, msln LTs, gm, gmB, uT0, uT1, uT2, uT3, encN, hMd, hMk, hMr, gr, grB, g2, g2B]
     apply after_some rfl; apply hQ; clear hQ Q
     apply w_block
     refine w_loop (fun m al H => ∃ (i' : Int) (kv : V) (ks : List KindT) (N N3 : Nat) (rv : V) (rs : List RuleT) (li : SL LifeT) (j : Nat), m = n - j ∧ j ≤ n ∧ SS l H i' kv ks N ∧ getW H 2 0 = some [V.int .i64 ver, kv, enc eL li, rv] ∧ ks.length = n ∧ (∀ k ∈ ks, okK 24 k) ∧ MutG eR 5 .nil H rv rs ∧ (∀ bb ver, bb < N3 → rv ≠ .ms 5 bb ver 0 rs.length false) ∧ N ≤ N3 ∧ N3 ≤ H.length ∧ rs.length ≤ 2 ∧ (∀ r ∈ rs, okR r) ∧ li.list.length ≤ 2 ∧ (∀ x ∈ li.list, okL x) ∧ 0 ≤ i' ∧ i' ≤ 340 + 20 * j ∧ al = [(2, .mp 0 0 0), (3, .mp 1 0 0), (4, .mp 2 0 0), (5, .int .i64 (n : Int)), (10, .int .i64 (j : Int))]) (n) ?_ ?_
     ·exact ⟨i', kv, ks, N, N3, rv, rs, li, 0, by omega, by omega, hS, g2, hkn, hkk, hRM, hRv, hN3, hN3', hrl, hrk, hll, hlk, hi1, by omega, rfl⟩
     rintro m al H ⟨i', kv, ks, N, N3, rv, rs, li, j, hm, hj, hS, g2, hkn, hkk, hRM, hRv, hN3, hN3', hrl, hrk, hll, hlk, hi1, hi2, rfl⟩
     have gm := hS.m
     have gr := hS.r
     have grB := getW_blk gr
     have h3N := hS.N3
     have hNH := hS.NH
     have g2B := getW_blk g2
     have g2l := getW_lt g2
     have gmB := getW_blk gm
     have gml := getW_lt gm
     obtain ⟨uT0, uT1, uT2, uT3⟩ := takeEq hl gm (by omega) (by omega)
     obtain ⟨hRc1, hRc2⟩ := MutG.cells hRM
     obtain ⟨hkc1, hkc2⟩ := MutG.cells hS.M
     have hRL : lenV Tryz.prog 32 rv = some rs.length := MutG.len LTr hRM
     rw [hx0 H]
     apply w_seq
     apply w_seq
     apply w_reg [2, 3, 4, 5, 10, 98] rfl; intro Q hQ
     simp (disch := (first | omega | (repeat (first | exact okU_nil | refine okU1 (by omega) ?_)))) [wrap64, wrapU, leW, wrl, buildV, fillV, splice, hUp, hk0, ql_min, sizeT, gm, gmB, uT0, uT1, uT2, uT3, encN, hMd, hMk, hMr, gm, gmB, uT0, uT1, uT2, uT3, encN, hMd, hMk, hMr, gr, grB, g2, g2B, gm, gmB, uT0, uT1, uT2, uT3, encN, hMd, hMk, hMr, gr, grB, g2, g2B, hq1, sl_ms LTs, gm, gmB, uT0, uT1, uT2, uT3, encN, hMd, hMk, hMr, gr, grB, g2, g2B, gs, gsB, gL, gLB, msln LTs, gm, gmB, uT0, uT1, uT2, uT3, encN, hMd, hMk, hMr, gr, grB, g2, g2B, gs, gsB, gL, gLB, msln LTs, gm, gmB, uT0, uT1, uT2, uT3, encN, hMd, hMk, hMr, gr, grB, g2, g2B, gs, gsB, gL, gLB, msln LTs, gm, gmB, uT0, uT1, uT2, uT3, encN, hMd, hMk, hMr, gr, grB, g2, g2B, gs, gsB, gL, gLB, msln LTs, gm, gmB, uT0, uT1, uT2, uT3, encN, hMd, hMk, hMr, gr, grB, g2, g2B, gm, gmB, uT0, uT1, uT2, uT3, encN, hMd, hMk, hMr, gr, grB, g2, g2B, hRL, hRc1, hRc2, hkc1, hkc2]
     repeat' ((first | with_reducible apply after_guard | with_reducible apply after_guardD) <;> (intro hg; have hg' := hg; try simp at hg') <;> simp (disch := (first | omega | (repeat (first | exact okU_nil | refine okU1 (by omega) ?_)))) [wrap64, wrapU, leW, wrl, buildV, fillV, splice, hUp, hk0, ql_min, sizeT, gm, gmB, uT0, uT1, uT2, uT3, encN, hMd, hMk, hMr, gm, gmB, uT0, uT1, uT2, uT3, encN, hMd, hMk, hMr, gr, grB, g2, g2B, gm, gmB, uT0, uT1, uT2, uT3, encN, hMd, hMk, hMr, gr, grB, g2, g2B, hq1, sl_ms LTs, gm, gmB, uT0, uT1, uT2, uT3, encN, hMd, hMk, hMr, gr, grB, g2, g2B, gs, gsB, gL, gLB, msln LTs, gm, gmB, uT0, uT1, uT2, uT3, encN, hMd, hMk, hMr, gr, grB, g2, g2B, gs, gsB, gL, gLB, msln LTs, gm, gmB, uT0, uT1, uT2, uT3, encN, hMd, hMk, hMr, gr, grB, g2, g2B, gs, gsB, gL, gLB, msln LTs, gm, gmB, uT0, uT1, uT2, uT3, encN, hMd, hMk, hMr, gr, grB, g2, g2B, gs, gsB, gL, gLB, msln LTs, gm, gmB, uT0, uT1, uT2, uT3, encN, hMd, hMk, hMr, gr, grB, g2, g2B, gm, gmB, uT0, uT1, uT2, uT3, encN, hMd, hMk, hMr, gr, grB, g2, g2B, hRL, hRc1, hRc2, hkc1, hkc2, *])
     all_goals (apply after_some rfl; apply hQ; clear hQ Q)
     all_goals
      skip
      apply w_cond _ rfl <;> intro hc
      ·first
       |(simp at hc; done)
       |try simp [Int.natCast_inj] at hc
        apply w_keep [2, 3, 4, 5, 10] rfl; apply w_skip
        refine w_cut (fun al H => ∃ (i' : Int) (kv : V) (ks : List KindT) (N N3 : Nat) (rv : V) (rs : List RuleT) (li : SL LifeT), SS l H i' kv ks N ∧ getW H 2 0 = some [V.int .i64 ver, kv, enc eL li, rv] ∧ ks.length = n ∧ (∀ k ∈ ks, okK 24 k) ∧ MutG eR 5 .nil H rv rs ∧ (∀ bb ver, bb < N3 → rv ≠ .ms 5 bb ver 0 rs.length false) ∧ N ≤ N3 ∧ N3 ≤ H.length ∧ rs.length ≤ 2 ∧ (∀ r ∈ rs, okR r) ∧ li.list.length ≤ 2 ∧ (∀ x ∈ li.list, okL x) ∧ 0 ≤ i' ∧ i' ≤ 340 + 20 * (j + 1) ∧ al = [(2, .mp 0 0 0), (3, .mp 1 0 0), (4, .mp 2 0 0), (5, .int .i64 (n : Int)), (10, .int .i64 (j : Int))]) ?_ ?_
        ·skip
         apply w_block
         apply w_seq
         have hjn : j < n := by simpa using hg
         have hr2 : rs.length < 2 := by
          have : (rs.length : Int) < 2 := by simpa using hc
          omega
         obtain ⟨bk, vk, hkv0, hkW, hkne⟩ := (show _ ∨ _ from hS.M).resolve_left (fun h => by have := h.2; rw [this] at hkn; simp at hkn; omega)
         have hkB := getW_blk hkW
         have hkl := getW_lt hkW
         have hkb3 : 3 ≤ bk ∧ bk < N := by
          constructor
          ·rcases Nat.lt_or_ge bk 3 with h | h
           ·exact absurd hkv0 (hS.hv bk vk (.inl h))
           ·exact h
          ·rcases Nat.lt_or_ge bk N with h | h
           ·exact h
           ·exact absurd hkv0 (hS.hv bk vk (.inr h))
         have hjl : j < ks.length := by omega
         have hix : indexAddrV Tryz.prog 30 kv (j : Int) = some (.mp bk vk (j * 4)) := by
          have := msix LTk (b := bk) (ver := vk) (off := 0) (full := false) (len := ks.length) (i := (j : Int)) (by omega) (by omega)
          rw [Int.toNat_natCast, Nat.zero_add] at this
          rw [hkv0]; exact this
         clear hkv0
         obtain ⟨q, hq⟩ : ∃ q, ks[j] = q := ⟨_, rfl⟩
         have hD0 := blk_drop eeK (ys := ks) (j := j) (k := 0) hjl (by decide)
         rw [hq] at hD0
         simp only [Nat.add_zero, List.drop_zero] at hD0
         have hD0 : List.drop (j * 4) (List.map eK ks).flatten = [V.str q.name, V.int .i64 q.lo, V.int .i64 q.hi, enc eF q.fields] ++ (List.map eK (List.drop (j + 1) ks)).flatten := hD0
         obtain ⟨v1, G1, hK1, r, bb, i2, rfl, hi3, hi4, hK3, hrr, hKp⟩ := cRuleM hl (hkk q (by rw [← hq]; exact List.getElem_mem hjl)) (by decide) gm hi1 (by omega)
         rw [hx0 H, hx0 G1] at hK1
         have hK1 : call LE 53 [.mp 1 0 0, .agg [V.str q.name, V.int .i64 q.lo, V.int .i64 q.hi, enc eF q.fields]] (HX H [] []) = _ := hK1
         have h2G := hKp.1
         have hG2 : getW G1 2 0 = some [V.int .i64 ver, kv, enc eL li, rv] := by rw [hKp.getW (by omega) (by decide)]; exact g2
         have hG2B := getW_blk hG2
         have hG2l := getW_lt hG2
         apply w_reg [2, 3, 4, 5, 10, 11, 12] rfl; intro Q hQ
         simp (disch := (first | omega | (repeat (first | exact okU_nil | refine okU1 (by omega) ?_)))) [wrap64, wrapU, leW, wrl, buildV, fillV, splice, hUp, hk0, ql_min, sizeT, gm, gmB, uT0, uT1, uT2, uT3, encN, hMd, hMk, hMr, gm, gmB, uT0, uT1, uT2, uT3, encN, hMd, hMk, hMr, gr, grB, g2, g2B, gm, gmB, uT0, uT1, uT2, uT3, encN, hMd, hMk, hMr, gr, grB, g2, g2B, hq1, sl_ms LTs, gm, gmB, uT0, uT1, uT2, uT3, encN, hMd, hMk, hMr, gr, grB, g2, g2B, gs, gsB, gL, gLB, msln LTs, gm, gmB, uT0, uT1, uT2, uT3, encN, hMd, hMk, hMr, gr, grB, g2, g2B, gs, gsB, gL, gLB, msln LTs, gm, gmB, uT0, uT1, uT2, uT3, encN, hMd, hMk, hMr, gr, grB, g2, g2B, gs, gsB, gL, gLB, msln LTs, gm, gmB, uT0, uT1, uT2, uT3, encN, hMd, hMk, hMr, gr, grB, g2, g2B, gs, gsB, gL, gLB, msln LTs, gm, gmB, uT0, uT1, uT2, uT3, encN, hMd, hMk, hMr, gr, grB, g2, g2B, gm, gmB, uT0, uT1, uT2, uT3, encN, hMd, hMk, hMr, gr, grB, g2, g2B, hRL, hRc1, hRc2, hkc1, hkc2, hkW, hkB, hix, hD0, hK1]
         apply after_some rfl; apply hQ; clear hQ Q
         apply w_seq
         apply w_reg [2, 3, 4, 5, 10, 11, 111] rfl; intro Q hQ
         simp (disch := (first | omega | (repeat (first | exact okU_nil | refine okU1 (by omega) ?_)))) [wrap64, wrapU, leW, wrl, buildV, fillV, splice, hUp, hk0, ql_min, sizeT, gm, gmB, uT0, uT1, uT2, uT3, encN, hMd, hMk, hMr, gm, gmB, uT0, uT1, uT2, uT3, encN, hMd, hMk, hMr, gr, grB, g2, g2B, gm, gmB, uT0, uT1, uT2, uT3, encN, hMd, hMk, hMr, gr, grB, g2, g2B, hq1, sl_ms LTs, gm, gmB, uT0, uT1, uT2, uT3, encN, hMd, hMk, hMr, gr, grB, g2, g2B, gs, gsB, gL, gLB, msln LTs, gm, gmB, uT0, uT1, uT2, uT3, encN, hMd, hMk, hMr, gr, grB, g2, g2B, gs, gsB, gL, gLB, msln LTs, gm, gmB, uT0, uT1, uT2, uT3, encN, hMd, hMk, hMr, gr, grB, g2, g2B, gs, gsB, gL, gLB, msln LTs, gm, gmB, uT0, uT1, uT2, uT3, encN, hMd, hMk, hMr, gr, grB, g2, g2B, gs, gsB, gL, gLB, msln LTs, gm, gmB, uT0, uT1, uT2, uT3, encN, hMd, hMk, hMr, gr, grB, g2, g2B, gm, gmB, uT0, uT1, uT2, uT3, encN, hMd, hMk, hMr, gr, grB, g2, g2B, hRL, hRc1, hRc2, hkc1, hkc2, hkW, hkB, hix, hD0, hK1]
         apply after_some rfl; apply hQ; clear hQ Q
         apply w_cond _ rfl <;> intro hc
         ·first
          |(simp at hc; done)
          |try simp [Int.natCast_inj] at hc
           have hMR : MutG eR 5 .nil (HX G1 [] [newBlk 0 (eR r), newBlk 5 (eR r)]) rv rs := MutG.hx (MutG.of hRM fun b ver hq => hKp.2 b (by
            rcases Nat.lt_or_ge b H.length with h1 | h1
            ·exact h1
            ·exact absurd hq (MutG.lt hRM (by decide) h1)) (fun h1 => hRv b ver (by omega) hq)) (by simp)
           have hAp := app3 (H := (HX G1 [] [newBlk 0 (eR r), newBlk 5 (eR r)])) (v := rv) (x := (V.ms 5 (G1.length + 1) 5 0 1 true)) (xs := [r]) (m := N3) LTr eeR (.inl rfl) hMR (by rw [el_ms, hxBn]; simp [chunk]) (by simp [room]; omega) (by rw [hx_len]; simp; omega) hRv
           obtain ⟨hA1, hA2, hA3, hA4, hA5⟩ := hAp
           have hA1' : appendV Tryz.prog (HX G1 [] [newBlk 0 (eR r), newBlk 5 (eR r)]) 32 rv (V.ms 5 (G1.length + 1) 5 0 1 true) = _ := hA1
           have hA6 := getBlk_of (ver := 0) (hA4 2 (by omega))
           have hA7 := getW_of (ver := 0) (hA4 2 (by omega))
           have hA9 : (apV Tryz.prog 32 (HX G1 [] [newBlk 0 (eR r), newBlk 5 (eR r)]) rv (V.ms 5 (G1.length + 1) 5 0 1 true)).cells = _ := (MutG.cells hA2).1
           have hA10 : (apV Tryz.prog 32 (HX G1 [] [newBlk 0 (eR r), newBlk 5 (eR r)]) rv (V.ms 5 (G1.length + 1) 5 0 1 true)).one = true := (MutG.cells hA2).2
           have hA8 := hA3
           rw [hx_len] at hA8
           have hGo : ∀ bb, bb < N3 → bb ≠ 2 → (setBlk (apH Tryz.prog 32 (HX G1 [] [newBlk 0 (eR r), newBlk 5 (eR r)]) rv (V.ms 5 (G1.length + 1) 5 0 1 true)) 2 0 [V.int .i64 ver, kv, enc eL li, apV Tryz.prog 32 (HX G1 [] [newBlk 0 (eR r), newBlk 5 (eR r)]) rv (V.ms 5 (G1.length + 1) 5 0 1 true)])[bb]? = G1[bb]? := fun bb h1 h2 => by
            unfold setBlk
            rw [List.getElem?_set_ne (Ne.symm h2), hA4 bb h1, hxG (by omega) (by simp)]
           apply w_reg [2, 3, 4, 5, 10] rfl; intro Q hQ
           simp (disch := (first | omega | (repeat (first | exact okU_nil | refine okU1 (by omega) ?_)))) [wrap64, wrapU, leW, wrl, buildV, fillV, splice, hUp, hk0, ql_min, sizeT, gm, gmB, uT0, uT1, uT2, uT3, encN, hMd, hMk, hMr, gm, gmB, uT0, uT1, uT2, uT3, encN, hMd, hMk, hMr, gr, grB, g2, g2B, gm, gmB, uT0, uT1, uT2, uT3, encN, hMd, hMk, hMr, gr, grB, g2, g2B, hq1, sl_ms LTs, gm, gmB, uT0, uT1, uT2, uT3, encN, hMd, hMk, hMr, gr, grB, g2, g2B, gs, gsB, gL, gLB, msln LTs, gm, gmB, uT0, uT1, uT2, uT3, encN, hMd, hMk, hMr, gr, grB, g2, g2B, gs, gsB, gL, gLB, msln LTs, gm, gmB, uT0, uT1, uT2, uT3, encN, hMd, hMk, hMr, gr, grB, g2, g2B, gs, gsB, gL, gLB, msln LTs, gm, gmB, uT0, uT1, uT2, uT3, encN, hMd, hMk, hMr, gr, grB, g2, g2B, gs, gsB, gL, gLB, msln LTs, gm, gmB, uT0, uT1, uT2, uT3, encN, hMd, hMk, hMr, gr, grB, g2, g2B, gm, gmB, uT0, uT1, uT2, uT3, encN, hMd, hMk, hMr, gr, grB, g2, g2B, hRL, hRc1, hRc2, hkc1, hkc2, hkW, hkB, hix, hD0, hK1, hG2, hG2B, hA1', hA6, hA7, hA9, hA10, hRc1, hRc2, Nat.add_assoc]
           apply after_some rfl; apply hQ; clear hQ Q
           repeat (with_reducible apply kblock_nrm)
           refine kcut_nrm ?_
           refine ⟨i2, kv, ks, N, N3, _, rs ++ [r], li, hS.keep (i'' := i2) ((getW_of (hGo 1 (by omega) (by decide))).trans hK3) (fun bb h1 h2 h3 => (hGo bb (by omega) h3).trans (hKp.2 bb (by omega) h2)) (by rw [setBlk_len]; omega), by rw [gW_set (by omega)], hkn, hkk, MutG.setb hA2 fun ver => hA5 2 ver (by omega), hA5, hN3, by rw [setBlk_len]; omega, by simp; omega, fun x hx => ?_, hll, hlk, by omega, by push_cast at *; omega, rfl⟩
           rcases List.mem_append.1 hx with hx | hx
           ·exact hrk x hx
           ·rw [List.mem_singleton.1 hx]; exact hrr
         ·first
          |(simp at hc; done)
          |try simp [Int.natCast_inj] at hc
           apply w_keep [2, 3, 4, 5, 10] rfl; apply w_skip
           repeat (with_reducible apply kblock_nrm)
           refine kcut_nrm ?_
           refine ⟨i2, kv, ks, N, N3, rv, rs, li, hS.keep (i'' := i2) (by simp (disch := (first | omega | (repeat (first | exact okU_nil | refine okU1 (by omega) ?_)))) [hK3]) (fun bb h1 h2 h3 => (hxG (by omega) (by simp)).trans (hKp.2 bb (by omega) h2)) (by rw [hx_len]; omega), by simp (disch := (first | omega | (repeat (first | exact okU_nil | refine okU1 (by omega) ?_)))) [hG2], hkn, hkk, MutG.hx (MutG.of hRM fun b ver hq => hKp.2 b (by
            rcases Nat.lt_or_ge b H.length with h1 | h1
            ·exact h1
            ·exact absurd hq (MutG.lt hRM (by decide) h1)) (fun h1 => hRv b ver (by omega) hq)) (by simp), hRv, hN3, by rw [hx_len]; omega, hrl, hrk, hll, hlk, by omega, by push_cast at *; omega, rfl⟩
        rintro al H ⟨i', kv, ks, N, N3, rv, rs, li, hS, g2, hkn, hkk, hRM, hRv, hN3, hN3', hrl, hrk, hll, hlk, hi1, hi2, rfl⟩
        have gm := hS.m
        have gr := hS.r
        have grB := getW_blk gr
        have h3N := hS.N3
        have hNH := hS.NH
        have g2B := getW_blk g2
        have g2l := getW_lt g2
        have gmB := getW_blk gm
        have gml := getW_lt gm
        obtain ⟨uT0, uT1, uT2, uT3⟩ := takeEq hl gm (by omega) (by omega)
        obtain ⟨hRc1, hRc2⟩ := MutG.cells hRM
        obtain ⟨hkc1, hkc2⟩ := MutG.cells hS.M
        apply w_reg [2, 3, 4, 5, 10] rfl; intro Q hQ
        simp (disch := (first | omega | (repeat (first | exact okU_nil | refine okU1 (by omega) ?_)))) [wrap64, wrapU, leW, wrl, buildV, fillV, splice, hUp, hk0, ql_min, sizeT, gm, gmB, uT0, uT1, uT2, uT3, encN, hMd, hMk, hMr, gm, gmB, uT0, uT1, uT2, uT3, encN, hMd, hMk, hMr, gr, grB, g2, g2B, gm, gmB, uT0, uT1, uT2, uT3, encN, hMd, hMk, hMr, gr, grB, g2, g2B, hq1, sl_ms LTs, gm, gmB, uT0, uT1, uT2, uT3, encN, hMd, hMk, hMr, gr, grB, g2, g2B, gs, gsB, gL, gLB, msln LTs, gm, gmB, uT0, uT1, uT2, uT3, encN, hMd, hMk, hMr, gr, grB, g2, g2B, gs, gsB, gL, gLB, msln LTs, gm, gmB, uT0, uT1, uT2, uT3, encN, hMd, hMk, hMr, gr, grB, g2, g2B, gs, gsB, gL, gLB, msln LTs, gm, gmB, uT0, uT1, uT2, uT3, encN, hMd, hMk, hMr, gr, grB, g2, g2B, gs, gsB, gL, gLB, msln LTs, gm, gmB, uT0, uT1, uT2, uT3, encN, hMd, hMk, hMr, gr, grB, g2, g2B, gm, gmB, uT0, uT1, uT2, uT3, encN, hMd, hMk, hMr, gr, grB, g2, g2B, hRL, hRc1, hRc2, hkc1, hkc2, gm, gmB, uT0, uT1, uT2, uT3, encN, hMd, hMk, hMr, gr, grB, g2, g2B]
        apply after_some rfl; apply hQ; clear hQ Q
        repeat (with_reducible apply kblock_nrm)
        refine kloop_back (n - (j + 1)) (by omega) ⟨i', kv, ks, N, N3, rv, rs, li, j + 1, rfl, by omega, hS, g2, hkn, hkk, hRM, hRv, hN3, hN3', hrl, hrk, hll, hlk, hi1, by push_cast at *; omega, rfl⟩
      ·first
       |(simp at hc; done)
       |try simp [Int.natCast_inj] at hc
        apply w_exit
        repeat (first | with_reducible apply kseq_exit | with_reducible apply kloop_exit | with_reducible apply kcut_exit | with_reducible apply kblock_exit | with_reducible apply kblock_pass (by decide))
        apply w_seq
        apply w_reg [2] rfl; intro Q hQ
        simp (disch := (first | omega | (repeat (first | exact okU_nil | refine okU1 (by omega) ?_)))) [wrap64, wrapU, leW, wrl, buildV, fillV, splice, hUp, hk0, ql_min, sizeT, gm, gmB, uT0, uT1, uT2, uT3, encN, hMd, hMk, hMr, gm, gmB, uT0, uT1, uT2, uT3, encN, hMd, hMk, hMr, gr, grB, g2, g2B, gm, gmB, uT0, uT1, uT2, uT3, encN, hMd, hMk, hMr, gr, grB, g2, g2B, hq1, sl_ms LTs, gm, gmB, uT0, uT1, uT2, uT3, encN, hMd, hMk, hMr, gr, grB, g2, g2B, gs, gsB, gL, gLB, msln LTs, gm, gmB, uT0, uT1, uT2, uT3, encN, hMd, hMk, hMr, gr, grB, g2, g2B, gs, gsB, gL, gLB, msln LTs, gm, gmB, uT0, uT1, uT2, uT3, encN, hMd, hMk, hMr, gr, grB, g2, g2B, gs, gsB, gL, gLB, msln LTs, gm, gmB, uT0, uT1, uT2, uT3, encN, hMd, hMk, hMr, gr, grB, g2, g2B, gs, gsB, gL, gLB, msln LTs, gm, gmB, uT0, uT1, uT2, uT3, encN, hMd, hMk, hMr, gr, grB, g2, g2B, gm, gmB, uT0, uT1, uT2, uT3, encN, hMd, hMk, hMr, gr, grB, g2, g2B, hRL, hRc1, hRc2, hkc1, hkc2]
        apply after_some rfl; apply hQ; clear hQ Q
        apply w_ret
        repeat (with_reducible (first | apply kseq_ret | apply kloop_ret | apply kcut_ret | apply kblock_ret))
        have hkne : ks ≠ [] := fun h => by rw [h] at hkn; simp at hkn; omega
        generalize hG : HX H [(0, 0, [V.int .i64 ver, kv, enc eL li, rv])] [] = G
        have hGk : ∀ bb, bb < H.length → bb ≠ 0 → G[bb]? = H[bb]? := fun bb h1 h2 => by rw [← hG]; exact hxG h1 (by simp; omega)
        have hM1 : MutG eK 4 .nil G kv ks := MutG.of hS.M fun b ver hq => hGk b (by
         rcases Nat.lt_or_ge b H.length with h1 | h1
         ·exact h1
         ·exact absurd hq (MutG.lt hS.M (by decide) h1)) (fun h1 => hS.hv b ver (.inl (by omega)) hq)
        obtain ⟨G2, hf1, hf2, hf3⟩ := MutG.frzP eeK (by decide) hM1 9
        have hM2 : MutG eR 5 .nil G2 rv rs := MutG.of hRM fun b ver hq => by
         have hbl : b < H.length := by
          rcases Nat.lt_or_ge b H.length with h1 | h1
          ·exact h1
          ·exact absurd hq (MutG.lt hRM (by decide) h1)
         have hb3 : N3 ≤ b := by
          rcases Nat.lt_or_ge b N3 with h1 | h1
          ·exact absurd hq (hRv b ver h1)
          ·exact h1
         rw [hf3 b fun ver => hS.hv b ver (.inr (by omega)), hGk b hbl (by omega)]
        obtain ⟨G3, hf4, _, _⟩ := MutG.frzP eeR (by decide) hM2 9
        refine ⟨rfl, .agg [.int .i64 ver, kv, enc eL li, rv], (resultsA_eq (rs := [.cell 2 34]) rfl).trans ?_, ⟨ver, doneSL .nil ks, li, doneSL .nil rs⟩, G3, ?_, ?_⟩
        ·rw [← hG]
         simp (disch := (first | omega | (repeat (first | exact okU_nil | refine okU1 (by omega) ?_)))) [resultsB, resultA]
        ·exact frz_schema (MutG.notpure hM1 hkne) hf1 hf4
        ·have e1 : (doneSL SL.nil ks).list = ks := by unfold doneSL; split <;> simp_all [SL.list]
         have e2 : (doneSL SL.nil rs).list = rs := by unfold doneSL; split <;> simp_all [SL.list]
         exact ⟨by simp only [Sm]; omega, by rw [e1]; omega, hll, by rw [e2]; omega, fun k hk => hkk k (by rw [e1] at hk; exact hk), hlk, fun k hk => hrk k (by rw [e2] at hk; exact hk)⟩

theorem cSchema {s : SL Int} (hs : ∀ a ∈ s.list, I64 a) (hsl : s.list.length < 4611686018427387904) : ∃ x : SchemaT, okX x ∧ ∀ H, call LE 22 [enc eI s] H = some (.agg (eX x), H) := by
 obtain ⟨v, H1, h1, x, H2, h2, h3⟩ := cSchema0 hs hsl
 exact ⟨x, h3, fun H => call_pure rfl (.inr rfl) (pureL_cons (enc_pure eeI s) rfl) ⟨v, H1, H2, h1, h2, eeX.pure x, fun h => by cases h⟩ H⟩

end Go.Ae.Zd
