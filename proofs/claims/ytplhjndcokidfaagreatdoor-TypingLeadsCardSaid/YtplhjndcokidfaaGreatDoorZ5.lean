/-
 A schema with one thing changed.
-/
import Derived.Test.YtplhjndcokidfaaGreatDoorZ4
set_option linter.unusedVariables false
set_option linter.unusedSimpArgs false
set_option maxRecDepth 20000
set_option maxHeartbeats 4000000
namespace Go.Ae.Zd
open Go.Proofs
attribute [local simp] List.getElem?_cons_zero List.getElem?_cons_succ hxW hxB hxW0 hxWn hxB0 hxBn hxS hxSn hxS0 hxTn hxT0 hxGn hxG0 hx_len hx_app hx_dup hx_dup2 lkU_nil lkU_hit lkU_ne sp_alloc cells_ms one_ms cells_sl one_sl wOf_ lk_nil lk_cons isEmpty_n isEmpty_c no_buildSlice no_makeSlice no_box eo_buildSlice ofVal_str chunk reads loadAt

theorem Around_range {n most : Int} (hn : I64 n) (h : 1 ≤ most) : 0 ≤ Around n most ∧ Around n most < most := by
 unfold Around
 rw [if_neg (by omega)]
 have h0 : 0 ≤ (if n < 0 then -(n + 1) else n) := by split <;> omega
 exact ⟨Int.tmod_nonneg _ h0, Int.tmod_lt_of_pos _ (by omega)⟩
theorem tdiv_I64 {n k : Int} (hn : I64 n) (hk : 2 ≤ k) : I64 (n.tdiv k) := by
 have h1 : (n.tdiv k).natAbs ≤ n.natAbs := by
  rw [Int.natAbs_tdiv]
  exact Nat.div_le_self _ _
 have h2 : 2 * (n.tdiv k).natAbs ≤ n.natAbs := by
  rw [Int.natAbs_tdiv]
  show 2 * (n.natAbs / k.natAbs) ≤ n.natAbs
  have h3 : 2 ≤ k.natAbs := by omega
  have h4 := Nat.div_mul_le_self n.natAbs k.natAbs
  have h5 : n.natAbs / k.natAbs * 2 ≤ n.natAbs / k.natAbs * k.natAbs := Nat.mul_le_mul_left _ h3
  omega
 obtain ⟨h3, h4⟩ := hn
 constructor <;> omega

/-- A list that is immutable, or has a block of its own. -/
def MutF {α : Type} (e : α → List V) (sz : Nat) (H : Heap) (v : V) (ys : List α) : Prop :=
 v = .sl true (ys.map e) ∨ ∃ b ver, v = .ms sz b ver 0 ys.length false ∧ getW H b ver = some (ys.map e).flatten
section
variable {α : Type} {P : Program} {ty et : TypeId} {i : TI} {e : α → List V} {H : Heap} {v x : V} {ys xs : List α} {n : Nat}
theorem MutF.cells (h : MutF e n H v ys) : v.cells = [v] ∧ v.one = true := by
 rcases h with rfl | ⟨b, ver, rfl, _⟩ <;> exact ⟨rfl, rfl⟩
theorem MutF.len (T : LT P ty et i) (h : MutF e n H v ys) : lenV P ty v = some ys.length := by
 rcases h with rfl | ⟨b, ver, rfl, _⟩
 ·have := enc_len (e := e) T (.mk true ys)
  exact this
 ·exact msln T
theorem MutF.lt (h : MutF e n H v ys) {b ver : Nat} (hb : H.length ≤ b) : v ≠ .ms n b ver 0 ys.length false := fun hq => by
 rcases h with h | ⟨b', ver', h1, h2⟩
 ·rw [h] at hq; cases hq
 ·rw [h1] at hq
  have := getW_lt h2
  injection hq with _ h4
  omega
theorem MutF.of {H' : Heap} (h : MutF e n H v ys) (hv : ∀ b ver, v = .ms n b ver 0 ys.length false → H'[b]? = H[b]?) : MutF e n H' v ys := by
 rcases h with h | ⟨b, ver, h1, h2⟩
 ·exact .inl h
 ·exact .inr ⟨b, ver, h1, by rw [getW_of (hv b ver h1)]; exact h2⟩
theorem MutF.frzP (E : Ee e n) (hn : 0 < n) (h : MutF e n H v ys) (d : Nat) : ∃ (s : SL α) (H' : Heap), s.list = ys ∧ frzV (d + 2) H v = some (enc e s, H') ∧ H'.length = H.length ∧ ∀ b, (∀ ver, v ≠ .ms n b ver 0 ys.length false) → H'[b]? = H[b]? := by
 rcases h with rfl | ⟨b, ver, rfl, hb⟩
 ·exact ⟨.mk true ys, H, rfl, by show frzV (d + 2) H (enc e (.mk true ys)) = _; unfold frzV; rw [if_pos (enc_pure E (.mk true ys))], rfl, fun _ _ => rfl⟩
 ·exact ⟨.mk false ys, H.set b none, rfl, frz_blk E hn d hb, by simp, fun b' hb' => List.getElem?_set_ne (fun hq => hb' ver (by rw [hq]))⟩
/-- Where an element lies. -/
theorem MutF.idx (T : LT P ty et i) (E : Ee e i.size) (h : MutF e i.size H v ys) {j : Int} (h0 : 0 ≤ j) (h1 : j < ys.length) : ∃ (a : V) (R : List V), indexAddrV P ty v j = some a ∧ behind H a = some (e (ys[j.toNat]'(by omega)) ++ R) := by
 have hj : j.toNat < ys.length := by omega
 rcases h with rfl | ⟨b, ver, rfl, hb⟩
 ·refine ⟨.rp (e ys[j.toNat]), [], ?_, by simp [behind]⟩
  have := enc_idxI T E (.mk true ys) h0 h1
  exact this
 ·have := blk_drop E (k := 0) hj (Nat.zero_le _)
  simp only [Nat.add_zero, List.drop_zero] at this
  refine ⟨.mp b ver (j.toNat * i.size), ((ys.drop (j.toNat + 1)).map e).flatten, by rw [msix T h0 h1, Nat.zero_add], ?_⟩
  rw [behind_mp, getW_blk hb]
  simp only [this]
theorem MutF.append (T : LT P ty et i) (E : Ee e i.size) (h : MutF e i.size H v ys) (hx : elemsOf H x = some (xs.map e)) (hl : (ys.length + xs.length) * i.bytes ≤ room) :
  ∃ v' H', appendV P H ty v x = some (v', H') ∧ MutF e i.size H' v' (ys ++ xs) ∧ H.length ≤ H'.length ∧ (∀ b, b < H.length → (∀ ver, v ≠ .ms i.size b ver 0 ys.length false) → H'[b]? = H[b]?) ∧
   (∀ b ver, v' = .ms i.size b ver 0 (ys ++ xs).length false → (∃ ver', v = .ms i.size b ver' 0 ys.length false) ∨ H.length ≤ b) := by
 cases xs with
 |nil =>
  refine ⟨v, H, ?_, by simpa using h, Nat.le_refl _, fun _ _ _ => rfl, fun b ver hv => .inl ⟨ver, by simpa using hv⟩⟩
  simp only [appendV, T.hs, T.he, hx, List.map_nil]
  rcases h with rfl | ⟨b, ver, rfl, _⟩ <;> rfl
 |cons a r =>
  rcases h with rfl | ⟨b, ver, rfl, hb⟩
  ·have hok := all_ok E (a :: r)
   have hok2 := all_ok E ys
   have h3 := T.hz; have h4 := T.hb; have h5 := T.hl
   have hn1 : ¬(i.size = 0 ∨ i.bytes = 0 ∨ i.zero.cells.length ≠ i.size ∨ (!((a :: r).map e).all fun c => decide (c.length = i.size) && allOne c) = true) := by
    rw [hok]; simp; omega
   have hne : ((a :: r).map e) = e a :: r.map e := rfl
   have hfl : (ys.map e ++ (a :: r).map e).flatten = ((ys ++ a :: r).map e).flatten := by rw [List.map_append]
   simp only [appendV, T.hs, T.he, hx]
   rw [hne] at hn1 hfl ⊢
   simp only
   rw [if_neg hn1, if_pos ⟨by simpa using hl, by rw [hok2]⟩]
   refine ⟨_, _, rfl, .inr ⟨H.length, (ys.map e ++ (e a :: r.map e)).flatten.length, by simp, by rw [getW_new (r := []), hfl]⟩, by simp, fun b hb _ => by rw [List.getElem?_append_left hb], fun b ver hv => ?_⟩
   right; injection hv with _ hv; omega
  ·have h := MutG.append (z := SL.nil) T E (.inl rfl) (v := .ms i.size b ver 0 ys.length false) (ys := ys) (xs := a :: r) (x := x) (H := H)
   by_cases hys : ys = []
   ·subst hys
    have hok := all_ok E (a :: r)
    have h3 := T.hz; have h4 := T.hb; have h5 := T.hl
    have hn1 : ¬(i.size = 0 ∨ i.bytes = 0 ∨ i.zero.cells.length ≠ i.size ∨ (!((a :: r).map e).all fun c => decide (c.length = i.size) && allOne c) = true) := by
     rw [hok]; simp; omega
    have hne : ((a :: r).map e) = e a :: r.map e := rfl
    have hlt := getW_lt hb
    simp only [appendV, T.hs, T.he, hx]
    rw [hne] at hn1 ⊢
    simp only
    rw [if_neg hn1]
    simp only [List.map_nil, List.flatten_nil] at hb
    simp only [hb, List.length_nil, Nat.zero_add, Nat.zero_mul, List.nil_append]
    rw [if_pos ⟨trivial, by simpa using hl, Nat.le_refl _⟩, if_pos ⟨trivial, trivial⟩]
    refine ⟨_, _, rfl, .inr ⟨b, ver + (e a :: r.map e).length * i.size, by simp, by rw [getW_set hlt]; rfl⟩, by rw [setBlk_len]; exact Nat.le_refl _, fun b' hb' hv' => ?_, fun b' ver' hv => .inl ⟨ver, ?_⟩⟩
    ·unfold setBlk
     rw [List.getElem?_set_ne (fun hq => hv' ver (by rw [hq]))]
    ·injection hv with _ hv; rw [hv]
   ·obtain ⟨v', H', h1, h2, h3, h4, h5⟩ := h (.inr ⟨b, ver, rfl, hb, hys⟩) hx hl
    refine ⟨v', H', h1, ?_, h3, h4, h5⟩
    rcases h2 with ⟨_, h2⟩ | ⟨b', ver', h6, h7, _⟩
    ·simp at h2
    ·exact .inr ⟨b', ver', h6, h7⟩
/-- The same, behind other blocks. -/
theorem appF (T : LT P ty et i) (E : Ee e i.size) (h : MutF e i.size H v ys) (hx : elemsOf H x = some (xs.map e)) (hl : (ys.length + xs.length) * i.bytes ≤ room) {m : Nat} (hm : m ≤ H.length) (hv : ∀ bb ver, bb < m → v ≠ .ms i.size bb ver 0 ys.length false) :
  appendV P H ty v x = some (apV P ty H v x, apH P ty H v x) ∧ MutF e i.size (apH P ty H v x) (apV P ty H v x) (ys ++ xs) ∧ H.length ≤ (apH P ty H v x).length ∧ (∀ bb, bb < m → (apH P ty H v x)[bb]? = H[bb]?) ∧ ∀ bb ver, bb < m → apV P ty H v x ≠ .ms i.size bb ver 0 (ys ++ xs).length false := by
 obtain ⟨v', H', h1, h2, h3, h4, h5⟩ := h.append T E hx hl
 simp only [apV, apH, h1]
 refine ⟨trivial, h2, h3, fun bb hb => h4 bb (Nat.lt_of_lt_of_le hb hm) fun ver => hv bb ver hb, fun bb ver hb hq => ?_⟩
 rcases h5 bb ver hq with ⟨ver', h6⟩ | h6
 ·exact hv bb ver' hb h6
 ·omega
end

structure okK2 (M : Nat) (k : KindT) : Prop where
 lo : Sm 2000000 k.lo
 hi : Sm 2000000 k.hi
 len : k.fields.list.length ≤ M
 ok : ∀ f ∈ k.fields.list, okF f
/-- Schemas that are not too great. -/
structure okY (r : Nat) (x : SchemaT) : Prop where
 ver : Sm 2000000 x.version
 kl : x.kinds.list.length ≤ 4
 ll : x.lives.list.length ≤ 2
 rl : x.rules.list.length ≤ r
 ks : ∀ k ∈ x.kinds.list, okK2 24 k
 ls : ∀ k ∈ x.lives.list, okL k
 rs : ∀ k ∈ x.rules.list, okR k
theorem okX.y {x : SchemaT} (h : okX x) : okY 4 x := ⟨h.ver, h.kl, h.ll, h.rl, fun k hk => ⟨(h.ks k hk).lo, (h.ks k hk).hi, (h.ks k hk).len, (h.ks k hk).ok⟩, h.ls, h.rs⟩

/-- The fields that are bent. -/
def LF (H : Heap) (N2 : Nat) (lv : V) (fs : List FieldT) : Prop := (lv = .sl true [] ∧ fs = []) ∨ ∃ (b ver : Nat) (full : Bool) (ys : List FieldT), lv = .ms 8 b ver 0 fs.length full ∧ getW H b ver = some (ys.map eF).flatten ∧ ys.take fs.length = fs ∧ fs.length ≤ ys.length ∧ N2 ≤ b
theorem LF.of {H H' : Heap} {N2 : Nat} {lv : V} {fs : List FieldT} (h : LF H N2 lv fs) (hh : ∀ b, N2 ≤ b → b < H.length → H'[b]? = H[b]?) : LF H' N2 lv fs := by
 rcases h with h | ⟨b, ver, full, ys, h1, h2, h3, h4, h5⟩
 ·exact .inl h
 ·exact .inr ⟨b, ver, full, ys, h1, by rw [getW_of (hh b h5 (getW_lt h2))]; exact h2, h3, h4, h5⟩
theorem LF.len {H : Heap} {N2 : Nat} {lv : V} {fs : List FieldT} (h : LF H N2 lv fs) : lenV Tryz.prog 45 lv = some fs.length := by
 rcases h with ⟨rfl, rfl⟩ | ⟨b, ver, full, ys, rfl, _⟩
 ·simp [lenV, LTf.hs]
 ·exact msln LTf
theorem LF.frz {H : Heap} {N2 : Nat} {lv : V} {fs : List FieldT} (h : LF H N2 lv fs) : ∃ (s : SL FieldT) (H' : Heap), s.list = fs ∧ frzV 12 H lv = some (enc eF s, H') ∧ H'.length = H.length ∧ ∀ b, (∀ ver full, lv ≠ .ms 8 b ver 0 fs.length full) → H'[b]? = H[b]? := by
 rcases h with ⟨rfl, rfl⟩ | ⟨b, ver, full, ys, rfl, h2, h3, h4, h5⟩
 ·exact ⟨.mk true [], H, rfl, rfl, rfl, fun _ _ => rfl⟩
 ·exact ⟨.mk full (ys.take fs.length), H.set b none, h3, frz_pre eeF (by decide) 10 h2 h4, by simp, fun b' hb' => List.getElem?_set_ne (fun hq => hb' ver full (by rw [hq]))⟩
theorem take_eF (f : FieldT) (R : List V) : List.take 8 (eF f ++ R) = eF f := rfl
theorem take_eK (f : KindT) (R : List V) : List.take 4 (eK f ++ R) = eK f := rfl
theorem take_eR (f : RuleT) (R : List V) : List.take 5 (eR f ++ R) = eR f := rfl
theorem ld_eF {fs : Array Field} {by_ : Nat} {z : V} (f : FieldT) (R : List V) : loadCs ⟨.struct fs, 8, by_, z⟩ (eF f ++ R) = some (.agg (eF f)) := by
 rw [load_struct, if_pos (by simp), take_eF]
theorem ld_eK {fs : Array Field} {by_ : Nat} {z : V} (f : KindT) (R : List V) : loadCs ⟨.struct fs, 4, by_, z⟩ (eK f ++ R) = some (.agg (eK f)) := by
 rw [load_struct, if_pos (by simp), take_eK]
theorem ld_eR {fs : Array Field} {by_ : Nat} {z : V} (f : RuleT) (R : List V) : loadCs ⟨.struct fs, 5, by_, z⟩ (eR f ++ R) = some (.agg (eR f)) := by
 rw [load_struct, if_pos (by simp), take_eR]
/-- A block of elements with one written over. -/
theorem wr_elem {α : Type} {e : α → List V} {n : Nat} (E : Ee e n) {ys : List α} {j : Nat} (hj : j < ys.length) (a : α) : List.take (j * n) (ys.map e).flatten ++ (e a ++ List.drop (j * n + n) (ys.map e).flatten) = ((ys.set j a).map e).flatten := by
 have h := blk_splice E (k := 0) hj (cs := e a) (by rw [E.len]; omega) (a := a) (by
  unfold splice
  rw [List.take_zero, List.nil_append, Nat.zero_add, E.len, List.drop_of_length_le (by rw [E.len]; exact Nat.le_refl _), List.append_nil])
 rw [← h]
 unfold splice
 rw [Nat.add_zero, E.len, List.append_assoc]
theorem wr_cell {α : Type} {e : α → List V} {n : Nat} (E : Ee e n) {ys : List α} {j k : Nat} (hj : j < ys.length) {c : V} (hk : k + 1 ≤ n) {a : α} (ha : e a = splice (e ys[j]) k [c]) : List.take (j * n + k) (ys.map e).flatten ++ c :: List.drop (j * n + k + 1) (ys.map e).flatten = ((ys.set j a).map e).flatten := by
 rw [← blk_splice E (k := k) hj (cs := [c]) (by simpa using hk) ha]
 simp [splice]
theorem LF.set {H : Heap} {N2 bl vl : Nat} {full : Bool} {lv : V} {fs ys : List FieldT} {J : Nat} {f : FieldT} (hlv : lv = .ms 8 bl vl 0 fs.length full) (h : getW H bl vl = some ((ys.set J f).map eF).flatten) (ht : ys.take fs.length = fs) (hl : fs.length ≤ ys.length) (hb : N2 ≤ bl) : LF H N2 lv (fs.set J f) :=
 .inr ⟨bl, vl, full, ys.set J f, by rw [List.length_set]; exact hlv, h, by rw [List.length_set, List.take_set, ht], by rw [List.length_set, List.length_set]; exact hl, hb⟩

theorem frz_schemaG {H H1 H2 : Heap} {ver : Int} {kv rv : V} {li : SL LifeT} {ks : SL KindT} {rs : SL RuleT} (h1 : frzV 11 H kv = some (enc eK ks, H1)) (h2 : frzV 11 H1 rv = some (enc eR rs, H2)) : ∃ H', frzV 12 H (.agg [.int .i64 ver, kv, enc eL li, rv]) = some (.agg (eX ⟨ver, ks, li, rs⟩), H') := by
 have e1 : ∀ (H : Heap) (v : V), v.pure = true → frzV 11 H v = some (v, H) := fun H v hv => by unfold frzV; rw [if_pos hv]
 by_cases hp : (V.agg [.int .i64 ver, kv, enc eL li, rv]).pure = true
 ·have hp' := hp
  simp only [V.pure, V.pureL, Bool.and_eq_true, Bool.true_and, Bool.and_true] at hp'
  obtain ⟨p1, _, p2⟩ := hp'
  rw [e1 _ _ p1] at h1
  injection h1 with h1; injection h1 with h1 h1'
  subst h1; subst h1'
  rw [e1 _ _ p2] at h2
  injection h2 with h2; injection h2 with h2 _
  subst h2
  exact ⟨H, by unfold frzV; rw [if_pos hp]; rfl⟩
 ·refine ⟨H2, ?_⟩
  unfold frzV
  rw [if_neg hp]
  simp only [frzList, e1 _ (.int _ _) rfl, h1, e1 _ (enc eL li) (enc_pure eeL li), h2]
  rfl
/-- One element left out. -/
theorem delF {H : Heap} {lv : V} {fs ys : List FieldT} {bl vl N2 J : Nat} {full : Bool} (hlv : lv = .ms 8 bl vl 0 fs.length full) (hg : getW H bl vl = some (ys.map eF).flatten) (ht : ys.take fs.length = fs) (hl : fs.length ≤ ys.length) (hb : N2 ≤ bl) (hJ : J < fs.length) (hr : fs.length ≤ 100) :
  ∃ (X1 X2 w : V) (H2 : Heap), (∀ H : Heap, sliceV Tryz.prog H 45 lv none (some (.int .i64 (J : Int))) none = some X1) ∧ (∀ H : Heap, sliceV Tryz.prog H 45 lv (some (.int .i64 ((J : Int) + 1))) none none = some X2) ∧ appendV Tryz.prog H 45 X1 X2 = some (w, H2) ∧ LF H2 N2 w (fs.eraseIdx J) ∧ H.length ≤ H2.length ∧ (∀ bb, bb < H.length → bb ≠ bl → H2[bb]? = H[bb]?) ∧ ∀ b v1 ff, w = .ms 8 b v1 0 (fs.eraseIdx J).length ff → b = bl ∨ H.length ≤ b := by
 subst hlv
 have hlt := getW_lt hg
 have h1 : ∀ H : Heap, sliceV Tryz.prog H 45 (.ms 8 bl vl 0 fs.length full) none (some (.int .i64 (J : Int))) none = some (.ms 8 bl vl 0 J (full && decide (fs.length = J))) := fun H => by
  have h2 : cutV fs.length full none (some (.int .i64 (J : Int))) none = some (0, J, full && decide (fs.length = J)) := by
   simp [cutV, bnd, Nat.le_of_lt hJ]
  have h3 : ¬(0 = J ∧ (0 : Nat) = fs.length) := fun h => by omega
  simp only [sliceV, LTf.hs, h2, sizeT, LTf.he, Option.map_some, Option.isSome_none, Bool.false_eq_true, false_or, if_true]
  rw [if_neg h3]
  simp
 have hdrop : (ys.take fs.length).drop (J + 1) = fs.drop (J + 1) := by rw [ht]
 by_cases hlast : J + 1 = fs.length
 ·have h2 : ∀ H : Heap, sliceV Tryz.prog H 45 (.ms 8 bl vl 0 fs.length full) (some (.int .i64 ((J : Int) + 1))) none none = some (.sl full []) := fun H => by
   have h2 : cutV fs.length full (some (.int .i64 ((J : Int) + 1))) none none = some (J + 1, fs.length, full) := by
    have h3 : (0 : Int) ≤ (J : Int) + 1 ∧ (J : Int) + 1 ≤ (fs.length : Int) := by omega
    have h4 : ((J : Int) + 1).toNat = J + 1 := by omega
    simp [cutV, bnd, h3, h4]
   simp [sliceV, LTf.hs, h2, sizeT, LTf.he, hlast]
  have he : fs.eraseIdx J = fs.take J := by rw [List.eraseIdx_eq_take_drop_succ, hlast, List.drop_length, List.append_nil]
  have hel : (fs.take J).length = J := by rw [List.length_take]; omega
  refine ⟨_, _, .ms 8 bl vl 0 J (full && decide (fs.length = J)), H, h1, h2, ?_, ?_, Nat.le_refl _, fun _ _ _ => rfl, fun b v1 ff hq => ?_⟩
  ·simp [appendV, LTf.hs, LTf.he, elemsOf]
  ·rw [he]
   refine .inr ⟨bl, vl, _, ys, by rw [hel], hg, ?_, by rw [hel]; omega, hb⟩
   rw [hel, ← ht, List.take_take]
   congr 1
   have := List.length_take (i := fs.length) (l := ys)
   omega
  ·injection hq with _ h; exact .inl h.symm
 ·have h2 : ∀ H : Heap, sliceV Tryz.prog H 45 (.ms 8 bl vl 0 fs.length full) (some (.int .i64 ((J : Int) + 1))) none none = some (.ms 8 bl vl ((J + 1) * 8) (fs.length - (J + 1)) full) := fun H => by
   have h2 : cutV fs.length full (some (.int .i64 ((J : Int) + 1))) none none = some (J + 1, fs.length, full) := by
    have h3 : (0 : Int) ≤ (J : Int) + 1 ∧ (J : Int) + 1 ≤ (fs.length : Int) := by omega
    have h4 : ((J : Int) + 1).toNat = J + 1 := by omega
    simp [cutV, bnd, h3, h4]
   simp [sliceV, LTf.hs, h2, sizeT, LTf.he, hlast]
  have hel : elemsOf H (.ms 8 bl vl ((J + 1) * 8) (fs.length - (J + 1)) full) = some ((fs.drop (J + 1)).map eF) := by
   rw [el_ms, getW_blk hg]
   simp only
   rw [if_pos (by rw [flat_len eeF]; omega), flat_drop eeF, chunk_pre eeF _ _ (by rw [List.length_drop]; omega)]
   congr 2
   rw [← hdrop, List.drop_take]
  obtain ⟨a, q, haq⟩ : ∃ a q, fs.drop (J + 1) = a :: q := by
   cases h : fs.drop (J + 1) with
   |nil => have := congrArg List.length h; rw [List.length_drop] at this; simp at this; omega
   |cons a q => exact ⟨a, q, rfl⟩
  have hok := all_ok eeF (fs.drop (J + 1))
  have hlen : (fs.drop (J + 1)).length = fs.length - (J + 1) := List.length_drop
  have he : fs.eraseIdx J = fs.take J ++ fs.drop (J + 1) := List.eraseIdx_eq_take_drop_succ ..
  have htk : (fs.take J).length = J := by rw [List.length_take]; omega
  have hyt2 : ys.take J = fs.take J := by
   rw [← ht, List.take_take]; congr 1
   have := List.length_take (i := fs.length) (l := ys)
   omega
  have hcs : List.take (J * 8) (ys.map eF).flatten = ((fs.take J).map eF).flatten := by rw [flat_take eeF, hyt2]
  refine ⟨_, _, .ms 8 H.length ((((fs.take J).map eF).flatten ++ ((fs.drop (J + 1)).map eF).flatten).length) 0 (J + (fs.length - (J + 1))) false, H.set bl none ++ [newBlk ((((fs.take J).map eF).flatten ++ ((fs.drop (J + 1)).map eF).flatten).length) (((fs.take J).map eF).flatten ++ ((fs.drop (J + 1)).map eF).flatten)], h1, h2, ?_, ?_, by simp, fun bb hb1 hb2 => ?_, fun b v1 ff hq => ?_⟩
  ·simp only [appendV, LTf.hs, LTf.he, hel]
   rw [haq] at hok hlen ⊢
   simp only [List.map_cons] at hok ⊢
   rw [if_neg (by rw [hok]; simp [V.cells])]
   simp only [hg, List.length_cons, List.length_map, flat_len eeF, List.drop_zero]
   simp only [List.length_cons] at hlen
   rw [if_pos ⟨trivial, by simp [room]; omega, by omega⟩, if_neg (by omega), hcs, hlen]
  ·rw [he]
   have hl2 : (fs.take J ++ fs.drop (J + 1)).length = J + (fs.length - (J + 1)) := by rw [List.length_append, htk, hlen]
   refine .inr ⟨H.length, _, false, fs.take J ++ fs.drop (J + 1), by rw [hl2], ?_, List.take_length, Nat.le_refl _, by omega⟩
   have := getW_new (H := H.set bl none) (r := []) (ver := (((fs.take J).map eF).flatten ++ ((fs.drop (J + 1)).map eF).flatten).length) (cs := ((fs.take J).map eF).flatten ++ ((fs.drop (J + 1)).map eF).flatten)
   rw [List.length_set] at this
   rw [this, List.map_append, List.flatten_append]
  ·rw [List.getElem?_append_left (by simpa using hb1), List.getElem?_set_ne (Ne.symm hb2)]
  ·injection hq with _ h; right; omega
theorem MutG.lenZ {α : Type} {P : Program} {ty et : TypeId} {i : TI} {e : α → List V} {n : Nat} {H : Heap} (T : LT P ty et i) {v : V} {ys : List α} (h : MutG e n (.mk true []) H v ys) : lenV P ty v = some ys.length := by
 rcases h with ⟨rfl, rfl⟩ | ⟨b, ver, rfl, _, _⟩
 ·exact enc_len T (.mk true [])
 ·exact msln T
theorem cAr (n most : Int) (h1 : -9223372036854775808 ≤ n) (h2 : n ≤ 9223372036854775807) (h3 : -9223372036854775808 ≤ most) (h4 : most ≤ 9223372036854775807) (H : Heap) : call LE 56 [.int .i64 n, .int .i64 most] H = some (.int .i64 (Around n most), H) := cAround n most ⟨h1, h2⟩ ⟨h3, h4⟩ H
theorem MutF.setb {α : Type} {e : α → List V} {n : Nat} {H : Heap} {b ver : Nat} {c : List V} {v : V} {ys : List α} (h : MutF e n H v ys) (hv : ∀ ver, v ≠ .ms n b ver 0 ys.length false) : MutF e n (setBlk H b ver c) v ys :=
 h.of fun b' ver' hq => by
  unfold setBlk
  rw [List.getElem?_set_ne (fun h => hv ver' (by rw [h]; exact hq))]
def BentQ (r : Nat) (v0 : V) (H' : Heap) : Prop := ∃ (x : SchemaT) (H'' : Heap), frzV 12 H' v0 = some (.agg (eX x), H'') ∧ okY r x

/-- diorama/dioramaref10.Bent -/
theorem cBent0 {x : SchemaT} {r : Nat} (hx : okY r x) (hr : r ≤ 20) {at_ how by_ : Int} (ha : I64 at_) (hh : I64 how) (hb : I64 by_) : ∃ v H1, runFn LE (exec LE) 30 [.agg (eX x), .int .i64 at_, .int .i64 how, .int .i64 by_] [] = some (v, H1) ∧ BentQ (r + 2) v H1 := by
 have hMa : LE.mode 56 = .snap := rfl
 have hxk := hx.kl
 have hxr := hx.rl
 obtain ⟨ha1, ha2⟩ := ha
 obtain ⟨hh1, hh2⟩ := hh
 obtain ⟨hb1, hb2⟩ := hb
 refine run_E (m := 241) Tryz.func30 rfl rfl (Nat.le_of_ble_eq_true rfl) ?_
 simp only [alOf]
 refine w_cut (fun al H => getW H 0 0 = some (eX x) ∧ getW H 1 0 = some [V.int .i64 0, V.nil, V.nil, V.nil] ∧ H.length = 2 ∧ al = [(1, .int .i64 at_), (2, .int .i64 how), (3, .int .i64 by_), (4, .mp 0 0 0), (8, .mp 1 0 0)]) ?_ ?_
 ·skip
  apply w_reg [1, 2, 3, 4, 8] rfl; intro Q hQ
  simp (disch := (first | omega | (repeat (first | exact okU_nil | refine okU1 (by omega) ?_)))) [wrap64, wrapU, leW, wrl, buildV, fillV, splice, sizeT, encN, cAr, hMa]
  apply after_some rfl; apply hQ; clear hQ Q
  repeat (with_reducible apply kblock_nrm)
  refine kcut_nrm ?_
  exact ⟨by simp [gw_zero], by simp [gw_succ, gw_zero], rfl, rfl⟩
 rintro al H ⟨g0, g1, hHl, rfl⟩
 have g0B := getW_blk g0
 have g1B := getW_blk g1
 have g0l := getW_lt g0
 have g1l := getW_lt g1
 rw [hx0 H]
 refine w_cut (fun al H => ∃ kv, getW H 0 0 = some [V.int .i64 x.version, kv, enc eL x.lives, enc eR x.rules] ∧ getW H 1 0 = some [V.int .i64 0, V.nil, V.nil, V.nil] ∧ MutG eK 4 (.mk true []) H kv x.kinds.list ∧ (∀ bb ver, bb < 2 → kv ≠ .ms 4 bb ver 0 x.kinds.list.length false) ∧ al = [(1, .int .i64 at_), (2, .int .i64 how), (3, .int .i64 by_), (4, .mp 0 0 0), (8, .mp 1 0 0)]) ?_ ?_
 ·skip
  have hAp := app3 (z := .mk true []) (H := (HX H [] [])) (v := V.sl true []) (x := enc eK x.kinds) (ys := []) (xs := x.kinds.list) (m := 2) LTk eeK (.inr rfl) (.inl ⟨rfl, rfl⟩) (elems_enc _) (by simp [room]; omega) (by rw [hx_len]; simp <;> omega) (fun _ _ _ h => (by cases h))
  obtain ⟨hA1, hA2, hA3, hA4, hA5⟩ := hAp
  have hA1' : appendV Tryz.prog (HX H [] []) _ (V.sl true []) (enc eK x.kinds) = _ := hA1
  have hA6 := getBlk_of (ver := 0) (hA4 0 (by omega))
  have hA7 := getW_of (ver := 0) (hA4 0 (by omega))
  obtain ⟨hA9, hA10⟩ := MutG.cells hA2
  have hA8 := hA3
  rw [hx_len] at hA8
  have hAo : ∀ bb, bb < 2 → bb ≠ 0 → ∀ c, (setBlk (apH Tryz.prog _ (HX H [] []) (V.sl true []) (enc eK x.kinds)) 0 0 c)[bb]? = H[bb]? := fun bb h1 h2 c => by
   unfold setBlk
   rw [List.getElem?_set_ne (Ne.symm h2), hA4 bb h1, hxG (by omega) (by simp)]
  apply w_reg [1, 2, 3, 4, 8] rfl; intro Q hQ
  simp (disch := (first | omega | (repeat (first | exact okU_nil | refine okU1 (by omega) ?_)))) [wrap64, wrapU, leW, wrl, buildV, fillV, splice, sizeT, encN, cAr, hMa, g0, g0B, g1, g1B, hA1', hA6, hA7, hA9, hA10, eX]
  apply after_some rfl; apply hQ; clear hQ Q
  repeat (with_reducible apply kblock_nrm)
  refine kcut_nrm ?_
  refine ⟨_, by rw [gW_set (by omega)], ?_, MutG.setb hA2 fun ver => hA5 0 ver (by omega), hA5, rfl⟩
  rw [getW_of (hAo 1 (by omega) (by decide) _)]; exact g1
 rintro al H ⟨kv, g0, g1, hK, hKv, rfl⟩
 have g0B := getW_blk g0
 have g1B := getW_blk g1
 have g0l := getW_lt g0
 have g1l := getW_lt g1
 obtain ⟨hkc1, hkc2⟩ := MutG.cells hK
 rw [hx0 H]
 refine w_cut (fun al H => ∃ kv rv N, getW H 0 0 = some [V.int .i64 x.version, kv, enc eL x.lives, rv] ∧ getW H 1 0 = some [V.int .i64 0, V.nil, V.nil, V.nil] ∧ MutG eK 4 (.mk true []) H kv x.kinds.list ∧ (∀ bb ver, bb < 2 ∨ N ≤ bb → kv ≠ .ms 4 bb ver 0 x.kinds.list.length false) ∧ MutG eR 5 (.mk true []) H rv x.rules.list ∧ (∀ bb ver, bb < N → rv ≠ .ms 5 bb ver 0 x.rules.list.length false) ∧ 2 ≤ N ∧ N ≤ H.length ∧ al = [(1, .int .i64 at_), (2, .int .i64 how), (3, .int .i64 by_), (4, .mp 0 0 0), (8, .mp 1 0 0)]) ?_ ?_
 ·skip
  have hAp := app3 (z := .mk true []) (H := (HX H [] [])) (v := V.sl true []) (x := enc eR x.rules) (ys := []) (xs := x.rules.list) (m := H.length) LTr eeR (.inr rfl) (.inl ⟨rfl, rfl⟩) (elems_enc _) (by simp [room]; omega) (by rw [hx_len]; simp <;> omega) (fun _ _ _ h => (by cases h))
  obtain ⟨hA1, hA2, hA3, hA4, hA5⟩ := hAp
  have hA1' : appendV Tryz.prog (HX H [] []) _ (V.sl true []) (enc eR x.rules) = _ := hA1
  have hA6 := getBlk_of (ver := 0) (hA4 0 (by omega))
  have hA7 := getW_of (ver := 0) (hA4 0 (by omega))
  obtain ⟨hA9, hA10⟩ := MutG.cells hA2
  have hA8 := hA3
  rw [hx_len] at hA8
  have hAo : ∀ bb, bb < H.length → bb ≠ 0 → ∀ c, (setBlk (apH Tryz.prog _ (HX H [] []) (V.sl true []) (enc eR x.rules)) 0 0 c)[bb]? = H[bb]? := fun bb h1 h2 c => by
   unfold setBlk
   rw [List.getElem?_set_ne (Ne.symm h2), hA4 bb h1, hxG (by omega) (by simp)]
  apply w_reg [1, 2, 3, 4, 8] rfl; intro Q hQ
  simp (disch := (first | omega | (repeat (first | exact okU_nil | refine okU1 (by omega) ?_)))) [wrap64, wrapU, leW, wrl, buildV, fillV, splice, sizeT, encN, cAr, hMa, g0, g0B, g1, g1B, g0, g0B, g1, g1B, hkc1, hkc2, hA1', hA6, hA7, hA9, hA10, eX]
  apply after_some rfl; apply hQ; clear hQ Q
  repeat (with_reducible apply kblock_nrm)
  refine kcut_nrm ?_
  refine ⟨kv, _, H.length, by rw [gW_set (by omega)], ?_, MutG.setb (MutG.of hK fun b ver hq => ?_) fun ver => hKv 0 ver (by decide), fun bb ver hb => ?_, MutG.setb hA2 fun ver => hA5 0 ver (by omega), hA5, by omega, by rw [setBlk_len]; omega, rfl⟩
  ·rw [getW_of (hAo 1 (by omega) (by decide) _)]; exact g1
  ·have hbl : b < H.length := by
    rcases Nat.lt_or_ge b H.length with h1 | h1
    ·exact h1
    ·exact absurd hq (MutG.lt hK (by decide) h1)
   rw [hA4 b hbl, hxG hbl (by simp)]
  ·rcases hb with hb | hb
   ·exact hKv bb ver hb
   ·exact MutG.lt hK (by decide) hb
 rintro al H ⟨kv, rv, N, g0, g1, hK, hKv, hR, hRv, hN2, hNH, rfl⟩
 have g0B := getW_blk g0
 have g1B := getW_blk g1
 have g0l := getW_lt g0
 have g1l := getW_lt g1
 obtain ⟨hkc1, hkc2⟩ := MutG.cells hK
 obtain ⟨hrc1, hrc2⟩ := MutG.cells hR
 have hkL : lenV Tryz.prog 30 kv = _ := MutG.lenZ LTk hK
 have hrL : lenV Tryz.prog 32 rv = _ := MutG.lenZ LTr hR
 rw [hx0 H]
 apply w_seq
 apply w_seq
 apply w_reg [1, 2, 3, 4, 8, 33] rfl; intro Q hQ
 simp (disch := (first | omega | (repeat (first | exact okU_nil | refine okU1 (by omega) ?_)))) [wrap64, wrapU, leW, wrl, buildV, fillV, splice, sizeT, encN, cAr, hMa, g0, g0B, g1, g1B, g0, g0B, g1, g1B, hkc1, hkc2, g0, g0B, g1, g1B, hkc1, hkc2, hrc1, hrc2, hkL, hrL]
 apply after_some rfl; apply hQ; clear hQ Q
 apply w_cond _ rfl <;> intro hc
 ·first
  |(simp at hc; done)
  |try simp [Int.natCast_inj] at hc
   apply w_seq
   apply w_reg [8] rfl; intro Q hQ
   simp (disch := (first | omega | (repeat (first | exact okU_nil | refine okU1 (by omega) ?_)))) [wrap64, wrapU, leW, wrl, buildV, fillV, splice, sizeT, encN, cAr, hMa, g0, g0B, g1, g1B, g0, g0B, g1, g1B, hkc1, hkc2, g0, g0B, g1, g1B, hkc1, hkc2, hrc1, hrc2, hkL, hrL]
   apply after_some rfl; apply hQ; clear hQ Q
   apply w_ret
   repeat (with_reducible (first | apply kseq_ret | apply kloop_ret | apply kcut_ret | apply kblock_ret))
   have hkl0 : x.kinds.list = [] := by
    cases h : x.kinds.list with
    |nil => rfl
    |cons a q => exfalso; rw [h] at hc; simp at hc
   have hkv0 : kv = .sl true [] := by
    rcases hK with h | ⟨_, _, _, _, h⟩
    ·exact h.1
    ·exact absurd hkl0 h
   subst hkv0
   generalize hG : HX H [(1, 0, [V.int .i64 x.version, V.sl true [], enc eL x.lives, rv])] [] = G
   have hM2 : MutG eR 5 (.mk true []) G rv x.rules.list := MutG.of hR fun b ver hq => by
    rw [← hG]
    refine hxG ?_ ?_
    ·rcases Nat.lt_or_ge b H.length with h1 | h1
     ·exact h1
     ·exact absurd hq (MutG.lt hR (by decide) h1)
    ·simp
     intro h1
     exact hRv b ver (by omega) hq
   obtain ⟨G3, hf4, _, _⟩ := MutG.frzP eeR (by decide) hM2 9
   obtain ⟨G4, hf5⟩ := frz_schemaG (ver := x.version) (li := x.lives) (show frzV 11 G (.sl true []) = some (enc eK (.mk true []), G) from rfl) hf4
   refine ⟨rfl, .agg [.int .i64 x.version, .sl true [], enc eL x.lives, rv], (resultsA_eq (rs := [.cell 8 34]) rfl).trans ?_, ⟨x.version, .mk true [], x.lives, doneSL (.mk true []) x.rules.list⟩, G4, hf5, ?_⟩
   ·rw [← hG]
    simp (disch := (first | omega | (repeat (first | exact okU_nil | refine okU1 (by omega) ?_)))) [resultsB, resultA]
   ·have e2 : (doneSL (SL.mk true []) x.rules.list).list = x.rules.list := by unfold doneSL; split <;> simp_all [SL.list]
    exact ⟨hx.ver, by simp [SL.list_mk], hx.ll, by rw [e2]; omega, fun _ h => (by cases h), hx.ls, fun k hk => hx.rs k (by rw [e2] at hk; exact hk)⟩
 ·first
  |(simp at hc; done)
  |try simp [Int.natCast_inj] at hc
   apply w_keep [1, 2, 3, 4, 8] rfl; apply w_skip
   apply w_seq
   have hne : x.kinds.list ≠ [] := fun h => by rw [h] at hc; simp at hc
   obtain ⟨bk, vk, hkv, gk, _⟩ := (show _ ∨ _ from hK).resolve_left (fun h => hne h.2)
   subst hkv
   have hkp : 0 < x.kinds.list.length := List.length_pos_iff.2 hne
   have gkB := getW_blk gk
   have gkl := getW_lt gk
   have hbk1 : 2 ≤ bk ∧ bk < N := by
    constructor
    ·rcases Nat.lt_or_ge bk 2 with h | h
     ·exact absurd rfl (hKv bk vk (.inl h))
     ·exact h
    ·rcases Nat.lt_or_ge bk N with h | h
     ·exact h
     ·exact absurd rfl (hKv bk vk (.inr h))
   have har := Around_range (n := at_) (most := (x.kinds.list.length : Int)) ⟨ha1, ha2⟩ (by omega)
   have hbr := Around_range (n := by_) (most := (x.kinds.list.length : Int)) ⟨hb1, hb2⟩ (by omega)
   obtain ⟨i, hie⟩ : ∃ i, Around at_ (x.kinds.list.length : Int) = i := ⟨_, rfl⟩
   obtain ⟨i2, hie2⟩ : ∃ i, Around by_ (x.kinds.list.length : Int) = i := ⟨_, rfl⟩
   rw [hie] at har
   rw [hie2] at hbr
   have hix1 : indexAddrV Tryz.prog 30 (.ms 4 bk vk 0 x.kinds.list.length false) i = _ := msix LTk (b := bk) (ver := vk) (off := 0) (full := false) har.1 har.2
   have hix2 : indexAddrV Tryz.prog 30 (.ms 4 bk vk 0 x.kinds.list.length false) i2 = _ := msix LTk (b := bk) (ver := vk) (off := 0) (full := false) hbr.1 hbr.2
   have hix3 : indexAddrV Tryz.prog 30 (.ms 4 bk vk 0 x.kinds.list.length false) 0 = _ := msix LTk (b := bk) (ver := vk) (off := 0) (full := false) (i := 0) (by omega) (by omega)
   obtain ⟨q, hq⟩ : ∃ q, x.kinds.list[i.toNat]'(by omega) = q := ⟨_, rfl⟩
   obtain ⟨q2, hq2⟩ : ∃ q, x.kinds.list[i2.toNat]'(by omega) = q := ⟨_, rfl⟩
   obtain ⟨q3, hq3⟩ : ∃ q, x.kinds.list[0] = q := ⟨_, rfl⟩
   have hD1 := blk_drop eeK (ys := x.kinds.list) (j := i.toNat) (k := 3) (by omega) (by decide)
   have hD2 := blk_drop eeK (ys := x.kinds.list) (j := i2.toNat) (k := 0) (by omega) (by decide)
   have hD3 := blk_drop eeK (ys := x.kinds.list) (j := 0) (k := 0) hkp (by decide)
   rw [hq] at hD1
   rw [hq2] at hD2
   rw [hq3] at hD3
   simp only [Nat.add_zero, Nat.zero_mul, List.drop_zero] at hD2 hD3
   have hD1 : List.drop (i.toNat * 4 + 3) (List.map eK x.kinds.list).flatten = enc eF q.fields :: _ := hD1
   have hD2 : List.drop (i2.toNat * 4) (List.map eK x.kinds.list).flatten = .str q2.name :: _ := hD2
   have hLd3 : ∀ (sz b : Nat) (z : V), loadCs ⟨.string, sz, b, z⟩ (List.map eK x.kinds.list).flatten = some (.str q3.name) := fun sz b z => by rw [hD3]; rfl
   obtain ⟨R3, hD3⟩ : ∃ R, (List.map eK x.kinds.list).flatten = .str q3.name :: R := ⟨_, hD3⟩
   have hqm := hx.ks q (by rw [← hq]; exact List.getElem_mem _)
   have hApF := app3 (H := (HX H [] [])) (z := .mk true []) (v := .sl true []) (x := enc eF q.fields) (ys := []) (xs := q.fields.list) (m := H.length) LTf eeF (.inr rfl) (.inl ⟨rfl, rfl⟩) (elems_enc _) (by simp [room]; have := hqm.len; omega) (by rw [hx_len]; simp) (fun _ _ _ h => (by cases h))
   obtain ⟨lv, H2, hF1', hF2, hF3, hF4, hF5⟩ : ∃ v' H', appendV Tryz.prog (HX H [] []) 45 (.sl true []) (enc eF q.fields) = some (v', H') ∧ MutG eF 8 (.mk true []) H' v' ([] ++ q.fields.list) ∧ (HX H [] []).length ≤ H'.length ∧ (∀ bb, bb < H.length → H'[bb]? = (HX H [] [])[bb]?) ∧ ∀ bb ver, bb < H.length → v' ≠ .ms 8 bb ver 0 ([] ++ q.fields.list).length false := ⟨_, _, hApF⟩
   rw [hx0 H2] at hF1'
   rw [hx_len] at hF3
   have hP : ∀ bb, bb < H.length → H2[bb]? = H[bb]? := fun bb h1 => by rw [hF4 bb h1, hxG h1 (by simp)]
   have f0 : getW H2 0 0 = _ := (getW_of (hP 0 (by omega))).trans g0
   have f0B := getW_blk f0
   have f0l := getW_lt f0
   have fk : getW H2 bk vk = _ := (getW_of (hP bk gkl)).trans gk
   have fkB := getW_blk fk
   have fkl := getW_lt fk
   apply w_reg [1, 2, 3, 4, 8, 9] rfl; intro Q hQ
   simp (disch := (first | omega | (repeat (first | exact okU_nil | refine okU1 (by omega) ?_)))) [wrap64, wrapU, leW, wrl, buildV, fillV, splice, sizeT, encN, cAr, hMa, g0, g0B, g1, g1B, g0, g0B, g1, g1B, hkc1, hkc2, g0, g0B, g1, g1B, hkc1, hkc2, hrc1, hrc2, hkL, hrL, gk, gkB, hie, hie2, hix1, hix2, hix3, hD1, hD2, hLd3, hF1', f0, f0B, fk, fkB]
   apply after_some rfl; apply hQ; clear hQ Q
   apply w_seq
   apply w_reg [1, 2, 3, 4, 8, 9, 10] rfl; intro Q hQ
   simp (disch := (first | omega | (repeat (first | exact okU_nil | refine okU1 (by omega) ?_)))) [wrap64, wrapU, leW, wrl, buildV, fillV, splice, sizeT, encN, cAr, hMa, g0, g0B, g1, g1B, g0, g0B, g1, g1B, hkc1, hkc2, g0, g0B, g1, g1B, hkc1, hkc2, hrc1, hrc2, hkL, hrL, gk, gkB, hie, hie2, hix1, hix2, hix3, hD1, hD2, hLd3, hF1', f0, f0B, fk, fkB]
   apply after_some rfl; apply hQ; clear hQ Q
   refine w_cut (fun al H => ∃ (bk vk : Nat) (ks : List KindT) (rv : V) (rs : List RuleT) (N : Nat) (i : Int) (lv nv : V) (fs : List FieldT) (ns : List Str) (N2 N3 : Nat), getW H 0 0 = some [V.int .i64 x.version, .ms 4 bk vk 0 ks.length false, enc eL x.lives, rv] ∧ getW H 1 0 = some [V.int .i64 0, V.nil, V.nil, V.nil] ∧ getW H bk vk = some (ks.map eK).flatten ∧ 2 ≤ bk ∧ bk < N ∧ MutG eR 5 (.mk true []) H rv rs ∧ (∀ bb ver, bb < N → rv ≠ .ms 5 bb ver 0 rs.length false) ∧ N ≤ H.length ∧ 1 ≤ ks.length ∧ ks.length ≤ 4 ∧ (∀ k ∈ ks, okK2 24 k) ∧ rs.length ≤ r ∧ (∀ k ∈ rs, okR k) ∧ 0 ≤ i ∧ i < ks.length ∧ LF H N2 lv fs ∧ (∀ f ∈ fs, okF f) ∧ fs.length ≤ 24 ∧ (∀ b ver full, lv = .ms 8 b ver 0 fs.length full → b < N3) ∧ N ≤ N2 ∧ N2 ≤ N3 ∧ N3 ≤ H.length ∧ (∀ bb ver, N2 ≤ bb → rv ≠ .ms 5 bb ver 0 rs.length false) ∧ MutF eS 1 H nv ns ∧ (∀ bb ver, bb < N3 → nv ≠ .ms 1 bb ver 0 ns.length false) ∧ 1 ≤ ns.length ∧ ns.length ≤ 40 ∧ ns.length = 4 ∧ al = [(1, .int .i64 at_), (2, .int .i64 how), (3, .int .i64 by_), (4, .mp 0 0 0), (8, .mp 1 0 0), (9, .int .i64 i), (10, lv), (11, nv)]) ?_ ?_
   ·skip
    apply w_drw [1, 2, 3, 4, 8, 9, 10, 11] rfl rfl (by kernel_rfl) 0 rfl; intro Q hQ
    simp (disch := (first | omega | (repeat (first | exact okU_nil | refine okU1 (by omega) ?_)))) [wrap64, wrapU, leW, wrl, buildV, fillV, splice, sizeT, encN, cAr, hMa, g0, g0B, g1, g1B, g0, g0B, g1, g1B, hkc1, hkc2, g0, g0B, g1, g1B, hkc1, hkc2, hrc1, hrc2, hkL, hrL, gk, gkB, hie, hie2, hix1, hix2, hix3, hD1, hD2, hLd3, hF1', f0, f0B, fk, fkB]
    apply after_some rfl; apply hQ; clear hQ Q
    repeat (with_reducible apply kblock_nrm)
    refine kcut_nrm ?_
    refine ⟨bk, vk, x.kinds.list, rv, x.rules.list, N, i, lv, _, q.fields.list, [[], [110, 111, 98, 111, 100, 121], q2.name, q3.name], H.length, H2.length, by simp (disch := (first | omega | (repeat (first | exact okU_nil | refine okU1 (by omega) ?_)))) [f0], by simp (disch := (first | omega | (repeat (first | exact okU_nil | refine okU1 (by omega) ?_)))); exact (getW_of (hP 1 (by omega))).trans g1, by simp (disch := (first | omega | (repeat (first | exact okU_nil | refine okU1 (by omega) ?_)))) [fk], hbk1.1, hbk1.2, MutG.hx (u := []) (r := []) (MutG.of hR fun b ver hq => hP b (by
     rcases Nat.lt_or_ge b H.length with h1 | h1
     ·exact h1
     ·exact absurd hq (MutG.lt hR (by decide) h1))) (by simp), hRv, by rw [hx_len]; omega, hkp, hxk, hx.ks, hxr, hx.rs, har.1, har.2, LF.of (H := H2) ?_ (fun b h1 h2 => hxG h2 (by simp)), hqm.ok, hqm.len, fun b ver full hq => ?_, hNH, by omega, by rw [hx_len]; omega, fun bb ver h => MutG.lt hR (by decide) h, .inl rfl, fun _ _ _ h => (by cases h), by simp, by simp, by simp, rfl⟩
    ·rcases hF2 with ⟨h1, h2⟩ | ⟨b, ver, h1, h2, h3⟩
     ·exact .inl ⟨h1, by simpa using h2⟩
     ·refine .inr ⟨b, ver, false, q.fields.list, h1, h2, by simp, Nat.le_refl _, ?_⟩
      rcases Nat.lt_or_ge b H.length with h4 | h4
      ·exact absurd h1 (hF5 b ver h4)
      ·exact h4
    ·rcases hF2 with ⟨h1, h2⟩ | ⟨b', ver', h1, h2, h3⟩
     ·rw [h1] at hq; cases hq
     ·rw [h1] at hq
      have := getW_lt h2
      injection hq with _ h4
      omega
   rintro al H ⟨bk, vk, ks, rv, rs, N, i, lv, nv, fs, ns, N2, N3, g0, g1, gk, hbk1, hbk2, hR, hRv, hNH, hkn1, hkn2, hkk, hrl, hrk, hi0, hi1, hL, hLk, hLl, hLb, hNN, hNN2, hNN3, hRv2, hS, hSv, hns1, hns2, hns4, rfl⟩
   have g0B := getW_blk g0
   have g1B := getW_blk g1
   have g0l := getW_lt g0
   have g1l := getW_lt g1
   have hrb : ∀ b ver, rv = .ms 5 b ver 0 rs.length false → N ≤ b ∧ b < H.length := fun b ver hq => by
    constructor
    ·rcases Nat.lt_or_ge b N with h | h
     ·exact absurd hq (hRv b ver h)
     ·exact h
    ·rcases Nat.lt_or_ge b H.length with h | h
     ·exact h
     ·exact absurd hq (MutG.lt hR (by decide) h)
   have gkB := getW_blk gk
   have gkl := getW_lt gk
   obtain ⟨hrc1, hrc2⟩ := MutG.cells hR
   have hrL : lenV Tryz.prog 32 rv = some rs.length := MutG.lenZ LTr hR
   have hrb : ∀ b ver, rv = .ms 5 b ver 0 rs.length false → N ≤ b ∧ b < N2 := fun b ver hq => by
    constructor
    ·rcases Nat.lt_or_ge b N with h | h
     ·exact absurd hq (hRv b ver h)
     ·exact h
    ·rcases Nat.lt_or_ge b N2 with h | h
     ·exact h
     ·exact absurd hq (hRv2 b ver h)
   have hnb : ∀ b ver, nv = .ms 1 b ver 0 ns.length false → N3 ≤ b ∧ b < H.length := fun b ver hq => by
    constructor
    ·rcases Nat.lt_or_ge b N3 with h | h
     ·exact absurd hq (hSv b ver h)
     ·exact h
    ·rcases Nat.lt_or_ge b H.length with h | h
     ·exact h
     ·exact absurd hq (hS.lt h)
   obtain ⟨hsc1, hsc2⟩ := MutF.cells hS
   have hsL : lenV Tryz.prog 38 nv = some ns.length := MutF.len LTs hS
   have hlL : lenV Tryz.prog 45 lv = some fs.length := LF.len hL
   apply w_seq
   apply w_seq
   apply w_reg [1, 2, 3, 4, 8, 9, 10, 11, 12] rfl; intro Q hQ
   simp (disch := (first | omega | (repeat (first | exact okU_nil | refine okU1 (by omega) ?_)))) [wrap64, wrapU, leW, wrl, buildV, fillV, splice, sizeT, encN, cAr, hMa, g0, g0B, g1, g1B, g0, g0B, g1, g1B, hkc1, hkc2, g0, g0B, g1, g1B, hkc1, hkc2, hrc1, hrc2, hkL, hrL, gk, gkB, hie, hie2, hix1, hix2, hix3, hD1, hD2, hLd3, hF1', f0, f0B, fk, fkB, g0, g0B, g1, g1B, gk, gkB, hrc1, hrc2, hrL, msln LTk, hsc1, hsc2, hsL, hlL]
   apply after_some rfl; apply hQ; clear hQ Q
   apply w_block
   refine w_loop (fun m al H => ∃ (bk vk : Nat) (ks : List KindT) (rv : V) (rs : List RuleT) (N : Nat) (i : Int) (lv nv : V) (fs : List FieldT) (ns : List Str) (N2 N3 : Nat) (jj : Nat), getW H 0 0 = some [V.int .i64 x.version, .ms 4 bk vk 0 ks.length false, enc eL x.lives, rv] ∧ getW H 1 0 = some [V.int .i64 0, V.nil, V.nil, V.nil] ∧ getW H bk vk = some (ks.map eK).flatten ∧ 2 ≤ bk ∧ bk < N ∧ MutG eR 5 (.mk true []) H rv rs ∧ (∀ bb ver, bb < N → rv ≠ .ms 5 bb ver 0 rs.length false) ∧ N ≤ H.length ∧ 1 ≤ ks.length ∧ ks.length ≤ 4 ∧ (∀ k ∈ ks, okK2 24 k) ∧ rs.length ≤ r ∧ (∀ k ∈ rs, okR k) ∧ 0 ≤ i ∧ i < ks.length ∧ LF H N2 lv fs ∧ (∀ f ∈ fs, okF f) ∧ fs.length ≤ 24 ∧ (∀ b ver full, lv = .ms 8 b ver 0 fs.length full → b < N3) ∧ N ≤ N2 ∧ N2 ≤ N3 ∧ N3 ≤ H.length ∧ (∀ bb ver, N2 ≤ bb → rv ≠ .ms 5 bb ver 0 rs.length false) ∧ MutF eS 1 H nv ns ∧ (∀ bb ver, bb < N3 → nv ≠ .ms 1 bb ver 0 ns.length false) ∧ 1 ≤ ns.length ∧ ns.length ≤ 40 ∧ jj ≤ fs.length ∧ ns.length = 4 + jj ∧ m = fs.length - jj ∧ al = [(1, .int .i64 at_), (2, .int .i64 how), (3, .int .i64 by_), (4, .mp 0 0 0), (8, .mp 1 0 0), (9, .int .i64 i), (10, lv), (11, nv), (12, .int .i64 (jj : Int))]) (fs.length) ?_ ?_
   ·exact ⟨bk, vk, ks, rv, rs, N, i, lv, nv, fs, ns, N2, N3, 0, g0, g1, gk, hbk1, hbk2, hR, hRv, hNH, hkn1, hkn2, hkk, hrl, hrk, hi0, hi1, hL, hLk, hLl, hLb, hNN, hNN2, hNN3, hRv2, hS, hSv, hns1, hns2, by omega, by omega, rfl, rfl⟩
   rintro m al H ⟨bk, vk, ks, rv, rs, N, i, lv, nv, fs, ns, N2, N3, jj, g0, g1, gk, hbk1, hbk2, hR, hRv, hNH, hkn1, hkn2, hkk, hrl, hrk, hi0, hi1, hL, hLk, hLl, hLb, hNN, hNN2, hNN3, hRv2, hS, hSv, hns1, hns2, hjj, hnj, hmj, rfl⟩
   have g0B := getW_blk g0
   have g1B := getW_blk g1
   have g0l := getW_lt g0
   have g1l := getW_lt g1
   have hrb : ∀ b ver, rv = .ms 5 b ver 0 rs.length false → N ≤ b ∧ b < H.length := fun b ver hq => by
    constructor
    ·rcases Nat.lt_or_ge b N with h | h
     ·exact absurd hq (hRv b ver h)
     ·exact h
    ·rcases Nat.lt_or_ge b H.length with h | h
     ·exact h
     ·exact absurd hq (MutG.lt hR (by decide) h)
   have gkB := getW_blk gk
   have gkl := getW_lt gk
   obtain ⟨hrc1, hrc2⟩ := MutG.cells hR
   have hrL : lenV Tryz.prog 32 rv = some rs.length := MutG.lenZ LTr hR
   have hrb : ∀ b ver, rv = .ms 5 b ver 0 rs.length false → N ≤ b ∧ b < N2 := fun b ver hq => by
    constructor
    ·rcases Nat.lt_or_ge b N with h | h
     ·exact absurd hq (hRv b ver h)
     ·exact h
    ·rcases Nat.lt_or_ge b N2 with h | h
     ·exact h
     ·exact absurd hq (hRv2 b ver h)
   have hnb : ∀ b ver, nv = .ms 1 b ver 0 ns.length false → N3 ≤ b ∧ b < H.length := fun b ver hq => by
    constructor
    ·rcases Nat.lt_or_ge b N3 with h | h
     ·exact absurd hq (hSv b ver h)
     ·exact h
    ·rcases Nat.lt_or_ge b H.length with h | h
     ·exact h
     ·exact absurd hq (hS.lt h)
   obtain ⟨hsc1, hsc2⟩ := MutF.cells hS
   have hsL : lenV Tryz.prog 38 nv = some ns.length := MutF.len LTs hS
   have hlL : lenV Tryz.prog 45 lv = some fs.length := LF.len hL
   rw [hx0 H]
   apply w_seq
   apply w_seq
   apply w_reg [1, 2, 3, 4, 8, 9, 10, 11, 12, 67] rfl; intro Q hQ
   simp (disch := (first | omega | (repeat (first | exact okU_nil | refine okU1 (by omega) ?_)))) [wrap64, wrapU, leW, wrl, buildV, fillV, splice, sizeT, encN, cAr, hMa, g0, g0B, g1, g1B, g0, g0B, g1, g1B, hkc1, hkc2, g0, g0B, g1, g1B, hkc1, hkc2, hrc1, hrc2, hkL, hrL, gk, gkB, hie, hie2, hix1, hix2, hix3, hD1, hD2, hLd3, hF1', f0, f0B, fk, fkB, g0, g0B, g1, g1B, gk, gkB, hrc1, hrc2, hrL, msln LTk, hsc1, hsc2, hsL, hlL, g0, g0B, g1, g1B, gk, gkB, hrc1, hrc2, hrL, msln LTk, hsc1, hsc2, hsL, hlL]
   apply after_some rfl; apply hQ; clear hQ Q
   apply w_cond _ rfl <;> intro hc
   ·first
    |(simp at hc; done)
    |try simp [Int.natCast_inj] at hc
     apply w_keep [1, 2, 3, 4, 8, 9, 10, 11, 12] rfl; apply w_skip
     apply w_seq
     apply w_block
     have hjl : jj < fs.length := by omega
     have hfne : fs ≠ [] := fun h => by rw [h] at hjl; simp at hjl
     obtain ⟨bl, vl, full, ys, hlv0, glW, hyt, hyl, hbl2⟩ := (show _ ∨ _ from hL).resolve_left (fun h => hfne h.2)
     have hlv : PLift (lv = .ms 8 bl vl 0 fs.length full) := ⟨hlv0⟩
     clear hlv0
     have glB := getW_blk glW
     have gll := getW_lt glW
     have hbl3 : bl < N3 := hLb bl vl full hlv.down
     have hyg : ∀ (k : Nat) (h : k < fs.length), ys[k]'(by omega) = fs[k] := fun k h => by
      have : (ys.take fs.length)[k]'(by rw [hyt]; exact h) = fs[k] := by simp only [hyt]
      rw [← this, List.getElem_take]
     have hixl : indexAddrV Tryz.prog 45 lv (jj : Int) = some (.mp bl vl (jj * 8)) := by
      have := msix LTf (b := bl) (ver := vl) (off := 0) (full := full) (len := fs.length) (i := (jj : Int)) (by omega) (by omega)
      rw [Int.toNat_natCast, Nat.zero_add] at this
      rw [hlv.down]; exact this
     have hDl := blk_drop eeF (ys := ys) (j := jj) (k := 0) (by omega) (by decide)
     rw [hyg jj hjl] at hDl
     simp only [Nat.add_zero, List.drop_zero] at hDl
     have hDl : List.drop (jj * 8) (List.map eF ys).flatten = .str fs[jj].name :: _ := hDl
     have hAp := appF (H := (HX H [] [newBlk 1 [V.str fs[jj].name]])) (v := nv) (x := (V.ms 1 H.length 1 0 1 true)) (ys := ns) (xs := [fs[jj].name]) (m := N3) LTs eeS (hS.of fun b ver hq => hxG (by
      rcases Nat.lt_or_ge b H.length with h1 | h1
      ·exact h1
      ·exact absurd hq (hS.lt h1)) (by simp)) (by rw [el_ms, hxB0, gb_zero]; simp [chunk, eS]) (by simp [room]; omega) (by rw [hx_len]; simp; omega) hSv
     obtain ⟨hA1, hA2, hA3, hA4, hA5⟩ := hAp
     have hA1' : appendV Tryz.prog (HX H [] [newBlk 1 [V.str fs[jj].name]]) 38 nv (V.ms 1 H.length 1 0 1 true) = _ := hA1
     have hA8 := hA3
     rw [hx_len] at hA8
     have hAo : ∀ bb, bb < N3 → (apH Tryz.prog 38 (HX H [] [newBlk 1 [V.str fs[jj].name]]) nv (V.ms 1 H.length 1 0 1 true))[bb]? = H[bb]? := fun bb h1 => by
      rw [hA4 bb h1, hxG (by omega) (by simp)]
     apply w_reg [1, 2, 3, 4, 8, 9, 10, 11, 12] rfl; intro Q hQ
     simp (disch := (first | omega | (repeat (first | exact okU_nil | refine okU1 (by omega) ?_)))) [wrap64, wrapU, leW, wrl, buildV, fillV, splice, sizeT, encN, cAr, hMa, g0, g0B, g1, g1B, g0, g0B, g1, g1B, hkc1, hkc2, g0, g0B, g1, g1B, hkc1, hkc2, hrc1, hrc2, hkL, hrL, gk, gkB, hie, hie2, hix1, hix2, hix3, hD1, hD2, hLd3, hF1', f0, f0B, fk, fkB, g0, g0B, g1, g1B, gk, gkB, hrc1, hrc2, hrL, msln LTk, hsc1, hsc2, hsL, hlL, g0, g0B, g1, g1B, gk, gkB, hrc1, hrc2, hrL, msln LTk, hsc1, hsc2, hsL, hlL, hixl, hDl, glW, glB, hA1']
     apply after_some rfl; apply hQ; clear hQ Q
     apply w_reg [1, 2, 3, 4, 8, 9, 10, 11, 12] rfl; intro Q hQ
     simp (disch := (first | omega | (repeat (first | exact okU_nil | refine okU1 (by omega) ?_)))) [wrap64, wrapU, leW, wrl, buildV, fillV, splice, sizeT, encN, cAr, hMa, g0, g0B, g1, g1B, g0, g0B, g1, g1B, hkc1, hkc2, g0, g0B, g1, g1B, hkc1, hkc2, hrc1, hrc2, hkL, hrL, gk, gkB, hie, hie2, hix1, hix2, hix3, hD1, hD2, hLd3, hF1', f0, f0B, fk, fkB, g0, g0B, g1, g1B, gk, gkB, hrc1, hrc2, hrL, msln LTk, hsc1, hsc2, hsL, hlL, g0, g0B, g1, g1B, gk, gkB, hrc1, hrc2, hrL, msln LTk, hsc1, hsc2, hsL, hlL, hixl, hDl, glW, glB, hA1']
     apply after_some rfl; apply hQ; clear hQ Q
     repeat (with_reducible apply kblock_nrm)
     have hNl := hA3
     refine kloop_back (fs.length - (jj + 1)) (by omega) ⟨bk, vk, ks, rv, rs, N, i, lv, _, fs, ns ++ [fs[jj].name], N2, N3, jj + 1, ?_, ?_, ?_, hbk1, hbk2, MutG.of hR fun b ver hq => hAo b ?_, hRv, by omega, hkn1, hkn2, hkk, hrl, hrk, hi0, hi1, ?_, hLk, hLl, hLb, hNN, hNN2, by omega, hRv2, hA2, hA5, by simp, by simp; omega, by omega, by simp; omega, rfl, rfl⟩
     ·rw [getW_of (hAo 0 (by omega))]; exact g0
     ·rw [getW_of (hAo 1 (by omega))]; exact g1
     ·rw [getW_of (hAo bk (by omega))]; exact gk
     ·rcases Nat.lt_or_ge b N2 with h1 | h1
      ·omega
      ·exact absurd hq (hRv2 b ver h1)
     ·exact .inr ⟨bl, vl, full, ys, hlv.down, by rw [getW_of (hAo bl hbl3)]; exact glW, hyt, hyl, hbl2⟩
   ·first
    |(simp at hc; done)
    |try simp [Int.natCast_inj] at hc
     apply w_exit
     repeat (first | with_reducible apply kseq_exit | with_reducible apply kloop_exit | with_reducible apply kcut_exit | with_reducible apply kblock_exit | with_reducible apply kblock_pass (by decide))
     apply w_seq
     have hbr := Around_range (n := by_) (most := (ns.length : Int)) ⟨hb1, hb2⟩ (by omega)
     obtain ⟨ix, hie⟩ : ∃ i, Around by_ (ns.length : Int) = i := ⟨_, rfl⟩
     rw [hie] at hbr
     obtain ⟨a1, R1, hia1, hia2⟩ := hS.idx LTs eeS hbr.1 hbr.2
     rw [hx0 H] at hia2
     obtain ⟨nm, hnm⟩ : ∃ nm, ns[ix.toNat]'(by omega) = nm := ⟨_, rfl⟩
     rw [hnm] at hia2
     have hia2 : behind (HX H [] []) a1 = some (.str nm :: R1) := hia2
     have hia1 : indexAddrV Tryz.prog 38 nv ix = some a1 := hia1
     obtain ⟨mx, hmx, hmx1, hmx2⟩ : ∃ mx : Int, (if (1 : Int) > (fs.length : Int) then (1 : Int) else (fs.length : Int)) = mx ∧ 1 ≤ mx ∧ mx ≤ 24 := by
      split
      ·exact ⟨1, rfl, by omega, by omega⟩
      ·exact ⟨fs.length, rfl, by omega, by omega⟩
     have hd5 := tdiv_I64 (n := at_) (k := 5) ⟨ha1, ha2⟩ (by decide)
     obtain ⟨hd51, hd52⟩ := hd5
     have hjr := Around_range (n := at_.tdiv 5) (most := mx) ⟨hd51, hd52⟩ hmx1
     have hhr := Around_range (n := how) (most := 9) ⟨hh1, hh2⟩ (by decide)
     apply w_reg [1, 2, 3, 4, 8, 9, 10, 11, 13] rfl; intro Q hQ
     simp (disch := (first | omega | (repeat (first | exact okU_nil | refine okU1 (by omega) ?_)))) [wrap64, wrapU, leW, wrl, buildV, fillV, splice, sizeT, encN, cAr, hMa, g0, g0B, g1, g1B, g0, g0B, g1, g1B, hkc1, hkc2, g0, g0B, g1, g1B, hkc1, hkc2, hrc1, hrc2, hkL, hrL, gk, gkB, hie, hie2, hix1, hix2, hix3, hD1, hD2, hLd3, hF1', f0, f0B, fk, fkB, g0, g0B, g1, g1B, gk, gkB, hrc1, hrc2, hrL, msln LTk, hsc1, hsc2, hsL, hlL, g0, g0B, g1, g1B, gk, gkB, hrc1, hrc2, hrL, msln LTk, hsc1, hsc2, hsL, hlL, hie, hia1, hia2, hmx, ql_max, hd51, hd52]
     apply after_some rfl; apply hQ; clear hQ Q
     apply w_seq
     apply w_reg [1, 2, 3, 4, 8, 9, 10, 11, 13, 14] rfl; intro Q hQ
     simp (disch := (first | omega | (repeat (first | exact okU_nil | refine okU1 (by omega) ?_)))) [wrap64, wrapU, leW, wrl, buildV, fillV, splice, sizeT, encN, cAr, hMa, g0, g0B, g1, g1B, g0, g0B, g1, g1B, hkc1, hkc2, g0, g0B, g1, g1B, hkc1, hkc2, hrc1, hrc2, hkL, hrL, gk, gkB, hie, hie2, hix1, hix2, hix3, hD1, hD2, hLd3, hF1', f0, f0B, fk, fkB, g0, g0B, g1, g1B, gk, gkB, hrc1, hrc2, hrL, msln LTk, hsc1, hsc2, hsL, hlL, g0, g0B, g1, g1B, gk, gkB, hrc1, hrc2, hrL, msln LTk, hsc1, hsc2, hsL, hlL, hie, hia1, hia2, hmx, ql_max, hd51, hd52]
     apply after_some rfl; apply hQ; clear hQ Q
     refine w_cut (fun al H => ∃ (bk vk : Nat) (ks : List KindT) (rv : V) (rs : List RuleT) (N : Nat) (i : Int) (lv nv : V) (fs : List FieldT) (ns : List Str) (N2 N3 : Nat) (hw j : Int) (nm : Str), getW H 0 0 = some [V.int .i64 x.version, .ms 4 bk vk 0 ks.length false, enc eL x.lives, rv] ∧ getW H 1 0 = some [V.int .i64 0, V.nil, V.nil, V.nil] ∧ getW H bk vk = some (ks.map eK).flatten ∧ 2 ≤ bk ∧ bk < N ∧ MutG eR 5 (.mk true []) H rv rs ∧ (∀ bb ver, bb < N → rv ≠ .ms 5 bb ver 0 rs.length false) ∧ N ≤ H.length ∧ 1 ≤ ks.length ∧ ks.length ≤ 4 ∧ (∀ k ∈ ks, okK2 24 k) ∧ rs.length ≤ r ∧ (∀ k ∈ rs, okR k) ∧ 0 ≤ i ∧ i < ks.length ∧ LF H N2 lv fs ∧ (∀ f ∈ fs, okF f) ∧ fs.length ≤ 24 ∧ (∀ b ver full, lv = .ms 8 b ver 0 fs.length full → b < N3) ∧ N ≤ N2 ∧ N2 ≤ N3 ∧ N3 ≤ H.length ∧ (∀ bb ver, N2 ≤ bb → rv ≠ .ms 5 bb ver 0 rs.length false) ∧ MutF eS 1 H nv ns ∧ (∀ bb ver, bb < N3 → nv ≠ .ms 1 bb ver 0 ns.length false) ∧ 1 ≤ ns.length ∧ ns.length ≤ 40 ∧ 0 ≤ hw ∧ hw < 9 ∧ 0 ≤ j ∧ al = [(1, .int .i64 at_), (2, .int .i64 hw), (3, .int .i64 by_), (4, .mp 0 0 0), (8, .mp 1 0 0), (9, .int .i64 i), (10, lv), (11, nv), (13, .str nm), (14, .int .i64 j)]) ?_ ?_
     ·skip
      apply w_reg [1, 2, 3, 4, 8, 9, 10, 11, 13, 14] rfl; intro Q hQ
      simp (disch := (first | omega | (repeat (first | exact okU_nil | refine okU1 (by omega) ?_)))) [wrap64, wrapU, leW, wrl, buildV, fillV, splice, sizeT, encN, cAr, hMa, g0, g0B, g1, g1B, g0, g0B, g1, g1B, hkc1, hkc2, g0, g0B, g1, g1B, hkc1, hkc2, hrc1, hrc2, hkL, hrL, gk, gkB, hie, hie2, hix1, hix2, hix3, hD1, hD2, hLd3, hF1', f0, f0B, fk, fkB, g0, g0B, g1, g1B, gk, gkB, hrc1, hrc2, hrL, msln LTk, hsc1, hsc2, hsL, hlL, g0, g0B, g1, g1B, gk, gkB, hrc1, hrc2, hrL, msln LTk, hsc1, hsc2, hsL, hlL, hie, hia1, hia2, hmx, ql_max, hd51, hd52]
      apply after_some rfl; apply hQ; clear hQ Q
      repeat (with_reducible apply kblock_nrm)
      refine kcut_nrm ?_
      exact ⟨bk, vk, ks, rv, rs, N, i, lv, nv, fs, ns, N2, N3, _, _, nm, by simp (disch := (first | omega | (repeat (first | exact okU_nil | refine okU1 (by omega) ?_)))) [g0], by simp (disch := (first | omega | (repeat (first | exact okU_nil | refine okU1 (by omega) ?_)))) [g1], by simp (disch := (first | omega | (repeat (first | exact okU_nil | refine okU1 (by omega) ?_)))) [gk], hbk1, hbk2, MutG.of hR fun b ver hq => hxG (by have := hrb b ver hq; omega) (by simp; try (have := hrb b ver hq; omega)), hRv, by rw [hx_len]; omega, hkn1, hkn2, hkk, hrl, hrk, hi0, hi1, LF.of hL (fun b h1 h2 => hxG h2 (by simp)), hLk, hLl, hLb, hNN, hNN2, by rw [hx_len]; omega, hRv2, MutF.of hS fun b ver hq => hxG (hnb b ver hq).2 (by simp; try (have := hnb b ver hq; omega)), hSv, hns1, hns2, hhr.1, hhr.2, hjr.1, rfl⟩
     rintro al H ⟨bk, vk, ks, rv, rs, N, i, lv, nv, fs, ns, N2, N3, hw, j, nm, g0, g1, gk, hbk1, hbk2, hR, hRv, hNH, hkn1, hkn2, hkk, hrl, hrk, hi0, hi1, hL, hLk, hLl, hLb, hNN, hNN2, hNN3, hRv2, hS, hSv, hns1, hns2, hw0, hw1, hj0, rfl⟩
     have g0B := getW_blk g0
     have g1B := getW_blk g1
     have g0l := getW_lt g0
     have g1l := getW_lt g1
     have hrb : ∀ b ver, rv = .ms 5 b ver 0 rs.length false → N ≤ b ∧ b < H.length := fun b ver hq => by
      constructor
      ·rcases Nat.lt_or_ge b N with h | h
       ·exact absurd hq (hRv b ver h)
       ·exact h
      ·rcases Nat.lt_or_ge b H.length with h | h
       ·exact h
       ·exact absurd hq (MutG.lt hR (by decide) h)
     have gkB := getW_blk gk
     have gkl := getW_lt gk
     obtain ⟨hrc1, hrc2⟩ := MutG.cells hR
     have hrL : lenV Tryz.prog 32 rv = some rs.length := MutG.lenZ LTr hR
     have hrb : ∀ b ver, rv = .ms 5 b ver 0 rs.length false → N ≤ b ∧ b < N2 := fun b ver hq => by
      constructor
      ·rcases Nat.lt_or_ge b N with h | h
       ·exact absurd hq (hRv b ver h)
       ·exact h
      ·rcases Nat.lt_or_ge b N2 with h | h
       ·exact h
       ·exact absurd hq (hRv2 b ver h)
     have hnb : ∀ b ver, nv = .ms 1 b ver 0 ns.length false → N3 ≤ b ∧ b < H.length := fun b ver hq => by
      constructor
      ·rcases Nat.lt_or_ge b N3 with h | h
       ·exact absurd hq (hSv b ver h)
       ·exact h
      ·rcases Nat.lt_or_ge b H.length with h | h
       ·exact h
       ·exact absurd hq (hS.lt h)
     obtain ⟨hsc1, hsc2⟩ := MutF.cells hS
     have hsL : lenV Tryz.prog 38 nv = some ns.length := MutF.len LTs hS
     have hlL : lenV Tryz.prog 45 lv = some fs.length := LF.len hL
     rw [hx0 H]
     refine w_cut (fun al H => ∃ (bk vk : Nat) (ks : List KindT) (rv : V) (rs : List RuleT) (N : Nat) (i : Int) (lv nv : V) (fs : List FieldT) (ns : List Str) (N2 N3 : Nat) (hw : Int) (nm : Str), getW H 0 0 = some [V.int .i64 x.version, .ms 4 bk vk 0 ks.length false, enc eL x.lives, rv] ∧ getW H 1 0 = some [V.int .i64 0, V.nil, V.nil, V.nil] ∧ getW H bk vk = some (ks.map eK).flatten ∧ 2 ≤ bk ∧ bk < N ∧ MutG eR 5 (.mk true []) H rv rs ∧ (∀ bb ver, bb < N → rv ≠ .ms 5 bb ver 0 rs.length false) ∧ N ≤ H.length ∧ 1 ≤ ks.length ∧ ks.length ≤ 4 ∧ (∀ k ∈ ks, okK2 24 k) ∧ rs.length ≤ r ∧ (∀ k ∈ rs, okR k) ∧ 0 ≤ i ∧ i < ks.length ∧ LF H N2 lv fs ∧ (∀ f ∈ fs, okF f) ∧ fs.length ≤ 24 ∧ (∀ b v1 v2 full, lv = .ms 8 b v1 0 fs.length full → nv ≠ .ms 1 b v2 0 ns.length false) ∧ N ≤ N2 ∧ N2 ≤ N3 ∧ N3 ≤ H.length ∧ (∀ bb ver, N2 ≤ bb → rv ≠ .ms 5 bb ver 0 rs.length false) ∧ MutF eS 1 H nv ns ∧ (∀ bb ver, bb < N3 → nv ≠ .ms 1 bb ver 0 ns.length false) ∧ 1 ≤ ns.length ∧ ns.length ≤ 40 ∧ 0 ≤ hw ∧ hw < 9 ∧ al = [(1, .int .i64 at_), (2, .int .i64 hw), (3, .int .i64 by_), (4, .mp 0 0 0), (8, .mp 1 0 0), (9, .int .i64 i), (10, lv), (11, nv), (13, .str nm)]) ?_ ?_
     ·skip
      apply w_seq
      apply w_reg [1, 2, 3, 4, 8, 9, 10, 11, 13, 14, 100] rfl; intro Q hQ
      simp (disch := (first | omega | (repeat (first | exact okU_nil | refine okU1 (by omega) ?_)))) [wrap64, wrapU, leW, wrl, buildV, fillV, splice, sizeT, encN, cAr, hMa, g0, g0B, g1, g1B, g0, g0B, g1, g1B, hkc1, hkc2, g0, g0B, g1, g1B, hkc1, hkc2, hrc1, hrc2, hkL, hrL, gk, gkB, hie, hie2, hix1, hix2, hix3, hD1, hD2, hLd3, hF1', f0, f0B, fk, fkB, g0, g0B, g1, g1B, gk, gkB, hrc1, hrc2, hrL, msln LTk, hsc1, hsc2, hsL, hlL, g0, g0B, g1, g1B, gk, gkB, hrc1, hrc2, hrL, msln LTk, hsc1, hsc2, hsL, hlL, hie, hia1, hia2, hmx, ql_max, hd51, hd52, g0, g0B, g1, g1B, gk, gkB, hrc1, hrc2, hrL, msln LTk, hsc1, hsc2, hsL, hlL]
      repeat' ((first | with_reducible apply after_guard | with_reducible apply after_guardD) <;> (intro hg; have hg' := hg; try simp at hg') <;> simp (disch := (first | omega | (repeat (first | exact okU_nil | refine okU1 (by omega) ?_)))) [wrap64, wrapU, leW, wrl, buildV, fillV, splice, sizeT, encN, cAr, hMa, g0, g0B, g1, g1B, g0, g0B, g1, g1B, hkc1, hkc2, g0, g0B, g1, g1B, hkc1, hkc2, hrc1, hrc2, hkL, hrL, gk, gkB, hie, hie2, hix1, hix2, hix3, hD1, hD2, hLd3, hF1', f0, f0B, fk, fkB, g0, g0B, g1, g1B, gk, gkB, hrc1, hrc2, hrL, msln LTk, hsc1, hsc2, hsL, hlL, g0, g0B, g1, g1B, gk, gkB, hrc1, hrc2, hrL, msln LTk, hsc1, hsc2, hsL, hlL, hie, hia1, hia2, hmx, ql_max, hd51, hd52, g0, g0B, g1, g1B, gk, gkB, hrc1, hrc2, hrL, msln LTk, hsc1, hsc2, hsL, hlL, *])
      all_goals (apply after_some rfl; apply hQ; clear hQ Q)
      all_goals
       skip
       apply w_cond _ rfl <;> intro hc
       ·first
        |(simp at hc; done)
        |try simp [Int.natCast_inj] at hc
         apply w_seq
         have hjl : j < (fs.length : Int) := by first | exact hc | simpa using hc
         have hfne : fs ≠ [] := fun h => by rw [h] at hjl; simp at hjl; omega
         obtain ⟨bl, vl, full, ys, hlv0, glW, hyt, hyl, hbl2⟩ := (show _ ∨ _ from hL).resolve_left (fun h => hfne h.2)
         have hlv : PLift (lv = .ms 8 bl vl 0 fs.length full) := ⟨hlv0⟩
         clear hlv0
         have glB := getW_blk glW
         have gll := getW_lt glW
         have hbl3 : bl < N3 := hLb bl vl full hlv.down
         have hyg : ∀ (k : Nat) (h : k < fs.length), ys[k]'(by omega) = fs[k] := fun k h => by
          have : (ys.take fs.length)[k]'(by rw [hyt]; exact h) = fs[k] := by simp only [hyt]
          rw [← this, List.getElem_take]
         obtain ⟨J, hJ⟩ : ∃ J : Nat, (J : Int) = j := ⟨j.toNat, by omega⟩
         have hJe : j.toNat = J := by omega
         have hJl : J < fs.length := by omega
         have hJy : J < ys.length := by omega
         obtain ⟨fj, hfje⟩ : ∃ f, fs[J] = f := ⟨_, rfl⟩
         have hyJ : ys[J] = fj := (hyg J hJl).trans hfje
         have hfj := hLk fj (by rw [← hfje]; exact List.getElem_mem hJl)
         have hixj : indexAddrV Tryz.prog 45 lv j = some (.mp bl vl (J * 8)) := by
          have := msix LTf (b := bl) (ver := vl) (off := 0) (full := full) (len := fs.length) (i := j) (by omega) hjl
          rw [hJe, Nat.zero_add] at this
          rw [hlv.down]; exact this
         have hDj := blk_drop eeF (ys := ys) (j := J) (k := 0) hJy (by decide)
         rw [hyJ] at hDj
         simp only [Nat.add_zero, List.drop_zero] at hDj
         have hT0 : J * 8 + 1 ≤ ys.length * 8 := by omega
         have hT1 : J * 8 + 1 + 1 ≤ ys.length * 8 := by omega
         have hT2 : J * 8 + 2 + 1 ≤ ys.length * 8 := by omega
         have hT8 : J * 8 + 8 ≤ ys.length * 8 := by omega
         apply w_reg [1, 2, 3, 4, 8, 9, 10, 11, 13, 14, 101] rfl; intro Q hQ
         simp (disch := (first | omega | (repeat (first | exact okU_nil | refine okU1 (by omega) ?_)))) [wrap64, wrapU, leW, wrl, buildV, fillV, splice, sizeT, encN, cAr, hMa, g0, g0B, g1, g1B, g0, g0B, g1, g1B, hkc1, hkc2, g0, g0B, g1, g1B, hkc1, hkc2, hrc1, hrc2, hkL, hrL, gk, gkB, hie, hie2, hix1, hix2, hix3, hD1, hD2, hLd3, hF1', f0, f0B, fk, fkB, g0, g0B, g1, g1B, gk, gkB, hrc1, hrc2, hrL, msln LTk, hsc1, hsc2, hsL, hlL, g0, g0B, g1, g1B, gk, gkB, hrc1, hrc2, hrL, msln LTk, hsc1, hsc2, hsL, hlL, hie, hia1, hia2, hmx, ql_max, hd51, hd52, g0, g0B, g1, g1B, gk, gkB, hrc1, hrc2, hrL, msln LTk, hsc1, hsc2, hsL, hlL, hixj, hDj, hT0, hT1, hT2, hT8, glW, glB, flat_len eeF, take_eF]
         apply after_some rfl; apply hQ; clear hQ Q
         apply w_block
         apply w_seq
         apply w_reg [1, 2, 3, 4, 8, 9, 10, 11, 13, 14, 101, 110] rfl; intro Q hQ
         simp (disch := (first | omega | (repeat (first | exact okU_nil | refine okU1 (by omega) ?_)))) [wrap64, wrapU, leW, wrl, buildV, fillV, splice, sizeT, encN, cAr, hMa, g0, g0B, g1, g1B, g0, g0B, g1, g1B, hkc1, hkc2, g0, g0B, g1, g1B, hkc1, hkc2, hrc1, hrc2, hkL, hrL, gk, gkB, hie, hie2, hix1, hix2, hix3, hD1, hD2, hLd3, hF1', f0, f0B, fk, fkB, g0, g0B, g1, g1B, gk, gkB, hrc1, hrc2, hrL, msln LTk, hsc1, hsc2, hsL, hlL, g0, g0B, g1, g1B, gk, gkB, hrc1, hrc2, hrL, msln LTk, hsc1, hsc2, hsL, hlL, hie, hia1, hia2, hmx, ql_max, hd51, hd52, g0, g0B, g1, g1B, gk, gkB, hrc1, hrc2, hrL, msln LTk, hsc1, hsc2, hsL, hlL, hixj, hDj, hT0, hT1, hT2, hT8, glW, glB, flat_len eeF, take_eF]
         apply after_some rfl; apply hQ; clear hQ Q
         apply w_cond _ rfl <;> intro hc
         ·first
          |(simp at hc; done)
          |try simp [Int.natCast_inj] at hc
           apply w_reg [1, 2, 3, 4, 8, 9, 10, 11, 13] rfl; intro Q hQ
           simp (disch := (first | omega | (repeat (first | exact okU_nil | refine okU1 (by omega) ?_)))) [wrap64, wrapU, leW, wrl, buildV, fillV, splice, sizeT, encN, cAr, hMa, g0, g0B, g1, g1B, g0, g0B, g1, g1B, hkc1, hkc2, g0, g0B, g1, g1B, hkc1, hkc2, hrc1, hrc2, hkL, hrL, gk, gkB, hie, hie2, hix1, hix2, hix3, hD1, hD2, hLd3, hF1', f0, f0B, fk, fkB, g0, g0B, g1, g1B, gk, gkB, hrc1, hrc2, hrL, msln LTk, hsc1, hsc2, hsL, hlL, g0, g0B, g1, g1B, gk, gkB, hrc1, hrc2, hrL, msln LTk, hsc1, hsc2, hsL, hlL, hie, hia1, hia2, hmx, ql_max, hd51, hd52, g0, g0B, g1, g1B, gk, gkB, hrc1, hrc2, hrL, msln LTk, hsc1, hsc2, hsL, hlL, hixj, hDj, hT0, hT1, hT2, hT8, glW, glB, flat_len eeF, take_eF]
           apply after_some rfl; apply hQ; clear hQ Q
           repeat (with_reducible apply kblock_nrm)
           refine kcut_nrm ?_
           have e1 : List.take (J * 8 + 1) (List.map eF ys).flatten ++ V.str nm :: List.drop (J * 8 + 1 + 1) (List.map eF ys).flatten = ((ys.set J ⟨fj.name, nm, fj.up, fj.kind, fj.lo, fj.hi, fj.words, fj.weights⟩).map eF).flatten := wr_cell eeF (k := 1) hJy (by decide) (by rw [hyJ]; rfl)
           rw [e1]
           have hLk' : ∀ f ∈ (fs.set J ⟨fj.name, nm, fj.up, fj.kind, fj.lo, fj.hi, fj.words, fj.weights⟩), okF f := fun f hf => by
            rcases List.mem_or_eq_of_mem_set hf with hf | rfl
            ·exact hLk f hf
            ·exact ⟨hfj.kind, hfj.lo, hfj.hi, hfj.words, hfj.weights, hfj.wts⟩
           exact ⟨bk, vk, ks, rv, rs, N, i, lv, nv, (fs.set J ⟨fj.name, nm, fj.up, fj.kind, fj.lo, fj.hi, fj.words, fj.weights⟩), ns, N2, N3, hw, nm, by simp (disch := (first | omega | (repeat (first | exact okU_nil | refine okU1 (by omega) ?_)))) [g0], by simp (disch := (first | omega | (repeat (first | exact okU_nil | refine okU1 (by omega) ?_)))) [g1], by simp (disch := (first | omega | (repeat (first | exact okU_nil | refine okU1 (by omega) ?_)))) [gk], hbk1, hbk2, MutG.of hR fun b ver hq => hxG (by have := hrb b ver hq; omega) (by simp; try (have := hrb b ver hq; omega)), hRv, by rw [hx_len]; omega, hkn1, hkn2, hkk, hrl, hrk, hi0, hi1, LF.set hlv.down (by simp (disch := (first | omega | (repeat (first | exact okU_nil | refine okU1 (by omega) ?_))))) hyt hyl hbl2, hLk', by simp only [List.length_set]; exact hLl, fun b v1 v2 ff hq hq2 => by
            have h1 := hnb b v2 hq2
            simp only [List.length_set] at hq
            rw [hlv.down] at hq
            injection hq with _ h2
            omega, hNN, hNN2, by rw [hx_len]; omega, hRv2, MutF.of hS fun b ver hq => hxG (hnb b ver hq).2 (by simp; try (have := hnb b ver hq; omega)), hSv, hns1, hns2, hw0, hw1, rfl⟩
         ·first
          |(simp at hc; done)
          |try simp [Int.natCast_inj] at hc
           apply w_seq
           apply w_reg [1, 2, 3, 4, 8, 9, 10, 11, 13, 14, 101, 117] rfl; intro Q hQ
           simp (disch := (first | omega | (repeat (first | exact okU_nil | refine okU1 (by omega) ?_)))) [wrap64, wrapU, leW, wrl, buildV, fillV, splice, sizeT, encN, cAr, hMa, g0, g0B, g1, g1B, g0, g0B, g1, g1B, hkc1, hkc2, g0, g0B, g1, g1B, hkc1, hkc2, hrc1, hrc2, hkL, hrL, gk, gkB, hie, hie2, hix1, hix2, hix3, hD1, hD2, hLd3, hF1', f0, f0B, fk, fkB, g0, g0B, g1, g1B, gk, gkB, hrc1, hrc2, hrL, msln LTk, hsc1, hsc2, hsL, hlL, g0, g0B, g1, g1B, gk, gkB, hrc1, hrc2, hrL, msln LTk, hsc1, hsc2, hsL, hlL, hie, hia1, hia2, hmx, ql_max, hd51, hd52, g0, g0B, g1, g1B, gk, gkB, hrc1, hrc2, hrL, msln LTk, hsc1, hsc2, hsL, hlL, hixj, hDj, hT0, hT1, hT2, hT8, glW, glB, flat_len eeF, take_eF]
           apply after_some rfl; apply hQ; clear hQ Q
           apply w_cond _ rfl <;> intro hc
           ·first
            |(simp at hc; done)
            |try simp [Int.natCast_inj] at hc
             apply w_reg [1, 2, 3, 4, 8, 9, 10, 11, 13] rfl; intro Q hQ
             simp (disch := (first | omega | (repeat (first | exact okU_nil | refine okU1 (by omega) ?_)))) [wrap64, wrapU, leW, wrl, buildV, fillV, splice, sizeT, encN, cAr, hMa, g0, g0B, g1, g1B, g0, g0B, g1, g1B, hkc1, hkc2, g0, g0B, g1, g1B, hkc1, hkc2, hrc1, hrc2, hkL, hrL, gk, gkB, hie, hie2, hix1, hix2, hix3, hD1, hD2, hLd3, hF1', f0, f0B, fk, fkB, g0, g0B, g1, g1B, gk, gkB, hrc1, hrc2, hrL, msln LTk, hsc1, hsc2, hsL, hlL, g0, g0B, g1, g1B, gk, gkB, hrc1, hrc2, hrL, msln LTk, hsc1, hsc2, hsL, hlL, hie, hia1, hia2, hmx, ql_max, hd51, hd52, g0, g0B, g1, g1B, gk, gkB, hrc1, hrc2, hrL, msln LTk, hsc1, hsc2, hsL, hlL, hixj, hDj, hT0, hT1, hT2, hT8, glW, glB, flat_len eeF, take_eF]
             apply after_some rfl; apply hQ; clear hQ Q
             repeat (with_reducible apply kblock_nrm)
             refine kcut_nrm ?_
             have e1 : List.take (J * 8 + 2) (List.map eF ys).flatten ++ V.str nm :: List.drop (J * 8 + 2 + 1) (List.map eF ys).flatten = ((ys.set J ⟨fj.name, fj.of_, nm, fj.kind, fj.lo, fj.hi, fj.words, fj.weights⟩).map eF).flatten := wr_cell eeF (k := 2) hJy (by decide) (by rw [hyJ]; rfl)
             rw [e1]
             have hLk' : ∀ f ∈ (fs.set J ⟨fj.name, fj.of_, nm, fj.kind, fj.lo, fj.hi, fj.words, fj.weights⟩), okF f := fun f hf => by
              rcases List.mem_or_eq_of_mem_set hf with hf | rfl
              ·exact hLk f hf
              ·exact ⟨hfj.kind, hfj.lo, hfj.hi, hfj.words, hfj.weights, hfj.wts⟩
             exact ⟨bk, vk, ks, rv, rs, N, i, lv, nv, (fs.set J ⟨fj.name, fj.of_, nm, fj.kind, fj.lo, fj.hi, fj.words, fj.weights⟩), ns, N2, N3, hw, nm, by simp (disch := (first | omega | (repeat (first | exact okU_nil | refine okU1 (by omega) ?_)))) [g0], by simp (disch := (first | omega | (repeat (first | exact okU_nil | refine okU1 (by omega) ?_)))) [g1], by simp (disch := (first | omega | (repeat (first | exact okU_nil | refine okU1 (by omega) ?_)))) [gk], hbk1, hbk2, MutG.of hR fun b ver hq => hxG (by have := hrb b ver hq; omega) (by simp; try (have := hrb b ver hq; omega)), hRv, by rw [hx_len]; omega, hkn1, hkn2, hkk, hrl, hrk, hi0, hi1, LF.set hlv.down (by simp (disch := (first | omega | (repeat (first | exact okU_nil | refine okU1 (by omega) ?_))))) hyt hyl hbl2, hLk', by simp only [List.length_set]; exact hLl, fun b v1 v2 ff hq hq2 => by
              have h1 := hnb b v2 hq2
              simp only [List.length_set] at hq
              rw [hlv.down] at hq
              injection hq with _ h2
              omega, hNN, hNN2, by rw [hx_len]; omega, hRv2, MutF.of hS fun b ver hq => hxG (hnb b ver hq).2 (by simp; try (have := hnb b ver hq; omega)), hSv, hns1, hns2, hw0, hw1, rfl⟩
           ·first
            |(simp at hc; done)
            |try simp [Int.natCast_inj] at hc
             apply w_seq
             apply w_reg [1, 2, 3, 4, 8, 9, 10, 11, 13, 14, 101, 124] rfl; intro Q hQ
             simp (disch := (first | omega | (repeat (first | exact okU_nil | refine okU1 (by omega) ?_)))) [wrap64, wrapU, leW, wrl, buildV, fillV, splice, sizeT, encN, cAr, hMa, g0, g0B, g1, g1B, g0, g0B, g1, g1B, hkc1, hkc2, g0, g0B, g1, g1B, hkc1, hkc2, hrc1, hrc2, hkL, hrL, gk, gkB, hie, hie2, hix1, hix2, hix3, hD1, hD2, hLd3, hF1', f0, f0B, fk, fkB, g0, g0B, g1, g1B, gk, gkB, hrc1, hrc2, hrL, msln LTk, hsc1, hsc2, hsL, hlL, g0, g0B, g1, g1B, gk, gkB, hrc1, hrc2, hrL, msln LTk, hsc1, hsc2, hsL, hlL, hie, hia1, hia2, hmx, ql_max, hd51, hd52, g0, g0B, g1, g1B, gk, gkB, hrc1, hrc2, hrL, msln LTk, hsc1, hsc2, hsL, hlL, hixj, hDj, hT0, hT1, hT2, hT8, glW, glB, flat_len eeF, take_eF]
             apply after_some rfl; apply hQ; clear hQ Q
             apply w_cond _ rfl <;> intro hc
             ·first
              |(simp at hc; done)
              |try simp [Int.natCast_inj] at hc
               apply w_seq
               apply w_reg [1, 2, 3, 4, 8, 9, 10, 11, 13, 14, 127] rfl; intro Q hQ
               simp (disch := (first | omega | (repeat (first | exact okU_nil | refine okU1 (by omega) ?_)))) [wrap64, wrapU, leW, wrl, buildV, fillV, splice, sizeT, encN, cAr, hMa, g0, g0B, g1, g1B, g0, g0B, g1, g1B, hkc1, hkc2, g0, g0B, g1, g1B, hkc1, hkc2, hrc1, hrc2, hkL, hrL, gk, gkB, hie, hie2, hix1, hix2, hix3, hD1, hD2, hLd3, hF1', f0, f0B, fk, fkB, g0, g0B, g1, g1B, gk, gkB, hrc1, hrc2, hrL, msln LTk, hsc1, hsc2, hsL, hlL, g0, g0B, g1, g1B, gk, gkB, hrc1, hrc2, hrL, msln LTk, hsc1, hsc2, hsL, hlL, hie, hia1, hia2, hmx, ql_max, hd51, hd52, g0, g0B, g1, g1B, gk, gkB, hrc1, hrc2, hrL, msln LTk, hsc1, hsc2, hsL, hlL, hixj, hDj, hT0, hT1, hT2, hT8, glW, glB, flat_len eeF, take_eF]
               apply after_some rfl; apply hQ; clear hQ Q
               apply w_cond _ rfl <;> intro hc
               ·first
                |(simp at hc; done)
                |try simp [Int.natCast_inj] at hc
                 apply w_reg [1, 2, 3, 4, 8, 9, 10, 11, 13] rfl; intro Q hQ
                 simp (disch := (first | omega | (repeat (first | exact okU_nil | refine okU1 (by omega) ?_)))) [wrap64, wrapU, leW, wrl, buildV, fillV, splice, sizeT, encN, cAr, hMa, g0, g0B, g1, g1B, g0, g0B, g1, g1B, hkc1, hkc2, g0, g0B, g1, g1B, hkc1, hkc2, hrc1, hrc2, hkL, hrL, gk, gkB, hie, hie2, hix1, hix2, hix3, hD1, hD2, hLd3, hF1', f0, f0B, fk, fkB, g0, g0B, g1, g1B, gk, gkB, hrc1, hrc2, hrL, msln LTk, hsc1, hsc2, hsL, hlL, g0, g0B, g1, g1B, gk, gkB, hrc1, hrc2, hrL, msln LTk, hsc1, hsc2, hsL, hlL, hie, hia1, hia2, hmx, ql_max, hd51, hd52, g0, g0B, g1, g1B, gk, gkB, hrc1, hrc2, hrL, msln LTk, hsc1, hsc2, hsL, hlL, hixj, hDj, hT0, hT1, hT2, hT8, glW, glB, flat_len eeF, take_eF]
                 apply after_some rfl; apply hQ; clear hQ Q
                 repeat (with_reducible apply kblock_nrm)
                 refine kcut_nrm ?_
                 have e1 : List.take (J * 8) (List.map eF ys).flatten ++ V.str nm :: List.drop (J * 8 + 1) (List.map eF ys).flatten = ((ys.set J ⟨nm, fj.of_, fj.up, fj.kind, fj.lo, fj.hi, fj.words, fj.weights⟩).map eF).flatten := wr_cell eeF (k := 0) hJy (by decide) (by rw [hyJ]; rfl)
                 rw [e1]
                 have hLk' : ∀ f ∈ (fs.set J ⟨nm, fj.of_, fj.up, fj.kind, fj.lo, fj.hi, fj.words, fj.weights⟩), okF f := fun f hf => by
                  rcases List.mem_or_eq_of_mem_set hf with hf | rfl
                  ·exact hLk f hf
                  ·exact ⟨hfj.kind, hfj.lo, hfj.hi, hfj.words, hfj.weights, hfj.wts⟩
                 exact ⟨bk, vk, ks, rv, rs, N, i, lv, nv, (fs.set J ⟨nm, fj.of_, fj.up, fj.kind, fj.lo, fj.hi, fj.words, fj.weights⟩), ns, N2, N3, hw, nm, by simp (disch := (first | omega | (repeat (first | exact okU_nil | refine okU1 (by omega) ?_)))) [g0], by simp (disch := (first | omega | (repeat (first | exact okU_nil | refine okU1 (by omega) ?_)))) [g1], by simp (disch := (first | omega | (repeat (first | exact okU_nil | refine okU1 (by omega) ?_)))) [gk], hbk1, hbk2, MutG.of hR fun b ver hq => hxG (by have := hrb b ver hq; omega) (by simp; try (have := hrb b ver hq; omega)), hRv, by rw [hx_len]; omega, hkn1, hkn2, hkk, hrl, hrk, hi0, hi1, LF.set hlv.down (by simp (disch := (first | omega | (repeat (first | exact okU_nil | refine okU1 (by omega) ?_))))) hyt hyl hbl2, hLk', by simp only [List.length_set]; exact hLl, fun b v1 v2 ff hq hq2 => by
                  have h1 := hnb b v2 hq2
                  simp only [List.length_set] at hq
                  rw [hlv.down] at hq
                  injection hq with _ h2
                  omega, hNN, hNN2, by rw [hx_len]; omega, hRv2, MutF.of hS fun b ver hq => hxG (hnb b ver hq).2 (by simp; try (have := hnb b ver hq; omega)), hSv, hns1, hns2, hw0, hw1, rfl⟩
               ·first
                |(simp at hc; done)
                |try simp [Int.natCast_inj] at hc
                 apply w_keep [1, 2, 3, 4, 8, 9, 10, 11, 13] rfl; apply w_skip
                 repeat (with_reducible apply kblock_nrm)
                 refine kcut_nrm ?_
                 exact ⟨bk, vk, ks, rv, rs, N, i, lv, nv, fs, ns, N2, N3, hw, nm, by simp (disch := (first | omega | (repeat (first | exact okU_nil | refine okU1 (by omega) ?_)))) [g0], by simp (disch := (first | omega | (repeat (first | exact okU_nil | refine okU1 (by omega) ?_)))) [g1], by simp (disch := (first | omega | (repeat (first | exact okU_nil | refine okU1 (by omega) ?_)))) [gk], hbk1, hbk2, MutG.of hR fun b ver hq => hxG (by have := hrb b ver hq; omega) (by simp; try (have := hrb b ver hq; omega)), hRv, by rw [hx_len]; omega, hkn1, hkn2, hkk, hrl, hrk, hi0, hi1, LF.of hL (fun b h1 h2 => hxG h2 (by simp)), hLk, hLl, fun b v1 v2 ff hq hq2 => by
                  have h1 := hnb b v2 hq2
                  have h2 := hLb b v1 ff hq
                  omega, hNN, hNN2, by rw [hx_len]; omega, hRv2, MutF.of hS fun b ver hq => hxG (hnb b ver hq).2 (by simp; try (have := hnb b ver hq; omega)), hSv, hns1, hns2, hw0, hw1, rfl⟩
             ·first
              |(simp at hc; done)
              |try simp [Int.natCast_inj] at hc
               apply w_seq
               apply w_reg [1, 2, 3, 4, 8, 9, 10, 11, 13, 14, 133] rfl; intro Q hQ
               simp (disch := (first | omega | (repeat (first | exact okU_nil | refine okU1 (by omega) ?_)))) [wrap64, wrapU, leW, wrl, buildV, fillV, splice, sizeT, encN, cAr, hMa, g0, g0B, g1, g1B, g0, g0B, g1, g1B, hkc1, hkc2, g0, g0B, g1, g1B, hkc1, hkc2, hrc1, hrc2, hkL, hrL, gk, gkB, hie, hie2, hix1, hix2, hix3, hD1, hD2, hLd3, hF1', f0, f0B, fk, fkB, g0, g0B, g1, g1B, gk, gkB, hrc1, hrc2, hrL, msln LTk, hsc1, hsc2, hsL, hlL, g0, g0B, g1, g1B, gk, gkB, hrc1, hrc2, hrL, msln LTk, hsc1, hsc2, hsL, hlL, hie, hia1, hia2, hmx, ql_max, hd51, hd52, g0, g0B, g1, g1B, gk, gkB, hrc1, hrc2, hrL, msln LTk, hsc1, hsc2, hsL, hlL, hixj, hDj, hT0, hT1, hT2, hT8, glW, glB, flat_len eeF, take_eF]
               apply after_some rfl; apply hQ; clear hQ Q
               apply w_cond _ rfl <;> intro hc
               ·first
                |(simp at hc; done)
                |try simp [Int.natCast_inj] at hc
                 apply w_seq
                 have hkr := Around_range (n := by_) (most := (fs.length : Int)) ⟨hb1, hb2⟩ (by omega)
                 obtain ⟨kk, hkie⟩ : ∃ i, Around by_ (fs.length : Int) = i := ⟨_, rfl⟩
                 rw [hkie] at hkr
                 obtain ⟨hkr1, hkr2⟩ := hkr
                 obtain ⟨K, hK⟩ : ∃ K : Nat, (K : Int) = kk := ⟨kk.toNat, by omega⟩
                 have hKe : kk.toNat = K := by omega
                 have hKl : K < fs.length := by omega
                 have hKy : K < ys.length := by omega
                 obtain ⟨fq, hfke⟩ : ∃ f, fs[K] = f := ⟨_, rfl⟩
                 have hyK : ys[K] = fq := (hyg K hKl).trans hfke
                 have hfq := hLk fq (by rw [← hfke]; exact List.getElem_mem hKl)
                 have hixk : indexAddrV Tryz.prog 45 lv kk = some (.mp bl vl (K * 8)) := by
                  have := msix LTf (b := bl) (ver := vl) (off := 0) (full := full) (len := fs.length) (i := kk) (by omega) hkr2
                  rw [hKe, Nat.zero_add] at this
                  rw [hlv.down]; exact this
                 have hDk := blk_drop eeF (ys := ys) (j := K) (k := 0) hKy (by decide)
                 rw [hyK] at hDk
                 simp only [Nat.add_zero, List.drop_zero] at hDk
                 have hT9 : K * 8 + 8 ≤ ys.length * 8 := by omega
                 apply w_reg [1, 2, 3, 4, 8, 9, 10, 11, 13, 14, 15] rfl; intro Q hQ
                 simp (disch := (first | omega | (repeat (first | exact okU_nil | refine okU1 (by omega) ?_)))) [wrap64, wrapU, leW, wrl, buildV, fillV, splice, sizeT, encN, cAr, hMa, g0, g0B, g1, g1B, g0, g0B, g1, g1B, hkc1, hkc2, g0, g0B, g1, g1B, hkc1, hkc2, hrc1, hrc2, hkL, hrL, gk, gkB, hie, hie2, hix1, hix2, hix3, hD1, hD2, hLd3, hF1', f0, f0B, fk, fkB, g0, g0B, g1, g1B, gk, gkB, hrc1, hrc2, hrL, msln LTk, hsc1, hsc2, hsL, hlL, g0, g0B, g1, g1B, gk, gkB, hrc1, hrc2, hrL, msln LTk, hsc1, hsc2, hsL, hlL, hie, hia1, hia2, hmx, ql_max, hd51, hd52, g0, g0B, g1, g1B, gk, gkB, hrc1, hrc2, hrL, msln LTk, hsc1, hsc2, hsL, hlL, hixj, hDj, hT0, hT1, hT2, hT8, glW, glB, flat_len eeF, take_eF, hkie, hixk, hDk, hT9]
                 apply after_some rfl; apply hQ; clear hQ Q
                 apply w_seq
                 apply w_reg [1, 2, 3, 4, 8, 9, 10, 11, 13, 14, 15, 16] rfl; intro Q hQ
                 simp (disch := (first | omega | (repeat (first | exact okU_nil | refine okU1 (by omega) ?_)))) [wrap64, wrapU, leW, wrl, buildV, fillV, splice, sizeT, encN, cAr, hMa, g0, g0B, g1, g1B, g0, g0B, g1, g1B, hkc1, hkc2, g0, g0B, g1, g1B, hkc1, hkc2, hrc1, hrc2, hkL, hrL, gk, gkB, hie, hie2, hix1, hix2, hix3, hD1, hD2, hLd3, hF1', f0, f0B, fk, fkB, g0, g0B, g1, g1B, gk, gkB, hrc1, hrc2, hrL, msln LTk, hsc1, hsc2, hsL, hlL, g0, g0B, g1, g1B, gk, gkB, hrc1, hrc2, hrL, msln LTk, hsc1, hsc2, hsL, hlL, hie, hia1, hia2, hmx, ql_max, hd51, hd52, g0, g0B, g1, g1B, gk, gkB, hrc1, hrc2, hrL, msln LTk, hsc1, hsc2, hsL, hlL, hixj, hDj, hT0, hT1, hT2, hT8, glW, glB, flat_len eeF, take_eF, hkie, hixk, hDk, hT9]
                 apply after_some rfl; apply hQ; clear hQ Q
                 apply w_seq
                 apply w_reg [1, 2, 3, 4, 8, 9, 10, 11, 13, 15, 16] rfl; intro Q hQ
                 simp (disch := (first | omega | (repeat (first | exact okU_nil | refine okU1 (by omega) ?_)))) [wrap64, wrapU, leW, wrl, buildV, fillV, splice, sizeT, encN, cAr, hMa, g0, g0B, g1, g1B, g0, g0B, g1, g1B, hkc1, hkc2, g0, g0B, g1, g1B, hkc1, hkc2, hrc1, hrc2, hkL, hrL, gk, gkB, hie, hie2, hix1, hix2, hix3, hD1, hD2, hLd3, hF1', f0, f0B, fk, fkB, g0, g0B, g1, g1B, gk, gkB, hrc1, hrc2, hrL, msln LTk, hsc1, hsc2, hsL, hlL, g0, g0B, g1, g1B, gk, gkB, hrc1, hrc2, hrL, msln LTk, hsc1, hsc2, hsL, hlL, hie, hia1, hia2, hmx, ql_max, hd51, hd52, g0, g0B, g1, g1B, gk, gkB, hrc1, hrc2, hrL, msln LTk, hsc1, hsc2, hsL, hlL, hixj, hDj, hT0, hT1, hT2, hT8, glW, glB, flat_len eeF, take_eF, hkie, hixk, hDk, hT9]
                 apply after_some rfl; apply hQ; clear hQ Q
                 rw [show List.take (J * 8) (List.map eF ys).flatten ++ (eF fq ++ List.drop (J * 8 + 8) (List.map eF ys).flatten) = ((ys.set J fq).map eF).flatten from wr_elem eeF hJy fq]
                 obtain ⟨ys1, hys1⟩ : ∃ z, ys.set J fq = z := ⟨_, rfl⟩
                 rw [hys1]
                 have hy1l : ys1.length = ys.length := by rw [← hys1, List.length_set]
                 have hT9' : K * 8 + 8 ≤ ys1.length * 8 := by omega
                 apply w_reg [1, 2, 3, 4, 8, 9, 10, 11, 13] rfl; intro Q hQ
                 simp (disch := (first | omega | (repeat (first | exact okU_nil | refine okU1 (by omega) ?_)))) [wrap64, wrapU, leW, wrl, buildV, fillV, splice, sizeT, encN, cAr, hMa, g0, g0B, g1, g1B, g0, g0B, g1, g1B, hkc1, hkc2, g0, g0B, g1, g1B, hkc1, hkc2, hrc1, hrc2, hkL, hrL, gk, gkB, hie, hie2, hix1, hix2, hix3, hD1, hD2, hLd3, hF1', f0, f0B, fk, fkB, g0, g0B, g1, g1B, gk, gkB, hrc1, hrc2, hrL, msln LTk, hsc1, hsc2, hsL, hlL, g0, g0B, g1, g1B, gk, gkB, hrc1, hrc2, hrL, msln LTk, hsc1, hsc2, hsL, hlL, hie, hia1, hia2, hmx, ql_max, hd51, hd52, g0, g0B, g1, g1B, gk, gkB, hrc1, hrc2, hrL, msln LTk, hsc1, hsc2, hsL, hlL, hixj, hDj, hT0, hT1, hT2, hT8, glW, glB, flat_len eeF, take_eF, hkie, hixk, hDk, hT9, hT9']
                 apply after_some rfl; apply hQ; clear hQ Q
                 repeat (with_reducible apply kblock_nrm)
                 refine kcut_nrm ?_
                 rw [show List.take (K * 8) (List.map eF ys1).flatten ++ (eF fj ++ List.drop (K * 8 + 8) (List.map eF ys1).flatten) = ((ys1.set K fj).map eF).flatten from wr_elem eeF (by omega) fj]
                 have hLk' : ∀ f ∈ ((fs.set J fq).set K fj), okF f := fun f hf => by
                  rcases List.mem_or_eq_of_mem_set hf with hf | rfl
                  ·rcases List.mem_or_eq_of_mem_set hf with hf | rfl
                   ·exact hLk f hf
                   ·exact hfq
                  ·exact hfj
                 exact ⟨bk, vk, ks, rv, rs, N, i, lv, nv, ((fs.set J fq).set K fj), ns, N2, N3, hw, nm, by simp (disch := (first | omega | (repeat (first | exact okU_nil | refine okU1 (by omega) ?_)))) [g0], by simp (disch := (first | omega | (repeat (first | exact okU_nil | refine okU1 (by omega) ?_)))) [g1], by simp (disch := (first | omega | (repeat (first | exact okU_nil | refine okU1 (by omega) ?_)))) [gk], hbk1, hbk2, MutG.of hR fun b ver hq => hxG (by have := hrb b ver hq; omega) (by simp; try (have := hrb b ver hq; omega)), hRv, by rw [hx_len]; omega, hkn1, hkn2, hkk, hrl, hrk, hi0, hi1, LF.set (fs := fs.set J fq) (ys := ys1) (by rw [List.length_set]; exact hlv.down) (by simp (disch := (first | omega | (repeat (first | exact okU_nil | refine okU1 (by omega) ?_))))) (by rw [← hys1, List.length_set, List.take_set, hyt]) (by rw [List.length_set]; omega) hbl2, hLk', by simp only [List.length_set]; exact hLl, fun b v1 v2 ff hq hq2 => by
                  have h1 := hnb b v2 hq2
                  simp only [List.length_set] at hq
                  rw [hlv.down] at hq
                  injection hq with _ h2
                  omega, hNN, hNN2, by rw [hx_len]; omega, hRv2, MutF.of hS fun b ver hq => hxG (hnb b ver hq).2 (by simp; try (have := hnb b ver hq; omega)), hSv, hns1, hns2, hw0, hw1, rfl⟩
               ·first
                |(simp at hc; done)
                |try simp [Int.natCast_inj] at hc
                 obtain ⟨X1, X2, w, H2, hsl1, hsl2, hdA, hdL, hdle, hdP, hdb⟩ := delF (H := (HX H [] [])) hlv.down (by rw [hxW gll okU_nil, lkU_nil]; exact glW) hyt hyl hbl2 hJl (by omega)
                 rw [hx_len] at hdle
                 have hdle : H.length ≤ H2.length := by simpa using hdle
                 have hdP : ∀ bb, bb < H.length → bb ≠ bl → H2[bb]? = H[bb]? := fun bb h1 h2 => (hdP bb (by rw [hx_len]; omega) h2).trans (hxG h1 (by simp))
                 have hdb : ∀ b v1 ff, w = .ms 8 b v1 0 (fs.eraseIdx J).length ff → b = bl ∨ H.length ≤ b := fun b v1 ff hq => by
                  rcases hdb b v1 ff hq with h | h
                  ·exact .inl h
                  ·right; rw [hx_len] at h; omega
                 rw [hx0 H2] at hdA
                 have hsl1 : ∀ H, sliceV Tryz.prog H 45 lv none (some (.int .i64 j)) none = some X1 := fun H => by rw [← hJ]; exact hsl1 H
                 have hsl2 : ∀ H, sliceV Tryz.prog H 45 lv (some (.int .i64 (j + 1))) none none = some X2 := fun H => by rw [← hJ]; exact hsl2 H
                 have d0 : getW H2 0 0 = _ := (getW_of (hdP 0 (by omega) (by omega))).trans g0
                 apply w_drw [1, 2, 3, 4, 8, 9, 10, 11, 13] rfl rfl (by kernel_rfl) 0 rfl; intro Q hQ
                 simp (disch := (first | omega | (repeat (first | exact okU_nil | refine okU1 (by omega) ?_)))) [wrap64, wrapU, leW, wrl, buildV, fillV, splice, sizeT, encN, cAr, hMa, g0, g0B, g1, g1B, g0, g0B, g1, g1B, hkc1, hkc2, g0, g0B, g1, g1B, hkc1, hkc2, hrc1, hrc2, hkL, hrL, gk, gkB, hie, hie2, hix1, hix2, hix3, hD1, hD2, hLd3, hF1', f0, f0B, fk, fkB, g0, g0B, g1, g1B, gk, gkB, hrc1, hrc2, hrL, msln LTk, hsc1, hsc2, hsL, hlL, g0, g0B, g1, g1B, gk, gkB, hrc1, hrc2, hrL, msln LTk, hsc1, hsc2, hsL, hlL, hie, hia1, hia2, hmx, ql_max, hd51, hd52, g0, g0B, g1, g1B, gk, gkB, hrc1, hrc2, hrL, msln LTk, hsc1, hsc2, hsL, hlL, hixj, hDj, hT0, hT1, hT2, hT8, glW, glB, flat_len eeF, take_eF, hsl1, hsl2, hdA]
                 apply after_some rfl; apply hQ; clear hQ Q
                 repeat (with_reducible apply kblock_nrm)
                 refine kcut_nrm ?_
                 refine ⟨bk, vk, ks, rv, rs, N, i, w, nv, fs.eraseIdx J, ns, N2, N3, hw, nm, by simp (disch := (first | omega | (repeat (first | exact okU_nil | refine okU1 (by omega) ?_)))) [d0], by simp (disch := (first | omega | (repeat (first | exact okU_nil | refine okU1 (by omega) ?_)))); exact (getW_of (hdP 1 (by omega) (by omega))).trans g1, by simp (disch := (first | omega | (repeat (first | exact okU_nil | refine okU1 (by omega) ?_)))); exact (getW_of (hdP bk (by omega) (by omega))).trans gk, hbk1, hbk2, MutG.hx (u := []) (r := []) (MutG.of hR fun b ver hq => hdP b (by have := hrb b ver hq; omega) (by have := hrb b ver hq; omega)) (by simp), hRv, by rw [hx_len]; omega, hkn1, hkn2, hkk, hrl, hrk, hi0, hi1, LF.of hdL (fun b h1 h2 => hxG h2 (by simp)), fun f hf => hLk f (List.mem_of_mem_eraseIdx hf), by rw [List.length_eraseIdx]; split <;> omega, fun b v1 v2 ff hq hq2 => ?_, hNN, hNN2, by rw [hx_len]; omega, hRv2, MutF.of (MutF.of hS fun b ver hq => hdP b (hnb b ver hq).2 (by have := hnb b ver hq; omega)) fun b ver hq => hxG (by have := hnb b ver hq; omega) (by simp), hSv, hns1, hns2, hw0, hw1, rfl⟩
                 have h1 := hnb b v2 hq2
                 rcases hdb b v1 ff hq with h2 | h2 <;> omega
       ·first
        |(simp at hc; done)
        |try simp [Int.natCast_inj] at hc
         apply w_keep [1, 2, 3, 4, 8, 9, 10, 11, 13] rfl; apply w_skip
         repeat (with_reducible apply kblock_nrm)
         refine kcut_nrm ?_
         exact ⟨bk, vk, ks, rv, rs, N, i, lv, nv, fs, ns, N2, N3, hw, nm, by simp (disch := (first | omega | (repeat (first | exact okU_nil | refine okU1 (by omega) ?_)))) [g0], by simp (disch := (first | omega | (repeat (first | exact okU_nil | refine okU1 (by omega) ?_)))) [g1], by simp (disch := (first | omega | (repeat (first | exact okU_nil | refine okU1 (by omega) ?_)))) [gk], hbk1, hbk2, MutG.of hR fun b ver hq => hxG (by have := hrb b ver hq; omega) (by simp; try (have := hrb b ver hq; omega)), hRv, by rw [hx_len]; omega, hkn1, hkn2, hkk, hrl, hrk, hi0, hi1, LF.of hL (fun b h1 h2 => hxG h2 (by simp)), hLk, hLl, fun b v1 v2 ff hq hq2 => by
          have h1 := hnb b v2 hq2
          have h2 := hLb b v1 ff hq
          omega, hNN, hNN2, by rw [hx_len]; omega, hRv2, MutF.of hS fun b ver hq => hxG (hnb b ver hq).2 (by simp; try (have := hnb b ver hq; omega)), hSv, hns1, hns2, hw0, hw1, rfl⟩
     rintro al H ⟨bk, vk, ks, rv, rs, N, i, lv, nv, fs, ns, N2, N3, hw, nm, g0, g1, gk, hbk1, hbk2, hR, hRv, hNH, hkn1, hkn2, hkk, hrl, hrk, hi0, hi1, hL, hLk, hLl, hLb, hNN, hNN2, hNN3, hRv2, hS, hSv, hns1, hns2, hw0, hw1, rfl⟩
     have g0B := getW_blk g0
     have g1B := getW_blk g1
     have g0l := getW_lt g0
     have g1l := getW_lt g1
     have hrb : ∀ b ver, rv = .ms 5 b ver 0 rs.length false → N ≤ b ∧ b < H.length := fun b ver hq => by
      constructor
      ·rcases Nat.lt_or_ge b N with h | h
       ·exact absurd hq (hRv b ver h)
       ·exact h
      ·rcases Nat.lt_or_ge b H.length with h | h
       ·exact h
       ·exact absurd hq (MutG.lt hR (by decide) h)
     have gkB := getW_blk gk
     have gkl := getW_lt gk
     obtain ⟨hrc1, hrc2⟩ := MutG.cells hR
     have hrL : lenV Tryz.prog 32 rv = some rs.length := MutG.lenZ LTr hR
     have hrb : ∀ b ver, rv = .ms 5 b ver 0 rs.length false → N ≤ b ∧ b < N2 := fun b ver hq => by
      constructor
      ·rcases Nat.lt_or_ge b N with h | h
       ·exact absurd hq (hRv b ver h)
       ·exact h
      ·rcases Nat.lt_or_ge b N2 with h | h
       ·exact h
       ·exact absurd hq (hRv2 b ver h)
     have hnb : ∀ b ver, nv = .ms 1 b ver 0 ns.length false → N3 ≤ b ∧ b < H.length := fun b ver hq => by
      constructor
      ·rcases Nat.lt_or_ge b N3 with h | h
       ·exact absurd hq (hSv b ver h)
       ·exact h
      ·rcases Nat.lt_or_ge b H.length with h | h
       ·exact h
       ·exact absurd hq (hS.lt h)
     obtain ⟨hsc1, hsc2⟩ := MutF.cells hS
     have hsL : lenV Tryz.prog 38 nv = some ns.length := MutF.len LTs hS
     have hlL : lenV Tryz.prog 45 lv = some fs.length := LF.len hL
     refine w_cut (fun al H => ∃ (bk vk : Nat) (ks : List KindT) (rv : V) (rs : List RuleT) (N : Nat) (i : Int) (nv : V) (ns : List Str) (hw : Int) (nm : Str), getW H 0 0 = some [V.int .i64 x.version, .ms 4 bk vk 0 ks.length false, enc eL x.lives, rv] ∧ getW H 1 0 = some [V.int .i64 0, V.nil, V.nil, V.nil] ∧ getW H bk vk = some (ks.map eK).flatten ∧ 2 ≤ bk ∧ bk < N ∧ MutG eR 5 (.mk true []) H rv rs ∧ (∀ bb ver, bb < N → rv ≠ .ms 5 bb ver 0 rs.length false) ∧ N ≤ H.length ∧ 1 ≤ ks.length ∧ ks.length ≤ 4 ∧ (∀ k ∈ ks, okK2 24 k) ∧ rs.length ≤ r ∧ (∀ k ∈ rs, okR k) ∧ 0 ≤ i ∧ i < ks.length ∧ MutF eS 1 H nv ns ∧ (∀ bb ver, bb < N → nv ≠ .ms 1 bb ver 0 ns.length false) ∧ 1 ≤ ns.length ∧ ns.length ≤ 40 ∧ al = [(1, .int .i64 at_), (2, .int .i64 hw), (3, .int .i64 by_), (4, .mp 0 0 0), (8, .mp 1 0 0), (9, .int .i64 i), (11, nv), (13, .str nm)]) ?_ ?_
     ·skip
      obtain ⟨s, H1, hs1, hfz, hH1l, hH1⟩ := LF.frz hL
      have hlN : ∀ b ver full, lv = .ms 8 b ver 0 fs.length full → N2 ≤ b := fun b ver full hq => by
       rcases hL with ⟨h1, h2⟩ | ⟨b', _, _, _, h1, _, _, _, h5⟩
       ·rw [h1] at hq; cases hq
       ·rw [h1] at hq; injection hq with _ h; omega
      have hP1 : ∀ bb, bb < N2 → H1[bb]? = H[bb]? := fun bb h1 => hH1 bb fun ver full hq => by have := hlN bb ver full hq; omega
      rw [hx0 H1] at hfz
      have f0 : getW H1 0 0 = _ := (getW_of (hP1 0 (by omega))).trans g0
      have f0B := getW_blk f0
      have f0l := getW_lt f0
      have fk : getW H1 bk vk = _ := (getW_of (hP1 bk (by omega))).trans gk
      have fkB := getW_blk fk
      have fkl := getW_lt fk
      obtain ⟨I, hI⟩ : ∃ I : Nat, (I : Int) = i := ⟨i.toNat, by omega⟩
      have hIe : i.toNat = I := by omega
      have hIl : I < ks.length := by omega
      have hixi : indexAddrV Tryz.prog 30 (.ms 4 bk vk 0 ks.length false) i = some (.mp bk vk (I * 4)) := by
       have := msix LTk (b := bk) (ver := vk) (off := 0) (full := false) (len := ks.length) (i := i) hi0 hi1
       rw [hIe, Nat.zero_add] at this
       exact this
      obtain ⟨qi, hqi⟩ : ∃ q, ks[I] = q := ⟨_, rfl⟩
      have hqm := hkk qi (by rw [← hqi]; exact List.getElem_mem hIl)
      have hTi : I * 4 + 3 + 1 ≤ ks.length * 4 := by omega
      refine w_regF [1, 2, 3, 4, 8, 9, 11, 13] 10 rfl rfl hfz (by decide) ?_; intro Q hQ
      simp (disch := (first | omega | (repeat (first | exact okU_nil | refine okU1 (by omega) ?_)))) [wrap64, wrapU, leW, wrl, buildV, fillV, splice, sizeT, encN, cAr, hMa, g0, g0B, g1, g1B, g0, g0B, g1, g1B, hkc1, hkc2, g0, g0B, g1, g1B, hkc1, hkc2, hrc1, hrc2, hkL, hrL, gk, gkB, hie, hie2, hix1, hix2, hix3, hD1, hD2, hLd3, hF1', f0, f0B, fk, fkB, g0, g0B, g1, g1B, gk, gkB, hrc1, hrc2, hrL, msln LTk, hsc1, hsc2, hsL, hlL, g0, g0B, g1, g1B, gk, gkB, hrc1, hrc2, hrL, msln LTk, hsc1, hsc2, hsL, hlL, hie, hia1, hia2, hmx, ql_max, hd51, hd52, g0, g0B, g1, g1B, gk, gkB, hrc1, hrc2, hrL, msln LTk, hsc1, hsc2, hsL, hlL, g0, g0B, g1, g1B, gk, gkB, hrc1, hrc2, hrL, msln LTk, hsc1, hsc2, hsL, hlL, f0, f0B, fk, fkB, hixi, hTi, flat_len eeK]
      apply after_some rfl; apply hQ; clear hQ Q
      repeat (with_reducible apply kblock_nrm)
      refine kcut_nrm ?_
      have e1 : List.take (I * 4 + 3) (List.map eK ks).flatten ++ enc eF s :: List.drop (I * 4 + 3 + 1) (List.map eK ks).flatten = ((ks.set I ⟨qi.name, qi.lo, qi.hi, s⟩).map eK).flatten := wr_cell eeK (k := 3) hIl (by decide) (by rw [hqi]; rfl)
      rw [e1]
      refine ⟨bk, vk, ks.set I ⟨qi.name, qi.lo, qi.hi, s⟩, rv, rs, N, i, nv, ns, hw, nm, by simp only [List.length_set]; simp (disch := (first | omega | (repeat (first | exact okU_nil | refine okU1 (by omega) ?_)))) [f0], by simp (disch := (first | omega | (repeat (first | exact okU_nil | refine okU1 (by omega) ?_)))); exact (getW_of (hP1 1 (by omega))).trans g1, by simp (disch := (first | omega | (repeat (first | exact okU_nil | refine okU1 (by omega) ?_)))), hbk1, hbk2, MutG.of hR fun b ver hq => (hxG (by have := hrb b ver hq; omega) (by simp; try (have := hrb b ver hq; omega))).trans (hP1 b (hrb b ver hq).2), hRv, by rw [hx_len]; omega, by rw [List.length_set]; exact hkn1, by rw [List.length_set]; exact hkn2, fun k hk => ?_, hrl, hrk, hi0, by rw [List.length_set]; exact hi1, MutF.of hS fun b ver hq => (hxG (by have := hnb b ver hq; omega) (by simp; try (have := hnb b ver hq; omega))).trans (hH1 b fun v1 full hq2 => hLb b v1 ver full hq2 hq), fun bb ver h => hSv bb ver (by omega), hns1, hns2, rfl⟩
      rcases List.mem_or_eq_of_mem_set hk with hk | rfl
      ·exact hkk k hk
      ·exact ⟨hqm.lo, hqm.hi, by rw [hs1]; exact hLl, fun f hf => hLk f (by rw [hs1] at hf; exact hf)⟩
     rintro al H ⟨bk, vk, ks, rv, rs, N, i, nv, ns, hw, nm, g0, g1, gk, hbk1, hbk2, hR, hRv, hNH, hkn1, hkn2, hkk, hrl, hrk, hi0, hi1, hS, hSv, hns1, hns2, rfl⟩
     have g0B := getW_blk g0
     have g1B := getW_blk g1
     have g0l := getW_lt g0
     have g1l := getW_lt g1
     have hrb : ∀ b ver, rv = .ms 5 b ver 0 rs.length false → N ≤ b ∧ b < H.length := fun b ver hq => by
      constructor
      ·rcases Nat.lt_or_ge b N with h | h
       ·exact absurd hq (hRv b ver h)
       ·exact h
      ·rcases Nat.lt_or_ge b H.length with h | h
       ·exact h
       ·exact absurd hq (MutG.lt hR (by decide) h)
     have gkB := getW_blk gk
     have gkl := getW_lt gk
     obtain ⟨hrc1, hrc2⟩ := MutG.cells hR
     have hrL : lenV Tryz.prog 32 rv = some rs.length := MutG.lenZ LTr hR
     obtain ⟨hsc1, hsc2⟩ := MutF.cells hS
     have hsL : lenV Tryz.prog 38 nv = some ns.length := MutF.len LTs hS
     have hsb : ∀ b ver, nv = .ms 1 b ver 0 ns.length false → N ≤ b ∧ b < H.length := fun b ver hq => by
      constructor
      ·rcases Nat.lt_or_ge b N with h | h
       ·exact absurd hq (hSv b ver h)
       ·exact h
      ·rcases Nat.lt_or_ge b H.length with h | h
       ·exact h
       ·exact absurd hq (hS.lt h)
     rw [hx0 H]
     refine w_cut (fun al H => ∃ (bk vk : Nat) (ks : List KindT) (rv : V) (rs : List RuleT) (N : Nat) (i : Int) (nv : V) (ns : List Str) (hw : Int) (nm : Str), getW H 0 0 = some [V.int .i64 x.version, .ms 4 bk vk 0 ks.length false, enc eL x.lives, rv] ∧ getW H 1 0 = some [V.int .i64 0, V.nil, V.nil, V.nil] ∧ getW H bk vk = some (ks.map eK).flatten ∧ 2 ≤ bk ∧ bk < N ∧ MutG eR 5 (.mk true []) H rv rs ∧ (∀ bb ver, bb < N → rv ≠ .ms 5 bb ver 0 rs.length false) ∧ N ≤ H.length ∧ 1 ≤ ks.length ∧ ks.length ≤ 4 ∧ (∀ k ∈ ks, okK2 24 k) ∧ rs.length ≤ r ∧ (∀ k ∈ rs, okR k) ∧ 0 ≤ i ∧ i < ks.length ∧ MutF eS 1 H nv ns ∧ (∀ bb ver, bb < N → nv ≠ .ms 1 bb ver 0 ns.length false) ∧ 1 ≤ ns.length ∧ ns.length ≤ 40 ∧ al = [(1, .int .i64 at_), (2, .int .i64 hw), (3, .int .i64 by_), (4, .mp 0 0 0), (8, .mp 1 0 0), (9, .int .i64 i), (11, nv), (13, .str nm)]) ?_ ?_
     ·skip
      apply w_seq
      apply w_reg [1, 2, 3, 4, 8, 9, 11, 13, 161] rfl; intro Q hQ
      simp (disch := (first | omega | (repeat (first | exact okU_nil | refine okU1 (by omega) ?_)))) [wrap64, wrapU, leW, wrl, buildV, fillV, splice, sizeT, encN, cAr, hMa, g0, g0B, g1, g1B, g0, g0B, g1, g1B, hkc1, hkc2, g0, g0B, g1, g1B, hkc1, hkc2, hrc1, hrc2, hkL, hrL, gk, gkB, hie, hie2, hix1, hix2, hix3, hD1, hD2, hLd3, hF1', f0, f0B, fk, fkB, g0, g0B, g1, g1B, gk, gkB, hrc1, hrc2, hrL, msln LTk, hsc1, hsc2, hsL, hlL, g0, g0B, g1, g1B, gk, gkB, hrc1, hrc2, hrL, msln LTk, hsc1, hsc2, hsL, hlL, hie, hia1, hia2, hmx, ql_max, hd51, hd52, g0, g0B, g1, g1B, gk, gkB, hrc1, hrc2, hrL, msln LTk, hsc1, hsc2, hsL, hlL, g0, g0B, g1, g1B, gk, gkB, hrc1, hrc2, hrL, msln LTk, hsc1, hsc2, hsL, hlL, g0, g0B, g1, g1B, gk, gkB, hrc1, hrc2, hrL, msln LTk, hsc1, hsc2, hsL]
      apply after_some rfl; apply hQ; clear hQ Q
      apply w_cond _ rfl <;> intro hc
      ·first
       |(simp at hc; done)
       |try simp [Int.natCast_inj] at hc
        apply w_seq
        obtain ⟨I, hI⟩ : ∃ I : Nat, (I : Int) = i := ⟨i.toNat, by omega⟩
        have hIe : i.toNat = I := by omega
        have hIl : I < ks.length := by omega
        have hixi : indexAddrV Tryz.prog 30 (.ms 4 bk vk 0 ks.length false) i = some (.mp bk vk (I * 4)) := by
         have := msix LTk (b := bk) (ver := vk) (off := 0) (full := false) (len := ks.length) (i := i) hi0 hi1
         rw [hIe, Nat.zero_add] at this
         exact this
        obtain ⟨qi, hqi⟩ : ∃ q, ks[I] = q := ⟨_, rfl⟩
        have hqm := hkk qi (by rw [← hqi]; exact List.getElem_mem hIl)
        have hkr := Around_range (n := by_) (most := (ks.length : Int)) ⟨hb1, hb2⟩ (by omega)
        obtain ⟨kk, hkie⟩ : ∃ i, Around by_ (ks.length : Int) = i := ⟨_, rfl⟩
        rw [hkie] at hkr
        obtain ⟨hkr1, hkr2⟩ := hkr
        obtain ⟨K, hK⟩ : ∃ K : Nat, (K : Int) = kk := ⟨kk.toNat, by omega⟩
        have hKe : kk.toNat = K := by omega
        have hKl : K < ks.length := by omega
        have hixk : indexAddrV Tryz.prog 30 (.ms 4 bk vk 0 ks.length false) kk = some (.mp bk vk (K * 4)) := by
         have := msix LTk (b := bk) (ver := vk) (off := 0) (full := false) (len := ks.length) (i := kk) (by omega) hkr2
         rw [hKe, Nat.zero_add] at this
         exact this
        obtain ⟨qk, hqk⟩ : ∃ q, ks[K] = q := ⟨_, rfl⟩
        have hqkm := hkk qk (by rw [← hqk]; exact List.getElem_mem hKl)
        have hDi := blk_drop eeK (ys := ks) (j := I) (k := 0) hIl (by decide)
        have hDk := blk_drop eeK (ys := ks) (j := K) (k := 0) hKl (by decide)
        rw [hqi] at hDi
        rw [hqk] at hDk
        simp only [Nat.add_zero, List.drop_zero] at hDi hDk
        have hTi : I * 4 + 4 ≤ ks.length * 4 := by omega
        have hTk : K * 4 + 4 ≤ ks.length * 4 := by omega
        apply w_reg [1, 2, 3, 4, 8, 9, 11, 13, 17] rfl; intro Q hQ
        simp (disch := (first | omega | (repeat (first | exact okU_nil | refine okU1 (by omega) ?_)))) [wrap64, wrapU, leW, wrl, buildV, fillV, splice, sizeT, encN, cAr, hMa, g0, g0B, g1, g1B, g0, g0B, g1, g1B, hkc1, hkc2, g0, g0B, g1, g1B, hkc1, hkc2, hrc1, hrc2, hkL, hrL, gk, gkB, hie, hie2, hix1, hix2, hix3, hD1, hD2, hLd3, hF1', f0, f0B, fk, fkB, g0, g0B, g1, g1B, gk, gkB, hrc1, hrc2, hrL, msln LTk, hsc1, hsc2, hsL, hlL, g0, g0B, g1, g1B, gk, gkB, hrc1, hrc2, hrL, msln LTk, hsc1, hsc2, hsL, hlL, hie, hia1, hia2, hmx, ql_max, hd51, hd52, g0, g0B, g1, g1B, gk, gkB, hrc1, hrc2, hrL, msln LTk, hsc1, hsc2, hsL, hlL, g0, g0B, g1, g1B, gk, gkB, hrc1, hrc2, hrL, msln LTk, hsc1, hsc2, hsL, hlL, g0, g0B, g1, g1B, gk, gkB, hrc1, hrc2, hrL, msln LTk, hsc1, hsc2, hsL, hkie, hixi, hixk, hDi, hDk, hTi, hTk, flat_len eeK, take_eK]
        apply after_some rfl; apply hQ; clear hQ Q
        apply w_seq
        apply w_reg [1, 2, 3, 4, 8, 9, 11, 13, 17, 18] rfl; intro Q hQ
        simp (disch := (first | omega | (repeat (first | exact okU_nil | refine okU1 (by omega) ?_)))) [wrap64, wrapU, leW, wrl, buildV, fillV, splice, sizeT, encN, cAr, hMa, g0, g0B, g1, g1B, g0, g0B, g1, g1B, hkc1, hkc2, g0, g0B, g1, g1B, hkc1, hkc2, hrc1, hrc2, hkL, hrL, gk, gkB, hie, hie2, hix1, hix2, hix3, hD1, hD2, hLd3, hF1', f0, f0B, fk, fkB, g0, g0B, g1, g1B, gk, gkB, hrc1, hrc2, hrL, msln LTk, hsc1, hsc2, hsL, hlL, g0, g0B, g1, g1B, gk, gkB, hrc1, hrc2, hrL, msln LTk, hsc1, hsc2, hsL, hlL, hie, hia1, hia2, hmx, ql_max, hd51, hd52, g0, g0B, g1, g1B, gk, gkB, hrc1, hrc2, hrL, msln LTk, hsc1, hsc2, hsL, hlL, g0, g0B, g1, g1B, gk, gkB, hrc1, hrc2, hrL, msln LTk, hsc1, hsc2, hsL, hlL, g0, g0B, g1, g1B, gk, gkB, hrc1, hrc2, hrL, msln LTk, hsc1, hsc2, hsL, hkie, hixi, hixk, hDi, hDk, hTi, hTk, flat_len eeK, take_eK]
        apply after_some rfl; apply hQ; clear hQ Q
        apply w_seq
        apply w_drw [1, 2, 3, 4, 8, 9, 11, 13, 18] rfl rfl (by kernel_rfl) 0 rfl; intro Q hQ
        simp (disch := (first | omega | (repeat (first | exact okU_nil | refine okU1 (by omega) ?_)))) [wrap64, wrapU, leW, wrl, buildV, fillV, splice, sizeT, encN, cAr, hMa, g0, g0B, g1, g1B, g0, g0B, g1, g1B, hkc1, hkc2, g0, g0B, g1, g1B, hkc1, hkc2, hrc1, hrc2, hkL, hrL, gk, gkB, hie, hie2, hix1, hix2, hix3, hD1, hD2, hLd3, hF1', f0, f0B, fk, fkB, g0, g0B, g1, g1B, gk, gkB, hrc1, hrc2, hrL, msln LTk, hsc1, hsc2, hsL, hlL, g0, g0B, g1, g1B, gk, gkB, hrc1, hrc2, hrL, msln LTk, hsc1, hsc2, hsL, hlL, hie, hia1, hia2, hmx, ql_max, hd51, hd52, g0, g0B, g1, g1B, gk, gkB, hrc1, hrc2, hrL, msln LTk, hsc1, hsc2, hsL, hlL, g0, g0B, g1, g1B, gk, gkB, hrc1, hrc2, hrL, msln LTk, hsc1, hsc2, hsL, hlL, g0, g0B, g1, g1B, gk, gkB, hrc1, hrc2, hrL, msln LTk, hsc1, hsc2, hsL, hkie, hixi, hixk, hDi, hDk, hTi, hTk, flat_len eeK, take_eK]
        apply after_some rfl; apply hQ; clear hQ Q
        rw [show List.take (K * 4) (List.map eK ks).flatten ++ (eK qi ++ List.drop (K * 4 + 4) (List.map eK ks).flatten) = ((ks.set K qi).map eK).flatten from wr_elem eeK hKl qi]
        obtain ⟨ks1, hks1⟩ : ∃ z, ks.set K qi = z := ⟨_, rfl⟩
        rw [hks1]
        have hk1l : ks1.length = ks.length := by rw [← hks1, List.length_set]
        have hTi' : I * 4 + 4 ≤ ks1.length * 4 := by omega
        apply w_reg [1, 2, 3, 4, 8, 9, 11, 13] rfl; intro Q hQ
        simp (disch := (first | omega | (repeat (first | exact okU_nil | refine okU1 (by omega) ?_)))) [wrap64, wrapU, leW, wrl, buildV, fillV, splice, sizeT, encN, cAr, hMa, g0, g0B, g1, g1B, g0, g0B, g1, g1B, hkc1, hkc2, g0, g0B, g1, g1B, hkc1, hkc2, hrc1, hrc2, hkL, hrL, gk, gkB, hie, hie2, hix1, hix2, hix3, hD1, hD2, hLd3, hF1', f0, f0B, fk, fkB, g0, g0B, g1, g1B, gk, gkB, hrc1, hrc2, hrL, msln LTk, hsc1, hsc2, hsL, hlL, g0, g0B, g1, g1B, gk, gkB, hrc1, hrc2, hrL, msln LTk, hsc1, hsc2, hsL, hlL, hie, hia1, hia2, hmx, ql_max, hd51, hd52, g0, g0B, g1, g1B, gk, gkB, hrc1, hrc2, hrL, msln LTk, hsc1, hsc2, hsL, hlL, g0, g0B, g1, g1B, gk, gkB, hrc1, hrc2, hrL, msln LTk, hsc1, hsc2, hsL, hlL, g0, g0B, g1, g1B, gk, gkB, hrc1, hrc2, hrL, msln LTk, hsc1, hsc2, hsL, hkie, hixi, hixk, hDi, hDk, hTi, hTk, flat_len eeK, take_eK, hTi']
        apply after_some rfl; apply hQ; clear hQ Q
        repeat (with_reducible apply kblock_nrm)
        refine kcut_nrm ?_
        rw [show List.take (I * 4) (List.map eK ks1).flatten ++ (eK qk ++ List.drop (I * 4 + 4) (List.map eK ks1).flatten) = ((ks1.set I qk).map eK).flatten from wr_elem eeK (by omega) qk]
        have hsl : (ks1.set I qk).length = ks.length := by rw [List.length_set, hk1l]
        refine ⟨bk, vk, ks1.set I qk, rv, rs, N, i, nv, ns, hw, nm, by rw [hsl]; simp (disch := (first | omega | (repeat (first | exact okU_nil | refine okU1 (by omega) ?_)))) [g0], by simp (disch := (first | omega | (repeat (first | exact okU_nil | refine okU1 (by omega) ?_)))) [g1], by simp (disch := (first | omega | (repeat (first | exact okU_nil | refine okU1 (by omega) ?_)))), hbk1, hbk2, MutG.of hR fun b ver hq => hxG (hrb b ver hq).2 (by simp; try (have := hrb b ver hq; omega)), hRv, by rw [hx_len]; omega, by omega, by omega, fun k hk => ?_, hrl, hrk, hi0, by omega, MutF.of hS fun b ver hq => hxG (hsb b ver hq).2 (by simp; try (have := hsb b ver hq; omega)), hSv, hns1, hns2, rfl⟩
        rcases List.mem_or_eq_of_mem_set hk with hk | rfl
        ·rw [← hks1] at hk
         rcases List.mem_or_eq_of_mem_set hk with hk | rfl
         ·exact hkk k hk
         ·exact hqm
        ·exact hqkm
      ·first
       |(simp at hc; done)
       |try simp [Int.natCast_inj] at hc
        apply w_keep [1, 2, 3, 4, 8, 9, 11, 13] rfl; apply w_skip
        repeat (with_reducible apply kblock_nrm)
        refine kcut_nrm ?_
        exact ⟨bk, vk, ks, rv, rs, N, i, nv, ns, hw, nm, by simp (disch := (first | omega | (repeat (first | exact okU_nil | refine okU1 (by omega) ?_)))) [g0], by simp (disch := (first | omega | (repeat (first | exact okU_nil | refine okU1 (by omega) ?_)))) [g1], by simp (disch := (first | omega | (repeat (first | exact okU_nil | refine okU1 (by omega) ?_)))) [gk], hbk1, hbk2, MutG.of hR fun b ver hq => hxG (hrb b ver hq).2 (by simp; try (have := hrb b ver hq; omega)), hRv, by rw [hx_len]; omega, hkn1, hkn2, hkk, hrl, hrk, hi0, hi1, MutF.of hS fun b ver hq => hxG (hsb b ver hq).2 (by simp; try (have := hsb b ver hq; omega)), hSv, hns1, hns2, rfl⟩
     rintro al H ⟨bk, vk, ks, rv, rs, N, i, nv, ns, hw, nm, g0, g1, gk, hbk1, hbk2, hR, hRv, hNH, hkn1, hkn2, hkk, hrl, hrk, hi0, hi1, hS, hSv, hns1, hns2, rfl⟩
     have g0B := getW_blk g0
     have g1B := getW_blk g1
     have g0l := getW_lt g0
     have g1l := getW_lt g1
     have hrb : ∀ b ver, rv = .ms 5 b ver 0 rs.length false → N ≤ b ∧ b < H.length := fun b ver hq => by
      constructor
      ·rcases Nat.lt_or_ge b N with h | h
       ·exact absurd hq (hRv b ver h)
       ·exact h
      ·rcases Nat.lt_or_ge b H.length with h | h
       ·exact h
       ·exact absurd hq (MutG.lt hR (by decide) h)
     have gkB := getW_blk gk
     have gkl := getW_lt gk
     obtain ⟨hrc1, hrc2⟩ := MutG.cells hR
     have hrL : lenV Tryz.prog 32 rv = some rs.length := MutG.lenZ LTr hR
     obtain ⟨hsc1, hsc2⟩ := MutF.cells hS
     have hsL : lenV Tryz.prog 38 nv = some ns.length := MutF.len LTs hS
     have hsb : ∀ b ver, nv = .ms 1 b ver 0 ns.length false → N ≤ b ∧ b < H.length := fun b ver hq => by
      constructor
      ·rcases Nat.lt_or_ge b N with h | h
       ·exact absurd hq (hSv b ver h)
       ·exact h
      ·rcases Nat.lt_or_ge b H.length with h | h
       ·exact h
       ·exact absurd hq (hS.lt h)
     rw [hx0 H]
     refine w_cut (fun al H => ∃ (bk vk : Nat) (ks : List KindT) (rv : V) (rs : List RuleT) (N : Nat) (hw : Int) (nm : Str), getW H 0 0 = some [V.int .i64 x.version, .ms 4 bk vk 0 ks.length false, enc eL x.lives, rv] ∧ getW H 1 0 = some [V.int .i64 0, V.nil, V.nil, V.nil] ∧ getW H bk vk = some (ks.map eK).flatten ∧ 2 ≤ bk ∧ bk < N ∧ MutG eR 5 (.mk true []) H rv rs ∧ (∀ bb ver, bb < N → rv ≠ .ms 5 bb ver 0 rs.length false) ∧ N ≤ H.length ∧ 1 ≤ ks.length ∧ ks.length ≤ 4 ∧ (∀ k ∈ ks, okK2 24 k) ∧ rs.length ≤ r + 1 ∧ (∀ k ∈ rs, okR k) ∧ al = [(1, .int .i64 at_), (2, .int .i64 hw), (4, .mp 0 0 0), (8, .mp 1 0 0), (13, .str nm)]) ?_ ?_
     ·skip
      apply w_seq
      apply w_reg [1, 2, 3, 4, 8, 9, 11, 13, 187] rfl; intro Q hQ
      simp (disch := (first | omega | (repeat (first | exact okU_nil | refine okU1 (by omega) ?_)))) [wrap64, wrapU, leW, wrl, buildV, fillV, splice, sizeT, encN, cAr, hMa, g0, g0B, g1, g1B, g0, g0B, g1, g1B, hkc1, hkc2, g0, g0B, g1, g1B, hkc1, hkc2, hrc1, hrc2, hkL, hrL, gk, gkB, hie, hie2, hix1, hix2, hix3, hD1, hD2, hLd3, hF1', f0, f0B, fk, fkB, g0, g0B, g1, g1B, gk, gkB, hrc1, hrc2, hrL, msln LTk, hsc1, hsc2, hsL, hlL, g0, g0B, g1, g1B, gk, gkB, hrc1, hrc2, hrL, msln LTk, hsc1, hsc2, hsL, hlL, hie, hia1, hia2, hmx, ql_max, hd51, hd52, g0, g0B, g1, g1B, gk, gkB, hrc1, hrc2, hrL, msln LTk, hsc1, hsc2, hsL, hlL, g0, g0B, g1, g1B, gk, gkB, hrc1, hrc2, hrL, msln LTk, hsc1, hsc2, hsL, hlL, g0, g0B, g1, g1B, gk, gkB, hrc1, hrc2, hrL, msln LTk, hsc1, hsc2, hsL, g0, g0B, g1, g1B, gk, gkB, hrc1, hrc2, hrL, msln LTk, hsc1, hsc2, hsL]
      apply after_some rfl; apply hQ; clear hQ Q
      apply w_cond _ rfl <;> intro hc
      ·first
       |(simp at hc; done)
       |try simp [Int.natCast_inj] at hc
        obtain ⟨I, hI⟩ : ∃ I : Nat, (I : Int) = i := ⟨i.toNat, by omega⟩
        have hIe : i.toNat = I := by omega
        have hIl : I < ks.length := by omega
        have hixi : indexAddrV Tryz.prog 30 (.ms 4 bk vk 0 ks.length false) i = some (.mp bk vk (I * 4)) := by
         have := msix LTk (b := bk) (ver := vk) (off := 0) (full := false) (len := ks.length) (i := i) hi0 hi1
         rw [hIe, Nat.zero_add] at this
         exact this
        obtain ⟨qi, hqi⟩ : ∃ q, ks[I] = q := ⟨_, rfl⟩
        have hqm := hkk qi (by rw [← hqi]; exact List.getElem_mem hIl)
        have hDi := blk_drop eeK (ys := ks) (j := I) (k := 0) hIl (by decide)
        rw [hqi] at hDi
        simp only [Nat.add_zero, List.drop_zero] at hDi
        have hDi : List.drop (I * 4) (List.map eK ks).flatten = .str qi.name :: _ := hDi
        obtain ⟨hd71, hd72⟩ := tdiv_I64 (n := by_) (k := 7) ⟨hb1, hb2⟩ (by decide)
        have hxr2 := Around_range (n := by_.tdiv 7) (most := (ns.length : Int)) ⟨hd71, hd72⟩ (by omega)
        obtain ⟨ix, hxe⟩ : ∃ i, Around (by_.tdiv 7) (ns.length : Int) = i := ⟨_, rfl⟩
        rw [hxe] at hxr2
        obtain ⟨a1, R1, hia1, hia2⟩ := hS.idx LTs eeS hxr2.1 hxr2.2
        rw [hx0 H] at hia2
        obtain ⟨n2, hn2⟩ : ∃ nm, ns[ix.toNat]'(by omega) = nm := ⟨_, rfl⟩
        rw [hn2] at hia2
        have hia2 : behind (HX H [] []) a1 = some (.str n2 :: R1) := hia2
        have hia1 : indexAddrV Tryz.prog 38 nv ix = some a1 := hia1
        have hAp := app3 (z := .mk true []) (H := (HX H [] [])) (v := rv) (x := (V.sl true [[V.str [109, 111, 114, 101], V.str qi.name, V.str nm, V.str n2, V.int .i64 0]])) (ys := rs) (xs := [(⟨[109, 111, 114, 101], qi.name, nm, n2, 0⟩ : RuleT)]) (m := N) LTr eeR (.inr rfl) (MutG.hx (u := []) (r := []) hR (by simp)) rfl (by simp [room]; omega) (by rw [hx_len]; simp <;> omega) (hRv)
        obtain ⟨hA1, hA2, hA3, hA4, hA5⟩ := hAp
        have hA1' : appendV Tryz.prog (HX H [] []) _ (rv) ((V.sl true [[V.str [109, 111, 114, 101], V.str qi.name, V.str nm, V.str n2, V.int .i64 0]])) = _ := hA1
        have hA6 := getBlk_of (ver := 0) (hA4 0 (by omega))
        have hA7 := getW_of (ver := 0) (hA4 0 (by omega))
        obtain ⟨hA9, hA10⟩ := MutG.cells hA2
        have hA8 := hA3
        rw [hx_len] at hA8
        have hAo : ∀ bb, bb < N → bb ≠ 0 → ∀ c, (setBlk (apH Tryz.prog _ (HX H [] []) (rv) ((V.sl true [[V.str [109, 111, 114, 101], V.str qi.name, V.str nm, V.str n2, V.int .i64 0]]))) 0 0 c)[bb]? = H[bb]? := fun bb h1 h2 c => by
         unfold setBlk
         rw [List.getElem?_set_ne (Ne.symm h2), hA4 bb h1, hxG (by omega) (by simp)]
        apply w_drw [1, 2, 4, 8, 13] rfl rfl (by kernel_rfl) 0 rfl; intro Q hQ
        simp (disch := (first | omega | (repeat (first | exact okU_nil | refine okU1 (by omega) ?_)))) [wrap64, wrapU, leW, wrl, buildV, fillV, splice, sizeT, encN, cAr, hMa, g0, g0B, g1, g1B, g0, g0B, g1, g1B, hkc1, hkc2, g0, g0B, g1, g1B, hkc1, hkc2, hrc1, hrc2, hkL, hrL, gk, gkB, hie, hie2, hix1, hix2, hix3, hD1, hD2, hLd3, hF1', f0, f0B, fk, fkB, g0, g0B, g1, g1B, gk, gkB, hrc1, hrc2, hrL, msln LTk, hsc1, hsc2, hsL, hlL, g0, g0B, g1, g1B, gk, gkB, hrc1, hrc2, hrL, msln LTk, hsc1, hsc2, hsL, hlL, hie, hia1, hia2, hmx, ql_max, hd51, hd52, g0, g0B, g1, g1B, gk, gkB, hrc1, hrc2, hrL, msln LTk, hsc1, hsc2, hsL, hlL, g0, g0B, g1, g1B, gk, gkB, hrc1, hrc2, hrL, msln LTk, hsc1, hsc2, hsL, hlL, g0, g0B, g1, g1B, gk, gkB, hrc1, hrc2, hrL, msln LTk, hsc1, hsc2, hsL, g0, g0B, g1, g1B, gk, gkB, hrc1, hrc2, hrL, msln LTk, hsc1, hsc2, hsL, hDi, hixi, hd71, hd72, hxe, hia1, hia2, hA1', hA6, hA7, hA9, hA10]
        apply after_some rfl; apply hQ; clear hQ Q
        repeat (with_reducible apply kblock_nrm)
        refine kcut_nrm ?_
        have hkx : ∀ c, getW (setBlk (apH Tryz.prog 32 (HX H [] []) (rv) ((V.sl true [[V.str [109, 111, 114, 101], V.str qi.name, V.str nm, V.str n2, V.int .i64 0]]))) 0 0 c) bk vk = some (List.map eK ks).flatten := fun c => by rw [getW_of (hAo bk (by omega) (by omega) c)]; exact gk
        refine ⟨bk, vk, ks, _, rs ++ [(⟨[109, 111, 114, 101], qi.name, nm, n2, 0⟩ : RuleT)], N, hw, nm, by rw [gW_set (by omega)], ?_, hkx _, hbk1, hbk2, MutG.setb hA2 fun ver => hA5 0 ver (by omega), hA5, by rw [setBlk_len]; omega, hkn1, hkn2, hkk, by simp; omega, fun k hk => ?_, rfl⟩
        ·rw [getW_of (hAo 1 (by omega) (by decide) _)]; exact g1
        ·rcases List.mem_append.1 hk with hk | hk
         ·exact hrk k hk
         ·rw [List.mem_singleton.1 hk]; exact ⟨by simp only [Sm]; omega⟩
      ·first
       |(simp at hc; done)
       |try simp [Int.natCast_inj] at hc
        apply w_keep [1, 2, 4, 8, 13] rfl; apply w_skip
        repeat (with_reducible apply kblock_nrm)
        refine kcut_nrm ?_
        exact ⟨bk, vk, ks, rv, rs, N, hw, nm, by simp (disch := (first | omega | (repeat (first | exact okU_nil | refine okU1 (by omega) ?_)))) [g0], by simp (disch := (first | omega | (repeat (first | exact okU_nil | refine okU1 (by omega) ?_)))) [g1], by simp (disch := (first | omega | (repeat (first | exact okU_nil | refine okU1 (by omega) ?_)))) [gk], hbk1, hbk2, MutG.of hR fun b ver hq => hxG (hrb b ver hq).2 (by simp; try (have := hrb b ver hq; omega)), hRv, by rw [hx_len]; omega, hkn1, hkn2, hkk, by omega, hrk, rfl⟩
     rintro al H ⟨bk, vk, ks, rv, rs, N, hw, nm, g0, g1, gk, hbk1, hbk2, hR, hRv, hNH, hkn1, hkn2, hkk, hrl, hrk, rfl⟩
     have g0B := getW_blk g0
     have g1B := getW_blk g1
     have g0l := getW_lt g0
     have g1l := getW_lt g1
     have hrb : ∀ b ver, rv = .ms 5 b ver 0 rs.length false → N ≤ b ∧ b < H.length := fun b ver hq => by
      constructor
      ·rcases Nat.lt_or_ge b N with h | h
       ·exact absurd hq (hRv b ver h)
       ·exact h
      ·rcases Nat.lt_or_ge b H.length with h | h
       ·exact h
       ·exact absurd hq (MutG.lt hR (by decide) h)
     have gkB := getW_blk gk
     have gkl := getW_lt gk
     obtain ⟨hrc1, hrc2⟩ := MutG.cells hR
     have hrL : lenV Tryz.prog 32 rv = some rs.length := MutG.lenZ LTr hR
     rw [hx0 H]
     refine w_cut (fun al H => ∃ (bk vk : Nat) (ks : List KindT) (rv : V) (rs : List RuleT) (N : Nat), getW H 0 0 = some [V.int .i64 x.version, .ms 4 bk vk 0 ks.length false, enc eL x.lives, rv] ∧ getW H 1 0 = some [V.int .i64 0, V.nil, V.nil, V.nil] ∧ getW H bk vk = some (ks.map eK).flatten ∧ 2 ≤ bk ∧ bk < N ∧ MutG eR 5 (.mk true []) H rv rs ∧ (∀ bb ver, bb < N → rv ≠ .ms 5 bb ver 0 rs.length false) ∧ N ≤ H.length ∧ 1 ≤ ks.length ∧ ks.length ≤ 4 ∧ (∀ k ∈ ks, okK2 24 k) ∧ rs.length ≤ r + 2 ∧ (∀ k ∈ rs, okR k) ∧ al = [(4, .mp 0 0 0), (8, .mp 1 0 0)]) ?_ ?_
     ·skip
      apply w_seq
      apply w_reg [1, 2, 4, 8, 13, 216] rfl; intro Q hQ
      simp (disch := (first | omega | (repeat (first | exact okU_nil | refine okU1 (by omega) ?_)))) [wrap64, wrapU, leW, wrl, buildV, fillV, splice, sizeT, encN, cAr, hMa, g0, g0B, g1, g1B, g0, g0B, g1, g1B, hkc1, hkc2, g0, g0B, g1, g1B, hkc1, hkc2, hrc1, hrc2, hkL, hrL, gk, gkB, hie, hie2, hix1, hix2, hix3, hD1, hD2, hLd3, hF1', f0, f0B, fk, fkB, g0, g0B, g1, g1B, gk, gkB, hrc1, hrc2, hrL, msln LTk, hsc1, hsc2, hsL, hlL, g0, g0B, g1, g1B, gk, gkB, hrc1, hrc2, hrL, msln LTk, hsc1, hsc2, hsL, hlL, hie, hia1, hia2, hmx, ql_max, hd51, hd52, g0, g0B, g1, g1B, gk, gkB, hrc1, hrc2, hrL, msln LTk, hsc1, hsc2, hsL, hlL, g0, g0B, g1, g1B, gk, gkB, hrc1, hrc2, hrL, msln LTk, hsc1, hsc2, hsL, hlL, g0, g0B, g1, g1B, gk, gkB, hrc1, hrc2, hrL, msln LTk, hsc1, hsc2, hsL, g0, g0B, g1, g1B, gk, gkB, hrc1, hrc2, hrL, msln LTk, hsc1, hsc2, hsL, g0, g0B, g1, g1B, gk, gkB, hrc1, hrc2, hrL, msln LTk]
      repeat' ((first | with_reducible apply after_guard | with_reducible apply after_guardD) <;> (intro hg; have hg' := hg; try simp at hg') <;> simp (disch := (first | omega | (repeat (first | exact okU_nil | refine okU1 (by omega) ?_)))) [wrap64, wrapU, leW, wrl, buildV, fillV, splice, sizeT, encN, cAr, hMa, g0, g0B, g1, g1B, g0, g0B, g1, g1B, hkc1, hkc2, g0, g0B, g1, g1B, hkc1, hkc2, hrc1, hrc2, hkL, hrL, gk, gkB, hie, hie2, hix1, hix2, hix3, hD1, hD2, hLd3, hF1', f0, f0B, fk, fkB, g0, g0B, g1, g1B, gk, gkB, hrc1, hrc2, hrL, msln LTk, hsc1, hsc2, hsL, hlL, g0, g0B, g1, g1B, gk, gkB, hrc1, hrc2, hrL, msln LTk, hsc1, hsc2, hsL, hlL, hie, hia1, hia2, hmx, ql_max, hd51, hd52, g0, g0B, g1, g1B, gk, gkB, hrc1, hrc2, hrL, msln LTk, hsc1, hsc2, hsL, hlL, g0, g0B, g1, g1B, gk, gkB, hrc1, hrc2, hrL, msln LTk, hsc1, hsc2, hsL, hlL, g0, g0B, g1, g1B, gk, gkB, hrc1, hrc2, hrL, msln LTk, hsc1, hsc2, hsL, g0, g0B, g1, g1B, gk, gkB, hrc1, hrc2, hrL, msln LTk, hsc1, hsc2, hsL, g0, g0B, g1, g1B, gk, gkB, hrc1, hrc2, hrL, msln LTk, *])
      all_goals (apply after_some rfl; apply hQ; clear hQ Q)
      all_goals
       skip
       apply w_cond _ rfl <;> intro hc
       ·first
        |(simp at hc; done)
        |try simp [Int.natCast_inj] at hc
         apply w_seq
         have hrp : 0 < rs.length := by
          rcases Nat.eq_zero_or_pos rs.length with h | h
          ·exfalso; rw [h] at hc; simp at hc
          ·exact h
         have hrne : rs ≠ [] := fun h => by rw [h] at hrp; simp at hrp
         obtain ⟨br, vr, hrv0, grW, _⟩ := (show _ ∨ _ from hR).resolve_left (fun h => hrne h.2)
         have hrv : PLift (rv = .ms 5 br vr 0 rs.length false) := ⟨hrv0⟩
         have hrbr := hrb br vr hrv0
         clear hrv0
         have grB := getW_blk grW
         have hkr := Around_range (n := at_) (most := (rs.length : Int)) ⟨ha1, ha2⟩ (by omega)
         obtain ⟨kk, hkie⟩ : ∃ i, Around at_ (rs.length : Int) = i := ⟨_, rfl⟩
         rw [hkie] at hkr
         obtain ⟨hkr1, hkr2⟩ := hkr
         obtain ⟨K, hK⟩ : ∃ K : Nat, (K : Int) = kk := ⟨kk.toNat, by omega⟩
         have hKe : kk.toNat = K := by omega
         have hKl : K < rs.length := by omega
         have hixk : indexAddrV Tryz.prog 32 rv kk = some (.mp br vr (K * 5)) := by
          have := msix LTr (b := br) (ver := vr) (off := 0) (full := false) (len := rs.length) (i := kk) (by omega) hkr2
          rw [hKe, Nat.zero_add] at this
          rw [hrv.down]; exact this
         obtain ⟨rk, hrke⟩ : ∃ q, rs[K] = q := ⟨_, rfl⟩
         have hrkm := hrk rk (by rw [← hrke]; exact List.getElem_mem hKl)
         have hDk := blk_drop eeR (ys := rs) (j := K) (k := 0) hKl (by decide)
         rw [hrke] at hDk
         simp only [Nat.add_zero, List.drop_zero] at hDk
         have hTk : K * 5 + 2 + 1 ≤ rs.length * 5 := by omega
         apply w_reg [2, 4, 8, 13, 19] rfl; intro Q hQ
         simp (disch := (first | omega | (repeat (first | exact okU_nil | refine okU1 (by omega) ?_)))) [wrap64, wrapU, leW, wrl, buildV, fillV, splice, sizeT, encN, cAr, hMa, g0, g0B, g1, g1B, g0, g0B, g1, g1B, hkc1, hkc2, g0, g0B, g1, g1B, hkc1, hkc2, hrc1, hrc2, hkL, hrL, gk, gkB, hie, hie2, hix1, hix2, hix3, hD1, hD2, hLd3, hF1', f0, f0B, fk, fkB, g0, g0B, g1, g1B, gk, gkB, hrc1, hrc2, hrL, msln LTk, hsc1, hsc2, hsL, hlL, g0, g0B, g1, g1B, gk, gkB, hrc1, hrc2, hrL, msln LTk, hsc1, hsc2, hsL, hlL, hie, hia1, hia2, hmx, ql_max, hd51, hd52, g0, g0B, g1, g1B, gk, gkB, hrc1, hrc2, hrL, msln LTk, hsc1, hsc2, hsL, hlL, g0, g0B, g1, g1B, gk, gkB, hrc1, hrc2, hrL, msln LTk, hsc1, hsc2, hsL, hlL, g0, g0B, g1, g1B, gk, gkB, hrc1, hrc2, hrL, msln LTk, hsc1, hsc2, hsL, g0, g0B, g1, g1B, gk, gkB, hrc1, hrc2, hrL, msln LTk, hsc1, hsc2, hsL, g0, g0B, g1, g1B, gk, gkB, hrc1, hrc2, hrL, msln LTk, hkie, hixk, hDk, hTk, grW, grB, flat_len eeR, take_eR]
         apply after_some rfl; apply hQ; clear hQ Q
         apply w_seq
         apply w_reg [4, 8, 13, 19, 223] rfl; intro Q hQ
         simp (disch := (first | omega | (repeat (first | exact okU_nil | refine okU1 (by omega) ?_)))) [wrap64, wrapU, leW, wrl, buildV, fillV, splice, sizeT, encN, cAr, hMa, g0, g0B, g1, g1B, g0, g0B, g1, g1B, hkc1, hkc2, g0, g0B, g1, g1B, hkc1, hkc2, hrc1, hrc2, hkL, hrL, gk, gkB, hie, hie2, hix1, hix2, hix3, hD1, hD2, hLd3, hF1', f0, f0B, fk, fkB, g0, g0B, g1, g1B, gk, gkB, hrc1, hrc2, hrL, msln LTk, hsc1, hsc2, hsL, hlL, g0, g0B, g1, g1B, gk, gkB, hrc1, hrc2, hrL, msln LTk, hsc1, hsc2, hsL, hlL, hie, hia1, hia2, hmx, ql_max, hd51, hd52, g0, g0B, g1, g1B, gk, gkB, hrc1, hrc2, hrL, msln LTk, hsc1, hsc2, hsL, hlL, g0, g0B, g1, g1B, gk, gkB, hrc1, hrc2, hrL, msln LTk, hsc1, hsc2, hsL, hlL, g0, g0B, g1, g1B, gk, gkB, hrc1, hrc2, hrL, msln LTk, hsc1, hsc2, hsL, g0, g0B, g1, g1B, gk, gkB, hrc1, hrc2, hrL, msln LTk, hsc1, hsc2, hsL, g0, g0B, g1, g1B, gk, gkB, hrc1, hrc2, hrL, msln LTk, hkie, hixk, hDk, hTk, grW, grB, flat_len eeR, take_eR]
         apply after_some rfl; apply hQ; clear hQ Q
         apply w_cond _ rfl <;> intro hc
         ·first
          |(simp at hc; done)
          |try simp [Int.natCast_inj] at hc
           apply w_reg [4, 8] rfl; intro Q hQ
           simp (disch := (first | omega | (repeat (first | exact okU_nil | refine okU1 (by omega) ?_)))) [wrap64, wrapU, leW, wrl, buildV, fillV, splice, sizeT, encN, cAr, hMa, g0, g0B, g1, g1B, g0, g0B, g1, g1B, hkc1, hkc2, g0, g0B, g1, g1B, hkc1, hkc2, hrc1, hrc2, hkL, hrL, gk, gkB, hie, hie2, hix1, hix2, hix3, hD1, hD2, hLd3, hF1', f0, f0B, fk, fkB, g0, g0B, g1, g1B, gk, gkB, hrc1, hrc2, hrL, msln LTk, hsc1, hsc2, hsL, hlL, g0, g0B, g1, g1B, gk, gkB, hrc1, hrc2, hrL, msln LTk, hsc1, hsc2, hsL, hlL, hie, hia1, hia2, hmx, ql_max, hd51, hd52, g0, g0B, g1, g1B, gk, gkB, hrc1, hrc2, hrL, msln LTk, hsc1, hsc2, hsL, hlL, g0, g0B, g1, g1B, gk, gkB, hrc1, hrc2, hrL, msln LTk, hsc1, hsc2, hsL, hlL, g0, g0B, g1, g1B, gk, gkB, hrc1, hrc2, hrL, msln LTk, hsc1, hsc2, hsL, g0, g0B, g1, g1B, gk, gkB, hrc1, hrc2, hrL, msln LTk, hsc1, hsc2, hsL, g0, g0B, g1, g1B, gk, gkB, hrc1, hrc2, hrL, msln LTk, hkie, hixk, hDk, hTk, grW, grB, flat_len eeR, take_eR]
           apply after_some rfl; apply hQ; clear hQ Q
           repeat (with_reducible apply kblock_nrm)
           refine kcut_nrm ?_
           rw [show List.take (K * 5 + 2) (List.map eR rs).flatten ++ V.str nm :: List.drop (K * 5 + 2 + 1) (List.map eR rs).flatten = ((rs.set K ⟨rk.name, rk.kind, nm, rk.b, rk.n⟩).map eR).flatten from wr_cell eeR (k := 2) hKl (by decide) (by rw [hrke]; rfl)]
           refine ⟨bk, vk, ks, rv, rs.set K ⟨rk.name, rk.kind, nm, rk.b, rk.n⟩, N, by simp (disch := (first | omega | (repeat (first | exact okU_nil | refine okU1 (by omega) ?_)))) [g0], by simp (disch := (first | omega | (repeat (first | exact okU_nil | refine okU1 (by omega) ?_)))) [g1], by simp (disch := (first | omega | (repeat (first | exact okU_nil | refine okU1 (by omega) ?_)))) [gk], hbk1, hbk2, .inr ⟨br, vr, by rw [List.length_set]; exact hrv.down, by simp (disch := (first | omega | (repeat (first | exact okU_nil | refine okU1 (by omega) ?_)))), fun h => hrne (by simpa using h)⟩, fun bb ver h => by rw [List.length_set]; exact hRv bb ver h, by rw [hx_len]; omega, hkn1, hkn2, hkk, by rw [List.length_set]; omega, fun k hk => ?_, rfl⟩
           rcases List.mem_or_eq_of_mem_set hk with hk | rfl
           ·exact hrk k hk
           ·exact ⟨hrkm.n⟩
         ·first
          |(simp at hc; done)
          |try simp [Int.natCast_inj] at hc
           have hAp := app3 (z := .mk true []) (H := (HX H [] [])) (v := rv) (x := (V.sl true [eR rk])) (ys := rs) (xs := [rk]) (m := N) LTr eeR (.inr rfl) (MutG.hx (u := []) (r := []) hR (by simp)) rfl (by simp [room]; omega) (by rw [hx_len]; simp <;> omega) (hRv)
           obtain ⟨hA1, hA2, hA3, hA4, hA5⟩ := hAp
           have hA1' : appendV Tryz.prog (HX H [] []) _ (rv) ((V.sl true [eR rk])) = _ := hA1
           have hA6 := getBlk_of (ver := 0) (hA4 0 (by omega))
           have hA7 := getW_of (ver := 0) (hA4 0 (by omega))
           obtain ⟨hA9, hA10⟩ := MutG.cells hA2
           have hA8 := hA3
           rw [hx_len] at hA8
           have hAo : ∀ bb, bb < N → bb ≠ 0 → ∀ c, (setBlk (apH Tryz.prog _ (HX H [] []) (rv) ((V.sl true [eR rk]))) 0 0 c)[bb]? = H[bb]? := fun bb h1 h2 c => by
            unfold setBlk
            rw [List.getElem?_set_ne (Ne.symm h2), hA4 bb h1, hxG (by omega) (by simp)]
           apply w_drw [4, 8] rfl rfl (by kernel_rfl) 0 rfl; intro Q hQ
           simp (disch := (first | omega | (repeat (first | exact okU_nil | refine okU1 (by omega) ?_)))) [wrap64, wrapU, leW, wrl, buildV, fillV, splice, sizeT, encN, cAr, hMa, g0, g0B, g1, g1B, g0, g0B, g1, g1B, hkc1, hkc2, g0, g0B, g1, g1B, hkc1, hkc2, hrc1, hrc2, hkL, hrL, gk, gkB, hie, hie2, hix1, hix2, hix3, hD1, hD2, hLd3, hF1', f0, f0B, fk, fkB, g0, g0B, g1, g1B, gk, gkB, hrc1, hrc2, hrL, msln LTk, hsc1, hsc2, hsL, hlL, g0, g0B, g1, g1B, gk, gkB, hrc1, hrc2, hrL, msln LTk, hsc1, hsc2, hsL, hlL, hie, hia1, hia2, hmx, ql_max, hd51, hd52, g0, g0B, g1, g1B, gk, gkB, hrc1, hrc2, hrL, msln LTk, hsc1, hsc2, hsL, hlL, g0, g0B, g1, g1B, gk, gkB, hrc1, hrc2, hrL, msln LTk, hsc1, hsc2, hsL, hlL, g0, g0B, g1, g1B, gk, gkB, hrc1, hrc2, hrL, msln LTk, hsc1, hsc2, hsL, g0, g0B, g1, g1B, gk, gkB, hrc1, hrc2, hrL, msln LTk, hsc1, hsc2, hsL, g0, g0B, g1, g1B, gk, gkB, hrc1, hrc2, hrL, msln LTk, hkie, hixk, hDk, hTk, grW, grB, flat_len eeR, take_eR, hA1', hA6, hA7, hA9, hA10]
           apply after_some rfl; apply hQ; clear hQ Q
           repeat (with_reducible apply kblock_nrm)
           refine kcut_nrm ?_
           have hkx : ∀ c, getW (setBlk (apH Tryz.prog 32 (HX H [] []) (rv) ((V.sl true [eR rk]))) 0 0 c) bk vk = some (List.map eK ks).flatten := fun c => by rw [getW_of (hAo bk (by omega) (by omega) c)]; exact gk
           refine ⟨bk, vk, ks, _, rs ++ [rk], N, by rw [gW_set (by omega)], ?_, hkx _, hbk1, hbk2, MutG.setb hA2 fun ver => hA5 0 ver (by omega), hA5, by rw [setBlk_len]; omega, hkn1, hkn2, hkk, by simp; omega, fun k hk => ?_, rfl⟩
           ·rw [getW_of (hAo 1 (by omega) (by decide) _)]; exact g1
           ·rcases List.mem_append.1 hk with hk | hk
            ·exact hrk k hk
            ·rw [List.mem_singleton.1 hk]; exact hrkm
       ·first
        |(simp at hc; done)
        |try simp [Int.natCast_inj] at hc
         apply w_keep [4, 8] rfl; apply w_skip
         repeat (with_reducible apply kblock_nrm)
         refine kcut_nrm ?_
         exact ⟨bk, vk, ks, rv, rs, N, by simp (disch := (first | omega | (repeat (first | exact okU_nil | refine okU1 (by omega) ?_)))) [g0], by simp (disch := (first | omega | (repeat (first | exact okU_nil | refine okU1 (by omega) ?_)))) [g1], by simp (disch := (first | omega | (repeat (first | exact okU_nil | refine okU1 (by omega) ?_)))) [gk], hbk1, hbk2, MutG.of hR fun b ver hq => hxG (hrb b ver hq).2 (by simp; try (have := hrb b ver hq; omega)), hRv, by rw [hx_len]; omega, hkn1, hkn2, hkk, by omega, hrk, rfl⟩
     rintro al H ⟨bk, vk, ks, rv, rs, N, g0, g1, gk, hbk1, hbk2, hR, hRv, hNH, hkn1, hkn2, hkk, hrl, hrk, rfl⟩
     have g0B := getW_blk g0
     have g1B := getW_blk g1
     have g0l := getW_lt g0
     have g1l := getW_lt g1
     have hrb : ∀ b ver, rv = .ms 5 b ver 0 rs.length false → N ≤ b ∧ b < H.length := fun b ver hq => by
      constructor
      ·rcases Nat.lt_or_ge b N with h | h
       ·exact absurd hq (hRv b ver h)
       ·exact h
      ·rcases Nat.lt_or_ge b H.length with h | h
       ·exact h
       ·exact absurd hq (MutG.lt hR (by decide) h)
     have gkB := getW_blk gk
     have gkl := getW_lt gk
     obtain ⟨hrc1, hrc2⟩ := MutG.cells hR
     have hrL : lenV Tryz.prog 32 rv = some rs.length := MutG.lenZ LTr hR
     rw [hx0 H]
     apply w_seq
     apply w_reg [8] rfl; intro Q hQ
     simp (disch := (first | omega | (repeat (first | exact okU_nil | refine okU1 (by omega) ?_)))) [wrap64, wrapU, leW, wrl, buildV, fillV, splice, sizeT, encN, cAr, hMa, g0, g0B, g1, g1B, g0, g0B, g1, g1B, hkc1, hkc2, g0, g0B, g1, g1B, hkc1, hkc2, hrc1, hrc2, hkL, hrL, gk, gkB, hie, hie2, hix1, hix2, hix3, hD1, hD2, hLd3, hF1', f0, f0B, fk, fkB, g0, g0B, g1, g1B, gk, gkB, hrc1, hrc2, hrL, msln LTk, hsc1, hsc2, hsL, hlL, g0, g0B, g1, g1B, gk, gkB, hrc1, hrc2, hrL, msln LTk, hsc1, hsc2, hsL, hlL, hie, hia1, hia2, hmx, ql_max, hd51, hd52, g0, g0B, g1, g1B, gk, gkB, hrc1, hrc2, hrL, msln LTk, hsc1, hsc2, hsL, hlL, g0, g0B, g1, g1B, gk, gkB, hrc1, hrc2, hrL, msln LTk, hsc1, hsc2, hsL, hlL, g0, g0B, g1, g1B, gk, gkB, hrc1, hrc2, hrL, msln LTk, hsc1, hsc2, hsL, g0, g0B, g1, g1B, gk, gkB, hrc1, hrc2, hrL, msln LTk, hsc1, hsc2, hsL, g0, g0B, g1, g1B, gk, gkB, hrc1, hrc2, hrL, msln LTk, g0, g0B, g1, g1B, gk, gkB, hrc1, hrc2, hrL, msln LTk]
     apply after_some rfl; apply hQ; clear hQ Q
     apply w_ret
     repeat (with_reducible (first | apply kseq_ret | apply kloop_ret | apply kcut_ret | apply kblock_ret))
     generalize hG : HX H [(1, 0, [V.int .i64 x.version, V.ms 4 bk vk 0 ks.length false, enc eL x.lives, rv])] [] = G
     have hGk : getW G bk vk = some (ks.map eK).flatten := by rw [← hG]; simp (disch := (first | omega | (repeat (first | exact okU_nil | refine okU1 (by omega) ?_)))) [gk]
     have hf1 : frzV 11 G (.ms 4 bk vk 0 ks.length false) = _ := frz_blk eeK (by decide) 9 hGk
     have hM2 : MutG eR 5 (.mk true []) (List.set G bk none) rv rs := MutG.of hR fun b ver hq => by
      have h1 := hrb b ver hq
      rw [List.getElem?_set_ne (by omega), ← hG]
      exact hxG h1.2 (by simp; omega)
     obtain ⟨G3, hf4, _, _⟩ := MutG.frzP eeR (by decide) hM2 9
     obtain ⟨G4, hf5⟩ := frz_schemaG (ver := x.version) (li := x.lives) hf1 hf4
     refine ⟨rfl, .agg [.int .i64 x.version, .ms 4 bk vk 0 ks.length false, enc eL x.lives, rv], (resultsA_eq (rs := [.cell 8 34]) rfl).trans ?_, ⟨x.version, .mk false ks, x.lives, doneSL (.mk true []) rs⟩, G4, hf5, ?_⟩
     ·rw [← hG]
      simp (disch := (first | omega | (repeat (first | exact okU_nil | refine okU1 (by omega) ?_)))) [resultsB, resultA]
     ·have e2 : (doneSL (SL.mk true []) rs).list = rs := by unfold doneSL; split <;> simp_all [SL.list]
      exact ⟨hx.ver, hkn2, hx.ll, by rw [e2]; exact hrl, hkk, hx.ls, fun k hk => hrk k (by rw [e2] at hk; exact hk)⟩

end Go.Ae.Zd
