/-
 The maker's kinds.
-/
import Derived.Test.YtplhjndcokidfaaGreatDoorZ2
set_option linter.unusedVariables false
set_option linter.unusedSimpArgs false
set_option maxRecDepth 20000
set_option maxHeartbeats 4000000
namespace Go.Ae.Zd
open Go.Proofs
attribute [local simp] List.getElem?_cons_zero List.getElem?_cons_succ hxW hxB hxW0 hxWn hxB0 hxBn hxS hxSn hxS0 hxTn hxT0 hxGn hxG0 hx_len hx_app hx_dup hx_dup2 lkU_nil lkU_hit lkU_ne sp_alloc cells_ms one_ms cells_sl one_sl wOf_ lk_nil lk_cons isEmpty_n isEmpty_c no_buildSlice no_makeSlice no_box eo_buildSlice ofVal_str chunk reads loadAt

theorem hx_same {H r : Heap} {u : Upd} {b ver : Nat} {cs : List V} (hb : b < H.length) (hu : okU H u) (hk : lkU u b ver (getW H b ver) = some cs) : HX H ((b, ver, cs) :: u) r = HX H u r := by
 have h1 : getW (putU H u) b ver = some cs := by rw [getW_putU b ver u hu, hk]
 unfold HX
 congr 1
 simp only [putU, setBlk]
 have h2 : (putU H u)[b]? = some (newBlk ver cs) := by
  unfold getW at h1
  split at h1
  ·rename_i v cs' hq
   split at h1
   ·rename_i hv
    injection h1 with h1
    subst hv; subst h1
    exact hq
   ·cases h1
  ·cases h1
 apply List.ext_getElem?
 intro k
 rw [List.getElem?_set]
 split
 ·rename_i h; subst h
  rw [if_pos (by rw [putU_len]; exact hb), h2]
 ·rfl

/-- What an append to a list gives. -/
def appK (i : TI) (H : Heap) (u : Upd) (r : Heap) (bv vv n : Nat) (cs : List V) : Option (List (List V)) → Option (V × Heap)
 |some new => some (.ms i.size bv (vv + new.length * i.size) 0 (n + new.length) false, HX H ((bv, vv + new.length * i.size, cs ++ new.flatten) :: u) r)
 |none => none
theorem appK_some {i : TI} {H : Heap} {u : Upd} {r : Heap} {bv vv n : Nat} {cs : List V} {new : List (List V)} : appK i H u r bv vv n cs (some new) = some (.ms i.size bv (vv + new.length * i.size) 0 (n + new.length) false, HX H ((bv, vv + new.length * i.size, cs ++ new.flatten) :: u) r) := rfl

theorem appHx {α : Type} {P : Program} {ty et : TypeId} {i : TI} {e : α → List V} (T : LT P ty et i) (E : Ee e i.size) {H r : Heap} {u : Upd} {bv vv : Nat} {fs : List α} (hb : bv < H.length) (hu : okU H u) (hk : lkU u bv vv (getW H bv vv) = some (fs.map e).flatten) (hl : (fs.length + 10) * i.bytes ≤ room) {x : V} {o : Option (List (List V))} (hx : elemsOf (HX H u r) x = o) (ho : ∀ new, o = some new → new.all (fun c => decide (c.length = i.size) && allOne c) = true ∧ new.length ≤ 10) :
  appendV P (HX H u r) ty (.ms i.size bv vv 0 fs.length false) x = appK i H u r bv vv fs.length (fs.map e).flatten o := by
 cases o with
 |none => simp only [appendV, T.hs, T.he, hx, appK]
 |some new =>
  obtain ⟨h1, h2⟩ := ho new rfl
  rw [appK_some]
  cases new with
  |nil =>
   simp only [appendV, T.hs, T.he, hx, List.length_nil, Nat.zero_mul, Nat.add_zero, List.flatten_nil, List.append_nil]
   rw [hx_same hb hu hk]
  |cons a q =>
   have h3 := T.hz; have h4 := T.hb; have h5 := T.hl
   have hl' : (fs.length + (a :: q).length) * i.bytes ≤ room := Nat.le_trans (Nat.mul_le_mul_right _ (by omega)) hl
   have hw : getW (HX H u r) bv vv = some (fs.map e).flatten := by rw [hxW hb hu, hk]
   simp only [appendV, T.hs, T.he, hx]
   rw [if_neg (by rw [h1]; simp; omega)]
   simp only [hw, flat_len E]
   rw [if_pos ⟨trivial, hl', by omega⟩]
   simp only [true_and]
   rw [if_pos trivial, hxS hb]

/-- The same, where nothing is known. -/
def appElse (P : Program) (H : Heap) (t : TypeId) (s x : V) : Option (V × Heap) := appendV P H t s x
/-- Any append to the list, with no or one block written over. -/
def okNew (i : TI) (o : Option (List (List V))) : Bool := match o with
 |some new => new.all (fun c => decide (c.length = i.size) && allOne c) && decide (new.length ≤ 10)
 |none => true
theorem okNew_some {i : TI} {new : List (List V)} : okNew i (some new) = (new.all (fun c => decide (c.length = i.size) && allOne c) && decide (new.length ≤ 10)) := rfl
theorem okNew0 {i : TI} : okNew i (some []) = true := rfl
theorem okNew1 {i : TI} {c : List V} : okNew i (some [c]) = (decide (c.length = i.size) && allOne c) := by simp [okNew]
theorem okNew2 {i : TI} {c d : List V} : okNew i (some [c, d]) = ((decide (c.length = i.size) && allOne c) && (decide (d.length = i.size) && allOne d)) := by simp [okNew]
theorem okNewE {α : Type} {P : Program} {ty et : TypeId} {i : TI} {e : α → List V} (T : LT P ty et i) (E : Ee e i.size) {l : List α} : okNew i (some (l.map e)) = decide (l.length ≤ 10) := by
 rw [okNew_some, all_ok E, Bool.true_and, List.length_map]
theorem appHx' {α : Type} {P : Program} {ty et : TypeId} {i : TI} {e : α → List V} (T : LT P ty et i) (E : Ee e i.size) {H r : Heap} {u : Upd} {bv vv : Nat} {fs : List α} (hb : bv < H.length) (hu : okU H u) (hk : lkU u bv vv (getW H bv vv) = some (fs.map e).flatten) (hl : (fs.length + 10) * i.bytes ≤ room) (x : V) :
  appendV P (HX H u r) ty (.ms i.size bv vv 0 fs.length false) x = if okNew i (elemsOf (HX H u r) x) = true then appK i H u r bv vv fs.length (fs.map e).flatten (elemsOf (HX H u r) x) else appElse P (HX H u r) ty (.ms i.size bv vv 0 fs.length false) x := by
 split
 ·rename_i h
  refine appHx T E hb hu hk hl rfl fun new hn => ?_
  rw [hn] at h
  simpa [okNew] using h
 ·rfl

/-- What an append to nothing gives. -/
def appN (i : TI) (H : Heap) (z : V) : Option (List (List V)) → Option (V × Heap)
 |some [] => some (z, H)
 |some (a :: q) => some (.ms i.size H.length (a :: q).flatten.length 0 (a :: q).length false, H ++ [newBlk (a :: q).flatten.length (a :: q).flatten])
 |none => none
theorem appN_cons {i : TI} {H : Heap} {z : V} {a : List V} {q : List (List V)} : appN i H z (some (a :: q)) = some (.ms i.size H.length (a :: q).flatten.length 0 (a :: q).length false, H ++ [newBlk (a :: q).flatten.length (a :: q).flatten]) := rfl
theorem appN_nil {i : TI} {H : Heap} {z : V} : appN i H z (some []) = some (z, H) := rfl
theorem appNil {P : Program} {ty et : TypeId} {i : TI} (T : LT P ty et i) (hr : 10 * i.bytes ≤ room) {H : Heap} {x : V} : appendV P H ty .nil x = if okNew i (elemsOf H x) = true then appN i H .nil (elemsOf H x) else appElse P H ty .nil x := by
 split
 ·rename_i h
  cases ho : elemsOf H x with
  |none => simp only [appendV, T.hs, T.he, ho, appN]
  |some new =>
   rw [ho, okNew_some, Bool.and_eq_true, decide_eq_true_eq] at h
   cases new with
   |nil => simp only [appendV, T.hs, T.he, ho, appN]
   |cons a q =>
    have h3 := T.hz; have h4 := T.hb; have h5 := T.hl
    simp only [appendV, T.hs, T.he, ho, appN]
    rw [if_neg (by rw [h.1]; simp; omega), if_pos (Nat.le_trans (Nat.mul_le_mul_right _ h.2) hr)]
 ·rfl
theorem appSl {P : Program} {ty et : TypeId} {i : TI} (T : LT P ty et i) (hr : 10 * i.bytes ≤ room) {H : Heap} {x : V} : appendV P H ty (.sl true []) x = if okNew i (elemsOf H x) = true then appN i H (.sl true []) (elemsOf H x) else appElse P H ty (.sl true []) x := by
 split
 ·rename_i h
  cases ho : elemsOf H x with
  |none => simp only [appendV, T.hs, T.he, ho, appN]
  |some new =>
   rw [ho, okNew_some, Bool.and_eq_true, decide_eq_true_eq] at h
   cases new with
   |nil => simp only [appendV, T.hs, T.he, ho, appN]
   |cons a q =>
    have h3 := T.hz; have h4 := T.hb; have h5 := T.hl
    have h6 : (List.length (α := List V) [] + (a :: q).length) * i.bytes ≤ room := by
     have := Nat.le_trans (Nat.mul_le_mul_right i.bytes h.2) hr
     simpa using this
    simp only [appendV, T.hs, T.he, ho, appN]
    rw [if_neg (by rw [h.1]; simp; omega), if_pos ⟨h6, rfl⟩]
    simp
 ·rfl
theorem appCl {α : Type} {P : Program} {ty et : TypeId} {i : TI} {e : α → List V} (T : LT P ty et i) (E : Ee e i.size) {s : SL α} (hs : s.list ≠ []) (hr : s.list.length * i.bytes ≤ room) (H : Heap) : appendV P H ty (.sl true []) (enc e s) = some (.ms i.size H.length (s.list.length * i.size) 0 s.list.length false, H ++ [newBlk (s.list.length * i.size) (s.list.map e).flatten]) := by
 have h3 := T.hz; have h4 := T.hb; have h5 := T.hl
 have h1 := all_ok E s.list
 have h2 := flat_len E s.list
 obtain ⟨a, q, hq⟩ : ∃ a q, s.list = a :: q := by
  cases h : s.list with
  |nil => exact absurd h hs
  |cons a q => exact ⟨a, q, rfl⟩
 simp only [appendV, T.hs, T.he, elems_enc]
 rw [hq] at h1 h2 hr ⊢
 simp only [List.map_cons] at h1 h2 ⊢
 rw [if_neg (by rw [h1]; simp; omega), if_pos ⟨by simpa using hr, rfl⟩]
 simp only [List.nil_append, h2]
 simp
theorem app_at {α : Type} {P : Program} {ty et : TypeId} {i : TI} {e : α → List V} (T : LT P ty et i) (E : Ee e i.size) {HH : Heap} {b ver : Nat} {fs : List α} (hg : getW HH b ver = some (fs.map e).flatten) {new : List V} (h1 : new.length = i.size) (h2 : allOne new = true) (hl : (fs.length + 1) * i.bytes ≤ room) :
  appendV P HH ty (.ms i.size b ver 0 fs.length false) (.sl true [new]) = some (.ms i.size b (ver + i.size) 0 (fs.length + 1) false, setBlk HH b (ver + i.size) ((fs.map e).flatten ++ new)) := by
 have h3 := T.hz; have h4 := T.hb; have h5 := T.hl
 simp only [appendV, T.hs, T.he, elemsOf]
 rw [if_neg (by simp [h1, h2]; omega)]
 simp only [hg, flat_len E]
 rw [if_pos ⟨trivial, by simpa using hl, by omega⟩, if_pos ⟨trivial, trivial⟩]
 simp
theorem el_nil {H : Heap} : elemsOf H .nil = some [] := rfl
theorem el_sl {H : Heap} {f : Bool} {els : List (List V)} : elemsOf H (.sl f els) = some els := rfl
theorem el_ms {H : Heap} {sz b ver off len : Nat} {f : Bool} : elemsOf H (.ms sz b ver off len f) = match getBlk H b ver with
  |some cs => if off + len * sz ≤ cs.length then some (chunk sz len (cs.drop off)) else none
  |none => none := rfl
theorem slix {P : Program} {ty et : TypeId} {ti : TI} (T : LT P ty et ti) {els : List (List V)} {full : Bool} {i : Int} (h0 : 0 ≤ i) : indexAddrV P ty (.sl full els) i = match els[i.toNat]? with
  |some cs => if cs.length = ti.size then some (.rp cs) else none
  |none => none := by
 simp only [indexAddrV, T.hs, sizeT, T.he, Option.map_some, if_pos h0]
 cases els[i.toNat]? <;> rfl
theorem lit_idx {α : Type} (e : α → V) (d : α) : ∀ (xs : List α) (k : Nat), k < xs.length → (xs.map fun x => [e x])[k]? = some [e (xs.getD k d)]
 |[], k, h => by simp at h
 |a :: r, 0, _ => rfl
 |a :: r, k + 1, h => by simpa using lit_idx e d r k (by simpa using h)
theorem lit_drop {α : Type} (e : α → V) (d : α) : ∀ (xs : List α) (k : Nat), k < xs.length → (xs.map e).drop k = e (xs.getD k d) :: (xs.map e).drop (k + 1)
 |[], k, h => by simp at h
 |a :: r, 0, _ => rfl
 |a :: r, k + 1, h => by simpa using lit_drop e d r k (by simpa using h)
theorem getD_all {α : Type} {p : α → Prop} {d : α} (hd : p d) : ∀ (xs : List α) (k : Nat), (∀ x ∈ xs, p x) → p (xs.getD k d)
 |[], k, _ => by simpa using hd
 |a :: r, 0, h => by simpa using h a (List.mem_cons_self ..)
 |a :: r, k + 1, h => by simpa using getD_all hd r k fun x hx => h x (List.mem_cons_of_mem _ hx)

theorem hasM {H : Heap} {bv vv : Nat} {fs : List FieldT} (hv : getW H bv vv = some (fs.map eF).flatten) (hne : fs ≠ []) (hl : fs.length < 4611686018427387904) (nm : Str) : call LE 96 [.ms 8 bv vv 0 fs.length false, .str nm] H = some (.int .i64 (fIx nm fs), H) := by
 have hM : MutG eF 8 SL.nil H (.ms 8 bv vv 0 fs.length false) fs := .inr ⟨bv, vv, rfl, hv, hne⟩
 have h1 := hM.snap eeF (by decide)
 rw [doneSL, if_neg hne] at h1
 have h2 : snapV 12 H (.str nm) = some (.str nm) := rfl
 refine call_snap rfl rfl rfl ?_ (cHas_runs (.mk false fs) nm hl) rfl
 simp only [mapO, h1, h2]
structure okK (M : Nat) (k : KindT) : Prop where
 name : 1 ≤ k.name.length ∧ k.name.length ≤ 20
 lo : Sm 2000000 k.lo
 hi : Sm 2000000 k.hi
 ne : k.fields.list ≠ []
 len : k.fields.list.length ≤ M
 ok : ∀ f ∈ k.fields.list, okF f

/-- What keeps all blocks that lay there, but two. -/
def Kq (b bl : Nat) (H H' : Heap) : Prop := H.length ≤ H'.length ∧ ∀ b', b' < H.length → b' ≠ b → b' ≠ bl → H'[b']? = H[b']?
theorem Kq.refl {b bl : Nat} {H : Heap} : Kq b bl H H := ⟨Nat.le_refl _, fun _ _ _ _ => rfl⟩
theorem Kq.hx {b bl : Nat} {H H1 r : Heap} {u : Upd} (h : Kq b bl H H1) (hu : ∀ p ∈ u, p.1 = b ∨ p.1 = bl ∨ H.length ≤ p.1) : Kq b bl H (HX H1 u r) := by
 refine ⟨by rw [hx_len]; have := h.1; omega, fun b' h1 h2 h3 => ?_⟩
 rw [hxG (Nat.lt_of_lt_of_le h1 h.1) fun p hp => ?_, h.2 b' h1 h2 h3]
 rcases hu p hp with h4 | h4 | h4 <;> omega
theorem Kq.kp {b bl : Nat} {H H1 H2 : Heap} (h : Kq b bl H H1) (h' : Kp b H1 H2) : Kq b bl H H2 :=
 ⟨Nat.le_trans h.1 h'.1, fun b' h1 h2 h3 => (h'.2 b' (Nat.lt_of_lt_of_le h1 h.1) h2).trans (h.2 b' h1 h2 h3)⟩

/-- The list of kinds that there are. -/
def LS (b bl : Nat) (lv : V) (ks : List KindT) (H : Heap) : Prop := (lv = .nil ∧ ks = [] ∧ bl = b) ∨ ∃ vl, lv = .ms 4 bl vl 0 ks.length false ∧ getW H bl vl = some (ks.map eK).flatten ∧ bl ≠ b ∧ ks ≠ []
theorem LS.hx {b bl : Nat} {lv : V} {ks : List KindT} {H r : Heap} {u : Upd} (h : LS b bl lv ks H) (hu : ∀ p ∈ u, p.1 = b ∨ bl < p.1) : LS b bl lv ks (HX H u r) := by
 rcases h with h | ⟨vl, h1, h2, h3, h4⟩
 ·exact .inl h
 ·refine .inr ⟨vl, h1, ?_, h3, h4⟩
  rw [getW_of (hxG (getW_lt h2) fun p hp => ?_)]
  ·exact h2
  ·rcases hu p hp with h5 | h5 <;> omega
theorem LS.kp {b bl : Nat} {lv : V} {ks : List KindT} {H H' : Heap} (h : LS b bl lv ks H) (h' : Kp b H H') : LS b bl lv ks H' := by
 rcases h with h | ⟨vl, h1, h2, h3, h4⟩
 ·exact .inl h
 ·exact .inr ⟨vl, h1, by rw [h'.getW (getW_lt h2) h3]; exact h2, h3, h4⟩
theorem LS.len {b bl : Nat} {lv : V} {ks : List KindT} {H : Heap} (h : LS b bl lv ks H) : lenV Tryz.prog 30 lv = some ks.length := by
 rcases h with ⟨rfl, rfl, _⟩ | ⟨vl, rfl, _⟩
 ·simp [lenV, LTk.hs]
 ·exact msln LTk

theorem LS.setn {b bl b' : Nat} {lv : V} {ks : List KindT} {H : Heap} (h : LS b bl lv ks H) (hb : b' ≠ bl) : LS b bl lv ks (List.set H b' none) := by
 rcases h with h | ⟨vl, h1, h2, h3, h4⟩
 ·exact .inl h
 ·exact .inr ⟨vl, h1, by rw [gW_none hb]; exact h2, h3, h4⟩
theorem Kq.setn {b bl b' : Nat} {H0 H : Heap} (h : Kq b bl H0 H) (hb : H0.length ≤ b') : Kq b bl H0 (List.set H b' none) :=
 ⟨by rw [List.length_set]; exact h.1, fun k h1 h2 h3 => by rw [List.getElem?_set_ne (by omega)]; exact h.2 k h1 h2 h3⟩
/-- The state in which a kind is made. -/
structure KS (l : SL Int) (b bl : Nat) (lv : V) (H0 : Heap) (nm : Str) (H : Heap) (i' : Int) (ks : List KindT) (lo hi : Int) (fs : List FieldT) (bv vv : Nat) : Prop where
 m : getW H b 0 = some (mkC l i')
 r : getW H H0.length 0 = some [.str [], .int .i64 0, .int .i64 0, .nil]
 k : getW H (H0.length + 2) 0 = some [.str nm, .int .i64 lo, .int .i64 hi, .ms 8 bv vv 0 fs.length false]
 v : getW H bv vv = some (fs.map eF).flatten
 L : LS b bl lv ks H
 kp : Kq b bl H0 H
 ord : b < H0.length ∧ bl < H0.length ∧ H0.length + 3 ≤ bv
 lo : Sm 2000000 lo
 hi : Sm 2000000 hi
 ne : fs ≠ []
 ok : ∀ f ∈ fs, okF f

theorem LS_mk {b bl vl : Nat} {lv : V} {ks : List KindT} {H : Heap} {T : Nat} {q : KindT} (hlv : lv = .ms 4 bl vl 0 ks.length false) (h : getW H bl vl = some ((ks.set T q).map eK).flatten) (hb : bl ≠ b) (hn : ks ≠ []) : LS b bl lv (ks.set T q) H :=
 .inr ⟨vl, by rw [List.length_set]; exact hlv, h, hb, fun h => hn (by simpa using h)⟩
theorem frz_kind {H : Heap} {nm : Str} {lo hi : Int} {fs : List FieldT} {bv vv : Nat} {full : Bool} (h : getW H bv vv = some (fs.map eF).flatten) : frzV 12 H (.agg [.str nm, .int .i64 lo, .int .i64 hi, .ms 8 bv vv 0 fs.length full]) = some (.agg (eK ⟨nm, lo, hi, .mk full fs⟩), List.set H bv none) := by
 have e1 : ∀ (H : Heap) (v : V), v.pure = true → frzV 11 H v = some (v, H) := fun H v hv => by unfold frzV; rw [if_pos hv]
 have e2 : frzV 11 H (.ms 8 bv vv 0 fs.length full) = _ := frz_blk eeF (by decide) 9 h
 unfold frzV
 simp only [V.pure, V.pureL, Bool.and_false, Bool.and_true, Bool.false_and, Bool.false_eq_true, if_false]
 simp only [frzList, e1 _ (.str _) rfl, e1 _ (.int _ _) rfl, e2]
 rfl
def KindQ (l : SL Int) (b bl : Nat) (lv : V) (H0 : Heap) (i : Int) (n M : Nat) (v : V) (H1 : Heap) : Prop :=
 ∃ (k : KindT) (H2 : Heap) (i' : Int) (ks' : List KindT), frzV 12 H1 v = some (.agg (eK k), H2) ∧ i ≤ i' ∧ i' ≤ i + 100 ∧ getW H2 b 0 = some (mkC l i') ∧ LS b bl lv ks' H2 ∧ ks'.length = n ∧ (∀ k ∈ ks', okK (M + 1) k) ∧ okK 20 k ∧ Kq b bl H0 H2

/-- (*diorama/dioramaref09.Maker).kind -/
theorem cKindM {l : SL Int} (hl : ∀ a ∈ l.list, I64 a) {b bl : Nat} {lv : V} {ks : List KindT} {H0 : Heap} {i : Int} (hW : getW H0 b 0 = some (mkC l i)) (hi : 0 ≤ i) (hi2 : i < 10000) (hL : LS b bl lv ks H0) (hbl : bl < H0.length) (hn : ks.length ≤ 2) {M : Nat} (hM : M ≤ 40) (hkM0 : ∀ k ∈ ks, okK M k) : ∃ v H1, call LE 52 [.mp b 0 0, lv] H0 = some (v, H1) ∧ KindQ l b bl lv H0 i ks.length M v H1 := by
 have hb := getW_lt hW
 have hB := getW_blk hW
 have hMd : LE.mode 51 = .inl := rfl
 obtain ⟨hT0, hT1, hT2, hT3⟩ := takeEq hl hW hi (by omega)
 have hLen := hL.len
 have hr0 := AtN_range (j := i) (n := 6) (by omega) hl
 have hr1 := AtN_range (j := i + 1) (n := 5) (by omega) hl
 have hr2 := AtN_range (j := i + 1 + 1) (n := 4) (by omega) hl
 have hI1 := lit_idx V.str [112, 101, 114, 115, 111, 110] ([[112, 101, 114, 115, 111, 110], [111, 114, 100, 101, 114], [105, 116, 101, 109]] : List Str) ks.length (by simp; omega)
 have hnm : 1 ≤ (([[112, 101, 114, 115, 111, 110], [111, 114, 100, 101, 114], [105, 116, 101, 109]] : List Str).getD ks.length [112, 101, 114, 115, 111, 110]).length ∧ (([[112, 101, 114, 115, 111, 110], [111, 114, 100, 101, 114], [105, 116, 101, 109]] : List Str).getD ks.length [112, 101, 114, 115, 111, 110]).length ≤ 20 := getD_all (p := fun s : Str => 1 ≤ s.length ∧ s.length ≤ 20) (by decide) _ _ (by decide)
 generalize ([[112, 101, 114, 115, 111, 110], [111, 114, 100, 101, 114], [105, 116, 101, 109]] : List Str).getD ks.length [112, 101, 114, 115, 111, 110] = nm at hI1 hnm
 simp only [List.map] at hI1
 have hI2 := lit_drop (V.int .i64) 0 [0, 1, 2, 4, 1, 2] (AtN l.list i 6).toNat (by simp; omega)
 have hk2 : 0 ≤ ([0, 1, 2, 4, 1, 2] : List Int).getD (AtN l.list i 6).toNat 0 ∧ ([0, 1, 2, 4, 1, 2] : List Int).getD (AtN l.list i 6).toNat 0 ≤ 1000 := getD_all (p := fun s : Int => 0 ≤ s ∧ s ≤ 1000) (by decide) _ _ (by decide)
 generalize ([0, 1, 2, 4, 1, 2] : List Int).getD (AtN l.list i 6).toNat 0 = klo at hI2 hk2
 simp only [List.map] at hI2
 have hI4 := lit_idx (V.int .i64) 0 [0, 1, 100, -3] (AtN l.list (i + 1 + 1) 4).toNat (by simp; omega)
 have hk4 : -3 ≤ ([0, 1, 100, -3] : List Int).getD (AtN l.list (i + 1 + 1) 4).toNat 0 ∧ ([0, 1, 100, -3] : List Int).getD (AtN l.list (i + 1 + 1) 4).toNat 0 ≤ 1000 := getD_all (p := fun s : Int => -3 ≤ s ∧ s ≤ 1000) (by decide) _ _ (by decide)
 generalize ([0, 1, 100, -3] : List Int).getD (AtN l.list (i + 1 + 1) 4).toNat 0 = ilo at hI4 hk4
 simp only [List.map] at hI4
 have hHi := fun (j : Int) (h0 : 0 ≤ j) (h1 : j < 4) => lit_idx (V.int .i64) 0 [4, 3, 8, 2] j.toNat (by simp; omega)
 have hkHi : ∀ j : Int, 0 ≤ ([4, 3, 8, 2] : List Int).getD j.toNat 0 ∧ ([4, 3, 8, 2] : List Int).getD j.toNat 0 ≤ 1000 := fun j => getD_all (p := fun s : Int => 0 ≤ s ∧ s ≤ 1000) (by decide) _ _ (by decide)
 simp only [List.map] at hHi
 rw [call_inl rfl rfl, hx0 H0]
 refine run_E (m := 184) Tryz.func52 rfl rfl (Nat.le_of_ble_eq_true rfl) ?_
 simp only [alOf]
 apply w_seq
 apply w_reg [0, 1, 4] rfl; intro Q hQ
 simp (disch := (first | omega | (repeat (first | exact okU_nil | refine okU1 (by omega) ?_)))) [wrap64, wrapU, leW, wrl, buildV, fillV, splice, hW, hB, hMd, hT0, hT1, hT2, hT3, hLen, hI1, hI2, hI4, msix LTi, slix LTs, slix LTi, Int.toNat_natCast, appNil LTf (by decide), okNew0, okNew1, okNew2, el_nil, el_sl, el_ms, appN_cons]
 apply after_some rfl; apply hQ; clear hQ Q
 apply w_seq
 apply w_reg [0, 1, 4, 5] rfl; intro Q hQ
 simp (disch := (first | omega | (repeat (first | exact okU_nil | refine okU1 (by omega) ?_)))) [wrap64, wrapU, leW, wrl, buildV, fillV, splice, hW, hB, hMd, hT0, hT1, hT2, hT3, hLen, hI1, hI2, hI4, msix LTi, slix LTs, slix LTi, Int.toNat_natCast, appNil LTf (by decide), okNew0, okNew1, okNew2, el_nil, el_sl, el_ms, appN_cons]
 apply after_some rfl; apply hQ; clear hQ Q
 apply w_seq
 apply w_reg [0, 1, 4, 5, 6] rfl; intro Q hQ
 simp (disch := (first | omega | (repeat (first | exact okU_nil | refine okU1 (by omega) ?_)))) [wrap64, wrapU, leW, wrl, buildV, fillV, splice, hW, hB, hMd, hT0, hT1, hT2, hT3, hLen, hI1, hI2, hI4, msix LTi, slix LTs, slix LTi, Int.toNat_natCast, appNil LTf (by decide), okNew0, okNew1, okNew2, el_nil, el_sl, el_ms, appN_cons]
 apply after_some rfl; apply hQ; clear hQ Q
 apply w_seq
 apply w_drwW [0, 1, 4, 5, 7] [(7, [3])] rfl rfl rfl (by kernel_rfl) 1 rfl; intro Q hQ
 simp (disch := (first | omega | (repeat (first | exact okU_nil | refine okU1 (by omega) ?_)))) [wrap64, wrapU, leW, wrl, buildV, fillV, splice, hW, hB, hMd, hT0, hT1, hT2, hT3, hLen, hI1, hI2, hI4, msix LTi, slix LTs, slix LTi, Int.toNat_natCast, appNil LTf (by decide), okNew0, okNew1, okNew2, el_nil, el_sl, el_ms, appN_cons]
 apply after_some rfl; apply hQ; clear hQ Q
 refine w_cut (fun al H => ∃ (i' : Int) (ks' : List KindT) (lo hi : Int) (fs : List FieldT) (bv vv : Nat), KS l b bl lv H0 nm H i' ks' lo hi fs bv vv ∧ i ≤ i' ∧ i' ≤ i + 3 ∧ ks'.length = ks.length ∧ (∀ k ∈ ks', okK M k) ∧ fs.length ≤ 1 ∧ al = [(0, .mp b 0 0), (1, lv), (4, .mp H0.length 0 0), (5, .int .i64 (ks.length : Int)), (7, .mp (H0.length + 2) 0 0)]) ?_ ?_
 ·skip
  apply w_drwW [0, 1, 4, 5, 7] [(4, [1])] rfl rfl rfl (by kernel_rfl) 0 rfl; intro Q hQ
  simp (disch := (first | omega | (repeat (first | exact okU_nil | refine okU1 (by omega) ?_)))) [wrap64, wrapU, leW, wrl, buildV, fillV, splice, hW, hB, hMd, hT0, hT1, hT2, hT3, hLen, hI1, hI2, hI4, msix LTi, slix LTs, slix LTi, Int.toNat_natCast, appNil LTf (by decide), okNew0, okNew1, okNew2, el_nil, el_sl, el_ms, appN_cons]
  apply after_some rfl; apply hQ; clear hQ Q
  repeat (with_reducible apply kblock_nrm)
  refine kcut_nrm ?_
  refine ⟨i + 1 + 1 + 1, ks, klo, klo + AtN l.list (i + 1) 5, [(⟨[105, 100], [], [], 0, ilo, 0, .nil, .nil⟩ : FieldT)], H0.length + 3, 8, ⟨?_, ?_, ?_, ?_, LS.hx hL ?_, Kq.hx Kq.refl ?_, ⟨by omega, by omega, by omega⟩, by simp only [Sm]; omega, by simp only [Sm]; omega, by simp, ?_⟩, by omega, by omega, rfl, hkM0, by simp, rfl⟩
  ·simp (disch := (first | omega | (repeat (first | exact okU_nil | refine okU1 (by omega) ?_))))
  ·simp (disch := (first | omega | (repeat (first | exact okU_nil | refine okU1 (by omega) ?_))))
  ·simp (disch := (first | omega | (repeat (first | exact okU_nil | refine okU1 (by omega) ?_))))
  ·simp (disch := (first | omega | (repeat (first | exact okU_nil | refine okU1 (by omega) ?_)))) [eF, encN]
  ·simp; try omega
  ·simp; try omega
  ·intro g hg
   rw [List.mem_singleton.1 hg]
   exact ⟨by simp only [Sm]; omega, by simp only [Sm]; omega, by simp only [Sm]; omega, by simp [SL.list_nil], by simp [SL.list_nil], by simp [SL.list_nil]⟩
 rintro al H ⟨i', ks', lo, hi, fs, bv, vv, hS, hi3, hi4, hks', hkM, hfN, rfl⟩
 have gm := hS.m
 have gmB := getW_blk gm
 have gr := hS.r
 have grB := getW_blk gr
 have gk := hS.k
 have gkB := getW_blk gk
 have gv := hS.v
 have gvB := getW_blk gv
 obtain ⟨o1, o2, o3⟩ := hS.ord
 have gvl := getW_lt gv
 have gml := getW_lt gm
 have gkl := getW_lt gk
 obtain ⟨uT0, uT1, uT2, uT3⟩ := takeEq hl gm (by omega) (by omega)
 have uA0 := fun (r : Heap) (x : V) => appHx' LTf eeF (H := H) (u := []) (r := r) gvl okU_nil gv (by simp [room]; omega) x
 have uA1 := fun (r : Heap) (x : V) (c : List V) => appHx' LTf eeF (H := H) (u := [(b, 0, c)]) (r := r) gvl (okU1 gml okU_nil) (by rw [lkU_ne (by omega), lkU_nil]; exact gv) (by simp [room]; omega) x
 have ur2 := AtN_range (j := i') (n := 2) (by omega) hl
 have ur3 := AtN_range (j := i') (n := 3) (by omega) hl
 have ur5 := AtN_range (j := i') (n := 5) (by omega) hl
 have ur8 := AtN_range (j := i') (n := 8) (by omega) hl
 rw [hx0 H]
 refine w_cut (fun al H => ∃ (i' : Int) (ks' : List KindT) (lo hi : Int) (fs : List FieldT) (bv vv : Nat), KS l b bl lv H0 nm H i' ks' lo hi fs bv vv ∧ i ≤ i' ∧ i' ≤ i + 13 ∧ ks'.length = ks.length ∧ (∀ k ∈ ks', okK (M + 1) k) ∧ fs.length ≤ 4 ∧ al = [(0, .mp b 0 0), (1, lv), (4, .mp H0.length 0 0), (5, .int .i64 (ks.length : Int)), (7, .mp (H0.length + 2) 0 0)]) ?_ ?_
 ·skip
  apply w_seq
  apply w_reg [0, 1, 4, 5, 7, 43] rfl; intro Q hQ
  simp (disch := (first | omega | (repeat (first | exact okU_nil | refine okU1 (by omega) ?_)))) [wrap64, wrapU, leW, wrl, buildV, fillV, splice, hW, hB, hMd, hT0, hT1, hT2, hT3, hLen, hI1, hI2, hI4, msix LTi, slix LTs, slix LTi, Int.toNat_natCast, appNil LTf (by decide), okNew0, okNew1, okNew2, el_nil, el_sl, el_ms, appN_cons, gm, gmB, gr, grB, gk, gkB, gv, gvB, uT0, uT1, uT2, uT3, uA0, uA1, okNew0, okNew1, okNew2, okNewE LTf eeF, appK_some, el_nil, el_sl, el_ms, elems_enc, encN, hMd]
  apply after_some rfl; apply hQ; clear hQ Q
  apply w_cond _ rfl <;> intro hc
  ·first
   |(simp at hc; done)
   |try simp [Int.natCast_inj] at hc
    apply w_seq
    apply w_reg [0, 1, 4, 5, 7, 8] rfl; intro Q hQ
    simp (disch := (first | omega | (repeat (first | exact okU_nil | refine okU1 (by omega) ?_)))) [wrap64, wrapU, leW, wrl, buildV, fillV, splice, hW, hB, hMd, hT0, hT1, hT2, hT3, hLen, hI1, hI2, hI4, msix LTi, slix LTs, slix LTi, Int.toNat_natCast, appNil LTf (by decide), okNew0, okNew1, okNew2, el_nil, el_sl, el_ms, appN_cons, gm, gmB, gr, grB, gk, gkB, gv, gvB, uT0, uT1, uT2, uT3, uA0, uA1, okNew0, okNew1, okNew2, okNewE LTf eeF, appK_some, el_nil, el_sl, el_ms, elems_enc, encN, hMd]
    apply after_some rfl; apply hQ; clear hQ Q
    apply w_seq
    have hkp : 0 < ks.length := by
     rcases Nat.eq_zero_or_pos ks.length with h | h
     ·exfalso; rw [h] at hc; simp at hc
     ·exact h
    have hkn : ks' ≠ [] := fun h => by rw [h] at hks'; simp at hks'; omega
    have htr := AtN_range (j := i') (n := (ks.length : Int)) (by omega) hl
    obtain ⟨to, hto⟩ : ∃ to, AtN l.list i' (ks.length : Int) = to := ⟨_, rfl⟩
    rw [hto] at htr ⊢
    obtain ⟨ht0, ht1'⟩ := htr
    have ht1 : to < ks'.length := by omega
    obtain ⟨vl, hlv0, hlW, hlb, hln⟩ := hS.L.resolve_left (fun h => hkn h.2.1)
    have hlv : PLift (lv = .ms 4 bl vl 0 ks'.length false) := ⟨hlv0⟩
    clear hlv0
    have hlB := getW_blk hlW
    have hll := getW_lt hlW
    obtain ⟨T, hT⟩ : ∃ T : Nat, (T : Int) = to := ⟨to.toNat, by omega⟩
    have hTe : to.toNat = T := by omega
    have hTl : T < ks'.length := by omega
    obtain ⟨q, hq⟩ : ∃ q, ks'[T] = q := ⟨_, rfl⟩
    have hqM := hkM q (by rw [← hq]; exact List.getElem_mem hTl)
    have hql : q.fields.list.length ≤ M := hqM.len
    have hD0 := blk_drop eeK (ys := ks') (j := T) (k := 0) hTl (by decide)
    have hD3 := blk_drop eeK (ys := ks') (j := T) (k := 3) hTl (by decide)
    rw [hq] at hD0 hD3
    simp only [Nat.add_zero, List.drop_zero] at hD0
    have hD0 : List.drop (T * 4) (List.map eK ks').flatten = [.str q.name, .int .i64 q.lo, .int .i64 q.hi, enc eF q.fields] ++ (List.map eK (List.drop (T + 1) ks')).flatten := hD0
    have hD3 : List.drop (T * 4 + 3) (List.map eK ks').flatten = [enc eF q.fields] ++ (List.map eK (List.drop (T + 1) ks')).flatten := hD3
    have hix : indexAddrV Tryz.prog 30 lv to = some (.mp bl vl (T * 4)) := by
     rw [hlv.down]
     have := msix LTk (b := bl) (ver := vl) (off := 0) (full := false) ht0 ht1
     rw [hTe, Nat.zero_add] at this
     exact this
    have hCop : ∀ H, call LE 95 [.agg [.str q.name, .int .i64 q.lo, .int .i64 q.hi, enc eF q.fields]] H = some (.int .i64 (cIx q.fields.list), H) := fun H => cCopied q (by omega) H
    have hcr := cIx_range q.fields.list
    have hHas := fun H => cHas q.fields [116, 111, 116, 97, 108] (by omega) H
    have ur4 := AtN_range (j := i' + 1) (n := 4) (by omega) hl
    have hHi1 := hHi (AtN l.list (i' + 1) 4) (by omega) (by omega)
    have hkHi1 := hkHi (AtN l.list (i' + 1) 4)
    generalize ([4, 3, 8, 2] : List Int).getD (AtN l.list (i' + 1) 4).toNat 0 = khi at hHi1 hkHi1
    apply w_drwW [0, 1, 4, 5, 7, 8, 9] [(7, [4])] rfl rfl rfl (by kernel_rfl) 1 rfl; intro Q hQ
    simp (disch := (first | omega | (repeat (first | exact okU_nil | refine okU1 (by omega) ?_)))) [wrap64, wrapU, leW, wrl, buildV, fillV, splice, hW, hB, hMd, hT0, hT1, hT2, hT3, hLen, hI1, hI2, hI4, msix LTi, slix LTs, slix LTi, Int.toNat_natCast, appNil LTf (by decide), okNew0, okNew1, okNew2, el_nil, el_sl, el_ms, appN_cons, gm, gmB, gr, grB, gk, gkB, gv, gvB, uT0, uT1, uT2, uT3, uA0, uA1, okNew0, okNew1, okNew2, okNewE LTf eeF, appK_some, el_nil, el_sl, el_ms, elems_enc, encN, hMd, hix, hD0, hD3, hlW, hlB, hHi1, ofVal_str, slix LTi]
    apply after_some rfl; apply hQ; clear hQ Q
    refine w_cut (fun al H => ∃ (i' : Int) (ks' : List KindT) (lo hi : Int) (fs : List FieldT) (bv vv : Nat) (to : Int) (fb : Nat) (f : FieldT), KS l b bl lv H0 nm H i' ks' lo hi fs bv vv ∧ i ≤ i' ∧ i' ≤ i + 7 ∧ ks'.length = ks.length ∧ (∀ k ∈ ks', okK M k) ∧ fs.length ≤ 1 ∧ 0 ≤ to ∧ to < ks'.length ∧ ks' ≠ [] ∧ getW H fb 0 = some (eF f) ∧ okF f ∧ H0.length + 3 ≤ fb ∧ fb ≠ bv ∧ al = [(0, .mp b 0 0), (1, lv), (4, .mp H0.length 0 0), (5, .int .i64 (ks.length : Int)), (7, .mp (H0.length + 2) 0 0), (8, .int .i64 to), (9, .mp fb 0 0)]) ?_ ?_
    ·skip
     apply w_seq
     apply w_reg [0, 1, 4, 5, 7, 8, 9, 60] rfl; intro Q hQ
     simp (disch := (first | omega | (repeat (first | exact okU_nil | refine okU1 (by omega) ?_)))) [wrap64, wrapU, leW, wrl, buildV, fillV, splice, hW, hB, hMd, hT0, hT1, hT2, hT3, hLen, hI1, hI2, hI4, msix LTi, slix LTs, slix LTi, Int.toNat_natCast, appNil LTf (by decide), okNew0, okNew1, okNew2, el_nil, el_sl, el_ms, appN_cons, gm, gmB, gr, grB, gk, gkB, gv, gvB, uT0, uT1, uT2, uT3, uA0, uA1, okNew0, okNew1, okNew2, okNewE LTf eeF, appK_some, el_nil, el_sl, el_ms, elems_enc, encN, hMd, hix, hD0, hD3, hlW, hlB, hHi1, ofVal_str, slix LTi]
     apply after_some rfl; apply hQ; clear hQ Q
     apply w_cond _ rfl <;> intro hc
     ·first
      |(simp at hc; done)
      |try simp [Int.natCast_inj] at hc
       apply w_reg [0, 1, 4, 5, 7, 8, 9] rfl; intro Q hQ
       simp (disch := (first | omega | (repeat (first | exact okU_nil | refine okU1 (by omega) ?_)))) [wrap64, wrapU, leW, wrl, buildV, fillV, splice, hW, hB, hMd, hT0, hT1, hT2, hT3, hLen, hI1, hI2, hI4, msix LTi, slix LTs, slix LTi, Int.toNat_natCast, appNil LTf (by decide), okNew0, okNew1, okNew2, el_nil, el_sl, el_ms, appN_cons, gm, gmB, gr, grB, gk, gkB, gv, gvB, uT0, uT1, uT2, uT3, uA0, uA1, okNew0, okNew1, okNew2, okNewE LTf eeF, appK_some, el_nil, el_sl, el_ms, elems_enc, encN, hMd, hix, hD0, hD3, hlW, hlB, hHi1, ofVal_str, slix LTi]
       apply after_some rfl; apply hQ; clear hQ Q
       repeat (with_reducible apply kblock_nrm)
       refine kcut_nrm ?_
       refine ⟨i' + 1 + 1 + 1, ks', lo, hi, fs, bv, vv, to, H.length, (⟨[111, 102], q.name, [], 1, 1, khi, .nil, .nil⟩ : FieldT), ⟨?_, ?_, ?_, ?_, LS.hx hS.L ?_, Kq.hx hS.kp ?_, hS.ord, hS.lo, hS.hi, ?_, ?_⟩, by omega, by omega, hks', hkM, by omega, ht0, ht1, hkn, by simp (disch := (first | omega | (repeat (first | exact okU_nil | refine okU1 (by omega) ?_)))) [gm, gr, gk, gv, eF, encN], ⟨by simp only [Sm]; omega, by simp only [Sm]; omega, by simp only [Sm]; omega, by simp [SL.list_nil], by simp [SL.list_nil], by simp [SL.list_nil]⟩, by omega, by omega, rfl⟩
       ·simp (disch := (first | omega | (repeat (first | exact okU_nil | refine okU1 (by omega) ?_)))) [gm, gr, gk, gv]
       ·simp (disch := (first | omega | (repeat (first | exact okU_nil | refine okU1 (by omega) ?_)))) [gm, gr, gk, gv]
       ·simp (disch := (first | omega | (repeat (first | exact okU_nil | refine okU1 (by omega) ?_)))) [gm, gr, gk, gv]
       ·simp (disch := (first | omega | (repeat (first | exact okU_nil | refine okU1 (by omega) ?_)))) [gm, gr, gk, gv, eF, encN]
       ·simp; try omega
       ·simp; try omega
       ·exact hS.ne
       ·exact hS.ok
     ·first
      |(simp at hc; done)
      |try simp [Int.natCast_inj] at hc
       apply w_keep [0, 1, 4, 5, 7, 8, 9] rfl; apply w_skip
       repeat (with_reducible apply kblock_nrm)
       refine kcut_nrm ?_
       refine ⟨i' + 1 + 1 + 1, ks', lo, hi, fs, bv, vv, to, H.length, (⟨[111, 102], q.name, [], 1, 0, khi, .nil, .nil⟩ : FieldT), ⟨?_, ?_, ?_, ?_, LS.hx hS.L ?_, Kq.hx hS.kp ?_, hS.ord, hS.lo, hS.hi, ?_, ?_⟩, by omega, by omega, hks', hkM, by omega, ht0, ht1, hkn, by simp (disch := (first | omega | (repeat (first | exact okU_nil | refine okU1 (by omega) ?_)))) [gm, gr, gk, gv, eF, encN], ⟨by simp only [Sm]; omega, by simp only [Sm]; omega, by simp only [Sm]; omega, by simp [SL.list_nil], by simp [SL.list_nil], by simp [SL.list_nil]⟩, by omega, by omega, rfl⟩
       ·simp (disch := (first | omega | (repeat (first | exact okU_nil | refine okU1 (by omega) ?_)))) [gm, gr, gk, gv]
       ·simp (disch := (first | omega | (repeat (first | exact okU_nil | refine okU1 (by omega) ?_)))) [gm, gr, gk, gv]
       ·simp (disch := (first | omega | (repeat (first | exact okU_nil | refine okU1 (by omega) ?_)))) [gm, gr, gk, gv]
       ·simp (disch := (first | omega | (repeat (first | exact okU_nil | refine okU1 (by omega) ?_)))) [gm, gr, gk, gv, eF, encN]
       ·simp; try omega
       ·simp; try omega
       ·exact hS.ne
       ·exact hS.ok
    rintro al H ⟨i', ks', lo, hi, fs, bv, vv, to, fb, f, hS, hi3, hi4, hks', hkM, hfN, ht0, ht1, hkn, hfb, hfk, hfb1, hfb2, rfl⟩
    have gm := hS.m
    have gmB := getW_blk gm
    have gr := hS.r
    have grB := getW_blk gr
    have gk := hS.k
    have gkB := getW_blk gk
    have gv := hS.v
    have gvB := getW_blk gv
    obtain ⟨o1, o2, o3⟩ := hS.ord
    have gvl := getW_lt gv
    have gml := getW_lt gm
    have gkl := getW_lt gk
    obtain ⟨uT0, uT1, uT2, uT3⟩ := takeEq hl gm (by omega) (by omega)
    have uA0 := fun (r : Heap) (x : V) => appHx' LTf eeF (H := H) (u := []) (r := r) gvl okU_nil gv (by simp [room]; omega) x
    have uA1 := fun (r : Heap) (x : V) (c : List V) => appHx' LTf eeF (H := H) (u := [(b, 0, c)]) (r := r) gvl (okU1 gml okU_nil) (by rw [lkU_ne (by omega), lkU_nil]; exact gv) (by simp [room]; omega) x
    have ur2 := AtN_range (j := i') (n := 2) (by omega) hl
    have ur3 := AtN_range (j := i') (n := 3) (by omega) hl
    have ur5 := AtN_range (j := i') (n := 5) (by omega) hl
    have ur8 := AtN_range (j := i') (n := 8) (by omega) hl
    have hfB := getW_blk hfb
    have hfbl := getW_lt hfb
    rw [hx0 H]
    refine w_cut (fun al H => ∃ (i' : Int) (ks' : List KindT) (lo hi : Int) (fs : List FieldT) (bv vv : Nat) (to : Int), KS l b bl lv H0 nm H i' ks' lo hi fs bv vv ∧ i ≤ i' ∧ i' ≤ i + 7 ∧ ks'.length = ks.length ∧ (∀ k ∈ ks', okK M k) ∧ fs.length ≤ 2 ∧ 0 ≤ to ∧ to < ks'.length ∧ ks' ≠ [] ∧ al = [(0, .mp b 0 0), (1, lv), (4, .mp H0.length 0 0), (5, .int .i64 (ks.length : Int)), (7, .mp (H0.length + 2) 0 0), (8, .int .i64 to)]) ?_ ?_
    ·skip
     apply w_reg [0, 1, 4, 5, 7, 8] rfl; intro Q hQ
     simp (disch := (first | omega | (repeat (first | exact okU_nil | refine okU1 (by omega) ?_)))) [wrap64, wrapU, leW, wrl, buildV, fillV, splice, hW, hB, hMd, hT0, hT1, hT2, hT3, hLen, hI1, hI2, hI4, msix LTi, slix LTs, slix LTi, Int.toNat_natCast, appNil LTf (by decide), okNew0, okNew1, okNew2, el_nil, el_sl, el_ms, appN_cons, gm, gmB, gr, grB, gk, gkB, gv, gvB, uT0, uT1, uT2, uT3, uA0, uA1, okNew0, okNew1, okNew2, okNewE LTf eeF, appK_some, el_nil, el_sl, el_ms, elems_enc, encN, hMd, hix, hD0, hD3, hlW, hlB, hHi1, ofVal_str, slix LTi, gm, gmB, gr, grB, gk, gkB, gv, gvB, uT0, uT1, uT2, uT3, uA0, uA1, okNew0, okNew1, okNew2, okNewE LTf eeF, appK_some, el_nil, el_sl, el_ms, elems_enc, encN, hMd, hfb, hfB]
     apply after_some rfl; apply hQ; clear hQ Q
     repeat (with_reducible apply kblock_nrm)
     refine kcut_nrm ?_
     refine ⟨i', ks', lo, hi, fs ++ [f], bv, vv + 8, to, ⟨?_, ?_, ?_, ?_, LS.hx hS.L ?_, Kq.hx hS.kp ?_, hS.ord, hS.lo, hS.hi, ?_, ?_⟩, by omega, by omega, hks', hkM, by simp; omega, ht0, ht1, hkn, rfl⟩
     ·simp (disch := (first | omega | (repeat (first | exact okU_nil | refine okU1 (by omega) ?_)))) [gm, gr, gk, gv]
     ·simp (disch := (first | omega | (repeat (first | exact okU_nil | refine okU1 (by omega) ?_)))) [gm, gr, gk, gv]
     ·simp (disch := (first | omega | (repeat (first | exact okU_nil | refine okU1 (by omega) ?_)))) [gm, gr, gk, gv]
     ·simp (disch := (first | omega | (repeat (first | exact okU_nil | refine okU1 (by omega) ?_)))) [gm, gr, gk, gv, eF, encN]
     ·simp; try omega
     ·simp; try omega
     ·simp
     ·intro g hg
      rcases List.mem_append.1 hg with hg | hg
      ·exact hS.ok g hg
      ·rw [List.mem_singleton.1 hg]
       exact hfk
    rintro al H ⟨i', ks', lo, hi, fs, bv, vv, to, hS, hi3, hi4, hks', hkM, hfN, ht0, ht1, hkn, rfl⟩
    have gm := hS.m
    have gmB := getW_blk gm
    have gr := hS.r
    have grB := getW_blk gr
    have gk := hS.k
    have gkB := getW_blk gk
    have gv := hS.v
    have gvB := getW_blk gv
    obtain ⟨o1, o2, o3⟩ := hS.ord
    have gvl := getW_lt gv
    have gml := getW_lt gm
    have gkl := getW_lt gk
    obtain ⟨uT0, uT1, uT2, uT3⟩ := takeEq hl gm (by omega) (by omega)
    have uA0 := fun (r : Heap) (x : V) => appHx' LTf eeF (H := H) (u := []) (r := r) gvl okU_nil gv (by simp [room]; omega) x
    have uA1 := fun (r : Heap) (x : V) (c : List V) => appHx' LTf eeF (H := H) (u := [(b, 0, c)]) (r := r) gvl (okU1 gml okU_nil) (by rw [lkU_ne (by omega), lkU_nil]; exact gv) (by simp [room]; omega) x
    have ur2 := AtN_range (j := i') (n := 2) (by omega) hl
    have ur3 := AtN_range (j := i') (n := 3) (by omega) hl
    have ur5 := AtN_range (j := i') (n := 5) (by omega) hl
    have ur8 := AtN_range (j := i') (n := 8) (by omega) hl
    obtain ⟨vl, hlv0, hlW, hlb, hln⟩ := hS.L.resolve_left (fun h => hkn h.2.1)
    have hlv : PLift (lv = .ms 4 bl vl 0 ks'.length false) := ⟨hlv0⟩
    clear hlv0
    have hlB := getW_blk hlW
    have hll := getW_lt hlW
    obtain ⟨T, hT⟩ : ∃ T : Nat, (T : Int) = to := ⟨to.toNat, by omega⟩
    have hTe : to.toNat = T := by omega
    have hTl : T < ks'.length := by omega
    obtain ⟨q, hq⟩ : ∃ q, ks'[T] = q := ⟨_, rfl⟩
    have hqM := hkM q (by rw [← hq]; exact List.getElem_mem hTl)
    have hql : q.fields.list.length ≤ M := hqM.len
    have hD0 := blk_drop eeK (ys := ks') (j := T) (k := 0) hTl (by decide)
    have hD3 := blk_drop eeK (ys := ks') (j := T) (k := 3) hTl (by decide)
    rw [hq] at hD0 hD3
    simp only [Nat.add_zero, List.drop_zero] at hD0
    have hD0 : List.drop (T * 4) (List.map eK ks').flatten = [.str q.name, .int .i64 q.lo, .int .i64 q.hi, enc eF q.fields] ++ (List.map eK (List.drop (T + 1) ks')).flatten := hD0
    have hD3 : List.drop (T * 4 + 3) (List.map eK ks').flatten = [enc eF q.fields] ++ (List.map eK (List.drop (T + 1) ks')).flatten := hD3
    have hix : indexAddrV Tryz.prog 30 lv to = some (.mp bl vl (T * 4)) := by
     rw [hlv.down]
     have := msix LTk (b := bl) (ver := vl) (off := 0) (full := false) ht0 ht1
     rw [hTe, Nat.zero_add] at this
     exact this
    have hCop : ∀ H, call LE 95 [.agg [.str q.name, .int .i64 q.lo, .int .i64 q.hi, enc eF q.fields]] H = some (.int .i64 (cIx q.fields.list), H) := fun H => cCopied q (by omega) H
    have hcr := cIx_range q.fields.list
    have hHas := fun H => cHas q.fields [116, 111, 116, 97, 108] (by omega) H
    rw [hx0 H]
    apply w_seq
    apply w_reg [0, 1, 4, 5, 7, 8, 10] rfl; intro Q hQ
    simp (disch := (first | omega | (repeat (first | exact okU_nil | refine okU1 (by omega) ?_)))) [wrap64, wrapU, leW, wrl, buildV, fillV, splice, hW, hB, hMd, hT0, hT1, hT2, hT3, hLen, hI1, hI2, hI4, msix LTi, slix LTs, slix LTi, Int.toNat_natCast, appNil LTf (by decide), okNew0, okNew1, okNew2, el_nil, el_sl, el_ms, appN_cons, gm, gmB, gr, grB, gk, gkB, gv, gvB, uT0, uT1, uT2, uT3, uA0, uA1, okNew0, okNew1, okNew2, okNewE LTf eeF, appK_some, el_nil, el_sl, el_ms, elems_enc, encN, hMd, hix, hD0, hD3, hlW, hlB, hHi1, ofVal_str, slix LTi, gm, gmB, gr, grB, gk, gkB, gv, gvB, uT0, uT1, uT2, uT3, uA0, uA1, okNew0, okNew1, okNew2, okNewE LTf eeF, appK_some, el_nil, el_sl, el_ms, elems_enc, encN, hMd, hfb, hfB, gm, gmB, gr, grB, gk, gkB, gv, gvB, uT0, uT1, uT2, uT3, uA0, uA1, okNew0, okNew1, okNew2, okNewE LTf eeF, appK_some, el_nil, el_sl, el_ms, elems_enc, encN, hMd, hlW, hlB, hix, hD0, hD3, hCop, hHas, ofVal_str]
    apply after_some rfl; apply hQ; clear hQ Q
    refine w_cut (fun al H => ∃ (i' : Int) (ks' : List KindT) (lo hi : Int) (fs : List FieldT) (bv vv : Nat) (to : Int), KS l b bl lv H0 nm H i' ks' lo hi fs bv vv ∧ i ≤ i' ∧ i' ≤ i + 8 ∧ ks'.length = ks.length ∧ (∀ k ∈ ks', okK M k) ∧ fs.length ≤ 3 ∧ 0 ≤ to ∧ to < ks'.length ∧ ks' ≠ [] ∧ al = [(0, .mp b 0 0), (1, lv), (4, .mp H0.length 0 0), (5, .int .i64 (ks.length : Int)), (7, .mp (H0.length + 2) 0 0), (8, .int .i64 to)]) ?_ ?_
    ·skip
     apply w_seq
     apply w_reg [0, 1, 4, 5, 7, 8, 10, 79] rfl; intro Q hQ
     simp (disch := (first | omega | (repeat (first | exact okU_nil | refine okU1 (by omega) ?_)))) [wrap64, wrapU, leW, wrl, buildV, fillV, splice, hW, hB, hMd, hT0, hT1, hT2, hT3, hLen, hI1, hI2, hI4, msix LTi, slix LTs, slix LTi, Int.toNat_natCast, appNil LTf (by decide), okNew0, okNew1, okNew2, el_nil, el_sl, el_ms, appN_cons, gm, gmB, gr, grB, gk, gkB, gv, gvB, uT0, uT1, uT2, uT3, uA0, uA1, okNew0, okNew1, okNew2, okNewE LTf eeF, appK_some, el_nil, el_sl, el_ms, elems_enc, encN, hMd, hix, hD0, hD3, hlW, hlB, hHi1, ofVal_str, slix LTi, gm, gmB, gr, grB, gk, gkB, gv, gvB, uT0, uT1, uT2, uT3, uA0, uA1, okNew0, okNew1, okNew2, okNewE LTf eeF, appK_some, el_nil, el_sl, el_ms, elems_enc, encN, hMd, hfb, hfB, gm, gmB, gr, grB, gk, gkB, gv, gvB, uT0, uT1, uT2, uT3, uA0, uA1, okNew0, okNew1, okNew2, okNewE LTf eeF, appK_some, el_nil, el_sl, el_ms, elems_enc, encN, hMd, hlW, hlB, hix, hD0, hD3, hCop, hHas, ofVal_str]
     repeat' ((first | with_reducible apply after_guard | with_reducible apply after_guardD) <;> (intro hg; have hg' := hg; try simp at hg') <;> simp (disch := (first | omega | (repeat (first | exact okU_nil | refine okU1 (by omega) ?_)))) [wrap64, wrapU, leW, wrl, buildV, fillV, splice, hW, hB, hMd, hT0, hT1, hT2, hT3, hLen, hI1, hI2, hI4, msix LTi, slix LTs, slix LTi, Int.toNat_natCast, appNil LTf (by decide), okNew0, okNew1, okNew2, el_nil, el_sl, el_ms, appN_cons, gm, gmB, gr, grB, gk, gkB, gv, gvB, uT0, uT1, uT2, uT3, uA0, uA1, okNew0, okNew1, okNew2, okNewE LTf eeF, appK_some, el_nil, el_sl, el_ms, elems_enc, encN, hMd, hix, hD0, hD3, hlW, hlB, hHi1, ofVal_str, slix LTi, gm, gmB, gr, grB, gk, gkB, gv, gvB, uT0, uT1, uT2, uT3, uA0, uA1, okNew0, okNew1, okNew2, okNewE LTf eeF, appK_some, el_nil, el_sl, el_ms, elems_enc, encN, hMd, hfb, hfB, gm, gmB, gr, grB, gk, gkB, gv, gvB, uT0, uT1, uT2, uT3, uA0, uA1, okNew0, okNew1, okNew2, okNewE LTf eeF, appK_some, el_nil, el_sl, el_ms, elems_enc, encN, hMd, hlW, hlB, hix, hD0, hD3, hCop, hHas, ofVal_str, *])
     all_goals (apply after_some rfl; apply hQ; clear hQ Q)
     all_goals
      skip
      apply w_cond _ rfl <;> intro hc
      ·first
       |(simp at hc; done)
       |try simp [Int.natCast_inj] at hc
        apply w_drw [0, 1, 4, 5, 7, 8] rfl rfl (by kernel_rfl) 0 rfl; intro Q hQ
        simp (disch := (first | omega | (repeat (first | exact okU_nil | refine okU1 (by omega) ?_)))) [wrap64, wrapU, leW, wrl, buildV, fillV, splice, hW, hB, hMd, hT0, hT1, hT2, hT3, hLen, hI1, hI2, hI4, msix LTi, slix LTs, slix LTi, Int.toNat_natCast, appNil LTf (by decide), okNew0, okNew1, okNew2, el_nil, el_sl, el_ms, appN_cons, gm, gmB, gr, grB, gk, gkB, gv, gvB, uT0, uT1, uT2, uT3, uA0, uA1, okNew0, okNew1, okNew2, okNewE LTf eeF, appK_some, el_nil, el_sl, el_ms, elems_enc, encN, hMd, hix, hD0, hD3, hlW, hlB, hHi1, ofVal_str, slix LTi, gm, gmB, gr, grB, gk, gkB, gv, gvB, uT0, uT1, uT2, uT3, uA0, uA1, okNew0, okNew1, okNew2, okNewE LTf eeF, appK_some, el_nil, el_sl, el_ms, elems_enc, encN, hMd, hfb, hfB, gm, gmB, gr, grB, gk, gkB, gv, gvB, uT0, uT1, uT2, uT3, uA0, uA1, okNew0, okNew1, okNew2, okNewE LTf eeF, appK_some, el_nil, el_sl, el_ms, elems_enc, encN, hMd, hlW, hlB, hix, hD0, hD3, hCop, hHas, ofVal_str]
        apply after_some rfl; apply hQ; clear hQ Q
        repeat (with_reducible apply kblock_nrm)
        refine kcut_nrm ?_
        have hg0 : 0 ≤ cIx q.fields.list := by simpa using hg
        refine ⟨i' + 1, ks', lo, hi, fs ++ [(⟨[115, 97, 109, 101], (q.fields.list[(cIx q.fields.list).toNat]'(by omega)).name, [111, 102], 8, 0, 0, .nil, .nil⟩ : FieldT)], bv, vv + 8, to, ⟨?_, ?_, ?_, ?_, LS.hx hS.L ?_, Kq.hx hS.kp ?_, hS.ord, hS.lo, hS.hi, ?_, ?_⟩, by omega, by omega, hks', hkM, by simp; omega, ht0, ht1, hkn, rfl⟩
        ·simp (disch := (first | omega | (repeat (first | exact okU_nil | refine okU1 (by omega) ?_)))) [gm, gr, gk, gv]
        ·simp (disch := (first | omega | (repeat (first | exact okU_nil | refine okU1 (by omega) ?_)))) [gm, gr, gk, gv]
        ·simp (disch := (first | omega | (repeat (first | exact okU_nil | refine okU1 (by omega) ?_)))) [gm, gr, gk, gv]
        ·simp (disch := (first | omega | (repeat (first | exact okU_nil | refine okU1 (by omega) ?_)))) [gm, gr, gk, gv, eF, encN]
        ·simp; try omega
        ·simp; try omega
        ·simp
        ·intro g hg
         rcases List.mem_append.1 hg with hg | hg
         ·exact hS.ok g hg
         ·rw [List.mem_singleton.1 hg]
          exact ⟨by simp only [Sm]; omega, by simp only [Sm]; omega, by simp only [Sm]; omega, by simp [SL.list_nil], by simp [SL.list_nil], by simp [SL.list_nil]⟩
      ·first
       |(simp at hc; done)
       |try simp [Int.natCast_inj] at hc
        apply w_keep [0, 1, 4, 5, 7, 8] rfl; apply w_skip
        repeat (with_reducible apply kblock_nrm)
        refine kcut_nrm ?_
        first
         |(refine ⟨i' + 1, ks', lo, hi, fs, bv, vv, to, ⟨?_, ?_, ?_, ?_, LS.hx hS.L ?_, Kq.hx hS.kp ?_, hS.ord, hS.lo, hS.hi, ?_, ?_⟩, by omega, by omega, hks', hkM, by omega, ht0, ht1, hkn, rfl⟩
           ·simp (disch := (first | omega | (repeat (first | exact okU_nil | refine okU1 (by omega) ?_)))) [gm, gr, gk, gv]
           ·simp (disch := (first | omega | (repeat (first | exact okU_nil | refine okU1 (by omega) ?_)))) [gm, gr, gk, gv]
           ·simp (disch := (first | omega | (repeat (first | exact okU_nil | refine okU1 (by omega) ?_)))) [gm, gr, gk, gv]
           ·simp (disch := (first | omega | (repeat (first | exact okU_nil | refine okU1 (by omega) ?_)))) [gm, gr, gk, gv, eF, encN]
           ·simp; try omega
           ·simp; try omega
           ·exact hS.ne
           ·exact hS.ok)
         |(refine ⟨i', ks', lo, hi, fs, bv, vv, to, ⟨?_, ?_, ?_, ?_, LS.hx hS.L ?_, Kq.hx hS.kp ?_, hS.ord, hS.lo, hS.hi, ?_, ?_⟩, by omega, by omega, hks', hkM, by omega, ht0, ht1, hkn, rfl⟩
           ·simp (disch := (first | omega | (repeat (first | exact okU_nil | refine okU1 (by omega) ?_)))) [gm, gr, gk, gv]
           ·simp (disch := (first | omega | (repeat (first | exact okU_nil | refine okU1 (by omega) ?_)))) [gm, gr, gk, gv]
           ·simp (disch := (first | omega | (repeat (first | exact okU_nil | refine okU1 (by omega) ?_)))) [gm, gr, gk, gv]
           ·simp (disch := (first | omega | (repeat (first | exact okU_nil | refine okU1 (by omega) ?_)))) [gm, gr, gk, gv, eF, encN]
           ·simp; try omega
           ·simp; try omega
           ·exact hS.ne
           ·exact hS.ok)
    rintro al H ⟨i', ks', lo, hi, fs, bv, vv, to, hS, hi3, hi4, hks', hkM, hfN, ht0, ht1, hkn, rfl⟩
    have gm := hS.m
    have gmB := getW_blk gm
    have gr := hS.r
    have grB := getW_blk gr
    have gk := hS.k
    have gkB := getW_blk gk
    have gv := hS.v
    have gvB := getW_blk gv
    obtain ⟨o1, o2, o3⟩ := hS.ord
    have gvl := getW_lt gv
    have gml := getW_lt gm
    have gkl := getW_lt gk
    obtain ⟨uT0, uT1, uT2, uT3⟩ := takeEq hl gm (by omega) (by omega)
    have uA0 := fun (r : Heap) (x : V) => appHx' LTf eeF (H := H) (u := []) (r := r) gvl okU_nil gv (by simp [room]; omega) x
    have uA1 := fun (r : Heap) (x : V) (c : List V) => appHx' LTf eeF (H := H) (u := [(b, 0, c)]) (r := r) gvl (okU1 gml okU_nil) (by rw [lkU_ne (by omega), lkU_nil]; exact gv) (by simp [room]; omega) x
    have ur2 := AtN_range (j := i') (n := 2) (by omega) hl
    have ur3 := AtN_range (j := i') (n := 3) (by omega) hl
    have ur5 := AtN_range (j := i') (n := 5) (by omega) hl
    have ur8 := AtN_range (j := i') (n := 8) (by omega) hl
    obtain ⟨vl, hlv0, hlW, hlb, hln⟩ := hS.L.resolve_left (fun h => hkn h.2.1)
    have hlv : PLift (lv = .ms 4 bl vl 0 ks'.length false) := ⟨hlv0⟩
    clear hlv0
    have hlB := getW_blk hlW
    have hll := getW_lt hlW
    obtain ⟨T, hT⟩ : ∃ T : Nat, (T : Int) = to := ⟨to.toNat, by omega⟩
    have hTe : to.toNat = T := by omega
    have hTl : T < ks'.length := by omega
    obtain ⟨q, hq⟩ : ∃ q, ks'[T] = q := ⟨_, rfl⟩
    have hqM := hkM q (by rw [← hq]; exact List.getElem_mem hTl)
    have hql : q.fields.list.length ≤ M := hqM.len
    have hD0 := blk_drop eeK (ys := ks') (j := T) (k := 0) hTl (by decide)
    have hD3 := blk_drop eeK (ys := ks') (j := T) (k := 3) hTl (by decide)
    rw [hq] at hD0 hD3
    simp only [Nat.add_zero, List.drop_zero] at hD0
    have hD0 : List.drop (T * 4) (List.map eK ks').flatten = [.str q.name, .int .i64 q.lo, .int .i64 q.hi, enc eF q.fields] ++ (List.map eK (List.drop (T + 1) ks')).flatten := hD0
    have hD3 : List.drop (T * 4 + 3) (List.map eK ks').flatten = [enc eF q.fields] ++ (List.map eK (List.drop (T + 1) ks')).flatten := hD3
    have hix : indexAddrV Tryz.prog 30 lv to = some (.mp bl vl (T * 4)) := by
     rw [hlv.down]
     have := msix LTk (b := bl) (ver := vl) (off := 0) (full := false) ht0 ht1
     rw [hTe, Nat.zero_add] at this
     exact this
    have hCop : ∀ H, call LE 95 [.agg [.str q.name, .int .i64 q.lo, .int .i64 q.hi, enc eF q.fields]] H = some (.int .i64 (cIx q.fields.list), H) := fun H => cCopied q (by omega) H
    have hcr := cIx_range q.fields.list
    have hHas := fun H => cHas q.fields [116, 111, 116, 97, 108] (by omega) H
    rw [hx0 H]
    apply w_seq
    apply w_reg [0, 1, 4, 5, 7, 8, 106] rfl; intro Q hQ
    simp (disch := (first | omega | (repeat (first | exact okU_nil | refine okU1 (by omega) ?_)))) [wrap64, wrapU, leW, wrl, buildV, fillV, splice, hW, hB, hMd, hT0, hT1, hT2, hT3, hLen, hI1, hI2, hI4, msix LTi, slix LTs, slix LTi, Int.toNat_natCast, appNil LTf (by decide), okNew0, okNew1, okNew2, el_nil, el_sl, el_ms, appN_cons, gm, gmB, gr, grB, gk, gkB, gv, gvB, uT0, uT1, uT2, uT3, uA0, uA1, okNew0, okNew1, okNew2, okNewE LTf eeF, appK_some, el_nil, el_sl, el_ms, elems_enc, encN, hMd, hix, hD0, hD3, hlW, hlB, hHi1, ofVal_str, slix LTi, gm, gmB, gr, grB, gk, gkB, gv, gvB, uT0, uT1, uT2, uT3, uA0, uA1, okNew0, okNew1, okNew2, okNewE LTf eeF, appK_some, el_nil, el_sl, el_ms, elems_enc, encN, hMd, hfb, hfB, gm, gmB, gr, grB, gk, gkB, gv, gvB, uT0, uT1, uT2, uT3, uA0, uA1, okNew0, okNew1, okNew2, okNewE LTf eeF, appK_some, el_nil, el_sl, el_ms, elems_enc, encN, hMd, hlW, hlB, hix, hD0, hD3, hCop, hHas, ofVal_str, gm, gmB, gr, grB, gk, gkB, gv, gvB, uT0, uT1, uT2, uT3, uA0, uA1, okNew0, okNew1, okNew2, okNewE LTf eeF, appK_some, el_nil, el_sl, el_ms, elems_enc, encN, hMd, hlW, hlB, hix, hD0, hD3, hCop, hHas, ofVal_str]
    repeat' ((first | with_reducible apply after_guard | with_reducible apply after_guardD) <;> (intro hg; have hg' := hg; try simp at hg') <;> simp (disch := (first | omega | (repeat (first | exact okU_nil | refine okU1 (by omega) ?_)))) [wrap64, wrapU, leW, wrl, buildV, fillV, splice, hW, hB, hMd, hT0, hT1, hT2, hT3, hLen, hI1, hI2, hI4, msix LTi, slix LTs, slix LTi, Int.toNat_natCast, appNil LTf (by decide), okNew0, okNew1, okNew2, el_nil, el_sl, el_ms, appN_cons, gm, gmB, gr, grB, gk, gkB, gv, gvB, uT0, uT1, uT2, uT3, uA0, uA1, okNew0, okNew1, okNew2, okNewE LTf eeF, appK_some, el_nil, el_sl, el_ms, elems_enc, encN, hMd, hix, hD0, hD3, hlW, hlB, hHi1, ofVal_str, slix LTi, gm, gmB, gr, grB, gk, gkB, gv, gvB, uT0, uT1, uT2, uT3, uA0, uA1, okNew0, okNew1, okNew2, okNewE LTf eeF, appK_some, el_nil, el_sl, el_ms, elems_enc, encN, hMd, hfb, hfB, gm, gmB, gr, grB, gk, gkB, gv, gvB, uT0, uT1, uT2, uT3, uA0, uA1, okNew0, okNew1, okNew2, okNewE LTf eeF, appK_some, el_nil, el_sl, el_ms, elems_enc, encN, hMd, hlW, hlB, hix, hD0, hD3, hCop, hHas, ofVal_str, gm, gmB, gr, grB, gk, gkB, gv, gvB, uT0, uT1, uT2, uT3, uA0, uA1, okNew0, okNew1, okNew2, okNewE LTf eeF, appK_some, el_nil, el_sl, el_ms, elems_enc, encN, hMd, hlW, hlB, hix, hD0, hD3, hCop, hHas, ofVal_str, *])
    all_goals (apply after_some rfl; apply hQ; clear hQ Q)
    all_goals
     skip
     apply w_cond _ rfl <;> intro hc
     ·first
      |(simp at hc; done)
      |try simp [Int.natCast_inj] at hc
       apply w_seq
       have ur13 := AtN_range (j := i' + 1) (n := 3) (by omega) hl
       have ur28 := AtN_range (j := i' + 1 + 1) (n := 8) (by omega) hl
       apply w_reg [0, 1, 4, 5, 7, 8, 11] rfl; intro Q hQ
       simp (disch := (first | omega | (repeat (first | exact okU_nil | refine okU1 (by omega) ?_)))) [wrap64, wrapU, leW, wrl, buildV, fillV, splice, hW, hB, hMd, hT0, hT1, hT2, hT3, hLen, hI1, hI2, hI4, msix LTi, slix LTs, slix LTi, Int.toNat_natCast, appNil LTf (by decide), okNew0, okNew1, okNew2, el_nil, el_sl, el_ms, appN_cons, gm, gmB, gr, grB, gk, gkB, gv, gvB, uT0, uT1, uT2, uT3, uA0, uA1, okNew0, okNew1, okNew2, okNewE LTf eeF, appK_some, el_nil, el_sl, el_ms, elems_enc, encN, hMd, hix, hD0, hD3, hlW, hlB, hHi1, ofVal_str, slix LTi, gm, gmB, gr, grB, gk, gkB, gv, gvB, uT0, uT1, uT2, uT3, uA0, uA1, okNew0, okNew1, okNew2, okNewE LTf eeF, appK_some, el_nil, el_sl, el_ms, elems_enc, encN, hMd, hfb, hfB, gm, gmB, gr, grB, gk, gkB, gv, gvB, uT0, uT1, uT2, uT3, uA0, uA1, okNew0, okNew1, okNew2, okNewE LTf eeF, appK_some, el_nil, el_sl, el_ms, elems_enc, encN, hMd, hlW, hlB, hix, hD0, hD3, hCop, hHas, ofVal_str, gm, gmB, gr, grB, gk, gkB, gv, gvB, uT0, uT1, uT2, uT3, uA0, uA1, okNew0, okNew1, okNew2, okNewE LTf eeF, appK_some, el_nil, el_sl, el_ms, elems_enc, encN, hMd, hlW, hlB, hix, hD0, hD3, hCop, hHas, ofVal_str]
       apply after_some rfl; apply hQ; clear hQ Q
       refine w_cut (fun al H => ∃ (i' : Int) (ks' : List KindT) (lo hi : Int) (fs : List FieldT) (bv vv : Nat) (to : Int), KS l b bl lv H0 nm H i' ks' lo hi fs bv vv ∧ i ≤ i' ∧ i' ≤ i + 11 ∧ ks'.length = ks.length ∧ (∀ k ∈ ks', okK M k) ∧ fs.length ≤ 4 ∧ 0 ≤ to ∧ to < ks'.length ∧ ks' ≠ [] ∧ al = [(0, .mp b 0 0), (1, lv), (4, .mp H0.length 0 0), (5, .int .i64 (ks.length : Int)), (7, .mp (H0.length + 2) 0 0), (8, .int .i64 to)]) ?_ ?_
       ·skip
        apply w_drwW [0, 1, 4, 5, 7, 8] [(5, [1])] rfl rfl rfl (by kernel_rfl) 0 rfl; intro Q hQ
        simp (disch := (first | omega | (repeat (first | exact okU_nil | refine okU1 (by omega) ?_)))) [wrap64, wrapU, leW, wrl, buildV, fillV, splice, hW, hB, hMd, hT0, hT1, hT2, hT3, hLen, hI1, hI2, hI4, msix LTi, slix LTs, slix LTi, Int.toNat_natCast, appNil LTf (by decide), okNew0, okNew1, okNew2, el_nil, el_sl, el_ms, appN_cons, gm, gmB, gr, grB, gk, gkB, gv, gvB, uT0, uT1, uT2, uT3, uA0, uA1, okNew0, okNew1, okNew2, okNewE LTf eeF, appK_some, el_nil, el_sl, el_ms, elems_enc, encN, hMd, hix, hD0, hD3, hlW, hlB, hHi1, ofVal_str, slix LTi, gm, gmB, gr, grB, gk, gkB, gv, gvB, uT0, uT1, uT2, uT3, uA0, uA1, okNew0, okNew1, okNew2, okNewE LTf eeF, appK_some, el_nil, el_sl, el_ms, elems_enc, encN, hMd, hfb, hfB, gm, gmB, gr, grB, gk, gkB, gv, gvB, uT0, uT1, uT2, uT3, uA0, uA1, okNew0, okNew1, okNew2, okNewE LTf eeF, appK_some, el_nil, el_sl, el_ms, elems_enc, encN, hMd, hlW, hlB, hix, hD0, hD3, hCop, hHas, ofVal_str, gm, gmB, gr, grB, gk, gkB, gv, gvB, uT0, uT1, uT2, uT3, uA0, uA1, okNew0, okNew1, okNew2, okNewE LTf eeF, appK_some, el_nil, el_sl, el_ms, elems_enc, encN, hMd, hlW, hlB, hix, hD0, hD3, hCop, hHas, ofVal_str]
        apply after_some rfl; apply hQ; clear hQ Q
        repeat (with_reducible apply kblock_nrm)
        refine kcut_nrm ?_
        refine ⟨i' + 1 + 1 + 1, ks', lo, hi, fs ++ [(⟨[112, 97, 114, 116], [116, 111, 116, 97, 108], [111, 102], 7, AtN l.list (i' + 1) 3, AtN l.list (i' + 1) 3 + AtN l.list (i' + 1 + 1) 8, .nil, .nil⟩ : FieldT)], bv, vv + 8, to, ⟨?_, ?_, ?_, ?_, LS.hx hS.L ?_, Kq.hx hS.kp ?_, hS.ord, hS.lo, hS.hi, ?_, ?_⟩, by omega, by omega, hks', hkM, by simp; omega, ht0, ht1, hkn, rfl⟩
        ·simp (disch := (first | omega | (repeat (first | exact okU_nil | refine okU1 (by omega) ?_)))) [gm, gr, gk, gv]
        ·simp (disch := (first | omega | (repeat (first | exact okU_nil | refine okU1 (by omega) ?_)))) [gm, gr, gk, gv]
        ·simp (disch := (first | omega | (repeat (first | exact okU_nil | refine okU1 (by omega) ?_)))) [gm, gr, gk, gv]
        ·simp (disch := (first | omega | (repeat (first | exact okU_nil | refine okU1 (by omega) ?_)))) [gm, gr, gk, gv, eF, encN]
        ·simp; try omega
        ·simp; try omega
        ·simp
        ·intro g hg
         rcases List.mem_append.1 hg with hg | hg
         ·exact hS.ok g hg
         ·rw [List.mem_singleton.1 hg]
          exact ⟨by simp only [Sm]; omega, by simp only [Sm]; omega, by simp only [Sm]; omega, by simp [SL.list_nil], by simp [SL.list_nil], by simp [SL.list_nil]⟩
       rintro al H ⟨i', ks', lo, hi, fs, bv, vv, to, hS, hi3, hi4, hks', hkM, hfN, ht0, ht1, hkn, rfl⟩
       have gm := hS.m
       have gmB := getW_blk gm
       have gr := hS.r
       have grB := getW_blk gr
       have gk := hS.k
       have gkB := getW_blk gk
       have gv := hS.v
       have gvB := getW_blk gv
       obtain ⟨o1, o2, o3⟩ := hS.ord
       have gvl := getW_lt gv
       have gml := getW_lt gm
       have gkl := getW_lt gk
       obtain ⟨uT0, uT1, uT2, uT3⟩ := takeEq hl gm (by omega) (by omega)
       have uA0 := fun (r : Heap) (x : V) => appHx' LTf eeF (H := H) (u := []) (r := r) gvl okU_nil gv (by simp [room]; omega) x
       have uA1 := fun (r : Heap) (x : V) (c : List V) => appHx' LTf eeF (H := H) (u := [(b, 0, c)]) (r := r) gvl (okU1 gml okU_nil) (by rw [lkU_ne (by omega), lkU_nil]; exact gv) (by simp [room]; omega) x
       have ur2 := AtN_range (j := i') (n := 2) (by omega) hl
       have ur3 := AtN_range (j := i') (n := 3) (by omega) hl
       have ur5 := AtN_range (j := i') (n := 5) (by omega) hl
       have ur8 := AtN_range (j := i') (n := 8) (by omega) hl
       obtain ⟨vl, hlv0, hlW, hlb, hln⟩ := hS.L.resolve_left (fun h => hkn h.2.1)
       have hlv : PLift (lv = .ms 4 bl vl 0 ks'.length false) := ⟨hlv0⟩
       clear hlv0
       have hlB := getW_blk hlW
       have hll := getW_lt hlW
       obtain ⟨T, hT⟩ : ∃ T : Nat, (T : Int) = to := ⟨to.toNat, by omega⟩
       have hTe : to.toNat = T := by omega
       have hTl : T < ks'.length := by omega
       obtain ⟨q, hq⟩ : ∃ q, ks'[T] = q := ⟨_, rfl⟩
       have hqM := hkM q (by rw [← hq]; exact List.getElem_mem hTl)
       have hql : q.fields.list.length ≤ M := hqM.len
       have hD0 := blk_drop eeK (ys := ks') (j := T) (k := 0) hTl (by decide)
       have hD3 := blk_drop eeK (ys := ks') (j := T) (k := 3) hTl (by decide)
       rw [hq] at hD0 hD3
       simp only [Nat.add_zero, List.drop_zero] at hD0
       have hD0 : List.drop (T * 4) (List.map eK ks').flatten = [.str q.name, .int .i64 q.lo, .int .i64 q.hi, enc eF q.fields] ++ (List.map eK (List.drop (T + 1) ks')).flatten := hD0
       have hD3 : List.drop (T * 4 + 3) (List.map eK ks').flatten = [enc eF q.fields] ++ (List.map eK (List.drop (T + 1) ks')).flatten := hD3
       have hix : indexAddrV Tryz.prog 30 lv to = some (.mp bl vl (T * 4)) := by
        rw [hlv.down]
        have := msix LTk (b := bl) (ver := vl) (off := 0) (full := false) ht0 ht1
        rw [hTe, Nat.zero_add] at this
        exact this
       have hCop : ∀ H, call LE 95 [.agg [.str q.name, .int .i64 q.lo, .int .i64 q.hi, enc eF q.fields]] H = some (.int .i64 (cIx q.fields.list), H) := fun H => cCopied q (by omega) H
       have hcr := cIx_range q.fields.list
       have hHas := fun H => cHas q.fields [116, 111, 116, 97, 108] (by omega) H
       rw [hx0 H]
       have hN0 := appCl LTf eeF (s := q.fields) hqM.ne (by simp [room]; omega)
       have hN0' : ∀ HH : Heap, appendV Tryz.prog HH 45 (.sl true []) (enc eF q.fields) = some (.ms 8 HH.length (q.fields.list.length * 8) 0 q.fields.list.length false, HH ++ [newBlk (q.fields.list.length * 8) (List.map eF q.fields.list).flatten]) := hN0
       have hN1 : appendV Tryz.prog (HX H [] [newBlk (q.fields.list.length * 8) (List.map eF q.fields.list).flatten]) 45 (.ms 8 H.length (q.fields.list.length * 8) 0 q.fields.list.length false) (.sl true [[V.str [116, 111, 116, 97, 108], V.str nm, V.str [], V.int .i64 6, V.int .i64 0, V.int .i64 0, V.nil, V.nil]]) = _ := app_at LTf eeF (fs := q.fields.list) (by rw [hxW0, gw_zero]) rfl rfl (by simp [room]; omega)
       have hN2 : frzV 12 (HX H [] [newBlk (q.fields.list.length * 8 + 8) ((List.map eF q.fields.list).flatten ++ [V.str [116, 111, 116, 97, 108], V.str nm, V.str [], V.int .i64 6, V.int .i64 0, V.int .i64 0, V.nil, V.nil])]) (.ms 8 H.length (q.fields.list.length * 8 + 8) 0 (q.fields.list.length + 1) false) = some (enc eF (.mk false (q.fields.list ++ [(⟨[116, 111, 116, 97, 108], nm, [], 6, 0, 0, .nil, .nil⟩ : FieldT)])), HX H [] [none]) := by
        have h := frz_blk (H := HX H [] [newBlk (q.fields.list.length * 8 + 8) ((List.map eF q.fields.list).flatten ++ [V.str [116, 111, 116, 97, 108], V.str nm, V.str [], V.int .i64 6, V.int .i64 0, V.int .i64 0, V.nil, V.nil])]) eeF (by decide) 10 (b := H.length) (ver := q.fields.list.length * 8 + 8) (full := false) (ys := q.fields.list ++ [(⟨[116, 111, 116, 97, 108], nm, [], 6, 0, 0, .nil, .nil⟩ : FieldT)]) (by rw [hxW0, gw_zero]; simp [eF, encN])
        rw [hxT0] at h
        simpa using h
       have hT4 : T * 4 + 3 + 1 ≤ ks'.length * 4 := by omega
       apply w_drwW [0, 1, 4, 5, 7] [(10, [8])] rfl rfl rfl (by kernel_rfl) 0 rfl; intro Q hQ
       simp (disch := (first | omega | (repeat (first | exact okU_nil | refine okU1 (by omega) ?_)))) [wrap64, wrapU, leW, wrl, buildV, fillV, splice, hW, hB, hMd, hT0, hT1, hT2, hT3, hLen, hI1, hI2, hI4, msix LTi, slix LTs, slix LTi, Int.toNat_natCast, appNil LTf (by decide), okNew0, okNew1, okNew2, el_nil, el_sl, el_ms, appN_cons, gm, gmB, gr, grB, gk, gkB, gv, gvB, uT0, uT1, uT2, uT3, uA0, uA1, okNew0, okNew1, okNew2, okNewE LTf eeF, appK_some, el_nil, el_sl, el_ms, elems_enc, encN, hMd, hix, hD0, hD3, hlW, hlB, hHi1, ofVal_str, slix LTi, gm, gmB, gr, grB, gk, gkB, gv, gvB, uT0, uT1, uT2, uT3, uA0, uA1, okNew0, okNew1, okNew2, okNewE LTf eeF, appK_some, el_nil, el_sl, el_ms, elems_enc, encN, hMd, hfb, hfB, gm, gmB, gr, grB, gk, gkB, gv, gvB, uT0, uT1, uT2, uT3, uA0, uA1, okNew0, okNew1, okNew2, okNewE LTf eeF, appK_some, el_nil, el_sl, el_ms, elems_enc, encN, hMd, hlW, hlB, hix, hD0, hD3, hCop, hHas, ofVal_str, gm, gmB, gr, grB, gk, gkB, gv, gvB, uT0, uT1, uT2, uT3, uA0, uA1, okNew0, okNew1, okNew2, okNewE LTf eeF, appK_some, el_nil, el_sl, el_ms, elems_enc, encN, hMd, hlW, hlB, hix, hD0, hD3, hCop, hHas, ofVal_str, gm, gmB, gr, grB, gk, gkB, gv, gvB, uT0, uT1, uT2, uT3, uA0, uA1, okNew0, okNew1, okNew2, okNewE LTf eeF, appK_some, el_nil, el_sl, el_ms, elems_enc, encN, hMd, hlW, hlB, hix, hD0, hD3, hCop, hHas, ofVal_str, hN0', hN1, hN2, hT4, flat_len eeK]
       apply after_some rfl; apply hQ; clear hQ Q
       repeat (with_reducible apply kblock_nrm)
       refine kcut_nrm ?_
       have e1 : List.take (T * 4 + 3) (List.map eK ks').flatten ++ enc eF (SL.mk false (q.fields.list ++ [(⟨[116, 111, 116, 97, 108], nm, [], 6, 0, 0, .nil, .nil⟩ : FieldT)])) :: List.drop (T * 4 + 3 + 1) (List.map eK ks').flatten = (List.map eK (ks'.set T (⟨q.name, q.lo, q.hi, .mk false (q.fields.list ++ [(⟨[116, 111, 116, 97, 108], nm, [], 6, 0, 0, .nil, .nil⟩ : FieldT)])⟩ : KindT))).flatten := by
        rw [← blk_splice eeK (ys := ks') (j := T) (k := 3) hTl (cs := [enc eF (SL.mk false (q.fields.list ++ [(⟨[116, 111, 116, 97, 108], nm, [], 6, 0, 0, .nil, .nil⟩ : FieldT)]))]) (by simp) (by rw [hq]; rfl)]
        simp [splice]
       have hqM' : okK (M + 1) (⟨q.name, q.lo, q.hi, .mk false (q.fields.list ++ [(⟨[116, 111, 116, 97, 108], nm, [], 6, 0, 0, .nil, .nil⟩ : FieldT)])⟩ : KindT) := ⟨hqM.name, hqM.lo, hqM.hi, by simp [SL.list_mk], by simp [SL.list_mk]; omega, fun g hg => by
        simp only [SL.list_mk] at hg
        rcases List.mem_append.1 hg with hg | hg
        ·exact hqM.ok g hg
        ·rw [List.mem_singleton.1 hg]; exact ⟨by simp only [Sm]; omega, by simp only [Sm]; omega, by simp only [Sm]; omega, by simp [SL.list_nil], by simp [SL.list_nil], by simp [SL.list_nil]⟩⟩
       have hkM1 : ∀ k ∈ ks'.set T (⟨q.name, q.lo, q.hi, .mk false (q.fields.list ++ [(⟨[116, 111, 116, 97, 108], nm, [], 6, 0, 0, .nil, .nil⟩ : FieldT)])⟩ : KindT), okK (M + 1) k := fun k hk => by
        rcases List.mem_or_eq_of_mem_set hk with hk | rfl
        ·exact ⟨(hkM k hk).name, (hkM k hk).lo, (hkM k hk).hi, (hkM k hk).ne, Nat.le_succ_of_le (hkM k hk).len, (hkM k hk).ok⟩
        ·exact hqM'
       rw [e1]
       refine ⟨i', (ks'.set T (⟨q.name, q.lo, q.hi, .mk false (q.fields.list ++ [(⟨[116, 111, 116, 97, 108], nm, [], 6, 0, 0, .nil, .nil⟩ : FieldT)])⟩ : KindT)), lo, hi, fs, bv, vv, ⟨?_, ?_, ?_, ?_, LS_mk hlv.down (by simp (disch := (first | omega | (repeat (first | exact okU_nil | refine okU1 (by omega) ?_)))) [gm, gr, gk, gv]) hlb hln, Kq.hx hS.kp ?_, hS.ord, hS.lo, hS.hi, ?_, ?_⟩, by omega, by omega, by rw [List.length_set]; exact hks', hkM1, by omega, rfl⟩
       ·simp (disch := (first | omega | (repeat (first | exact okU_nil | refine okU1 (by omega) ?_)))) [gm, gr, gk, gv]
       ·simp (disch := (first | omega | (repeat (first | exact okU_nil | refine okU1 (by omega) ?_)))) [gm, gr, gk, gv]
       ·simp (disch := (first | omega | (repeat (first | exact okU_nil | refine okU1 (by omega) ?_)))) [gm, gr, gk, gv]
       ·simp (disch := (first | omega | (repeat (first | exact okU_nil | refine okU1 (by omega) ?_)))) [gm, gr, gk, gv, eF, encN]
       ·simp; try omega
       ·exact hS.ne
       ·exact hS.ok
     ·first
      |(simp at hc; done)
      |try simp [Int.natCast_inj] at hc
       apply w_keep [0, 1, 4, 5, 7] rfl; apply w_skip
       repeat (with_reducible apply kblock_nrm)
       refine kcut_nrm ?_
       first
        |(have hkM1 : ∀ k ∈ ks', okK (M + 1) k := fun k hk => ⟨(hkM k hk).name, (hkM k hk).lo, (hkM k hk).hi, (hkM k hk).ne, Nat.le_succ_of_le (hkM k hk).len, (hkM k hk).ok⟩
          refine ⟨i' + 1, ks', lo, hi, fs, bv, vv, ⟨?_, ?_, ?_, ?_, LS.hx hS.L ?_, Kq.hx hS.kp ?_, hS.ord, hS.lo, hS.hi, ?_, ?_⟩, by omega, by omega, hks', hkM1, by omega, rfl⟩
          ·simp (disch := (first | omega | (repeat (first | exact okU_nil | refine okU1 (by omega) ?_)))) [gm, gr, gk, gv]
          ·simp (disch := (first | omega | (repeat (first | exact okU_nil | refine okU1 (by omega) ?_)))) [gm, gr, gk, gv]
          ·simp (disch := (first | omega | (repeat (first | exact okU_nil | refine okU1 (by omega) ?_)))) [gm, gr, gk, gv]
          ·simp (disch := (first | omega | (repeat (first | exact okU_nil | refine okU1 (by omega) ?_)))) [gm, gr, gk, gv, eF, encN]
          ·simp; try omega
          ·simp; try omega
          ·exact hS.ne
          ·exact hS.ok)
        |(have hkM1 : ∀ k ∈ ks', okK (M + 1) k := fun k hk => ⟨(hkM k hk).name, (hkM k hk).lo, (hkM k hk).hi, (hkM k hk).ne, Nat.le_succ_of_le (hkM k hk).len, (hkM k hk).ok⟩
          refine ⟨i', ks', lo, hi, fs, bv, vv, ⟨?_, ?_, ?_, ?_, LS.hx hS.L ?_, Kq.hx hS.kp ?_, hS.ord, hS.lo, hS.hi, ?_, ?_⟩, by omega, by omega, hks', hkM1, by omega, rfl⟩
          ·simp (disch := (first | omega | (repeat (first | exact okU_nil | refine okU1 (by omega) ?_)))) [gm, gr, gk, gv]
          ·simp (disch := (first | omega | (repeat (first | exact okU_nil | refine okU1 (by omega) ?_)))) [gm, gr, gk, gv]
          ·simp (disch := (first | omega | (repeat (first | exact okU_nil | refine okU1 (by omega) ?_)))) [gm, gr, gk, gv]
          ·simp (disch := (first | omega | (repeat (first | exact okU_nil | refine okU1 (by omega) ?_)))) [gm, gr, gk, gv, eF, encN]
          ·simp; try omega
          ·simp; try omega
          ·exact hS.ne
          ·exact hS.ok)
  ·first
   |(simp at hc; done)
   |try simp [Int.natCast_inj] at hc
    apply w_keep [0, 1, 4, 5, 7] rfl; apply w_skip
    repeat (with_reducible apply kblock_nrm)
    refine kcut_nrm ?_
    have hkM1 : ∀ k ∈ ks', okK (M + 1) k := fun k hk => ⟨(hkM k hk).name, (hkM k hk).lo, (hkM k hk).hi, (hkM k hk).ne, Nat.le_succ_of_le (hkM k hk).len, (hkM k hk).ok⟩
    refine ⟨i', ks', lo, hi, fs, bv, vv, ⟨?_, ?_, ?_, ?_, LS.hx hS.L ?_, Kq.hx hS.kp ?_, hS.ord, hS.lo, hS.hi, ?_, ?_⟩, by omega, by omega, hks', hkM1, by omega, rfl⟩
    ·simp (disch := (first | omega | (repeat (first | exact okU_nil | refine okU1 (by omega) ?_)))) [gm, gr, gk, gv]
    ·simp (disch := (first | omega | (repeat (first | exact okU_nil | refine okU1 (by omega) ?_)))) [gm, gr, gk, gv]
    ·simp (disch := (first | omega | (repeat (first | exact okU_nil | refine okU1 (by omega) ?_)))) [gm, gr, gk, gv]
    ·simp (disch := (first | omega | (repeat (first | exact okU_nil | refine okU1 (by omega) ?_)))) [gm, gr, gk, gv, eF, encN]
    ·simp; try omega
    ·simp; try omega
    ·exact hS.ne
    ·exact hS.ok
 rintro al H ⟨i', ks', lo, hi, fs, bv, vv, hS, hi3, hi4, hks', hkM, hfN, rfl⟩
 have gm := hS.m
 have gmB := getW_blk gm
 have gr := hS.r
 have grB := getW_blk gr
 have gk := hS.k
 have gkB := getW_blk gk
 have gv := hS.v
 have gvB := getW_blk gv
 obtain ⟨o1, o2, o3⟩ := hS.ord
 have gvl := getW_lt gv
 have gml := getW_lt gm
 have gkl := getW_lt gk
 obtain ⟨uT0, uT1, uT2, uT3⟩ := takeEq hl gm (by omega) (by omega)
 have uA0 := fun (r : Heap) (x : V) => appHx' LTf eeF (H := H) (u := []) (r := r) gvl okU_nil gv (by simp [room]; omega) x
 have uA1 := fun (r : Heap) (x : V) (c : List V) => appHx' LTf eeF (H := H) (u := [(b, 0, c)]) (r := r) gvl (okU1 gml okU_nil) (by rw [lkU_ne (by omega), lkU_nil]; exact gv) (by simp [room]; omega) x
 have ur2 := AtN_range (j := i') (n := 2) (by omega) hl
 have ur3 := AtN_range (j := i') (n := 3) (by omega) hl
 have ur5 := AtN_range (j := i') (n := 5) (by omega) hl
 have ur8 := AtN_range (j := i') (n := 8) (by omega) hl
 rw [hx0 H]
 refine w_cut (fun al H => ∃ (i' : Int) (ks' : List KindT) (lo hi : Int) (fs : List FieldT) (bv vv : Nat), KS l b bl lv H0 nm H i' ks' lo hi fs bv vv ∧ i ≤ i' ∧ i' ≤ i + 14 ∧ ks'.length = ks.length ∧ (∀ k ∈ ks', okK (M + 1) k) ∧ fs.length ≤ 5 ∧ al = [(0, .mp b 0 0), (4, .mp H0.length 0 0), (7, .mp (H0.length + 2) 0 0)]) ?_ ?_
 ·skip
  apply w_seq
  apply w_reg [0, 1, 4, 7, 142] rfl; intro Q hQ
  simp (disch := (first | omega | (repeat (first | exact okU_nil | refine okU1 (by omega) ?_)))) [wrap64, wrapU, leW, wrl, buildV, fillV, splice, hW, hB, hMd, hT0, hT1, hT2, hT3, hLen, hI1, hI2, hI4, msix LTi, slix LTs, slix LTi, Int.toNat_natCast, appNil LTf (by decide), okNew0, okNew1, okNew2, el_nil, el_sl, el_ms, appN_cons, gm, gmB, gr, grB, gk, gkB, gv, gvB, uT0, uT1, uT2, uT3, uA0, uA1, okNew0, okNew1, okNew2, okNewE LTf eeF, appK_some, el_nil, el_sl, el_ms, elems_enc, encN, hMd, gm, gmB, gr, grB, gk, gkB, gv, gvB, uT0, uT1, uT2, uT3, uA0, uA1, okNew0, okNew1, okNew2, okNewE LTf eeF, appK_some, el_nil, el_sl, el_ms, elems_enc, encN, hMd]
  repeat' ((first | with_reducible apply after_guard | with_reducible apply after_guardD) <;> (intro hg; have hg' := hg; try simp at hg') <;> simp (disch := (first | omega | (repeat (first | exact okU_nil | refine okU1 (by omega) ?_)))) [wrap64, wrapU, leW, wrl, buildV, fillV, splice, hW, hB, hMd, hT0, hT1, hT2, hT3, hLen, hI1, hI2, hI4, msix LTi, slix LTs, slix LTi, Int.toNat_natCast, appNil LTf (by decide), okNew0, okNew1, okNew2, el_nil, el_sl, el_ms, appN_cons, gm, gmB, gr, grB, gk, gkB, gv, gvB, uT0, uT1, uT2, uT3, uA0, uA1, okNew0, okNew1, okNew2, okNewE LTf eeF, appK_some, el_nil, el_sl, el_ms, elems_enc, encN, hMd, gm, gmB, gr, grB, gk, gkB, gv, gvB, uT0, uT1, uT2, uT3, uA0, uA1, okNew0, okNew1, okNew2, okNewE LTf eeF, appK_some, el_nil, el_sl, el_ms, elems_enc, encN, hMd, *])
  all_goals (apply after_some rfl; apply hQ; clear hQ Q)
  all_goals
   skip
   apply w_cond _ rfl <;> intro hc
   ·first
    |(simp at hc; done)
    |try simp [Int.natCast_inj] at hc
     have hkn : ks' ≠ [] := fun h => by rw [h] at hks'; simp at hks'; rw [← hks'] at hg'; simp at hg'
     obtain ⟨vl, hlv0, hlW, hlb, hln⟩ := hS.L.resolve_left (fun h => hkn h.2.1)
     have hlv : PLift (lv = .ms 4 bl vl 0 ks'.length false) := ⟨hlv0⟩
     clear hlv0
     have hlB := getW_blk hlW
     have hll := getW_lt hlW
     have hp0 : 0 < ks'.length := List.length_pos_iff.2 hkn
     have hix0 : indexAddrV Tryz.prog 30 lv 0 = some (.mp bl vl 0) := by
      rw [hlv.down]
      exact msix LTk (b := bl) (ver := vl) (off := 0) (full := false) (i := 0) (by omega) (by omega)
     obtain ⟨q0, R0, hF0⟩ : ∃ (q : KindT) (R : List V), (List.map eK ks').flatten = [.str q.name, .int .i64 q.lo, .int .i64 q.hi, enc eF q.fields] ++ R := ⟨ks'[0], _, by
      have h := blk_drop eeK (ys := ks') (j := 0) (k := 0) hp0 (by decide)
      simp only [Nat.zero_mul, Nat.add_zero, List.drop_zero] at h
      exact h⟩
     rw [hF0] at hlB hlW
     apply w_drw [0, 4, 7] rfl rfl (by kernel_rfl) 0 rfl; intro Q hQ
     simp (disch := (first | omega | (repeat (first | exact okU_nil | refine okU1 (by omega) ?_)))) [wrap64, wrapU, leW, wrl, buildV, fillV, splice, hW, hB, hMd, hT0, hT1, hT2, hT3, hLen, hI1, hI2, hI4, msix LTi, slix LTs, slix LTi, Int.toNat_natCast, appNil LTf (by decide), okNew0, okNew1, okNew2, el_nil, el_sl, el_ms, appN_cons, gm, gmB, gr, grB, gk, gkB, gv, gvB, uT0, uT1, uT2, uT3, uA0, uA1, okNew0, okNew1, okNew2, okNewE LTf eeF, appK_some, el_nil, el_sl, el_ms, elems_enc, encN, hMd, gm, gmB, gr, grB, gk, gkB, gv, gvB, uT0, uT1, uT2, uT3, uA0, uA1, okNew0, okNew1, okNew2, okNewE LTf eeF, appK_some, el_nil, el_sl, el_ms, elems_enc, encN, hMd, hix0, hlW, hlB, ofVal_str]
     apply after_some rfl; apply hQ; clear hQ Q
     repeat (with_reducible apply kblock_nrm)
     refine kcut_nrm ?_
     refine ⟨i' + 1, ks', lo, hi, fs ++ [(⟨[98, 121], q0.name, [], 1, 0, 8, .nil, .nil⟩ : FieldT)], bv, vv + 8, ⟨?_, ?_, ?_, ?_, LS.hx hS.L ?_, Kq.hx hS.kp ?_, hS.ord, hS.lo, hS.hi, ?_, ?_⟩, by omega, by omega, hks', hkM, by simp; omega, rfl⟩
     ·simp (disch := (first | omega | (repeat (first | exact okU_nil | refine okU1 (by omega) ?_)))) [gm, gr, gk, gv]
     ·simp (disch := (first | omega | (repeat (first | exact okU_nil | refine okU1 (by omega) ?_)))) [gm, gr, gk, gv]
     ·simp (disch := (first | omega | (repeat (first | exact okU_nil | refine okU1 (by omega) ?_)))) [gm, gr, gk, gv]
     ·simp (disch := (first | omega | (repeat (first | exact okU_nil | refine okU1 (by omega) ?_)))) [gm, gr, gk, gv, eF, encN]
     ·simp; try omega
     ·simp; try omega
     ·simp
     ·intro g hg
      rcases List.mem_append.1 hg with hg | hg
      ·exact hS.ok g hg
      ·rw [List.mem_singleton.1 hg]
       exact ⟨by simp only [Sm]; omega, by simp only [Sm]; omega, by simp only [Sm]; omega, by simp [SL.list_nil], by simp [SL.list_nil], by simp [SL.list_nil]⟩
   ·first
    |(simp at hc; done)
    |try simp [Int.natCast_inj] at hc
     apply w_keep [0, 4, 7] rfl; apply w_skip
     repeat (with_reducible apply kblock_nrm)
     refine kcut_nrm ?_
     first
      |(refine ⟨i' + 1, ks', lo, hi, fs, bv, vv, ⟨?_, ?_, ?_, ?_, LS.hx hS.L ?_, Kq.hx hS.kp ?_, hS.ord, hS.lo, hS.hi, ?_, ?_⟩, by omega, by omega, hks', hkM, by omega, rfl⟩
        ·simp (disch := (first | omega | (repeat (first | exact okU_nil | refine okU1 (by omega) ?_)))) [gm, gr, gk, gv]
        ·simp (disch := (first | omega | (repeat (first | exact okU_nil | refine okU1 (by omega) ?_)))) [gm, gr, gk, gv]
        ·simp (disch := (first | omega | (repeat (first | exact okU_nil | refine okU1 (by omega) ?_)))) [gm, gr, gk, gv]
        ·simp (disch := (first | omega | (repeat (first | exact okU_nil | refine okU1 (by omega) ?_)))) [gm, gr, gk, gv, eF, encN]
        ·simp; try omega
        ·simp; try omega
        ·exact hS.ne
        ·exact hS.ok)
      |(refine ⟨i', ks', lo, hi, fs, bv, vv, ⟨?_, ?_, ?_, ?_, LS.hx hS.L ?_, Kq.hx hS.kp ?_, hS.ord, hS.lo, hS.hi, ?_, ?_⟩, by omega, by omega, hks', hkM, by omega, rfl⟩
        ·simp (disch := (first | omega | (repeat (first | exact okU_nil | refine okU1 (by omega) ?_)))) [gm, gr, gk, gv]
        ·simp (disch := (first | omega | (repeat (first | exact okU_nil | refine okU1 (by omega) ?_)))) [gm, gr, gk, gv]
        ·simp (disch := (first | omega | (repeat (first | exact okU_nil | refine okU1 (by omega) ?_)))) [gm, gr, gk, gv]
        ·simp (disch := (first | omega | (repeat (first | exact okU_nil | refine okU1 (by omega) ?_)))) [gm, gr, gk, gv, eF, encN]
        ·simp; try omega
        ·simp; try omega
        ·exact hS.ne
        ·exact hS.ok)
 rintro al H ⟨i', ks', lo, hi, fs, bv, vv, hS, hi3, hi4, hks', hkM, hfN, rfl⟩
 have gm := hS.m
 have gmB := getW_blk gm
 have gr := hS.r
 have grB := getW_blk gr
 have gk := hS.k
 have gkB := getW_blk gk
 have gv := hS.v
 have gvB := getW_blk gv
 obtain ⟨o1, o2, o3⟩ := hS.ord
 have gvl := getW_lt gv
 have gml := getW_lt gm
 have gkl := getW_lt gk
 obtain ⟨uT0, uT1, uT2, uT3⟩ := takeEq hl gm (by omega) (by omega)
 have uA0 := fun (r : Heap) (x : V) => appHx' LTf eeF (H := H) (u := []) (r := r) gvl okU_nil gv (by simp [room]; omega) x
 have uA1 := fun (r : Heap) (x : V) (c : List V) => appHx' LTf eeF (H := H) (u := [(b, 0, c)]) (r := r) gvl (okU1 gml okU_nil) (by rw [lkU_ne (by omega), lkU_nil]; exact gv) (by simp [room]; omega) x
 have ur2 := AtN_range (j := i') (n := 2) (by omega) hl
 have ur3 := AtN_range (j := i') (n := 3) (by omega) hl
 have ur5 := AtN_range (j := i') (n := 5) (by omega) hl
 have ur8 := AtN_range (j := i') (n := 8) (by omega) hl
 rw [hx0 H]
 refine w_cut (fun al H => ∃ (i' : Int) (ks' : List KindT) (lo hi : Int) (fs : List FieldT) (bv vv : Nat) (s : SL FieldT), KS l b bl lv H0 nm H i' ks' lo hi fs bv vv ∧ i ≤ i' ∧ i' ≤ i + 34 ∧ ks'.length = ks.length ∧ (∀ k ∈ ks', okK (M + 1) k) ∧ fs.length ≤ 5 ∧ s.list.length ≤ 2 ∧ (∀ f ∈ s.list, okF f) ∧ al = [(0, .mp b 0 0), (4, .mp H0.length 0 0), (7, .mp (H0.length + 2) 0 0), (12, enc eF s)]) ?_ ?_
 ·skip
  obtain ⟨v1, G1, hP1, s, G2, j1, hP2, hj1, hj2, hj3, hP3, hs1, hs2⟩ := cPlain hl gm (by omega) (by omega)
  rw [hx0 H] at hP1
  apply w_reg [0, 4, 7, 12] rfl; intro Q hQ
  simp (disch := (first | omega | (repeat (first | exact okU_nil | refine okU1 (by omega) ?_)))) [wrap64, wrapU, leW, wrl, buildV, fillV, splice, hW, hB, hMd, hT0, hT1, hT2, hT3, hLen, hI1, hI2, hI4, msix LTi, slix LTs, slix LTi, Int.toNat_natCast, appNil LTf (by decide), okNew0, okNew1, okNew2, el_nil, el_sl, el_ms, appN_cons, gm, gmB, gr, grB, gk, gkB, gv, gvB, uT0, uT1, uT2, uT3, uA0, uA1, okNew0, okNew1, okNew2, okNewE LTf eeF, appK_some, el_nil, el_sl, el_ms, elems_enc, encN, hMd, gm, gmB, gr, grB, gk, gkB, gv, gvB, uT0, uT1, uT2, uT3, uA0, uA1, okNew0, okNew1, okNew2, okNewE LTf eeF, appK_some, el_nil, el_sl, el_ms, elems_enc, encN, hMd, gm, gmB, gr, grB, gk, gkB, gv, gvB, uT0, uT1, uT2, uT3, uA0, uA1, okNew0, okNew1, okNew2, okNewE LTf eeF, appK_some, el_nil, el_sl, el_ms, elems_enc, encN, hMd, hP1, hP2]
  apply after_some rfl; apply hQ; clear hQ Q
  repeat (with_reducible apply kblock_nrm)
  refine kcut_nrm ?_
  refine ⟨j1, ks', lo, hi, fs, bv, vv, s, ⟨hj3, ?_, ?_, ?_, LS.kp hS.L hP3, Kq.kp hS.kp hP3, hS.ord, hS.lo, hS.hi, hS.ne, hS.ok⟩, by omega, by omega, hks', hkM, by omega, hs1, hs2, rfl⟩
  ·rw [hP3.getW (by omega) (by omega)]; exact gr
  ·rw [hP3.getW (by omega) (by omega)]; exact gk
  ·rw [hP3.getW (by omega) (by omega)]; exact gv
 rintro al H ⟨i', ks', lo, hi, fs, bv, vv, s, hS, hi3, hi4, hks', hkM, hfN, hs1, hs2, rfl⟩
 have gm := hS.m
 have gmB := getW_blk gm
 have gr := hS.r
 have grB := getW_blk gr
 have gk := hS.k
 have gkB := getW_blk gk
 have gv := hS.v
 have gvB := getW_blk gv
 obtain ⟨o1, o2, o3⟩ := hS.ord
 have gvl := getW_lt gv
 have gml := getW_lt gm
 have gkl := getW_lt gk
 obtain ⟨uT0, uT1, uT2, uT3⟩ := takeEq hl gm (by omega) (by omega)
 have uA0 := fun (r : Heap) (x : V) => appHx' LTf eeF (H := H) (u := []) (r := r) gvl okU_nil gv (by simp [room]; omega) x
 have uA1 := fun (r : Heap) (x : V) (c : List V) => appHx' LTf eeF (H := H) (u := [(b, 0, c)]) (r := r) gvl (okU1 gml okU_nil) (by rw [lkU_ne (by omega), lkU_nil]; exact gv) (by simp [room]; omega) x
 have ur2 := AtN_range (j := i') (n := 2) (by omega) hl
 have ur3 := AtN_range (j := i') (n := 3) (by omega) hl
 have ur5 := AtN_range (j := i') (n := 5) (by omega) hl
 have ur8 := AtN_range (j := i') (n := 8) (by omega) hl
 rw [hx0 H]
 refine w_cut (fun al H => ∃ (i' : Int) (ks' : List KindT) (lo hi : Int) (fs : List FieldT) (bv vv : Nat), KS l b bl lv H0 nm H i' ks' lo hi fs bv vv ∧ i ≤ i' ∧ i' ≤ i + 34 ∧ ks'.length = ks.length ∧ (∀ k ∈ ks', okK (M + 1) k) ∧ fs.length ≤ 7 ∧ al = [(0, .mp b 0 0), (4, .mp H0.length 0 0), (7, .mp (H0.length + 2) 0 0)]) ?_ ?_
 ·skip
  have hs10 : s.list.length ≤ 10 := by omega
  apply w_reg [0, 4, 7] rfl; intro Q hQ
  simp (disch := (first | omega | (repeat (first | exact okU_nil | refine okU1 (by omega) ?_)))) [wrap64, wrapU, leW, wrl, buildV, fillV, splice, hW, hB, hMd, hT0, hT1, hT2, hT3, hLen, hI1, hI2, hI4, msix LTi, slix LTs, slix LTi, Int.toNat_natCast, appNil LTf (by decide), okNew0, okNew1, okNew2, el_nil, el_sl, el_ms, appN_cons, gm, gmB, gr, grB, gk, gkB, gv, gvB, uT0, uT1, uT2, uT3, uA0, uA1, okNew0, okNew1, okNew2, okNewE LTf eeF, appK_some, el_nil, el_sl, el_ms, elems_enc, encN, hMd, gm, gmB, gr, grB, gk, gkB, gv, gvB, uT0, uT1, uT2, uT3, uA0, uA1, okNew0, okNew1, okNew2, okNewE LTf eeF, appK_some, el_nil, el_sl, el_ms, elems_enc, encN, hMd, gm, gmB, gr, grB, gk, gkB, gv, gvB, uT0, uT1, uT2, uT3, uA0, uA1, okNew0, okNew1, okNew2, okNewE LTf eeF, appK_some, el_nil, el_sl, el_ms, elems_enc, encN, hMd, gm, gmB, gr, grB, gk, gkB, gv, gvB, uT0, uT1, uT2, uT3, uA0, uA1, okNew0, okNew1, okNew2, okNewE LTf eeF, appK_some, el_nil, el_sl, el_ms, elems_enc, encN, hMd, hs10]
  apply after_some rfl; apply hQ; clear hQ Q
  repeat (with_reducible apply kblock_nrm)
  refine kcut_nrm ?_
  refine ⟨i', ks', lo, hi, fs ++ s.list, bv, vv + s.list.length * 8, ⟨?_, ?_, ?_, ?_, LS.hx hS.L ?_, Kq.hx hS.kp ?_, hS.ord, hS.lo, hS.hi, ?_, ?_⟩, by omega, by omega, hks', hkM, by simp; omega, rfl⟩
  ·simp (disch := (first | omega | (repeat (first | exact okU_nil | refine okU1 (by omega) ?_)))) [gm, gr, gk, gv]
  ·simp (disch := (first | omega | (repeat (first | exact okU_nil | refine okU1 (by omega) ?_)))) [gm, gr, gk, gv]
  ·simp (disch := (first | omega | (repeat (first | exact okU_nil | refine okU1 (by omega) ?_)))) [gm, gr, gk, gv]
  ·simp (disch := (first | omega | (repeat (first | exact okU_nil | refine okU1 (by omega) ?_)))) [gm, gr, gk, gv, eF, encN]
  ·simp; try omega
  ·simp; try omega
  ·simp [hS.ne]
  ·intro g hg
   rcases List.mem_append.1 hg with hg | hg
   ·exact hS.ok g hg
   ·exact hs2 g hg
 rintro al H ⟨i', ks', lo, hi, fs, bv, vv, hS, hi3, hi4, hks', hkM, hfN, rfl⟩
 have gm := hS.m
 have gmB := getW_blk gm
 have gr := hS.r
 have grB := getW_blk gr
 have gk := hS.k
 have gkB := getW_blk gk
 have gv := hS.v
 have gvB := getW_blk gv
 obtain ⟨o1, o2, o3⟩ := hS.ord
 have gvl := getW_lt gv
 have gml := getW_lt gm
 have gkl := getW_lt gk
 obtain ⟨uT0, uT1, uT2, uT3⟩ := takeEq hl gm (by omega) (by omega)
 have uA0 := fun (r : Heap) (x : V) => appHx' LTf eeF (H := H) (u := []) (r := r) gvl okU_nil gv (by simp [room]; omega) x
 have uA1 := fun (r : Heap) (x : V) (c : List V) => appHx' LTf eeF (H := H) (u := [(b, 0, c)]) (r := r) gvl (okU1 gml okU_nil) (by rw [lkU_ne (by omega), lkU_nil]; exact gv) (by simp [room]; omega) x
 have ur2 := AtN_range (j := i') (n := 2) (by omega) hl
 have ur3 := AtN_range (j := i') (n := 3) (by omega) hl
 have ur5 := AtN_range (j := i') (n := 5) (by omega) hl
 have ur8 := AtN_range (j := i') (n := 8) (by omega) hl
 rw [hx0 H]
 refine w_cut (fun al H => ∃ (i' : Int) (ks' : List KindT) (lo hi : Int) (fs : List FieldT) (bv vv : Nat), KS l b bl lv H0 nm H i' ks' lo hi fs bv vv ∧ i ≤ i' ∧ i' ≤ i + 60 ∧ ks'.length = ks.length ∧ (∀ k ∈ ks', okK (M + 1) k) ∧ fs.length ≤ 9 ∧ al = [(4, .mp H0.length 0 0), (7, .mp (H0.length + 2) 0 0)]) ?_ ?_
 ·skip
  refine w_cut (fun al H => ∃ (i' : Int) (ks' : List KindT) (lo hi : Int) (fs : List FieldT) (bv vv : Nat) (bb : Bool), KS l b bl lv H0 nm H i' ks' lo hi fs bv vv ∧ i ≤ i' ∧ i' ≤ i + 35 ∧ ks'.length = ks.length ∧ (∀ k ∈ ks', okK (M + 1) k) ∧ fs.length ≤ 7 ∧ al = [(0, .mp b 0 0), (4, .mp H0.length 0 0), (7, .mp (H0.length + 2) 0 0), (162, .bool bb)]) ?_ ?_
  ·skip
   apply w_reg [0, 4, 7, 162] rfl; intro Q hQ
   simp (disch := (first | omega | (repeat (first | exact okU_nil | refine okU1 (by omega) ?_)))) [wrap64, wrapU, leW, wrl, buildV, fillV, splice, hW, hB, hMd, hT0, hT1, hT2, hT3, hLen, hI1, hI2, hI4, msix LTi, slix LTs, slix LTi, Int.toNat_natCast, appNil LTf (by decide), okNew0, okNew1, okNew2, el_nil, el_sl, el_ms, appN_cons, gm, gmB, gr, grB, gk, gkB, gv, gvB, uT0, uT1, uT2, uT3, uA0, uA1, okNew0, okNew1, okNew2, okNewE LTf eeF, appK_some, el_nil, el_sl, el_ms, elems_enc, encN, hMd, gm, gmB, gr, grB, gk, gkB, gv, gvB, uT0, uT1, uT2, uT3, uA0, uA1, okNew0, okNew1, okNew2, okNewE LTf eeF, appK_some, el_nil, el_sl, el_ms, elems_enc, encN, hMd, gm, gmB, gr, grB, gk, gkB, gv, gvB, uT0, uT1, uT2, uT3, uA0, uA1, okNew0, okNew1, okNew2, okNewE LTf eeF, appK_some, el_nil, el_sl, el_ms, elems_enc, encN, hMd, gm, gmB, gr, grB, gk, gkB, gv, gvB, uT0, uT1, uT2, uT3, uA0, uA1, okNew0, okNew1, okNew2, okNewE LTf eeF, appK_some, el_nil, el_sl, el_ms, elems_enc, encN, hMd, gm, gmB, gr, grB, gk, gkB, gv, gvB, uT0, uT1, uT2, uT3, uA0, uA1, okNew0, okNew1, okNew2, okNewE LTf eeF, appK_some, el_nil, el_sl, el_ms, elems_enc, encN, hMd]
   apply after_some rfl; apply hQ; clear hQ Q
   repeat (with_reducible apply kblock_nrm)
   refine kcut_nrm ?_
   refine ⟨i' + 1, ks', lo, hi, fs, bv, vv, _, ⟨?_, ?_, ?_, ?_, LS.hx hS.L ?_, Kq.hx hS.kp ?_, hS.ord, hS.lo, hS.hi, ?_, ?_⟩, by omega, by omega, hks', hkM, by omega, rfl⟩
   ·simp (disch := (first | omega | (repeat (first | exact okU_nil | refine okU1 (by omega) ?_)))) [gm, gr, gk, gv]
   ·simp (disch := (first | omega | (repeat (first | exact okU_nil | refine okU1 (by omega) ?_)))) [gm, gr, gk, gv]
   ·simp (disch := (first | omega | (repeat (first | exact okU_nil | refine okU1 (by omega) ?_)))) [gm, gr, gk, gv]
   ·simp (disch := (first | omega | (repeat (first | exact okU_nil | refine okU1 (by omega) ?_)))) [gm, gr, gk, gv, eF, encN]
   ·simp; try omega
   ·simp; try omega
   ·exact hS.ne
   ·exact hS.ok
  rintro al H ⟨i', ks', lo, hi, fs, bv, vv, bb, hS, hi3, hi4, hks', hkM, hfN, rfl⟩
  have gm := hS.m
  have gmB := getW_blk gm
  have gr := hS.r
  have grB := getW_blk gr
  have gk := hS.k
  have gkB := getW_blk gk
  have gv := hS.v
  have gvB := getW_blk gv
  obtain ⟨o1, o2, o3⟩ := hS.ord
  have gvl := getW_lt gv
  have gml := getW_lt gm
  have gkl := getW_lt gk
  obtain ⟨uT0, uT1, uT2, uT3⟩ := takeEq hl gm (by omega) (by omega)
  have uA0 := fun (r : Heap) (x : V) => appHx' LTf eeF (H := H) (u := []) (r := r) gvl okU_nil gv (by simp [room]; omega) x
  have uA1 := fun (r : Heap) (x : V) (c : List V) => appHx' LTf eeF (H := H) (u := [(b, 0, c)]) (r := r) gvl (okU1 gml okU_nil) (by rw [lkU_ne (by omega), lkU_nil]; exact gv) (by simp [room]; omega) x
  have ur2 := AtN_range (j := i') (n := 2) (by omega) hl
  have ur3 := AtN_range (j := i') (n := 3) (by omega) hl
  have ur5 := AtN_range (j := i') (n := 5) (by omega) hl
  have ur8 := AtN_range (j := i') (n := 8) (by omega) hl
  rw [hx0 H]
  apply w_cond _ rfl <;> intro hc
  ·first
   |(simp at hc; done)
   |try simp [Int.natCast_inj] at hc
    refine w_cut (fun al H => ∃ (i' : Int) (ks' : List KindT) (lo hi : Int) (fs : List FieldT) (bv vv : Nat) (s : SL FieldT), KS l b bl lv H0 nm H i' ks' lo hi fs bv vv ∧ i ≤ i' ∧ i' ≤ i + 55 ∧ ks'.length = ks.length ∧ (∀ k ∈ ks', okK (M + 1) k) ∧ fs.length ≤ 7 ∧ s.list.length ≤ 2 ∧ (∀ f ∈ s.list, okF f) ∧ al = [(4, .mp H0.length 0 0), (7, .mp (H0.length + 2) 0 0), (13, enc eF s)]) ?_ ?_
    ·skip
     obtain ⟨v1, G1, hP1, s, G2, j1, hP2, hj1, hj2, hj3, hP3, hs1, hs2⟩ := cPlain hl gm (by omega) (by omega)
     rw [hx0 H] at hP1
     apply w_reg [4, 7, 13] rfl; intro Q hQ
     simp (disch := (first | omega | (repeat (first | exact okU_nil | refine okU1 (by omega) ?_)))) [wrap64, wrapU, leW, wrl, buildV, fillV, splice, hW, hB, hMd, hT0, hT1, hT2, hT3, hLen, hI1, hI2, hI4, msix LTi, slix LTs, slix LTi, Int.toNat_natCast, appNil LTf (by decide), okNew0, okNew1, okNew2, el_nil, el_sl, el_ms, appN_cons, gm, gmB, gr, grB, gk, gkB, gv, gvB, uT0, uT1, uT2, uT3, uA0, uA1, okNew0, okNew1, okNew2, okNewE LTf eeF, appK_some, el_nil, el_sl, el_ms, elems_enc, encN, hMd, gm, gmB, gr, grB, gk, gkB, gv, gvB, uT0, uT1, uT2, uT3, uA0, uA1, okNew0, okNew1, okNew2, okNewE LTf eeF, appK_some, el_nil, el_sl, el_ms, elems_enc, encN, hMd, gm, gmB, gr, grB, gk, gkB, gv, gvB, uT0, uT1, uT2, uT3, uA0, uA1, okNew0, okNew1, okNew2, okNewE LTf eeF, appK_some, el_nil, el_sl, el_ms, elems_enc, encN, hMd, gm, gmB, gr, grB, gk, gkB, gv, gvB, uT0, uT1, uT2, uT3, uA0, uA1, okNew0, okNew1, okNew2, okNewE LTf eeF, appK_some, el_nil, el_sl, el_ms, elems_enc, encN, hMd, gm, gmB, gr, grB, gk, gkB, gv, gvB, uT0, uT1, uT2, uT3, uA0, uA1, okNew0, okNew1, okNew2, okNewE LTf eeF, appK_some, el_nil, el_sl, el_ms, elems_enc, encN, hMd, gm, gmB, gr, grB, gk, gkB, gv, gvB, uT0, uT1, uT2, uT3, uA0, uA1, okNew0, okNew1, okNew2, okNewE LTf eeF, appK_some, el_nil, el_sl, el_ms, elems_enc, encN, hMd, hP1, hP2]
     apply after_some rfl; apply hQ; clear hQ Q
     repeat (with_reducible apply kblock_nrm)
     refine kcut_nrm ?_
     refine ⟨j1, ks', lo, hi, fs, bv, vv, s, ⟨hj3, ?_, ?_, ?_, LS.kp hS.L hP3, Kq.kp hS.kp hP3, hS.ord, hS.lo, hS.hi, hS.ne, hS.ok⟩, by omega, by omega, hks', hkM, by omega, hs1, hs2, rfl⟩
     ·rw [hP3.getW (by omega) (by omega)]; exact gr
     ·rw [hP3.getW (by omega) (by omega)]; exact gk
     ·rw [hP3.getW (by omega) (by omega)]; exact gv
    rintro al H ⟨i', ks', lo, hi, fs, bv, vv, s, hS, hi3, hi4, hks', hkM, hfN, hs1, hs2, rfl⟩
    have gm := hS.m
    have gmB := getW_blk gm
    have gr := hS.r
    have grB := getW_blk gr
    have gk := hS.k
    have gkB := getW_blk gk
    have gv := hS.v
    have gvB := getW_blk gv
    obtain ⟨o1, o2, o3⟩ := hS.ord
    have gvl := getW_lt gv
    have gml := getW_lt gm
    have gkl := getW_lt gk
    obtain ⟨uT0, uT1, uT2, uT3⟩ := takeEq hl gm (by omega) (by omega)
    have uA0 := fun (r : Heap) (x : V) => appHx' LTf eeF (H := H) (u := []) (r := r) gvl okU_nil gv (by simp [room]; omega) x
    have uA1 := fun (r : Heap) (x : V) (c : List V) => appHx' LTf eeF (H := H) (u := [(b, 0, c)]) (r := r) gvl (okU1 gml okU_nil) (by rw [lkU_ne (by omega), lkU_nil]; exact gv) (by simp [room]; omega) x
    have ur2 := AtN_range (j := i') (n := 2) (by omega) hl
    have ur3 := AtN_range (j := i') (n := 3) (by omega) hl
    have ur5 := AtN_range (j := i') (n := 5) (by omega) hl
    have ur8 := AtN_range (j := i') (n := 8) (by omega) hl
    rw [hx0 H]
    apply w_seq
    have hHm := hasM gv hS.ne (by omega)
    rw [hx0 H] at hHm
    have hMd2 : LE.mode 96 = .snap := rfl
    apply w_drw [4, 7, 13, 177] rfl rfl (by kernel_rfl) 0 rfl; intro Q hQ
    simp (disch := (first | omega | (repeat (first | exact okU_nil | refine okU1 (by omega) ?_)))) [wrap64, wrapU, leW, wrl, buildV, fillV, splice, hW, hB, hMd, hT0, hT1, hT2, hT3, hLen, hI1, hI2, hI4, msix LTi, slix LTs, slix LTi, Int.toNat_natCast, appNil LTf (by decide), okNew0, okNew1, okNew2, el_nil, el_sl, el_ms, appN_cons, gm, gmB, gr, grB, gk, gkB, gv, gvB, uT0, uT1, uT2, uT3, uA0, uA1, okNew0, okNew1, okNew2, okNewE LTf eeF, appK_some, el_nil, el_sl, el_ms, elems_enc, encN, hMd, gm, gmB, gr, grB, gk, gkB, gv, gvB, uT0, uT1, uT2, uT3, uA0, uA1, okNew0, okNew1, okNew2, okNewE LTf eeF, appK_some, el_nil, el_sl, el_ms, elems_enc, encN, hMd, gm, gmB, gr, grB, gk, gkB, gv, gvB, uT0, uT1, uT2, uT3, uA0, uA1, okNew0, okNew1, okNew2, okNewE LTf eeF, appK_some, el_nil, el_sl, el_ms, elems_enc, encN, hMd, gm, gmB, gr, grB, gk, gkB, gv, gvB, uT0, uT1, uT2, uT3, uA0, uA1, okNew0, okNew1, okNew2, okNewE LTf eeF, appK_some, el_nil, el_sl, el_ms, elems_enc, encN, hMd, gm, gmB, gr, grB, gk, gkB, gv, gvB, uT0, uT1, uT2, uT3, uA0, uA1, okNew0, okNew1, okNew2, okNewE LTf eeF, appK_some, el_nil, el_sl, el_ms, elems_enc, encN, hMd, gm, gmB, gr, grB, gk, gkB, gv, gvB, uT0, uT1, uT2, uT3, uA0, uA1, okNew0, okNew1, okNew2, okNewE LTf eeF, appK_some, el_nil, el_sl, el_ms, elems_enc, encN, hMd, gm, gmB, gr, grB, gk, gkB, gv, gvB, uT0, uT1, uT2, uT3, uA0, uA1, okNew0, okNew1, okNew2, okNewE LTf eeF, appK_some, el_nil, el_sl, el_ms, elems_enc, encN, hMd, hHm, hMd2]
    repeat' ((first | with_reducible apply after_guard | with_reducible apply after_guardD) <;> (intro hg; have hg' := hg; try simp at hg') <;> simp (disch := (first | omega | (repeat (first | exact okU_nil | refine okU1 (by omega) ?_)))) [wrap64, wrapU, leW, wrl, buildV, fillV, splice, hW, hB, hMd, hT0, hT1, hT2, hT3, hLen, hI1, hI2, hI4, msix LTi, slix LTs, slix LTi, Int.toNat_natCast, appNil LTf (by decide), okNew0, okNew1, okNew2, el_nil, el_sl, el_ms, appN_cons, gm, gmB, gr, grB, gk, gkB, gv, gvB, uT0, uT1, uT2, uT3, uA0, uA1, okNew0, okNew1, okNew2, okNewE LTf eeF, appK_some, el_nil, el_sl, el_ms, elems_enc, encN, hMd, gm, gmB, gr, grB, gk, gkB, gv, gvB, uT0, uT1, uT2, uT3, uA0, uA1, okNew0, okNew1, okNew2, okNewE LTf eeF, appK_some, el_nil, el_sl, el_ms, elems_enc, encN, hMd, gm, gmB, gr, grB, gk, gkB, gv, gvB, uT0, uT1, uT2, uT3, uA0, uA1, okNew0, okNew1, okNew2, okNewE LTf eeF, appK_some, el_nil, el_sl, el_ms, elems_enc, encN, hMd, gm, gmB, gr, grB, gk, gkB, gv, gvB, uT0, uT1, uT2, uT3, uA0, uA1, okNew0, okNew1, okNew2, okNewE LTf eeF, appK_some, el_nil, el_sl, el_ms, elems_enc, encN, hMd, gm, gmB, gr, grB, gk, gkB, gv, gvB, uT0, uT1, uT2, uT3, uA0, uA1, okNew0, okNew1, okNew2, okNewE LTf eeF, appK_some, el_nil, el_sl, el_ms, elems_enc, encN, hMd, gm, gmB, gr, grB, gk, gkB, gv, gvB, uT0, uT1, uT2, uT3, uA0, uA1, okNew0, okNew1, okNew2, okNewE LTf eeF, appK_some, el_nil, el_sl, el_ms, elems_enc, encN, hMd, gm, gmB, gr, grB, gk, gkB, gv, gvB, uT0, uT1, uT2, uT3, uA0, uA1, okNew0, okNew1, okNew2, okNewE LTf eeF, appK_some, el_nil, el_sl, el_ms, elems_enc, encN, hMd, hHm, hMd2, *])
    all_goals (apply after_some rfl; apply hQ; clear hQ Q)
    all_goals
     skip
     apply w_cond _ rfl <;> intro hc
     ·first
      |(simp at hc; done)
      |try simp [Int.natCast_inj] at hc
       have hs10 : s.list.length ≤ 10 := by omega
       apply w_reg [4, 7] rfl; intro Q hQ
       simp (disch := (first | omega | (repeat (first | exact okU_nil | refine okU1 (by omega) ?_)))) [wrap64, wrapU, leW, wrl, buildV, fillV, splice, hW, hB, hMd, hT0, hT1, hT2, hT3, hLen, hI1, hI2, hI4, msix LTi, slix LTs, slix LTi, Int.toNat_natCast, appNil LTf (by decide), okNew0, okNew1, okNew2, el_nil, el_sl, el_ms, appN_cons, gm, gmB, gr, grB, gk, gkB, gv, gvB, uT0, uT1, uT2, uT3, uA0, uA1, okNew0, okNew1, okNew2, okNewE LTf eeF, appK_some, el_nil, el_sl, el_ms, elems_enc, encN, hMd, gm, gmB, gr, grB, gk, gkB, gv, gvB, uT0, uT1, uT2, uT3, uA0, uA1, okNew0, okNew1, okNew2, okNewE LTf eeF, appK_some, el_nil, el_sl, el_ms, elems_enc, encN, hMd, gm, gmB, gr, grB, gk, gkB, gv, gvB, uT0, uT1, uT2, uT3, uA0, uA1, okNew0, okNew1, okNew2, okNewE LTf eeF, appK_some, el_nil, el_sl, el_ms, elems_enc, encN, hMd, gm, gmB, gr, grB, gk, gkB, gv, gvB, uT0, uT1, uT2, uT3, uA0, uA1, okNew0, okNew1, okNew2, okNewE LTf eeF, appK_some, el_nil, el_sl, el_ms, elems_enc, encN, hMd, gm, gmB, gr, grB, gk, gkB, gv, gvB, uT0, uT1, uT2, uT3, uA0, uA1, okNew0, okNew1, okNew2, okNewE LTf eeF, appK_some, el_nil, el_sl, el_ms, elems_enc, encN, hMd, gm, gmB, gr, grB, gk, gkB, gv, gvB, uT0, uT1, uT2, uT3, uA0, uA1, okNew0, okNew1, okNew2, okNewE LTf eeF, appK_some, el_nil, el_sl, el_ms, elems_enc, encN, hMd, gm, gmB, gr, grB, gk, gkB, gv, gvB, uT0, uT1, uT2, uT3, uA0, uA1, okNew0, okNew1, okNew2, okNewE LTf eeF, appK_some, el_nil, el_sl, el_ms, elems_enc, encN, hMd, hHm, hMd2, hs10]
       apply after_some rfl; apply hQ; clear hQ Q
       repeat (with_reducible apply kblock_nrm)
       refine kcut_nrm ?_
       refine ⟨i', ks', lo, hi, fs ++ s.list, bv, vv + s.list.length * 8, ⟨?_, ?_, ?_, ?_, LS.hx hS.L ?_, Kq.hx hS.kp ?_, hS.ord, hS.lo, hS.hi, ?_, ?_⟩, by omega, by omega, hks', hkM, by simp; omega, rfl⟩
       ·simp (disch := (first | omega | (repeat (first | exact okU_nil | refine okU1 (by omega) ?_)))) [gm, gr, gk, gv]
       ·simp (disch := (first | omega | (repeat (first | exact okU_nil | refine okU1 (by omega) ?_)))) [gm, gr, gk, gv]
       ·simp (disch := (first | omega | (repeat (first | exact okU_nil | refine okU1 (by omega) ?_)))) [gm, gr, gk, gv]
       ·simp (disch := (first | omega | (repeat (first | exact okU_nil | refine okU1 (by omega) ?_)))) [gm, gr, gk, gv, eF, encN]
       ·simp; try omega
       ·simp; try omega
       ·simp [hS.ne]
       ·intro g hg
        rcases List.mem_append.1 hg with hg | hg
        ·exact hS.ok g hg
        ·exact hs2 g hg
     ·first
      |(simp at hc; done)
      |try simp [Int.natCast_inj] at hc
       apply w_keep [4, 7] rfl; apply w_skip
       repeat (with_reducible apply kblock_nrm)
       refine kcut_nrm ?_
       refine ⟨i', ks', lo, hi, fs, bv, vv, ⟨?_, ?_, ?_, ?_, LS.hx hS.L ?_, Kq.hx hS.kp ?_, hS.ord, hS.lo, hS.hi, ?_, ?_⟩, by omega, by omega, hks', hkM, by omega, rfl⟩
       ·simp (disch := (first | omega | (repeat (first | exact okU_nil | refine okU1 (by omega) ?_)))) [gm, gr, gk, gv]
       ·simp (disch := (first | omega | (repeat (first | exact okU_nil | refine okU1 (by omega) ?_)))) [gm, gr, gk, gv]
       ·simp (disch := (first | omega | (repeat (first | exact okU_nil | refine okU1 (by omega) ?_)))) [gm, gr, gk, gv]
       ·simp (disch := (first | omega | (repeat (first | exact okU_nil | refine okU1 (by omega) ?_)))) [gm, gr, gk, gv, eF, encN]
       ·simp; try omega
       ·simp; try omega
       ·exact hS.ne
       ·exact hS.ok
  ·first
   |(simp at hc; done)
   |try simp [Int.natCast_inj] at hc
    apply w_keep [4, 7] rfl; apply w_skip
    repeat (with_reducible apply kblock_nrm)
    refine kcut_nrm ?_
    refine ⟨i', ks', lo, hi, fs, bv, vv, ⟨?_, ?_, ?_, ?_, LS.hx hS.L ?_, Kq.hx hS.kp ?_, hS.ord, hS.lo, hS.hi, ?_, ?_⟩, by omega, by omega, hks', hkM, by omega, rfl⟩
    ·simp (disch := (first | omega | (repeat (first | exact okU_nil | refine okU1 (by omega) ?_)))) [gm, gr, gk, gv]
    ·simp (disch := (first | omega | (repeat (first | exact okU_nil | refine okU1 (by omega) ?_)))) [gm, gr, gk, gv]
    ·simp (disch := (first | omega | (repeat (first | exact okU_nil | refine okU1 (by omega) ?_)))) [gm, gr, gk, gv]
    ·simp (disch := (first | omega | (repeat (first | exact okU_nil | refine okU1 (by omega) ?_)))) [gm, gr, gk, gv, eF, encN]
    ·simp; try omega
    ·simp; try omega
    ·exact hS.ne
    ·exact hS.ok
 rintro al H ⟨i', ks', lo, hi, fs, bv, vv, hS, hi3, hi4, hks', hkM, hfN, rfl⟩
 have gm := hS.m
 have gmB := getW_blk gm
 have gr := hS.r
 have grB := getW_blk gr
 have gk := hS.k
 have gkB := getW_blk gk
 have gv := hS.v
 have gvB := getW_blk gv
 obtain ⟨o1, o2, o3⟩ := hS.ord
 have gvl := getW_lt gv
 have gml := getW_lt gm
 have gkl := getW_lt gk
 obtain ⟨uT0, uT1, uT2, uT3⟩ := takeEq hl gm (by omega) (by omega)
 have uA0 := fun (r : Heap) (x : V) => appHx' LTf eeF (H := H) (u := []) (r := r) gvl okU_nil gv (by simp [room]; omega) x
 have uA1 := fun (r : Heap) (x : V) (c : List V) => appHx' LTf eeF (H := H) (u := [(b, 0, c)]) (r := r) gvl (okU1 gml okU_nil) (by rw [lkU_ne (by omega), lkU_nil]; exact gv) (by simp [room]; omega) x
 have ur2 := AtN_range (j := i') (n := 2) (by omega) hl
 have ur3 := AtN_range (j := i') (n := 3) (by omega) hl
 have ur5 := AtN_range (j := i') (n := 5) (by omega) hl
 have ur8 := AtN_range (j := i') (n := 8) (by omega) hl
 rw [hx0 H]
 apply w_seq
 apply w_reg [4] rfl; intro Q hQ
 simp (disch := (first | omega | (repeat (first | exact okU_nil | refine okU1 (by omega) ?_)))) [wrap64, wrapU, leW, wrl, buildV, fillV, splice, hW, hB, hMd, hT0, hT1, hT2, hT3, hLen, hI1, hI2, hI4, msix LTi, slix LTs, slix LTi, Int.toNat_natCast, appNil LTf (by decide), okNew0, okNew1, okNew2, el_nil, el_sl, el_ms, appN_cons, gm, gmB, gr, grB, gk, gkB, gv, gvB, uT0, uT1, uT2, uT3, uA0, uA1, okNew0, okNew1, okNew2, okNewE LTf eeF, appK_some, el_nil, el_sl, el_ms, elems_enc, encN, hMd, gm, gmB, gr, grB, gk, gkB, gv, gvB, uT0, uT1, uT2, uT3, uA0, uA1, okNew0, okNew1, okNew2, okNewE LTf eeF, appK_some, el_nil, el_sl, el_ms, elems_enc, encN, hMd, gm, gmB, gr, grB, gk, gkB, gv, gvB, uT0, uT1, uT2, uT3, uA0, uA1, okNew0, okNew1, okNew2, okNewE LTf eeF, appK_some, el_nil, el_sl, el_ms, elems_enc, encN, hMd, gm, gmB, gr, grB, gk, gkB, gv, gvB, uT0, uT1, uT2, uT3, uA0, uA1, okNew0, okNew1, okNew2, okNewE LTf eeF, appK_some, el_nil, el_sl, el_ms, elems_enc, encN, hMd, gm, gmB, gr, grB, gk, gkB, gv, gvB, uT0, uT1, uT2, uT3, uA0, uA1, okNew0, okNew1, okNew2, okNewE LTf eeF, appK_some, el_nil, el_sl, el_ms, elems_enc, encN, hMd, gm, gmB, gr, grB, gk, gkB, gv, gvB, uT0, uT1, uT2, uT3, uA0, uA1, okNew0, okNew1, okNew2, okNewE LTf eeF, appK_some, el_nil, el_sl, el_ms, elems_enc, encN, hMd]
 apply after_some rfl; apply hQ; clear hQ Q
 apply w_ret
 repeat (with_reducible (first | apply kseq_ret | apply kloop_ret | apply kcut_ret | apply kblock_ret))
 refine ⟨rfl, .agg [.str nm, .int .i64 lo, .int .i64 hi, .ms 8 bv vv 0 fs.length false], (resultsA_eq (rs := [.cell 4 47]) rfl).trans (by simp (disch := (first | omega | (repeat (first | exact okU_nil | refine okU1 (by omega) ?_)))) [resultsB, resultA]), ?_⟩
 rw [show HX H0 [] [] = H0 from (hx0 H0).symm]
 refine ⟨⟨nm, lo, hi, .mk false fs⟩, _, i', ks', frz_kind (by simp (disch := (first | omega | (repeat (first | exact okU_nil | refine okU1 (by omega) ?_)))) [gv]), by omega, by omega, ?_, ?_, hks', hkM, ⟨hnm, hS.lo, hS.hi, hS.ne, by simp [SL.list_mk]; omega, hS.ok⟩, ?_⟩
 ·rw [gW_none (by omega)]; simp (disch := (first | omega | (repeat (first | exact okU_nil | refine okU1 (by omega) ?_)))) [gm]
 ·exact LS.setn (LS.hx hS.L (by simp; try omega)) (by omega)
 ·exact Kq.setn (Kq.hx hS.kp (by simp; try omega)) (by omega)

end Go.Ae.Zd

set_option maxRecDepth 20000
set_option maxHeartbeats 4000000
namespace Go.Ae.Zd
open Go.Proofs
attribute [local simp] List.getElem?_cons_zero List.getElem?_cons_succ hxW hxB hxW0 hxWn hxB0 hxBn hxS hxSn hxS0 hxTn hxT0 hxGn hxG0 hx_len hx_app hx_dup hx_dup2 lkU_nil lkU_hit lkU_ne sp_alloc cells_ms one_ms cells_sl one_sl wOf_ lk_nil lk_cons isEmpty_n isEmpty_c no_buildSlice no_makeSlice no_box eo_buildSlice ofVal_str chunk reads loadAt

structure okR (r : RuleT) : Prop where
 n : Sm 3000000 r.n

def RuleQ (l : SL Int) (b : Nat) (H0 : Heap) (i : Int) (v : V) (H1 : Heap) : Prop :=
 ∃ (r : RuleT) (bb : Bool) (i' : Int), v = .tup [.agg (eR r), .bool bb] ∧ i ≤ i' ∧ i' ≤ i + 10 ∧ getW H1 b 0 = some (mkC l i') ∧ okR r ∧ Kp b H0 H1

/-- (*diorama/dioramaref09.Maker).rule -/
theorem cRuleM {l : SL Int} (hl : ∀ a ∈ l.list, I64 a) {b : Nat} {k : KindT} {M : Nat} (hk : okK M k) (hM : M ≤ 100) {H0 : Heap} {i : Int} (hW : getW H0 b 0 = some (mkC l i)) (hi : 0 ≤ i) (hi2 : i < 10000) : ∃ v H1, call LE 53 [.mp b 0 0, .agg (eK k)] H0 = some (v, H1) ∧ RuleQ l b H0 i v H1 := by
 have hb := getW_lt hW
 have hB := getW_blk hW
 have hMd : LE.mode 51 = .inl := rfl
 obtain ⟨hT0, hT1, hT2, hT3⟩ := takeEq hl hW hi (by omega)
 have hkl := hk.len
 obtain ⟨c, R, hc0⟩ : ∃ c R, k.name = c :: R := by
  cases h : k.name with
  |nil => exact absurd hk.name.1 (by rw [h]; decide)
  |cons c R => exact ⟨c, R, rfl⟩
 have hN : ∀ H : Heap, sliceV Tryz.prog H 9 (.str (c :: R)) none (some (.int .i64 1)) none = some (.str [c]) := fun H => by
  have h1 : (1 : Int) ≤ (R.length : Int) + 1 := by omega
  simp [sliceV, cutV, bnd, h1]
 have hHas := fun (nm : Str) (H : Heap) => cHas k.fields nm (by omega) H
 have hsr := fIx_range [115, 105, 122, 101] k.fields.list
 have hOk : ∀ (j : Int) (h0 : 0 ≤ j) (h1 : j < k.fields.list.length), okF (k.fields.list[j.toNat]'(by omega)) := fun j h0 h1 => hk.ok _ (List.getElem_mem _)
 have hr0_3 := AtN_range (j := i) (n := 3) (by omega) hl
 have hr1_8 := AtN_range (j := i + 1) (n := 8) (by omega) hl
 have hr1_2 := AtN_range (j := i + 1) (n := 2) (by omega) hl
 have hr2_12 := AtN_range (j := i + 1 + 1) (n := 12) (by omega) hl
 have hr0_2 := AtN_range (j := i) (n := 2) (by omega) hl
 have hr1_12 := AtN_range (j := i + 1) (n := 12) (by omega) hl
 rw [call_inl rfl rfl, hx0 H0]
 refine run_E (m := 67) Tryz.func53 rfl rfl (Nat.le_of_ble_eq_true rfl) ?_
 simp only [alOf]
 apply w_seq
 apply w_reg [0, 3, 4] rfl; intro Q hQ
 simp (disch := (first | omega | (repeat (first | exact okU_nil | refine okU1 (by omega) ?_)))) [wrap64, wrapU, leW, wrl, buildV, fillV, splice, hW, hB, hMd, hT0, hT1, hT2, hT3, hHas, hN, hc0, eK]
 apply after_some rfl; apply hQ; clear hQ Q
 apply w_seq
 apply w_reg [0, 3, 4, 6] rfl; intro Q hQ
 simp (disch := (first | omega | (repeat (first | exact okU_nil | refine okU1 (by omega) ?_)))) [wrap64, wrapU, leW, wrl, buildV, fillV, splice, hW, hB, hMd, hT0, hT1, hT2, hT3, hHas, hN, hc0, eK]
 apply after_some rfl; apply hQ; clear hQ Q
 apply w_seq
 apply w_reg [0, 3, 4, 6, 7] rfl; intro Q hQ
 simp (disch := (first | omega | (repeat (first | exact okU_nil | refine okU1 (by omega) ?_)))) [wrap64, wrapU, leW, wrl, buildV, fillV, splice, hW, hB, hMd, hT0, hT1, hT2, hT3, hHas, hN, hc0, eK]
 apply after_some rfl; apply hQ; clear hQ Q
 apply w_seq
 apply w_seq
 apply w_reg [0, 3, 4, 7, 21] rfl; intro Q hQ
 simp (disch := (first | omega | (repeat (first | exact okU_nil | refine okU1 (by omega) ?_)))) [wrap64, wrapU, leW, wrl, buildV, fillV, splice, hW, hB, hMd, hT0, hT1, hT2, hT3, hHas, hN, hc0, eK]
 repeat' ((first | with_reducible apply after_guard | with_reducible apply after_guardD) <;> (intro hg; have hg' := hg; try simp at hg') <;> simp (disch := (first | omega | (repeat (first | exact okU_nil | refine okU1 (by omega) ?_)))) [wrap64, wrapU, leW, wrl, buildV, fillV, splice, hW, hB, hMd, hT0, hT1, hT2, hT3, hHas, hN, hc0, eK, *])
 all_goals (apply after_some rfl; apply hQ; clear hQ Q)
 all_goals
  skip
  apply w_cond _ rfl <;> intro hc
  ·first
   |(simp at hc; done)
   |try simp [Int.natCast_inj] at hc
    apply w_seq
    apply w_drwW [4, 5] [(7, [1, 5])] rfl rfl rfl (by kernel_rfl) 0 rfl; intro Q hQ
    simp (disch := (first | omega | (repeat (first | exact okU_nil | refine okU1 (by omega) ?_)))) [wrap64, wrapU, leW, wrl, buildV, fillV, splice, hW, hB, hMd, hT0, hT1, hT2, hT3, hHas, hN, hc0, eK]
    apply after_some rfl; apply hQ; clear hQ Q
    apply w_ret
    repeat (with_reducible (first | apply kseq_ret | apply kloop_ret | apply kcut_ret | apply kblock_ret))
    refine ⟨rfl, .tup [.agg (eR ⟨[111, 114, 100, 101, 114] ++ [c], k.name, [108, 111, 119], [104, 105, 103, 104], AtN l.list (i + 1) 8 - 2⟩), .bool true], (resultsA_eq (rs := [.cell 4 100, .tmp 5]) rfl).trans ?_, ?_⟩
    ·simp (disch := (first | omega | (repeat (first | exact okU_nil | refine okU1 (by omega) ?_)))) [resultsB, resultA, eR, hc0]; done
    rw [show HX H0 [] [] = H0 from (hx0 H0).symm]
    refine ⟨_, _, i + 1 + 1, rfl, by omega, by omega, ?_, ⟨by simp only [Sm]; omega⟩, Kp.hx Kp.refl (by simp)⟩
    simp (disch := (first | omega | (repeat (first | exact okU_nil | refine okU1 (by omega) ?_)))) [hW]; done
  ·first
   |(simp at hc; done)
   |try simp [Int.natCast_inj] at hc
    apply w_keep [0, 3, 4, 7] rfl; apply w_skip
    apply w_seq
    apply w_seq
    apply w_reg [0, 3, 4, 7, 33] rfl; intro Q hQ
    simp (disch := (first | omega | (repeat (first | exact okU_nil | refine okU1 (by omega) ?_)))) [wrap64, wrapU, leW, wrl, buildV, fillV, splice, hW, hB, hMd, hT0, hT1, hT2, hT3, hHas, hN, hc0, eK]
    apply after_some rfl; apply hQ; clear hQ Q
    apply w_cond _ rfl <;> intro hc
    ·first
     |(simp at hc; done)
     |try simp [Int.natCast_inj] at hc
      apply w_seq
      apply w_reg [4, 5] rfl; intro Q hQ
      simp (disch := (first | omega | (repeat (first | exact okU_nil | refine okU1 (by omega) ?_)))) [wrap64, wrapU, leW, wrl, buildV, fillV, splice, hW, hB, hMd, hT0, hT1, hT2, hT3, hHas, hN, hc0, eK]
      apply after_some rfl; apply hQ; clear hQ Q
      apply w_ret
      repeat (with_reducible (first | apply kseq_ret | apply kloop_ret | apply kcut_ret | apply kblock_ret))
      first
       |(refine ⟨rfl, .tup [.agg (eR ⟨[], [], [], [], 0⟩), .bool false], (resultsA_eq (rs := [.cell 4 100, .tmp 5]) rfl).trans ?_, ?_⟩
         ·simp (disch := (first | omega | (repeat (first | exact okU_nil | refine okU1 (by omega) ?_)))) [resultsB, resultA, eR, hc0]; done
         rw [show HX H0 [] [] = H0 from (hx0 H0).symm]
         refine ⟨_, _, i + 1, rfl, by omega, by omega, ?_, ⟨by simp only [Sm]; omega⟩, Kp.hx Kp.refl (by simp)⟩
         simp (disch := (first | omega | (repeat (first | exact okU_nil | refine okU1 (by omega) ?_)))) [hW]; done)
       |(refine ⟨rfl, .tup [.agg (eR ⟨[], [], [], [], 0⟩), .bool false], (resultsA_eq (rs := [.cell 4 100, .tmp 5]) rfl).trans ?_, ?_⟩
         ·simp (disch := (first | omega | (repeat (first | exact okU_nil | refine okU1 (by omega) ?_)))) [resultsB, resultA, eR, hc0]; done
         rw [show HX H0 [] [] = H0 from (hx0 H0).symm]
         refine ⟨_, _, i, rfl, by omega, by omega, ?_, ⟨by simp only [Sm]; omega⟩, Kp.hx Kp.refl (by simp)⟩
         simp (disch := (first | omega | (repeat (first | exact okU_nil | refine okU1 (by omega) ?_)))) [hW]; done)
    ·first
     |(simp at hc; done)
     |try simp [Int.natCast_inj] at hc
      apply w_keep [0, 3, 4, 7] rfl; apply w_skip
      apply w_seq
      have hsz : 0 ≤ fIx [115, 105, 122, 101] k.fields.list := by omega
      have hof := hOk _ hsz hsr.2
      have hof1 := hof.lo
      have hof2 := hof.hi
      obtain ⟨hof3, hof4⟩ := hof1
      obtain ⟨hof5, hof6⟩ := hof2
      apply w_reg [0, 3, 4, 8] rfl; intro Q hQ
      simp (disch := (first | omega | (repeat (first | exact okU_nil | refine okU1 (by omega) ?_)))) [wrap64, wrapU, leW, wrl, buildV, fillV, splice, hW, hB, hMd, hT0, hT1, hT2, hT3, hHas, hN, hc0, eK]
      apply after_some rfl; apply hQ; clear hQ Q
      apply w_seq
      apply w_seq
      apply w_reg [0, 3, 4, 8, 42] rfl; intro Q hQ
      simp (disch := (first | omega | (repeat (first | exact okU_nil | refine okU1 (by omega) ?_)))) [wrap64, wrapU, leW, wrl, buildV, fillV, splice, hW, hB, hMd, hT0, hT1, hT2, hT3, hHas, hN, hc0, eK]
      apply after_some rfl; apply hQ; clear hQ Q
      apply w_cond _ rfl <;> intro hc
      ·first
       |(simp at hc; done)
       |try simp [Int.natCast_inj] at hc
        apply w_seq
        apply w_drwW [4, 5] [(9, [1, 5, 7])] rfl rfl rfl (by kernel_rfl) 0 rfl; intro Q hQ
        simp (disch := (first | omega | (repeat (first | exact okU_nil | refine okU1 (by omega) ?_)))) [wrap64, wrapU, leW, wrl, buildV, fillV, splice, hW, hB, hMd, hT0, hT1, hT2, hT3, hHas, hN, hc0, eK]
        apply after_some rfl; apply hQ; clear hQ Q
        apply w_ret
        repeat (with_reducible (first | apply kseq_ret | apply kloop_ret | apply kcut_ret | apply kblock_ret))
        first
         |(refine ⟨rfl, .tup [.agg (eR ⟨[109, 111, 115, 116] ++ [c], k.name, [115, 105, 122, 101], [], (k.fields.list[(fIx [115, 105, 122, 101] k.fields.list).toNat]'(by omega)).lo + AtN l.list (i + 1 + 1) 12⟩), .bool true], (resultsA_eq (rs := [.cell 4 100, .tmp 5]) rfl).trans ?_, ?_⟩
           ·simp (disch := (first | omega | (repeat (first | exact okU_nil | refine okU1 (by omega) ?_)))) [resultsB, resultA, eR, hc0]; done
           rw [show HX H0 [] [] = H0 from (hx0 H0).symm]
           refine ⟨_, _, i + 1 + 1 + 1, rfl, by omega, by omega, ?_, ⟨by simp only [Sm]; omega⟩, Kp.hx Kp.refl (by simp)⟩
           simp (disch := (first | omega | (repeat (first | exact okU_nil | refine okU1 (by omega) ?_)))) [hW]; done)
         |(refine ⟨rfl, .tup [.agg (eR ⟨[109, 111, 115, 116] ++ [c], k.name, [115, 105, 122, 101], [], (k.fields.list[(fIx [115, 105, 122, 101] k.fields.list).toNat]'(by omega)).lo + AtN l.list (i + 1) 12⟩), .bool true], (resultsA_eq (rs := [.cell 4 100, .tmp 5]) rfl).trans ?_, ?_⟩
           ·simp (disch := (first | omega | (repeat (first | exact okU_nil | refine okU1 (by omega) ?_)))) [resultsB, resultA, eR, hc0]; done
           rw [show HX H0 [] [] = H0 from (hx0 H0).symm]
           refine ⟨_, _, i + 1 + 1, rfl, by omega, by omega, ?_, ⟨by simp only [Sm]; omega⟩, Kp.hx Kp.refl (by simp)⟩
           simp (disch := (first | omega | (repeat (first | exact okU_nil | refine okU1 (by omega) ?_)))) [hW]; done)
      ·first
       |(simp at hc; done)
       |try simp [Int.natCast_inj] at hc
        apply w_keep [0, 3, 4, 8] rfl; apply w_skip
        apply w_seq
        apply w_drwW [4, 5] [(7, [1, 5]), (9, [7])] rfl rfl rfl (by kernel_rfl) 0 rfl; intro Q hQ
        simp (disch := (first | omega | (repeat (first | exact okU_nil | refine okU1 (by omega) ?_)))) [wrap64, wrapU, leW, wrl, buildV, fillV, splice, hW, hB, hMd, hT0, hT1, hT2, hT3, hHas, hN, hc0, eK]
        apply after_some rfl; apply hQ; clear hQ Q
        apply w_ret
        repeat (with_reducible (first | apply kseq_ret | apply kloop_ret | apply kcut_ret | apply kblock_ret))
        first
         |(refine ⟨rfl, .tup [.agg (eR ⟨[108, 101, 97, 115, 116] ++ [c], k.name, [], [115, 105, 122, 101], AtN l.list (i + 1 + 1) 12 - (k.fields.list[(fIx [115, 105, 122, 101] k.fields.list).toNat]'(by omega)).hi⟩), .bool true], (resultsA_eq (rs := [.cell 4 100, .tmp 5]) rfl).trans ?_, ?_⟩
           ·simp (disch := (first | omega | (repeat (first | exact okU_nil | refine okU1 (by omega) ?_)))) [resultsB, resultA, eR, hc0]; done
           rw [show HX H0 [] [] = H0 from (hx0 H0).symm]
           refine ⟨_, _, i + 1 + 1 + 1, rfl, by omega, by omega, ?_, ⟨by simp only [Sm]; omega⟩, Kp.hx Kp.refl (by simp)⟩
           simp (disch := (first | omega | (repeat (first | exact okU_nil | refine okU1 (by omega) ?_)))) [hW]; done)
         |(refine ⟨rfl, .tup [.agg (eR ⟨[108, 101, 97, 115, 116] ++ [c], k.name, [], [115, 105, 122, 101], AtN l.list (i + 1) 12 - (k.fields.list[(fIx [115, 105, 122, 101] k.fields.list).toNat]'(by omega)).hi⟩), .bool true], (resultsA_eq (rs := [.cell 4 100, .tmp 5]) rfl).trans ?_, ?_⟩
           ·simp (disch := (first | omega | (repeat (first | exact okU_nil | refine okU1 (by omega) ?_)))) [resultsB, resultA, eR, hc0]; done
           rw [show HX H0 [] [] = H0 from (hx0 H0).symm]
           refine ⟨_, _, i + 1 + 1, rfl, by omega, by omega, ?_, ⟨by simp only [Sm]; omega⟩, Kp.hx Kp.refl (by simp)⟩
           simp (disch := (first | omega | (repeat (first | exact okU_nil | refine okU1 (by omega) ?_)))) [hW]; done)

end Go.Ae.Zd
