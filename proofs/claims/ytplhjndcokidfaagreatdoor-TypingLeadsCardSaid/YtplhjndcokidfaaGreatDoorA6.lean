/-
  Joins of branches; memory by its parts.
-/
import Derived.Test.YtplhjndcokidfaaGreatDoorA5
import Derived.Laws.Externs
import Derived.SizedLaws
import Derived.ChangeSlices
import Derived.WideKeyElems2
import Derived.MapKept
import Derived.LaidHandle
import Derived.ChangeSame
import Derived.Lib.LaidTab
set_option linter.unusedVariables false
set_option linter.unusedSimpArgs false
namespace Go.Ae

variable {E : Env} {f : FuncId} {n : Nat} {al : AL} {H : Heap} {K : Post}

/-- What holds behind the first part is said once. -/
def kcut (Q : AL → Heap → Prop) (K : Post) : Post
  | .nrm, al, H => Q al H
  | x, al, H => K x al H

theorem kcut_nrm {Q : AL → Heap → Prop} (h : Q al H) : kcut Q K .nrm al H := h
theorem kcut_exit {id : Nat} {Q : AL → Heap → Prop} (h : K (.exit id) al H) : kcut Q K (.exit id) al H := h
theorem kcut_ret {Q : AL → Heap → Prop} (h : K .ret al H) : kcut Q K .ret al H := h

theorem w_cut {a b : Code} (Q : AL → Heap → Prop) (h1 : W E f n a al H (kcut Q K)) (h2 : ∀ al H, Q al H → W E f n b al H K) : W E f n (.seq a b) al H K :=
  w_seq (h1.mono fun x al H hk => by
    cases x with
    | nrm => exact h2 al H hk
    | _ => exact hk)

/-- A region ahead of which a temporary is made immutable. -/
theorem w_regF (l : List Nat) {id : Nat} {ops : Array Oper} (t : Tmp) {v v' : V} {H' : Heap} (hf : E.frz f id = [t]) (hl : look al t = some v) (hz : frzV 12 H v = some (v', H')) (ht : t < n) (h : ∀ Q : AL → Heap → Prop, (∀ al2 H2, K .nrm al2 H2 → Q al2 H2) → After (opsA E (call E) f n ops ops.toList ((t, v') :: al) H') l Q) : W E f n (.region id ops false) al H K := fun ts ha => by
  obtain ⟨al1, H1, al2, h1, h2, h3⟩ := h (K .nrm) fun _ _ h => h
  have ht2 : ts.getD t undefV = v := by rw [List.getD_eq_getElem?_getD, ha.2 t v hl]; rfl
  have hp : putA n al (some t) v' = some ((t, v') :: al) := by simp [putA, ht]
  obtain ⟨ts', g1, g2⟩ := opsA_sound h1 (ha.put hp)
  refine ⟨.nrm, ts', al2, H1, ?_, g2.keep h2, h3⟩
  have g1' : opsV E (call E) f ops ops.toList (ts.set t v') H' = some (ts', H1) := g1
  rw [exec_region, regionV_eq, hf]
  simp only [frzTmps, ht2, hz, Option.bind_some, Bool.false_eq_true, if_false, g1']

/-! Memory by its parts. -/
section
variable {b b' ver ver' k : Nat} {cs : List V} {r : Heap}

theorem gW_set (hb : b < H.length) : getW (setBlk H b ver cs) b ver = some cs := getW_set hb
theorem gW_ne (hb : b ≠ b') : getW (setBlk H b ver cs) b' ver' = getW H b' ver' := getW_set_ne hb
theorem gW_none (hb : b ≠ b') : getW (List.set H b none) b' ver' = getW H b' ver' := by
  unfold getW
  rw [List.getElem?_set_ne hb]
theorem gW_lt (hb : b < H.length) : getW (H ++ r) b ver = getW H b ver := by
  unfold getW
  rw [List.getElem?_append_left hb]
theorem gW_new : getW (H ++ r) H.length ver = getW r 0 ver := by
  unfold getW
  rw [List.getElem?_append_right (Nat.le_refl _), Nat.sub_self]
theorem gW_new' : getW (H ++ r) (H.length + k) ver = getW r k ver := by
  unfold getW
  rw [List.getElem?_append_right (Nat.le_add_right _ _), Nat.add_sub_cancel_left]
theorem gB_set (hb : b < H.length) : getBlk (setBlk H b ver cs) b ver = some cs := getW_blk (getW_set hb)
theorem gB_ne (hb : b ≠ b') : getBlk (setBlk H b ver cs) b' ver' = getBlk H b' ver' := by
  unfold getBlk setBlk
  rw [List.getElem?_set_ne hb]
theorem gB_none (hb : b ≠ b') : getBlk (List.set H b none) b' ver' = getBlk H b' ver' := by
  unfold getBlk
  rw [List.getElem?_set_ne hb]
theorem gB_lt (hb : b < H.length) : getBlk (H ++ r) b ver = getBlk H b ver := by
  unfold getBlk
  rw [List.getElem?_append_left hb]
theorem gB_new : getBlk (H ++ r) H.length ver = getBlk r 0 ver := by
  unfold getBlk
  rw [List.getElem?_append_right (Nat.le_refl _), Nat.sub_self]
theorem gB_new' : getBlk (H ++ r) (H.length + k) ver = getBlk r k ver := by
  unfold getBlk
  rw [List.getElem?_append_right (Nat.le_add_right _ _), Nat.add_sub_cancel_left]
theorem newBlk_mk : newBlk ver cs = some (ver, false, cs) := rfl
end

end Go.Ae

namespace Go.Ae

abbrev Upd := List (Nat × Nat × List V)

def putU (H : Heap) : Upd → Heap
  | [] => H
  | (b, v, c) :: u => setBlk (putU H u) b v c

/-- The base H, written over, and new blocks behind it. -/
def HX (H : Heap) (u : Upd) (r : Heap) : Heap := putU H u ++ r

def lkU (u : Upd) (b ver : Nat) (d : Option (List V)) : Option (List V) :=
  match u with
  | [] => d
  | (b1, v1, c1) :: u => if b1 = b then (if v1 = ver then some c1 else none) else lkU u b ver d

section
variable {H : Heap} {u : Upd} {r r' : Heap} {b ver k : Nat} {cs : List V} {x : Option Blk} {d : Option (List V)}

theorem hx0 (H : Heap) : H = HX H [] [] := by simp [HX, putU]
theorem putU_len : ∀ (u : Upd), (putU H u).length = H.length
  | [] => rfl
  | (b, v, c) :: u => by simp only [putU, setBlk_len, putU_len u]
theorem hx_len : (HX H u r).length = H.length + r.length := by simp [HX, putU_len]
theorem hx_app : HX H u r ++ r' = HX H u (r ++ r') := by simp [HX]

theorem getW_setB {b' v' : Nat} (hb : b < H.length) : getW (setBlk H b ver cs) b' v' = if b = b' then (if ver = v' then some cs else none) else getW H b' v' := by
  split
  · rename_i h; subst h
    split
    · rename_i h; subst h; exact getW_set hb
    · rename_i h
      unfold getW setBlk newBlk
      simp [hb, h]
  · rename_i h; exact getW_set_ne h
theorem getBlk_setB {b' v' : Nat} (hb : b < H.length) : getBlk (setBlk H b ver cs) b' v' = if b = b' then (if ver = v' then some cs else none) else getBlk H b' v' := by
  split
  · rename_i h; subst h
    split
    · rename_i h; subst h; exact getW_blk (getW_set hb)
    · rename_i h
      unfold getBlk setBlk newBlk
      simp [hb, h]
  · rename_i h; unfold getBlk setBlk; rw [List.getElem?_set_ne h]

/-- All that is written over lies in the base. -/
def okU (H : Heap) (u : Upd) : Prop := ∀ p ∈ u, p.1 < H.length

theorem getW_putU (b ver : Nat) : ∀ (u : Upd), okU H u → getW (putU H u) b ver = lkU u b ver (getW H b ver)
  | [], _ => rfl
  | (b1, v1, c1) :: u, h => by
    have h1 : b1 < H.length := h _ (List.mem_cons_self ..)
    have h2 : okU H u := fun p hp => h p (List.mem_cons_of_mem _ hp)
    simp only [putU, lkU]
    rw [getW_setB (by rw [putU_len]; exact h1), getW_putU b ver u h2]
theorem getBlk_putU (b ver : Nat) : ∀ (u : Upd), okU H u → getBlk (putU H u) b ver = lkU u b ver (getBlk H b ver)
  | [], _ => rfl
  | (b1, v1, c1) :: u, h => by
    have h1 : b1 < H.length := h _ (List.mem_cons_self ..)
    have h2 : okU H u := fun p hp => h p (List.mem_cons_of_mem _ hp)
    simp only [putU, lkU]
    rw [getBlk_setB (by rw [putU_len]; exact h1), getBlk_putU b ver u h2]

theorem okU_nil : okU H [] := fun _ h => by cases h
theorem okU_cons {p : Nat × Nat × List V} (h : p.1 < H.length) (h' : okU H u) : okU H (p :: u) := fun q hq => by
  rcases List.mem_cons.1 hq with rfl | hq
  · exact h
  · exact h' q hq

theorem okU1 {v : Nat} (h : b < H.length) (h' : okU H u) : okU H ((b, v, cs) :: u) := okU_cons h h'

/-! Written with at most four pieces: the bounds stand apart. -/
theorem hxW (hb : b < H.length) (hu : okU H u) : getW (HX H u r) b ver = lkU u b ver (getW H b ver) := by
  rw [HX, gW_lt (by rw [putU_len]; exact hb), getW_putU b ver u hu]
theorem hxB (hb : b < H.length) (hu : okU H u) : getBlk (HX H u r) b ver = lkU u b ver (getBlk H b ver) := by
  rw [HX, gB_lt (by rw [putU_len]; exact hb), getBlk_putU b ver u hu]
theorem hxW0 : getW (HX H u r) H.length ver = getW r 0 ver := by
  have := gW_new (H := putU H u) (r := r) (ver := ver)
  rwa [putU_len] at this
theorem hxWn : getW (HX H u r) (H.length + k) ver = getW r k ver := by
  have := gW_new' (H := putU H u) (r := r) (ver := ver) (k := k)
  rwa [putU_len] at this
theorem hxB0 : getBlk (HX H u r) H.length ver = getBlk r 0 ver := by
  have := gB_new (H := putU H u) (r := r) (ver := ver)
  rwa [putU_len] at this
theorem hxBn : getBlk (HX H u r) (H.length + k) ver = getBlk r k ver := by
  have := gB_new' (H := putU H u) (r := r) (ver := ver) (k := k)
  rwa [putU_len] at this
theorem hxS (hb : b < H.length) : setBlk (HX H u r) b ver cs = HX H ((b, ver, cs) :: u) r := by
  unfold HX setBlk
  rw [List.set_append, if_pos (by rw [putU_len]; exact hb)]
  rfl
theorem hxSn : setBlk (HX H u r) (H.length + k) ver cs = HX H u (setBlk r k ver cs) := by
  unfold HX setBlk
  rw [List.set_append, if_neg (by rw [putU_len]; omega), putU_len]
  congr 2
  omega
theorem hxS0 : setBlk (HX H u r) H.length ver cs = HX H u (setBlk r 0 ver cs) := hxSn (k := 0)
theorem hxTn : List.set (HX H u r) (H.length + k) x = HX H u (List.set r k x) := by
  unfold HX
  rw [List.set_append, if_neg (by rw [putU_len]; omega), putU_len]
  congr 2
  omega
theorem hxT0 : List.set (HX H u r) H.length x = HX H u (List.set r 0 x) := hxTn (k := 0)
theorem hxGn : (HX H u r)[H.length + k]? = r[k]? := by
  unfold HX
  rw [List.getElem?_append_right (by rw [putU_len]; omega), putU_len]
  congr 1
  omega
theorem hxG0 : (HX H u r)[H.length]? = r[0]? := hxGn (k := 0)
/-- A place that is not written is as it was. -/
theorem putU_get (b : Nat) : ∀ (u : Upd), (∀ p ∈ u, p.1 ≠ b) → (putU H u)[b]? = H[b]?
  | [], _ => rfl
  | (b1, v1, c1) :: u, h => by
    have h1 : b1 ≠ b := h _ (List.mem_cons_self ..)
    simp only [putU, setBlk]
    rw [List.getElem?_set_ne h1]
    exact putU_get b u fun p hp => h p (List.mem_cons_of_mem _ hp)
theorem hxG (hb : b < H.length) (hu : ∀ p ∈ u, p.1 ≠ b) : (HX H u r)[b]? = H[b]? := by
  unfold HX
  rw [List.getElem?_append_left (by rw [putU_len]; exact hb), putU_get b u hu]
theorem lkU_nil : lkU [] b ver d = d := rfl
theorem lkU_hit {c : List V} : lkU ((b, ver, c) :: u) b ver d = some c := by simp [lkU]
theorem lkU_ne {b1 v1 : Nat} {c : List V} (h : b1 ≠ b) : lkU ((b1, v1, c) :: u) b ver d = lkU u b ver d := by simp [lkU, h]
/-- A later writing hides an earlier one. -/
theorem hx_dup {c c' : List V} {v' : Nat} : HX H ((b, ver, c) :: (b, v', c') :: u) r = HX H ((b, ver, c) :: u) r := by
  simp [HX, putU, setBlk, List.set_set]
theorem hx_dup2 {c c' : List V} {b1 v1 v' : Nat} {c1 : List V} : HX H ((b, ver, c) :: (b1, v1, c1) :: (b, v', c') :: u) r = HX H ((b, ver, c) :: (b1, v1, c1) :: u) r := by
  by_cases h : b = b1
  · subst h; simp [HX, putU, setBlk, List.set_set]
  · simp only [HX, putU, setBlk]
    congr 1
    rw [List.set_comm _ _ (Ne.symm h), List.set_set, List.set_comm _ _ (Ne.symm h)]
end

/-- What keeps all blocks that lay there, but one. -/
def Kp (b : Nat) (H H' : Heap) : Prop := H.length ≤ H'.length ∧ ∀ b', b' < H.length → b' ≠ b → H'[b']? = H[b']?

theorem Kp.refl {b : Nat} {H : Heap} : Kp b H H := ⟨Nat.le_refl _, fun _ _ _ => rfl⟩
theorem Kp.trans {b : Nat} {H H1 H2 : Heap} (h : Kp b H H1) (h' : Kp b H1 H2) : Kp b H H2 := ⟨Nat.le_trans h.1 h'.1, fun b' h1 h2 => (h'.2 b' (Nat.lt_of_lt_of_le h1 h.1) h2).trans (h.2 b' h1 h2)⟩
theorem Kp.getW {b b' ver : Nat} {H H' : Heap} (h : Kp b H H') (h1 : b' < H.length) (h2 : b' ≠ b) : getW H' b' ver = Go.Ae.getW H b' ver := by
  unfold Go.Ae.getW; rw [h.2 b' h1 h2]
theorem Kp.hx {b : Nat} {H H1 r : Heap} {u : Upd} (h : Kp b H H1) (hu : ∀ p ∈ u, p.1 = b ∨ H.length ≤ p.1) : Kp b H (HX H1 u r) := by
  refine ⟨by rw [hx_len]; have := h.1; omega, fun b' h1 h2 => ?_⟩
  rw [hxG (Nat.lt_of_lt_of_le h1 h.1) fun p hp => ?_, h.2 b' h1 h2]
  rcases hu p hp with h3 | h3 <;> omega

end Go.Ae

namespace Go.Ae

def eS (s : Str) : List V := [.str s]
def eI (n : Int) : List V := [.int .i64 n]
def eP (p : Int × Int) : List V := [.int .i64 p.1, .int .i64 p.2]

structure FieldT where
  name : Str
  of_ : Str
  up : Str
  kind : Int
  lo : Int
  hi : Int
  words : SL Str
  weights : SL Int

def eF (f : FieldT) : List V := [.str f.name, .str f.of_, .str f.up, .int .i64 f.kind, .int .i64 f.lo, .int .i64 f.hi, enc eS f.words, enc eI f.weights]

structure KindT where
  name : Str
  lo : Int
  hi : Int
  fields : SL FieldT

def eK (k : KindT) : List V := [.str k.name, .int .i64 k.lo, .int .i64 k.hi, enc eF k.fields]

structure LifeT where
  name : Str
  states : SL Str
  moves : SL (Int × Int)

def eL (l : LifeT) : List V := [.str l.name, enc eS l.states, enc eP l.moves]

structure RuleT where
  name : Str
  kind : Str
  a : Str
  b : Str
  n : Int

def eR (r : RuleT) : List V := [.str r.name, .str r.kind, .str r.a, .str r.b, .int .i64 r.n]

structure SchemaT where
  version : Int
  kinds : SL KindT
  lives : SL LifeT
  rules : SL RuleT

def eX (x : SchemaT) : List V := [.int .i64 x.version, enc eK x.kinds, enc eL x.lives, enc eR x.rules]

theorem eeS : Ee eS 1 := ⟨fun _ => rfl, fun _ => rfl, fun _ => rfl⟩
theorem eeI : Ee eI 1 := ⟨fun _ => rfl, fun _ => rfl, fun _ => rfl⟩
theorem eeP : Ee eP 2 := ⟨fun _ => rfl, fun _ => rfl, fun _ => rfl⟩
theorem eeF : Ee eF 8 := ⟨fun _ => rfl, fun f => by simp only [eF, allOne, List.all_cons, List.all_nil, one_enc, Bool.and_true, Bool.true_and]; rfl, fun f => by simp [eF, V.pureL, V.pure, enc_pure eeS, enc_pure eeI]⟩
theorem eeK : Ee eK 4 := ⟨fun _ => rfl, fun f => by simp only [eK, allOne, List.all_cons, List.all_nil, one_enc, Bool.and_true, Bool.true_and]; rfl, fun f => by simp [eK, V.pureL, V.pure, enc_pure eeF]⟩
theorem eeL : Ee eL 3 := ⟨fun _ => rfl, fun f => by simp only [eL, allOne, List.all_cons, List.all_nil, one_enc, Bool.and_true, Bool.true_and]; rfl, fun f => by simp [eL, V.pureL, V.pure, enc_pure eeS, enc_pure eeP]⟩
theorem eeR : Ee eR 5 := ⟨fun _ => rfl, fun f => by simp [eR, allOne, V.one], fun f => by simp [eR, V.pureL, V.pure]⟩
theorem eeX : Ee eX 4 := ⟨fun _ => rfl, fun f => by simp only [eX, allOne, List.all_cons, List.all_nil, one_enc, Bool.and_true, Bool.true_and]; rfl, fun f => by simp [eX, V.pureL, V.pure, enc_pure eeK, enc_pure eeL, enc_pure eeR]⟩

section
variable {sz by_ : Nat} {z c : V} {r : List V} {e k : TypeId} {n : Nat}
theorem load_string : loadCs ⟨.string, sz, by_, z⟩ (c :: r) = some c := rfl
theorem load_bool : loadCs ⟨.bool, sz, by_, z⟩ (c :: r) = some c := rfl
theorem load_ptr : loadCs ⟨.pointer e, sz, by_, z⟩ (c :: r) = some c := rfl
theorem load_map : loadCs ⟨.map k e, sz, by_, z⟩ (c :: r) = some c := rfl
theorem load_array {cs : List V} : loadCs ⟨.array n e, sz, by_, z⟩ cs = if sz ≤ cs.length then some (.agg (cs.take sz)) else none := rfl
theorem one_str {s : Str} : (V.str s).one = true := rfl
theorem one_rp {cs : List V} : (V.rp cs).one = true := rfl
theorem one_mp {b v o : Nat} : (V.mp b v o).one = true := rfl
theorem one_np : V.np.one = true := rfl
theorem one_im {ks : List Int} {vs : List V} : (V.im ks vs).one = true := rfl
theorem cells_str {s : Str} : (V.str s).cells = [V.str s] := rfl
theorem cells_rp {cs : List V} : (V.rp cs).cells = [V.rp cs] := rfl
theorem cells_mp {b v o : Nat} : (V.mp b v o).cells = [V.mp b v o] := rfl
end
attribute [simp] load_string load_bool load_ptr load_map load_array one_str one_rp one_mp one_np one_im cells_str cells_rp cells_mp one_enc cells_enc

section
variable {P : Program} {t : TypeId} {a b : Str}
theorem str_beq : (a == b) = decide (a = b) := by
  by_cases h : a = b
  · subst h; simp
  · simp [h]
theorem bs_eql : binV P .eql t (.str a) (.str b) = some (.bool (decide (a = b))) := by
  simp only [binV, str_beq]
theorem bs_neq : binV P .neq t (.str a) (.str b) = some (.bool (decide (a ≠ b))) := by
  simp only [binV, str_beq, ne_eq, decide_not]
theorem bs_lss : binV P .lss t (.str a) (.str b) = some (.bool (Op.bytesLess a b)) := rfl
theorem bs_leq : binV P .leq t (.str a) (.str b) = some (.bool (bytesLe a b)) := rfl
theorem bs_add : binV P .add t (.str a) (.str b) = if a.length + b.length ≤ 9223372036854775807 then some (.str (a ++ b)) else none := rfl
end
attribute [simp] bs_eql bs_neq bs_lss bs_leq bs_add

/-- A function's results, by their list. -/
def resultsB (E : Env) (rs : List ResultVar) (al : AL) (H : Heap) : Option V :=
  match rs with
  | [r] => resultA E al H r
  | l => (mapO (resultA E al H) l).map .tup

theorem resultsA_eq {E : Env} {fn : Func} {rs : List ResultVar} (h : fn.results.toList = rs) {al : AL} {H : Heap} : resultsA E fn al H = resultsB E rs al H := by
  unfold resultsA resultsB
  rw [h]
  match rs with
  | [] => rfl
  | [r] => rfl
  | a :: b :: l => rfl

/-- The index of the first element that has a name; -1: there is none. -/
def nameIx {α : Type} (nm : α → Str) (s : Str) : Nat → List α → Int
  | _, [] => -1
  | i, a :: r => if nm a = s then i else nameIx nm s (i + 1) r

end Go.Ae

namespace Go.Ae
open Go.ChangeShapes Go.WideShapes

theorem cell_none {w : World} {a : Addr} {v : Value} (h : w.cell? a = some v) : a.spot = none ∧ a.block < w.heap.size := by
  unfold World.cell? at h
  split at h
  · rename_i c e fr hb
    split at h
    · cases h
    · rename_i hs
      refine ⟨by simpa using hs, ?_⟩
      exact (Array.getElem?_eq_some_iff.1 hb).1
  · cases h

theorem VR_ints {w : World} {a : Addr} {len cap : Nat} {zs : List Int} (hl : len ≤ cap) (hz : len ≤ zs.length) (hc : ∀ i, i < zs.length → w.cell? (a.add i) = some (.int .i64 (zs.getD i 0))) :
    VR w (fun b => b < w.heap.size) noMap (.sl false (intsI (zs.take len))) (.slice (some a) len cap) := by
  cases len with
  | zero => exact .slE false a cap (fun h => by cases h)
  | succ n =>
    have h0 := hc 0 (by omega)
    obtain ⟨hs, hb⟩ := cell_none (a := a) (by simpa [Addr.add] using h0)
    obtain ⟨b, off, spot⟩ := a
    simp only at hs hb
    subst hs
    have hlen : (intsI (zs.take (n + 1))).length = n + 1 := by simp [intsI]; omega
    have hget : ∀ (i : Nat) (e : List V), (intsI (zs.take (n + 1)))[i]? = some e → i < zs.length ∧ e = [.int .i64 (zs.getD i 0)] := by
      intro i e h
      simp only [intsI, List.getElem?_map] at h
      cases hq : (zs.take (n + 1))[i]? with
      | none => rw [hq] at h; cases h
      | some z =>
        rw [hq] at h
        have h1 := (List.getElem?_eq_some_iff.1 hq)
        obtain ⟨h2, h3⟩ := h1
        rw [List.length_take] at h2
        have h4 : i < zs.length := by omega
        refine ⟨h4, ?_⟩
        rw [List.getElem_take] at h3
        simp only [Option.map_some, Option.some.injEq] at h
        rw [← h, ← h3, List.getD_eq_getElem?_getD, List.getElem?_eq_getElem h4]
        rfl
    have := VR.sl (w := w) (F := fun b => b < w.heap.size) (μ := noMap) false (intsI (zs.take (n + 1))) b off cap 1 (fun i _ => .int .i64 (zs.getD i 0))
      (fun i e h => by rw [(hget i e h).2]; rfl) (by rw [hlen]; exact hl) (fun h => by cases h)
      (fun i e j c h1 h2 => by
        obtain ⟨h3, rfl⟩ := hget i e h1
        have hj : j = 0 := by
          have := (List.getElem?_eq_some_iff.1 h2).1
          simpa using this
        subst hj
        refine ⟨hb, ?_⟩
        have h4 := hc i h3
        have e1 : Addr.add ⟨b, off, none⟩ i = ⟨b, off + (i * 1 + 0), none⟩ := by
          unfold Addr.add
          split
          · rename_i hi; subst hi; simp
          · simp
        rw [e1] at h4
        exact h4)
      (fun i e j c h1 h2 => by
        obtain ⟨h3, rfl⟩ := hget i e h1
        have hj : j = 0 := by
          have := (List.getElem?_eq_some_iff.1 h2).1
          simpa using this
        subst hj
        simp only [List.getElem?_cons_zero, Option.some.injEq] at h2
        subst h2
        exact .int _ _)
    rw [hlen] at this
    exact this

/-- An argument that is a slice of numbers. -/
theorem open_row {H : Type} {enc : TypeId × Value → H} {P : Program} {W : World} {base : Nat} {spare : Nat → Bool} {held : Bool} {t e : TypeId} {a : Option Addr} {len cap : Nat} {d : DataW H} {ps : List MemPlace} {ts : List TypeId} {ds : List (DataW H)} {j : Nat}
    (hsz : (DataW.weightsEach P ts ds).all (· ≤ reachBytes) = true) (ht : ts[j]? = some t) (hd : ds[j]? = some d) (hu : P.underlying t = some (.slice e)) (he : P.underlying e = some (.int .i64)) (hc : P.cellsOf e = 1) (hB : P.bytesOf e = 8)
    (h : DataW.Trod enc P W base spare held t (.slice a len cap) d ps) :
    ∃ v xs, IsInts v xs ∧ VR W (fun b => b < W.heap.size) noMap v (.slice a len cap) ∧ (∀ x ∈ xs, -9223372036854775808 ≤ x ∧ x ≤ 9223372036854775807) ∧ xs.length * 8 ≤ 140737488351232 := by
  obtain ⟨fuel, hf⟩ := h
  rcases open_ints hu he hc hf with ⟨hcs, _⟩ | ⟨x, l, c, zs, hcs, _, hl, _, hz, hx, hcell, hwf⟩
  · simp [Value.cells] at hcs
    obtain ⟨rfl, rfl, rfl⟩ := hcs
    exact ⟨.nil, [], .inl ⟨rfl, rfl⟩, .nil, by simp, by simp⟩
  · simp [Value.cells] at hcs
    obtain ⟨rfl, rfl, rfl⟩ := hcs
    obtain ⟨hx, _⟩ := Prod.mk.inj hx
    subst hx
    have z := sized_slice hsz ht hd hu
    rw [hB] at z
    have hl2 : len ≤ zs.length := by
      rw [hz]; split
      · exact hl
      · exact Nat.le_refl _
    have h1 : (lits (H := H) .i64 (zs.take len)).length + (lits (H := H) .i64 (zs.drop len)).length = zs.length := by
      simp [lits]; omega
    rw [h1] at z
    refine ⟨.sl false (intsI (zs.take len)), zs.take len, .inr ⟨false, rfl⟩, VR_ints hl hl2 hcell, fun y hy => ?_, ?_⟩
    · have := hwf y (List.mem_of_mem_take hy)
      simpa [Lit.wf, IntKind.has, IntKind.min, IntKind.max, IntKind.signed, IntKind.bits] using this
    · have : (zs.take len).length ≤ zs.length := by simp; omega
      exact Nat.le_trans (Nat.mul_le_mul_right _ this) z

/-- The evaluator's start: nothing of its own; no laid variable is known. -/
theorem WR_start {E : Env} {w : World} (hg : ∀ g, E.glob g = none) : WR E w (fun b => b < w.heap.size) noMap [] where
  dom := fun b n r h => by cases h
  fz := fun b h => h
  live := fun b ver ro cs h => by simp at h
  inj := fun b ver ro cs b' ver' ro' cs' cb sh sh' h => by simp at h
  glob := fun g cells h => by rw [hg] at h; cases h
  top := fun b ver ro cs h => by simp at h

theorem wf_range {n : Int} (h : (Lit.int .i64 n).wf = true) : -9223372036854775808 ≤ n ∧ n ≤ 9223372036854775807 := by
  simpa [Lit.wf, IntKind.has, IntKind.min, IntKind.max, IntKind.signed, IntKind.bits] using h

end Go.Ae

namespace Go.Ae
open Go.ChangeShapes Go.WideElems Go.MapKept Go.ChangeMaps

theorem mem_foldr {H : Type} {y : Lit × DataW H} : ∀ (l : List (Lit × DataW H)), y ∈ l.foldr DataW.insert [] ↔ y ∈ l
  | [] => by simp
  | a :: r => by simp only [List.foldr_cons, mem_insert_iff, mem_foldr r, List.mem_cons]

theorem key_int {P : Program} {k : TypeId} (hk : P.underlying k = some (.int .i64)) {v : Value} {l : Lit} (h : keyOf P k v = some l) : ∃ n, v = .int .i64 n ∧ l = .int .i64 n := by
  unfold keyOf mapKey at h
  rw [hk] at h
  simp only at h
  split at h
  · rename_i h1 h2; cases h2
  · rename_i q q' n h1
    obtain rfl : IntKind.i64 = q := by injection h1 with h1; injection h1 with h1
    split at h
    · rename_i h3
      injection h with h
      exact ⟨n, by rw [h3.1], h.symm⟩
    · cases h
  · rename_i h1 h2; cases h2
  · cases h

/-- A value that reads as a struct of one function, of this name. -/
theorem fn_val {P : Program} {w : World} {base : Nat} {sp : Nat → Bool} {n : Nat} {e tf : TypeId} {nm tg pk : String} {em : Bool} {bo : Nat} {a b : Array TypeId} {vd : Bool} {v : Value} {c : UInt8} {r : List UInt8} {y : DataW (List UInt8) × List MemPlace}
    (he : P.underlying e = some (.struct #[⟨nm, tf, 0, em, tg, pk, bo⟩])) (hf : P.underlying tf = some (.func a b vd)) (hc : P.cellsOf e = 1) (hcf : P.cellsOf tf = 1)
    (h : elemAt (funcToken P) P w base sp true n e v = some y) (hy : y.1 = .agg [.held (c :: r)]) : ∃ f fn, v = .agg #[.func (.func f) #[] #[]] ∧ P.funcs[f]? = some fn ∧ P.funcNamed fn.name = some f ∧ fn.name.toUTF8.data.toList = c :: r := by
  unfold elemAt at h
  split at h
  · rename_i hfm
    obtain ⟨y0, m, hy1, hl, h0⟩ := trod_struct1 he h
    rw [hy1] at hy
    simp only [DataW.agg.injEq, List.cons.injEq, and_true] at hy
    have hv : ∃ arr, v = .agg arr := by
      unfold Value.formed at hfm
      cases v <;> simp only [he] at hfm <;> first | exact ⟨_, rfl⟩ | cases hfm
    obtain ⟨arr, rfl⟩ := hv
    simp only [Value.cells] at hl h0
    rw [hc] at hl
    obtain ⟨l⟩ := arr
    match l, hl with
    | [x], _ =>
      simp only [List.drop_zero, hcf, List.take_succ_cons, List.take_zero] at h0
      cases m with
      | zero => simp [DataW.trod] at h0
      | succ m =>
        cases x <;> simp only [DataW.trod, hf] at h0
        all_goals (try cases h0)
        all_goals (try (simp at hy; done))
        simp only [DataW.held.injEq] at hy
        obtain ⟨f, fn, h1, h2, h3, h4⟩ := funcToken_tells hy
        exact ⟨f, fn, by rw [h1], h2, h3, h4⟩
  · cases h

/-- A laid map of functions by number. -/
theorem open_fmap {P : Program} {w : World} {F : Nat → Prop} {μ : Nat → Nat → Option (Nat × Nat)} {base : Nat} {sp : Nat → Bool} {fuel : Nat} {t k e tf : TypeId} {nm tg pk : String} {em : Bool} {bo : Nat} {a b : Array TypeId} {vd : Bool} {cs : List Value} {p : List MemPlace}
    (ht : P.underlying t = some (.map k e)) (hk : P.underlying k = some (.int .i64)) (he : P.underlying e = some (.struct #[⟨nm, tf, 0, em, tg, pk, bo⟩])) (hf : P.underlying tf = some (.func a b vd)) (hc : P.cellsOf e = 1) (hcf : P.cellsOf tf = 1)
    (L : List (Int × Nat × List UInt8)) (hL : (L.map (·.1)).Nodup) (hw : ∀ x ∈ L, (Lit.int .i64 x.1).wf = true) (hn : ∀ x ∈ L, x.2.2 ≠ [] ∧ ∀ (f : FuncId) (fn : Func), P.funcNamed fn.name = some f → fn.name.toUTF8.data.toList = x.2.2 → f = x.2.1)
    (h : DataW.trod (funcToken P) P w base sp true fuel t cs = some (.map (L.map fun x => (.int .i64 x.1, .agg [.held x.2.2])), p)) (hF : ∀ r, r < w.heap.size → F r) :
    ∃ r, cs = [.map (some r)] ∧ VR w F μ (.im (L.map (·.1)) (L.map fun x => .agg [.fn x.2.1 [] []])) (.map (some r)) := by
  rcases open_map ht h with ⟨_, hx⟩ | ⟨r, es, clock, n, rfl, hcs, hb, _, hfit, hx⟩
  · simp at hx
  refine ⟨r, hcs, ?_⟩
  simp only [Prod.mk.injEq, DataW.map.injEq] at hx
  obtain ⟨hx, _⟩ := hx
  have hrg : ∀ x ∈ es.toList, ∃ q ∈ L, x.key = .int .i64 q.1 ∧ x.val = .agg #[.func (.func q.2.1) #[] #[]] := by
    intro x hxe
    obtain ⟨y, hy⟩ := hfit.reads x hxe
    have h1 : rg P k (elemAt (funcToken P) P w base sp true n e) x ∈ (es.toList.map (rg P k (elemAt (funcToken P) P w base sp true n e))).foldr DataW.insert [] := (mem_foldr _).2 (List.mem_map.2 ⟨x, hxe, rfl⟩)
    rw [← hx, rg_of hy] at h1
    obtain ⟨q, hq, hq2⟩ := List.mem_map.1 h1
    obtain ⟨m, hm1, hm2⟩ := key_int hk (rd_key hy)
    obtain ⟨z, hz1, hz2⟩ := rd_val hy
    rw [← hq2] at hm2 hz2
    simp only [Lit.int.injEq, true_and] at hm2
    obtain ⟨hn1, hn2⟩ := hn q hq
    cases hqs : q.2.2 with
    | nil => exact absurd hqs hn1
    | cons c s =>
      obtain ⟨f, fn, g1, g2, g3, g4⟩ := fn_val he hf hc hcf hz1 (by rw [← hz2, hqs])
      have := hn2 f fn g3 (by rw [g4, hqs])
      subst this
      exact ⟨q, hq, by rw [hm1, hm2], g1⟩
  have hkey : ∀ x ∈ es.toList, IsKey (.int .i64) x.key := fun x hxe => by
    obtain ⟨q, _, hq, _⟩ := hrg x hxe
    rw [hq]; rfl
  have hall : ∀ q ∈ L, ∃ x ∈ es.toList, x.key = .int .i64 q.1 := by
    intro q hq
    have h1 : ((.int .i64 q.1, .agg [.held q.2.2]) : Lit × DataW (List UInt8)) ∈ (es.toList.map (rg P k (elemAt (funcToken P) P w base sp true n e))).foldr DataW.insert [] := by
      rw [← hx]; exact List.mem_map.2 ⟨q, hq, rfl⟩
    obtain ⟨x, hxe, hx2⟩ := List.mem_map.1 ((mem_foldr _).1 h1)
    obtain ⟨y, hy⟩ := hfit.reads x hxe
    rw [rg_of hy] at hx2
    obtain ⟨m, hm1, hm2⟩ := key_int hk (rd_key hy)
    rw [hx2] at hm2
    simp only [Lit.int.injEq, true_and] at hm2
    exact ⟨x, hxe, by rw [hm1, hm2]⟩
  have hidx : ∀ (l : List (Int × Nat × List UInt8)) (m : Int) (i : Nat), idxI (l.map (·.1)) m = some i → ∃ q, l[i]? = some q ∧ q.1 = m := by
    intro l
    induction l with
    | nil => intro m i h; cases h
    | cons a l ih =>
      intro m i h
      simp only [List.map_cons, idxI] at h
      split at h
      · rename_i h1
        injection h with h
        subst h
        exact ⟨a, rfl, h1⟩
      · cases h2 : idxI (l.map (·.1)) m with
        | none => rw [h2] at h; cases h
        | some j =>
          rw [h2] at h
          injection h with h
          subst h
          obtain ⟨q, hq, hq2⟩ := ih m j h2
          exact ⟨q, by simpa using hq, hq2⟩
  have hidn : ∀ (l : List (Int × Nat × List UInt8)) (m : Int), idxI (l.map (·.1)) m = none → ∀ q ∈ l, q.1 ≠ m := by
    intro l
    induction l with
    | nil => intro m h q hq; cases hq
    | cons a l ih =>
      intro m h q hq
      simp only [List.map_cons, idxI] at h
      split at h
      · cases h
      · rename_i h1
        cases h2 : idxI (l.map (·.1)) m with
        | some j => rw [h2] at h; cases h
        | none =>
          rcases List.mem_cons.1 hq with rfl | hq
          · exact h1
          · exact ih m h2 q hq
  have huniq : ∀ q ∈ L, ∀ q' ∈ L, q.1 = q'.1 → q = q' := by
    intro q hq q' hq' he
    obtain ⟨i, hi, hi2⟩ := List.getElem_of_mem hq
    obtain ⟨j, hj, hj2⟩ := List.getElem_of_mem hq'
    have h1 : (L.map (·.1))[i]'(by simpa using hi) = (L.map (·.1))[j]'(by simpa using hj) := by simp [hi2, hj2, he]
    have := (List.getElem_inj hL).1 h1
    subst this
    rw [← hi2, ← hj2]
  refine .im _ _ r es clock (fun i => match L[i]? with
    | some q => .agg #[.func (.func q.2.1) #[] #[]]
    | none => undef) (hF r (by
      by_cases h1 : r < w.heap.size
      · exact h1
      · rw [Array.getElem?_eq_none (by omega)] at hb; cases hb)) hb ?_ ?_ ?_
  · intro m i hm
    obtain ⟨q, hq, hq2⟩ := hidx L m i hm
    have hqL := List.mem_of_getElem? hq
    rcases findNow_spec (d := .int .i64) (k := .int .i64 m) rfl es.toList 0 hkey with ⟨h1, h2⟩ | ⟨j, x, h1, h2, h3⟩
    · obtain ⟨x, hxe, hxk⟩ := hall q hqL
      exact absurd (by rw [hxk, hq2]) (h2 x hxe)
    · obtain ⟨q', hq', hk', hv'⟩ := hrg x (List.mem_of_getElem? h2)
      rw [h3] at hk'
      simp only [Value.int.injEq, true_and] at hk'
      have := huniq q hqL q' hq' (by rw [hq2, hk'])
      subst this
      exact ⟨0 + j, by rw [h1, hv']; simp only [hq]⟩
  · intro m hm
    rcases findNow_spec (d := .int .i64) (k := .int .i64 m) rfl es.toList 0 hkey with ⟨h1, _⟩ | ⟨j, x, h1, h2, h3⟩
    · exact h1
    · obtain ⟨q', hq', hk', _⟩ := hrg x (List.mem_of_getElem? h2)
      rw [h3] at hk'
      simp only [Value.int.injEq, true_and] at hk'
      exact absurd hk'.symm (hidn L m hm q' hq')
  · intro i v hv
    rw [List.getElem?_map] at hv
    cases hq : L[i]? with
    | none => rw [hq] at hv; cases hv
    | some q =>
      rw [hq] at hv
      simp only [Option.map_some, Option.some.injEq] at hv
      subst hv
      refine .agg _ _ rfl fun j x hj => ?_
      cases j with
      | zero =>
        simp only [List.getElem?_cons_zero, Option.some.injEq] at hj
        subst hj
        exact .fn _ _ _ _ _ rfl rfl (fun i x h => by simp at h) (fun i x h => by simp at h)
      | succ j => simp at hj
end Go.Ae

namespace Go.Ae
open Go.Lib

theorem laid_of {P : Program} {w : World} {n : String} {d : DataW Unit} : ∀ {l : List (String × DataW Unit)} {ps : List MemPlace}, DataW.LaidVars P w l ps → (n, d) ∈ l →
    ∃ g t cs fuel p, P.globalNamed n = some g ∧ (P.globals[g]?).map (·.type) = some t ∧ w.var? P n = some cs ∧ DataW.trod (fun _ => ()) P w 0 (fun _ => true) false fuel t cs.toList = some (d, p)
  | [], _, _, h => by cases h
  | (n', d') :: r, ps, h, hm => by
    obtain ⟨g, t, cs, fuel, p, q, h1, h2, h3, h4, h5, _⟩ := h
    rcases List.mem_cons.1 hm with hq | hq
    · cases hq
      exact ⟨g, t, cs, fuel, p, h1, h2, h3, h4⟩
    · exact laid_of h5 hq

/-- What the condition gives of a listed variable that is plain data. -/
theorem laidH_data {P : Program} {l : List (String × DataW Unit)} {w : World} (h : laidMetH P l w) {n : String} {d : DataW Unit} (hx : (n, d) ∈ l) (hd : d.handleName?.isNone = true) :
    ∃ g t cs fuel p, P.globalNamed n = some g ∧ (P.globals[g]?).map (·.type) = some t ∧ w.var? P n = some cs ∧ DataW.trod (fun _ => ()) P w 0 (fun _ => true) false fuel t cs.toList = some (d, p) := by
  unfold laidMetH at h
  split at h
  · obtain ⟨ps, h1, _⟩ := h
    exact laid_of h1 hx
  · obtain ⟨⟨ps, h1, _⟩, _⟩ := h
    exact laid_of h1 (List.mem_filter.2 ⟨hx, hd⟩)

theorem VR_glob {P : Program} {w : World} {μ : Nat → Nat → Option (Nat × Nat)} {name : String} {g : Nat} {cs : Array Value} {cells : List V} (hg : P.globalNamed name = some g) (hv : w.var? P name = some cs)
    (h : VRs w (fun b => b < w.heap.size) μ cells cs.toList) : VR w (fun b => b < w.heap.size) μ (.rp cells) (.pointer (some ⟨g, 0, none⟩)) := by
  have hgl : g < w.heap.size := by
    unfold World.var? at hv
    rw [hg] at hv
    simp only [Option.bind_some] at hv
    by_cases hq : g < w.heap.size
    · exact hq
    · rw [Array.getElem?_eq_none (by omega)] at hv; cases hv
  refine .rp cells g 0 (fun j => cs.getD j undef) (fun j c hj => ⟨hgl, ?_⟩) (fun j c hj => ?_)
  · obtain ⟨y, hy, _⟩ := h.2 j c hj
    have h1 : cs[j]? = some y := by simpa using hy
    rw [Nat.zero_add, World.var?_cell hg hv j, h1]
    simp [Array.getD_eq_getD_getElem?, h1]
  · obtain ⟨y, hy, hr⟩ := h.2 j c hj
    have h1 : cs[j]? = some y := by simpa using hy
    simpa [Array.getD_eq_getD_getElem?, h1] using hr

theorem VRs_of {w : World} {F : Nat → Prop} {μ : Nat → Nat → Option (Nat × Nat)} {α : Type} {a : α → V} {b : α → Value} (h : ∀ x, VR w F μ (a x) (b x)) : ∀ l : List α, VRs w F μ (l.map a) (l.map b)
  | [] => .nil
  | x :: r => .cons (h x) (VRs_of h r)

/-- An array of texts. -/
theorem cells_of_strs {H : Type} {enc : TypeId × Value → H} {P : Program} {w : World} {base : Nat} {sp : Nat → Bool} {held : Bool} {fuel : Nat} {t e : TypeId} {n : Nat} {cs : List Value} {zs : List (List UInt8)} {p : List MemPlace}
    (ht : P.underlying t = some (.array n e)) (he : P.underlying e = some .string) (hce : P.cellsOf e = 1) (hct : P.cellsOf t = n)
    (h : DataW.trod enc P w base sp held fuel t cs = some (.agg (zs.map fun z => .lit (.string z)), p)) : cs = zs.map fun z => Value.string ⟨z.toArray⟩ := by
  cases fuel with
  | zero => simp [DataW.trod] at h
  | succ fuel =>
    simp only [DataW.trod, ht, hce, hct, Nat.mul_one] at h
    split at h
    · rename_i hl
      obtain ⟨xs, hm, hx⟩ := Option.map_eq_some_iff.1 h
      have hxs : xs.map (·.1) = zs.map fun z => (DataW.lit (.string z) : DataW H) := by
        have := congrArg Prod.fst hx
        simpa using this
      have hxl : xs.length = n := by simpa using mapM_length hm
      have hzl : zs.length = n := by
        have := congrArg List.length hxs
        simp at this
        omega
      apply List.ext_getElem?
      intro i
      by_cases hi : i < n
      · obtain ⟨b, hb, hf⟩ := mapM_at hm i i (by simp [hi])
        have hci : (List.take 1 (List.drop i cs)) = [cs[i]'(by omega)] := by
          rw [List.drop_eq_getElem_cons (by omega)]; rfl
        rw [hci] at hf
        have hs : ∃ s, cs[i]'(by omega) = .string s ∧ b.1 = .lit (.string s.data.toList) := by
          generalize cs[i]'(by omega) = c at hf
          cases fuel with
          | zero => simp [DataW.trod] at hf
          | succ m =>
            cases c <;> simp only [DataW.trod, he] at hf
            all_goals (try cases hf)
            rename_i s
            split at hf
            · injection hf with hf
              exact ⟨s, rfl, by rw [← hf]⟩
            · cases hf
        obtain ⟨s, hs1, hs2⟩ := hs
        have h2 : (xs.map (·.1))[i]? = some (DataW.lit (.string s.data.toList) : DataW H) := by simp [hb, hs2]
        rw [hxs] at h2
        simp only [List.getElem?_map, Option.map_eq_some_iff, DataW.lit.injEq, Lit.string.injEq] at h2
        obtain ⟨z', hz', hz2⟩ := h2
        rw [List.getElem?_eq_getElem (by omega), hs1, List.getElem?_map, hz', hz2]
        simp
      · rw [List.getElem?_eq_none (by omega), List.getElem?_eq_none (by simp; omega)]
    · cases h

/-- The evaluator's start, with laid variables. -/
theorem WR_start2 {E : Env} {w : World} (hg : ∀ g cells, E.glob g = some cells → VR w (fun b => b < w.heap.size) (fun _ _ => none) (.rp cells) (.pointer (some ⟨g, 0, none⟩))) : WR E w (fun b => b < w.heap.size) noMap [] where
  dom := fun b n r h => by cases h
  fz := fun b h => h
  live := fun b ver ro cs h => by simp at h
  inj := fun b ver ro cs b' ver' ro' cs' cb sh sh' h => by simp at h
  glob := hg
  top := fun b ver ro cs h => by simp at h
end Go.Ae
