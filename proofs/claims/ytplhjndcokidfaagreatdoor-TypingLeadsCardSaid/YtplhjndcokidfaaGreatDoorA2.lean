/-
  New blocks, blocks written: how the relations go on.
-/
import Derived.Test.YtplhjndcokidfaaGreatDoorA1
import Derived.Laws.Append
import Derived.LoopN
set_option linter.unusedVariables false
set_option linter.unusedSimpArgs false
namespace Go.Ae

variable {E : Env} {w : World} {F : Nat → Prop} {μ : Nat → Nat → Option (Nat × Nat)} {H : Heap}

def upd (μ : Nat → Nat → Option (Nat × Nat)) (b ver : Nat) (r : Nat × Nat) : Nat → Nat → Option (Nat × Nat) := fun b' v' => if b' = b ∧ v' = ver then some r else μ b' v'

theorem upd_at (b ver : Nat) (r : Nat × Nat) : upd μ b ver r b ver = some r := by simp [upd]

theorem upd_ne {b ver b' v' : Nat} {r : Nat × Nat} (h : ¬ (b' = b ∧ v' = ver)) : upd μ b ver r b' v' = μ b' v' := by simp only [upd, if_neg h]

theorem upd_le {b ver : Nat} {r : Nat × Nat} (h : μ b ver = none ∨ μ b ver = some r) : ∀ b' n s, μ b' n = some s → upd μ b ver r b' n = some s := by
  intro b' n s hs
  unfold upd
  split
  · rename_i hq
    obtain ⟨rfl, rfl⟩ := hq
    rcases h with h | h
    · rw [h] at hs; cases hs
    · rw [h] at hs; exact hs
  · exact hs

/-- The world has new blocks, and nothing else has turned. -/
structure Ext (w w1 : World) : Prop where
  os : w1.os = w.os
  tape : w1.tape = w.tape
  output : w1.output = w.output
  size : w.heap.size ≤ w1.heap.size
  blk : ∀ k, k < w.heap.size → w1.heap[k]? = w.heap[k]?

theorem shape_of_blk {w w1 : World} {k : Nat} (h : w1.heap[k]? = w.heap[k]?) : w1.shape? k = w.shape? k := by
  unfold World.shape?; rw [h]

theorem shape_lt {w : World} {cb : Nat} {e : TypeId} {n : Nat} (h : w.shape? cb = some (e, n)) : cb < w.heap.size := by
  unfold World.shape? at h
  split at h
  · rename_i hq; exact (Array.getElem?_eq_some_iff.1 hq).1
  · cases h

theorem Ext.keep {w1 : World} (h : Ext w w1) : Keep w F μ H w1 F μ H where
  os := h.os
  tape := h.tape
  output := h.output
  size := h.size
  fz := fun _ h => h
  map := fun _ _ _ h => h
  blk := fun cb hc _ => h.blk cb hc
  shape := fun cb e n hs => by rw [shape_of_blk (h.blk cb (shape_lt hs))]; exact hs
  len := Nat.le_refl _
  own := fun _ _ h => h
  frz := fun _ _ h => .inl h
  dead := Dead.refl _ _

theorem Ext.wr {w1 : World} (h : Ext w w1) (hw : WR E w F μ H) : WR E w1 F μ H := by
  have hk : Keep w F μ H w1 F μ H := h.keep
  refine ⟨hw.dom, fun b hb => Nat.lt_of_lt_of_le (hw.fz b hb) h.size, fun b ver ro cs hb => ?_, hw.inj, fun g cells hg => hk.vrm hw (hw.glob g cells hg), hw.top⟩
  obtain ⟨cb, sh, arr, e, fr, h1, h2, h3, h4, h5, h6⟩ := hw.live b ver ro cs hb
  have hlt : cb < w.heap.size := (Array.getElem?_eq_some_iff.1 h2).1
  exact ⟨cb, sh, arr, e, fr, h1, by rw [h.blk cb hlt]; exact h2, h3, h4, h5, fun j c hc => ⟨hk.vr hw (h6 j c hc).1, (h6 j c hc).2⟩⟩

theorem Ext.refl (w : World) : Ext w w := ⟨rfl, rfl, rfl, Nat.le_refl _, fun _ _ => rfl⟩

theorem Ext.trans {w w1 w2 : World} (a : Ext w w1) (b : Ext w1 w2) : Ext w w2 :=
  ⟨b.os.trans a.os, b.tape.trans a.tape, b.output.trans a.output, Nat.le_trans a.size b.size, fun k hk => (b.blk k (Nat.lt_of_lt_of_le hk a.size)).trans (a.blk k hk)⟩

theorem Ext.push (w : World) (o : Obj) : Ext w { w with heap := w.heap.push o } :=
  ⟨rfl, rfl, rfl, by simp, fun k hk => by simp [Array.getElem?_push, Nat.ne_of_lt hk]⟩

theorem Ext.drew (w : World) (n : Nat) : Ext w { w with drawn := n } := ⟨rfl, rfl, rfl, Nat.le_refl _, fun _ _ => rfl⟩

theorem WR.mapLe (_hw : WR E w F μ H) {μ' : Nat → Nat → Option (Nat × Nat)} (hle : ∀ b n s, μ b n = some s → μ' b n = some s) {v : V} {cv : Value} (h : VR w F μ v cv) : VR w F μ' v cv :=
  h.mono (fun _ hb => ⟨hb, rfl⟩) hle (fun _ _ _ h => h)

/-- A block of the machine's becomes block b of the heap, in version ver. -/
theorem WR.put (hw : WR E w F μ H) {H' : Heap} {b ver : Nat} {cells : List V} {cb sh : Nat} {arr : Array Value} {e : TypeId} {fr : Nat × Nat}
    (hlen : H.length ≤ H'.length) (hb : b < H'.length)
    (hH : ∀ (i : Nat) (blk : Blk), H'[i]? = some (some blk) → (i = b ∧ blk = (ver, false, cells)) ∨ (i ≠ b ∧ H[i]? = some (some blk)))
    (hμ : μ b ver = none ∨ μ b ver = some (cb, sh)) (htop : ∀ v, ver < v → μ b v = none)
    (hc : w.heap[cb]? = some (.cells arr e fr)) (hF : ¬ F cb) (hfr : ∀ j, j < arr.size → ¬ (fr.1 ≤ j ∧ j < fr.2)) (hsz : sh + cells.length ≤ arr.size)
    (hv : ∀ (j : Nat) (c : V), cells[j]? = some c → VR w F μ c (arr.getD (sh + j) undef) ∧ c.one = true)
    (hnew : ∀ (i ver' : Nat) (ro : Bool) (cs' : List V) (sh' : Nat), i ≠ b → H[i]? = some (some (ver', ro, cs')) → μ i ver' ≠ some (cb, sh')) :
    WR E w F (upd μ b ver (cb, sh)) H' := by
  have hle := upd_le (r := (cb, sh)) hμ
  refine ⟨fun b' n r h => ?_, hw.fz, fun i v' ro cs hi => ?_, fun i v1 ro1 cs1 i' v2 ro2 cs2 c s s' h1 h2 h3 h4 => ?_, hw.glob, fun i v' ro cs hi v'' hlt => ?_⟩
  · by_cases hq : b' = b ∧ n = ver
    · rw [hq.1]; exact hb
    · rw [upd_ne hq] at h
      exact Nat.lt_of_lt_of_le (hw.dom b' n r h) hlen
  · rcases hH i _ hi with ⟨rfl, hq⟩ | ⟨hne, hq⟩
    · injection hq with q1 hq; injection hq with q2 q3
      subst q1; subst q2; subst q3
      exact ⟨cb, sh, arr, e, fr, upd_at _ _ _, hc, hF, hfr, hsz, fun j c hj => ⟨hw.mapLe hle (hv j c hj).1, (hv j c hj).2⟩⟩
    · obtain ⟨cb', sh', arr', e', fr', h1, h2, h3, h4, h5, h6⟩ := hw.live i v' ro cs hq
      exact ⟨cb', sh', arr', e', fr', hle _ _ _ h1, h2, h3, h4, h5, fun j c hj => ⟨hw.mapLe hle (h6 j c hj).1, (h6 j c hj).2⟩⟩
  · rcases hH i _ h1 with ⟨rfl, q1⟩ | ⟨n1, q1⟩ <;> rcases hH i' _ h2 with ⟨rfl, q2⟩ | ⟨n2, q2⟩
    · rfl
    · injection q1 with q1 _; subst q1
      rw [upd_at] at h3; injection h3 with h3; injection h3 with h3 _; subst h3
      rw [upd_ne (fun q => n2 q.1)] at h4
      exact absurd h4 (hnew i' _ _ _ _ n2 q2)
    · injection q2 with q2 _; subst q2
      rw [upd_at] at h4; injection h4 with h4; injection h4 with h4 _; subst h4
      rw [upd_ne (fun q => n1 q.1)] at h3
      exact absurd h3 (hnew i _ _ _ _ n1 q1)
    · rw [upd_ne (fun q => n1 q.1)] at h3
      rw [upd_ne (fun q => n2 q.1)] at h4
      exact hw.inj i v1 ro1 cs1 i' v2 ro2 cs2 c s s' q1 q2 h3 h4
  · rcases hH i _ hi with ⟨rfl, hq⟩ | ⟨hne, hq⟩
    · injection hq with q1 _; subst q1
      rw [upd_ne (fun q => by omega)]
      exact htop _ hlt
    · rw [upd_ne (fun q => hne q.1)]
      exact hw.top i v' ro cs hq v'' hlt

/-- Fewer blocks. -/
theorem WR.less (hw : WR E w F μ H) {H' : Heap} (hlen : H.length ≤ H'.length) (hH : ∀ (i : Nat) (blk : Blk), H'[i]? = some (some blk) → H[i]? = some (some blk)) : WR E w F μ H' :=
  ⟨fun b n r h => Nat.lt_of_lt_of_le (hw.dom b n r h) hlen, hw.fz, fun b ver ro cs hb => hw.live b ver ro cs (hH _ _ hb),
    fun b v r c b' v' r' c' x s s' h1 h2 => hw.inj b v r c b' v' r' c' x s s' (hH _ _ h1) (hH _ _ h2), hw.glob, fun b ver ro cs hb => hw.top b ver ro cs (hH _ _ hb)⟩

/-- More blocks are immutable: such as no block of the heap is. -/
theorem WR.freeze (hw : WR E w F μ H) {F' : Nat → Prop} (hF : ∀ b, F b → F' b) (hlt : ∀ b, F' b → b < w.heap.size)
    (hn : ∀ (b ver : Nat) (ro : Bool) (cs : List V) (cb sh : Nat), H[b]? = some (some (ver, ro, cs)) → μ b ver = some (cb, sh) → F' cb → F cb) : WR E w F' μ H := by
  have m : ∀ {ν : Nat → Nat → Option (Nat × Nat)} {v : V} {cv : Value}, VR w F ν v cv → VR w F' ν v cv := fun h => h.mono (fun b hb => ⟨hF b hb, rfl⟩) (fun _ _ _ h => h) (fun _ _ _ h => h)
  refine ⟨hw.dom, hlt, fun b ver ro cs hb => ?_, hw.inj, fun g cells hg => m (hw.glob g cells hg), hw.top⟩
  obtain ⟨cb, sh, arr, e, fr, h1, h2, h3, h4, h5, h6⟩ := hw.live b ver ro cs hb
  exact ⟨cb, sh, arr, e, fr, h1, h2, fun q => h3 (hn b ver ro cs cb sh hb h1 q), h4, h5, fun j c hc => ⟨m (h6 j c hc).1, (h6 j c hc).2⟩⟩

theorem getElem_append_new {i : Nat} {x : Option Blk} {blk : Blk} (h : (H ++ [x])[i]? = some (some blk)) : (i = H.length ∧ x = some blk) ∨ (i ≠ H.length ∧ H[i]? = some (some blk)) := by
  rw [List.getElem?_append] at h
  split at h
  · exact .inr ⟨by omega, h⟩
  · rename_i hi
    by_cases hq : i = H.length
    · subst hq; simp at h; exact .inl ⟨rfl, h⟩
    · rw [List.getElem?_eq_none (by simp; omega)] at h; cases h

/-- A new block of the machine's, a new block of the heap. -/
theorem WR.fresh (hw : WR E w F μ H) {ver : Nat} {cells : List V} {w1 : World} (hx : Ext w w1) {cb : Nat} {arr : Array Value} {e : TypeId} {fr : Nat × Nat}
    (hc : w1.heap[cb]? = some (.cells arr e fr)) (hcb : w.heap.size ≤ cb) (hfr : ∀ j, j < arr.size → ¬ (fr.1 ≤ j ∧ j < fr.2)) (hsz : cells.length ≤ arr.size)
    (hv : ∀ (j : Nat) (c : V), cells[j]? = some c → VR w F μ c (arr.getD j undef) ∧ c.one = true) :
    WR E w1 F (upd μ H.length ver (cb, 0)) (H ++ [newBlk ver cells]) ∧ Keep w F μ H w1 F (upd μ H.length ver (cb, 0)) (H ++ [newBlk ver cells]) := by
  have hw1 := hx.wr hw
  have hk : Keep w F μ H w1 F μ H := hx.keep
  have hno : ∀ v, μ H.length v = none := fun v => by
    cases hq : μ H.length v with
    | none => rfl
    | some r => exact absurd (hw.dom _ _ _ hq) (Nat.lt_irrefl _)
  have hF : ¬ F cb := fun q => Nat.lt_irrefl _ (Nat.lt_of_lt_of_le (hw.fz cb q) hcb)
  have hnew : ∀ (i ver' : Nat) (ro : Bool) (cs' : List V) (sh' : Nat), H[i]? = some (some (ver', ro, cs')) → μ i ver' ≠ some (cb, sh') := fun i ver' ro cs' sh' h1 h2 => by
    obtain ⟨cb', sh'', arr', e', fr', g1, g2, _⟩ := hw.live i ver' ro cs' h1
    rw [h2] at g1; injection g1 with g1; injection g1 with g1 _; subst g1
    exact Nat.lt_irrefl _ (Nat.lt_of_lt_of_le (Array.getElem?_eq_some_iff.1 g2).1 hcb)
  refine ⟨hw1.put (by simp) (by simp) (fun i blk hi => ?_) (.inl (hno _)) (fun v _ => hno v) hc hF hfr (by simpa using hsz) (fun j c hj => ?_) (fun i ver' ro cs' sh' _ => hnew i ver' ro cs' sh'), ?_⟩
  · rcases getElem_append_new hi with ⟨q1, q2⟩ | q
    · injection q2 with q2; exact .inl ⟨q1, q2.symm⟩
    · exact .inr q
  · rw [Nat.zero_add]; exact ⟨hk.vr hw (hv j c hj).1, (hv j c hj).2⟩
  · refine ⟨⟨hk.os, hk.tape, hk.output, hk.size, hk.fz, upd_le (.inl (hno _)), hk.blk, hk.shape, by simp, fun c hlt hown => ?_, fun _ _ h => .inl h⟩, fun b hb => ⟨by rw [List.getElem?_append_left (dead_lt hb)]; exact hb, fun v => upd_ne (fun q => by have := dead_lt hb; omega)⟩⟩
    obtain ⟨b, v, cs, sh, h1, h2⟩ := hown
    rcases getElem_append_new h1 with ⟨q1, q2⟩ | ⟨q1, q2⟩
    · subst q1
      injection q2 with q2; injection q2 with q2 _; subst q2
      rw [upd_at] at h2; injection h2 with h2; injection h2 with h2 _; subst h2
      omega
    · rw [upd_ne (fun q => q1 q.1)] at h2
      exact ⟨b, v, cs, sh, q2, h2⟩

end Go.Ae

namespace Go.Ae

variable {E : Env} {P : Program} {w : World} {F : Nat → Prop} {μ : Nat → Nat → Option (Nat × Nat)} {H : Heap}

/-- Block g holds other cells now, and nothing else has turned. -/
structure Put (w w' : World) (g : Nat) (arr : Array Value) (e : TypeId) (fr : Nat × Nat) : Prop where
  os : w'.os = w.os
  tape : w'.tape = w.tape
  output : w'.output = w.output
  size : w'.heap.size = w.heap.size
  at_ : w'.heap[g]? = some (.cells arr e fr)
  blk : ∀ k, k ≠ g → w'.heap[k]? = w.heap[k]?

theorem run_stores {g : Nat} {e : TypeId} {fr : Nat × Nat} : ∀ (vs : List Value) (o i : Nat) (arr : Array Value) (w : World), w.heap[g]? = some (.cells arr e fr) →
    (∀ j, j < arr.size → ¬ (fr.1 ≤ j ∧ j < fr.2)) → o + i + vs.length ≤ arr.size → (∀ v ∈ vs, v.oneCell' = true) →
    ∃ w' arr', (storeCells ⟨g, o, none⟩ vs i).run P w = .ok () w' ∧ Put w w' g arr' e fr ∧ arr'.toList = arr.toList.take (o + i) ++ vs ++ arr.toList.drop (o + i + vs.length)
  | [], o, i, arr, w, hg, _, _, _ => ⟨w, arr, rfl, ⟨rfl, rfl, rfl, rfl, hg, fun _ _ => rfl⟩, by simp⟩
  | v :: r, o, i, arr, w, hg, hfr, hl, h1 => by
    simp only [List.length_cons] at hl
    have hlt : o + i < arr.size := by omega
    have hcell : w.cell? ⟨g, o + i, none⟩ = some arr[o + i] := by simp [World.cell?, hg, hlt]
    have hfz : w.frozen? ⟨g, o + i, none⟩ = false := by
      have := hfr (o + i) hlt
      simp only [World.frozen?, hg]
      simpa using this
    have hst : (store ((⟨g, o, none⟩ : Addr).add i) v).run P w = .ok () (w.setCell ⟨g, o + i, none⟩ v) := by
      rw [add_eq, run_store P w _ v _ (h1 v (by simp)), hcell]
      simp [hfz]
    have hp : Put w (w.setCell ⟨g, o + i, none⟩ v) g (arr.setIfInBounds (o + i) v) e fr := by
      refine ⟨rfl, rfl, rfl, by simp [World.setCell], ?_, fun k hk => ?_⟩
      · simp [World.setCell, Array.getElem?_modify, hg]
      · simp [World.setCell, Array.getElem?_modify, Ne.symm hk]
    obtain ⟨w', arr', h2, h3, h4⟩ := run_stores r o (i + 1) (arr.setIfInBounds (o + i) v) _ hp.at_ (by simpa using hfr) (by simp; omega) (fun u hu => h1 u (by simp [hu]))
    refine ⟨w', arr', ?_, ⟨h3.os.trans hp.os, h3.tape.trans hp.tape, h3.output.trans hp.output, h3.size.trans hp.size, h3.at_, fun k hk => (h3.blk k hk).trans (hp.blk k hk)⟩, ?_⟩
    · simp only [storeCells, Sem.run_bind, hst, Result.andThen_ok, h2]
    · rw [h4]
      simp only [Array.toList_setIfInBounds]
      rw [show o + (i + 1) = (o + i) + 1 by omega, List.take_succ_eq_append_getElem (by simp; omega), List.take_set_of_le (by omega), List.drop_set_of_lt (by omega)]
      simp [Nat.add_assoc, Nat.add_comm 1]

/-- A block of the heap is written: its cells, its version. -/
theorem WR.wrote (hw : WR E w F μ H) {b ver ver' : Nat} {cs cells : List V} {w1 : World} {cb sh : Nat} {arr : Array Value} {e : TypeId} {fr : Nat × Nat}
    (hb : H[b]? = some (some (ver, false, cs))) (hm : μ b ver = some (cb, sh)) (hp : Put w w1 cb arr e fr)
    (hs : w.shape? cb = some (e, arr.size)) (hfr : ∀ j, j < arr.size → ¬ (fr.1 ≤ j ∧ j < fr.2)) (hver : ver ≤ ver') (hsz : sh + cells.length ≤ arr.size)
    (hv : ∀ (j : Nat) (c : V), cells[j]? = some c → VR w F μ c (arr.getD (sh + j) undef) ∧ c.one = true) :
    WR E w1 F (upd μ b ver' (cb, sh)) (setBlk H b ver' cells) ∧ Keep w F μ H w1 F (upd μ b ver' (cb, sh)) (setBlk H b ver' cells) := by
  have hbl : b < H.length := (List.getElem?_eq_some_iff.1 hb).1
  obtain ⟨cb', sh', arr0, e0, fr0, g1, g2, g3, g4, g5, g6⟩ := hw.live b ver false cs hb
  rw [hm] at g1; injection g1 with g1; injection g1 with g1 g1'; subst g1; subst g1'
  have hown : Own H μ cb := ⟨b, ver, cs, sh, hb, hm⟩
  have hmap : μ b ver' = none ∨ μ b ver' = some (cb, sh) := by
    rcases Nat.eq_or_lt_of_le hver with q | q
    · subst q; exact .inr hm
    · exact .inl (hw.top b ver false cs hb ver' q)
  have hle := upd_le (r := (cb, sh)) hmap
  have hnew : ∀ (i v : Nat) (ro : Bool) (cs' : List V) (s' : Nat), i ≠ b → H[i]? = some (some (v, ro, cs')) → μ i v ≠ some (cb, s') := fun i v ro cs' s' hi h1 h2 => hi (hw.inj i v ro cs' b ver false cs cb s' sh h1 hb h2 hm)
  have hk : Keep w F μ H w1 F μ H := by
    refine ⟨⟨hp.os, hp.tape, hp.output, Nat.le_of_eq hp.size.symm, fun _ h => h, fun _ _ _ h => h, fun c _ hno => hp.blk c (fun q => hno (q ▸ hown)), fun c e' n h => ?_, Nat.le_refl _, fun _ _ h => h, fun _ _ h => .inl h⟩, Dead.refl _ _⟩
    by_cases hc : c = cb
    · subst hc
      rw [hs] at h; injection h with h; injection h with h h'; subst h; subst h'
      simp [World.shape?, hp.at_]
    · rw [shape_of_blk (hp.blk c hc)]; exact h
  have hw1 : WR E w1 F μ (H.set b none) := by
    refine ⟨fun i n r h => by simpa using hw.dom i n r h, fun c hc => by rw [hp.size]; exact hw.fz c hc, fun i v ro cs' hi => ?_, fun i v1 r1 c1 i' v2 r2 c2 c s s' h1 h2 => ?_, fun g cl hg => hk.vrm hw (hw.glob g cl hg), fun i v ro cs' hi => ?_⟩
    · have hib : i ≠ b := fun q => by subst q; rw [List.getElem?_set_self hbl] at hi; cases hi
      rw [List.getElem?_set_ne (Ne.symm hib)] at hi
      obtain ⟨c, s, ar, e', fr', q1, q2, q3, q4, q5, q6⟩ := hw.live i v ro cs' hi
      have hc : c ≠ cb := fun q => hnew i v ro cs' s hib hi (by rw [q1, q])
      exact ⟨c, s, ar, e', fr', q1, by rw [hp.blk c hc]; exact q2, q3, q4, q5, fun j c hj => ⟨hk.vr hw (q6 j c hj).1, (q6 j c hj).2⟩⟩
    · have n1 : i ≠ b := fun q => by subst q; rw [List.getElem?_set_self hbl] at h1; cases h1
      have n2 : i' ≠ b := fun q => by subst q; rw [List.getElem?_set_self hbl] at h2; cases h2
      rw [List.getElem?_set_ne (Ne.symm n1)] at h1
      rw [List.getElem?_set_ne (Ne.symm n2)] at h2
      exact hw.inj i v1 r1 c1 i' v2 r2 c2 c s s' h1 h2
    · have n1 : i ≠ b := fun q => by subst q; rw [List.getElem?_set_self hbl] at hi; cases hi
      rw [List.getElem?_set_ne (Ne.symm n1)] at hi
      exact hw.top i v ro cs' hi
  have hH : ∀ (i : Nat) (blk : Blk), (setBlk H b ver' cells)[i]? = some (some blk) → (i = b ∧ blk = (ver', false, cells)) ∨ (i ≠ b ∧ (H.set b none)[i]? = some (some blk)) := fun i blk hi => by
    unfold setBlk at hi
    by_cases hib : i = b
    · subst hib
      rw [List.getElem?_set_self hbl] at hi
      injection hi with hi; injection hi with hi
      exact .inl ⟨rfl, hi.symm⟩
    · rw [List.getElem?_set_ne (Ne.symm hib)] at hi
      exact .inr ⟨hib, by rw [List.getElem?_set_ne (Ne.symm hib)]; exact hi⟩
  refine ⟨hw1.put (by simp [setBlk]) (by simp [setBlk]; exact hbl) hH hmap (fun v hv => hw.top b ver false cs hb v (by omega)) hp.at_ g3 hfr hsz (fun j c hj => ⟨hk.vr hw (hv j c hj).1, (hv j c hj).2⟩) (fun i v ro cs' s' hi h1 => ?_), ?_⟩
  · rw [List.getElem?_set_ne (Ne.symm hi)] at h1
    exact hnew i v ro cs' s' hi h1
  · refine ⟨⟨hk.os, hk.tape, hk.output, hk.size, hk.fz, hle, hk.blk, hk.shape, by simp [setBlk], fun c hlt ho => ?_, fun _ _ h => .inl h⟩, fun b' hb' => ?_⟩
    rotate_left
    · have hne : b' ≠ b := fun q => by subst q; rw [hb] at hb'; cases hb'
      exact ⟨by unfold setBlk; rw [List.getElem?_set_ne (Ne.symm hne)]; exact hb', fun v => upd_ne (fun q => hne q.1)⟩
    obtain ⟨i, v, cs', s, h1, h2⟩ := ho
    rcases hH i _ h1 with ⟨rfl, hq⟩ | ⟨hib, hq⟩
    · injection hq with hq _; subst hq
      rw [upd_at] at h2; injection h2 with h2; injection h2 with h2 _; subst h2
      exact hown
    · rw [List.getElem?_set_ne (Ne.symm hib)] at hq
      rw [upd_ne (fun q => hib q.1)] at h2
      exact ⟨i, v, cs', s, hq, h2⟩

theorem getW_spec {b ver : Nat} {cs : List V} (h : getW H b ver = some cs) : H[b]? = some (some (ver, false, cs)) := by
  unfold getW at h
  split at h
  · rename_i v cs' hb
    split at h
    · rename_i hv; injection h with h; subst h; subst hv; exact hb
    · cases h
  · cases h

theorem getW_get {b ver : Nat} {cs : List V} (h : getW H b ver = some cs) : getBlk H b ver = some cs := by
  have := getW_spec h
  simp [getBlk, this]

theorem spl_get {α : Type} (l vs : List α) (o k : Nat) (h : o + vs.length ≤ l.length) : (l.take o ++ vs ++ l.drop (o + vs.length))[k]? = if k < o then l[k]? else if k < o + vs.length then vs[k - o]? else l[k]? := by
  have ho : (l.take o).length = o := by simp; omega
  split
  · rename_i hk
    rw [List.append_assoc, List.getElem?_append_left (by omega), List.getElem?_take_of_lt hk]
  · split
    · rename_i h1 h2
      rw [List.append_assoc, List.getElem?_append_right (by omega), List.getElem?_append_left (by omega), ho]
    · rename_i h1 h2
      have hlen : (l.take o ++ vs).length = o + vs.length := by simp; omega
      rw [List.getElem?_append_right (by omega), hlen, List.getElem?_drop]
      congr 1
      omega

theorem upd_self {b ver : Nat} {r : Nat × Nat} (h : μ b ver = some r) : upd μ b ver r = μ := by
  funext b' v'
  unfold upd
  split
  · rename_i hq; rw [hq.1, hq.2, h]
  · rfl

/-- A store. -/
theorem store_sound (hw : WR E w F μ H) {t : TypeId} {i : TI} {b ver off : Nat} {cs : List V} {v : V} {pv cv : Value} (hi : tinf P t = some i) (hg : getW H b ver = some cs)
    (hl : v.cells.length = i.size) (h1 : allOne v.cells = true) (hoff : off + i.size ≤ cs.length) (hp : VR w F μ (.mp b ver off) pv) (hv : VR w F μ v cv) :
    ∃ w' F' μ', (Instr.storeAt t pv cv).run P w = .ok () w' ∧ WR E w' F' μ' (setBlk H b ver (splice cs off v.cells)) ∧ Keep w F μ H w' F' μ' (setBlk H b ver (splice cs off v.cells)) := by
  cases hp
  rename_i cb sh hm
  have hb := getW_spec hg
  obtain ⟨cb', sh', arr, e, fr, g1, g2, g3, g4, g5, g6⟩ := hw.live b ver false cs hb
  rw [hm] at g1; injection g1 with g1; injection g1 with g1 g1'; subst g1; subst g1'
  have hc := hv.cells
  have hcl : cv.cells.toList.length = i.size := by rw [hc.1, hl]
  have hone : ∀ u ∈ cv.cells.toList, u.oneCell' = true := fun u hu => by
    obtain ⟨k, hk⟩ := List.mem_iff_getElem?.1 hu
    have hklt : k < v.cells.length := by rw [← hc.1]; exact (List.getElem?_eq_some_iff.1 hk).1
    obtain ⟨y, hy, hr⟩ := hc.2 k v.cells[k] (by simp [hklt])
    rw [hk] at hy; injection hy with hy; subst hy
    exact hr.oneCell (List.all_eq_true.1 h1 _ (List.getElem_mem hklt))
  obtain ⟨w', arr', r1, r2, r3⟩ := run_stores (P := P) cv.cells.toList (sh + off) 0 arr w g2 g4 (by rw [hcl]; omega) hone
  simp only [Nat.add_zero] at r3
  have hsize : arr'.size = arr.size := by
    have := congrArg List.length r3
    simp at this
    have q : cv.cells.size = i.size := by simpa using hcl
    omega
  have hsp : (Go.Ae.splice cs off v.cells).length = cs.length := by
    unfold Go.Ae.splice; simp; omega
  have hrun : (Instr.storeAt t (.pointer (some ⟨cb, sh + off, none⟩)) cv).run P w = .ok () w' := by
    have q : cv.cells.size = i.size := by simpa using hcl
    simp [Instr.storeAt, Instr.sureAddr, storeVar, run_tinf_size hi, q, r1]
  have hres := hw.wrote (cells := Go.Ae.splice cs off v.cells) (w1 := w') (arr := arr') (e := e) (fr := fr) hb hm r2 (by rw [hsize]; simp [World.shape?, g2]) (by rw [hsize]; exact g4) (Nat.le_refl ver) (by rw [hsp, hsize]; exact g5) (fun j c hj => by
    have hjlt : j < cs.length := by rw [← hsp]; exact (List.getElem?_eq_some_iff.1 hj).1
    have hget : arr'.getD (sh + j) undef = (arr'.toList)[sh + j]?.getD undef := by simp [Array.getD_eq_getD_getElem?]
    have hvl : v.cells.length = i.size := hl
    rw [hget, r3, spl_get _ _ _ _ (by rw [hcl]; simp; omega), hcl]
    unfold Go.Ae.splice at hj
    rw [spl_get _ _ _ _ (by omega), hvl] at hj
    by_cases q1 : j < off
    · rw [if_pos q1] at hj
      rw [if_pos (by omega)]
      have := g6 j c hj
      simpa [Array.getD_eq_getD_getElem?] using this
    · rw [if_neg q1] at hj
      rw [if_neg (by omega)]
      by_cases q2 : j < off + i.size
      · rw [if_pos q2] at hj
        rw [if_pos (by omega), show sh + j - (sh + off) = j - off by omega]
        obtain ⟨y, hy, hr⟩ := hc.2 _ c hj
        rw [hy]
        exact ⟨hr, List.all_eq_true.1 h1 _ (List.mem_of_getElem? hj)⟩
      · rw [if_neg q2] at hj
        rw [if_neg (by omega)]
        have := g6 j c hj
        simpa [Array.getD_eq_getD_getElem?] using this)
  rw [upd_self hm] at hres
  exact ⟨w', F, μ, hrun, hres.1, hres.2⟩

end Go.Ae

namespace Go.Ae

variable {E : Env} {P : Program} {w : World} {F : Nat → Prop} {μ : Nat → Nat → Option (Nat × Nat)} {H : Heap}

/-- More immutable blocks: one that is new. -/
theorem newFrz (hw : WR E w F μ H) {w1 : World} (hx : Ext w w1) {cb : Nat} (hc : cb < w1.heap.size) (hcb : w.heap.size ≤ cb) :
    WR E w1 (fun b => F b ∨ b = cb) μ H ∧ Keep w F μ H w1 (fun b => F b ∨ b = cb) μ H := by
  have hw1 := hx.wr hw
  have hk : Keep w F μ H w1 F μ H := hx.keep
  refine ⟨hw1.freeze (fun b h => .inl h) (fun b h => ?_) (fun b ver ro cs cb' sh hb hm hq => ?_), ⟨⟨hk.os, hk.tape, hk.output, hk.size, fun b h => .inl h, hk.map, hk.blk, hk.shape, hk.len, hk.own, fun c hlt h => h.elim .inl (fun q => by omega)⟩, hk.dead⟩⟩
  · rcases h with h | rfl
    · exact hw1.fz b h
    · exact hc
  · rcases hq with hq | rfl
    · exact hq
    · obtain ⟨cb'', sh'', arr, e, fr, g1, g2, _⟩ := hw.live b ver ro cs hb
      rw [hm] at g1; injection g1 with g1; injection g1 with g1 _; subst g1
      exact absurd (Array.getElem?_eq_some_iff.1 g2).1 (Nat.not_lt.2 hcb)

theorem VRa.mono {w' : World} {F' : Nat → Prop} {μ'} {cs : List V} {arr : Array Value} (h : VRa w F μ cs arr) (hm : ∀ v cv, VR w F μ v cv → VR w' F' μ' v cv) : VRa w' F' μ' cs arr :=
  ⟨h.1, fun i x hx => hm _ _ (h.2 i x hx)⟩

/-- A pointer to a block that is immutable. -/
theorem rp_at {cells : List V} {cb : Nat} {arr : Array Value} {e : TypeId} {fr : Nat × Nat} (hc : w.heap[cb]? = some (.cells arr e fr)) (hF : F cb) (hv : VRa w F μ cells arr) :
    VR w F μ (.rp cells) (.pointer (some ⟨cb, 0, none⟩)) := by
  refine .rp cells cb 0 (fun j => arr.getD j undef) (fun j c hj => ⟨hF, ?_⟩) (fun j c hj => hv.2 j c hj)
  have hlt : j < arr.size := by rw [hv.1]; exact (List.getElem?_eq_some_iff.1 hj).1
  simp [World.cell?, hc, Array.getD, hlt]

/-- A slice over a block that is immutable. -/
theorem sl_at {els : List (List V)} {full : Bool} {cb cap sz len : Nat} {arr : Array Value} {e : TypeId} {fr : Nat × Nat} (hc : w.heap[cb]? = some (.cells arr e fr)) (hF : F cb)
    (hlen : els.length = len) (hsz : ∀ (i : Nat) (e : List V), els[i]? = some e → e.length = sz) (hcap : len ≤ cap) (hfull : full = true → cap = len)
    (hv : ∀ (j : Nat) (c : V), els.flatten[j]? = some c → j < arr.size ∧ VR w F μ c (arr.getD j undef)) : VR w F μ (.sl full els) (.slice (some ⟨cb, 0, none⟩) len cap) := by
  have hfl : ∀ (i : Nat) (e : List V) (j : Nat) (c : V), els[i]? = some e → e[j]? = some c → els.flatten[i * sz + j]? = some c := by
    clear hv hlen hcap hfull
    intro i
    induction els generalizing i with
    | nil => intro e j c h; simp at h
    | cons x r ih =>
      intro e j c h1 h2
      have hx : x.length = sz := hsz 0 x rfl
      rw [List.flatten_cons, List.getElem?_append]
      cases i with
      | zero =>
        simp at h1; subst h1
        have hj : j < x.length := (List.getElem?_eq_some_iff.1 h2).1
        rw [if_pos (by omega)]
        simpa using h2
      | succ i =>
        rw [if_neg (by rw [Nat.add_mul]; omega), hx]
        have := ih (fun i e h => hsz (i + 1) e (by simpa using h)) i e j c (by simpa using h1) h2
        rw [show (i + 1) * sz + j - sz = i * sz + j by rw [Nat.add_mul]; omega]
        exact this
  refine .slN full els cb 0 len cap sz (fun i j => arr.getD (i * sz + j) undef) hlen hsz hcap hfull (fun i e j c h1 h2 => ⟨hF, ?_⟩) (fun i e j c h1 h2 => (hv _ _ (hfl i e j c h1 h2)).2)
  have hlt := (hv _ _ (hfl i e j c h1 h2)).1
  simp [World.cell?, hc, Array.getD, hlt]

theorem one_of {cells : List V} (h : allOne cells = true) {j : Nat} {c : V} (hj : cells[j]? = some c) : c.one = true :=
  List.all_eq_true.1 h _ (List.mem_of_getElem? hj)

theorem nofr {n : Nat} : ∀ j, j < n → ¬ (((0, 0) : Nat × Nat).1 ≤ j ∧ j < ((0, 0) : Nat × Nat).2) := fun j _ h => by simp at h

/-- A new variable or row of the running functions' own. -/
theorem newOwn (hw : WR E w F μ H) {ver : Nat} {cells : List V} {arr : Array Value} {e : TypeId} (hv : VRa w F μ cells arr) (h1 : allOne cells = true) :
    WR E { w with heap := w.heap.push (.cells arr e) } F (upd μ H.length ver (w.heap.size, 0)) (H ++ [newBlk ver cells]) ∧
      Keep w F μ H { w with heap := w.heap.push (.cells arr e) } F (upd μ H.length ver (w.heap.size, 0)) (H ++ [newBlk ver cells]) :=
  hw.fresh (Ext.push w _) (cb := w.heap.size) (arr := arr) (e := e) (fr := (0, 0)) (by simp) (Nat.le_refl _) nofr (by rw [hv.1]; exact Nat.le_refl _) (fun j c hj => ⟨hv.2 j c hj, one_of h1 hj⟩)

theorem rep_get (l : List V) : ∀ (n k : Nat), (List.replicate n l).flatten[k]? = if k < n * l.length then l[k % l.length]? else none
  | 0, k => by simp
  | n + 1, k => by
    rw [List.replicate_succ, List.flatten_cons, List.getElem?_append]
    split
    · rename_i hk
      rw [if_pos (by rw [Nat.add_mul]; omega), Nat.mod_eq_of_lt hk]
    · rename_i hk
      rw [rep_get l n (k - l.length)]
      have e : (k - l.length) % l.length = k % l.length := by
        conv => rhs; rw [show k = (k - l.length) + l.length by omega, Nat.add_mod_right]
      rw [e, Nat.add_mul]
      by_cases h : k - l.length < n * l.length
      · rw [if_pos h, if_pos (by omega)]
      · rw [if_neg h, if_neg (by omega)]

theorem rep_length (l : List V) (n : Nat) : (List.replicate n l).flatten.length = n * l.length := by simp [List.length_flatten]

theorem fillV_length {place : Nat → Option (Nat × Nat)} : ∀ {parts : List (Nat × V)} {cells cs : List V}, fillV place cells parts = some cs → cs.length = cells.length
  | [], cells, cs, h => by simp only [fillV, Option.some.injEq] at h; subst h; rfl
  | (i, v) :: r, cells, cs, h => by
    simp only [fillV] at h
    split at h
    · cases h
    · split at h
      · cases h
      · rename_i hc
        rw [fillV_length h]
        unfold Go.Ae.splice
        simp
        omega

/-- Zero cells. -/
theorem zeros_rel {z : List V} {zv : Array Value} (hz : VRa w F μ z zv) (n m : Nat) (hm : m = n * z.length) (hpos : 0 < z.length) :
    VRa w F μ (List.replicate n z).flatten ((Array.range m).map (fun i => zv[i % zv.size]!)) := by
  refine ⟨by simp [List.length_flatten, hm], fun i x hx => ?_⟩
  rw [rep_get] at hx
  split at hx
  · rename_i hi
    have h1 := hz.2 _ _ hx
    have hs := hz.1
    have hlt : i % zv.size < zv.size := Nat.mod_lt _ (by omega)
    have him : i < m := by omega
    rw [← hs] at h1
    simpa [Array.getD, him, hlt, getElem!_pos zv (i % zv.size) hlt] using h1
  · cases hx

theorem range_empty (f : Nat → Value) : (Array.range 0).map f = #[] := by simp

end Go.Ae

namespace Go.Ae

variable {E : Env} {P : Program} {w : World} {F : Nat → Prop} {μ : Nat → Nat → Option (Nat × Nat)} {H : Heap}

theorem run_newRow (e : TypeId) (arr : Array Value) : (newRow e arr).run P w = .ok ⟨w.heap.size, 0, none⟩ { w with heap := w.heap.push (.cells arr e) } := by
  simp [newRow]

/-- The machine's cells of a slice literal. -/
theorem literal_cells {t e : TypeId} {it ie : TI} {len : Nat} {l : List (Nat × V)} {parts : Array (Nat × Value)} {cs : List V} (hu : P.underlying t = some (.slice e)) (hie : tinf P e = some ie)
    (h0 : len * ie.size ≠ 0) (h1 : ¬ len * ie.size > 16777216) (hz : ie.zero.cells.length = ie.size)
    (hf : fillV (fun i => some (i * ie.size, ie.size)) (List.replicate len ie.zero.cells).flatten l = some cs) (hp : VRp w F μ l parts.toList) :
    ∃ arr, (Instr.buildSlice t len parts).run P w = .ok (.slice (some ⟨w.heap.size, 0, none⟩) len len) { w with heap := w.heap.push (.cells arr e) } ∧ VRa w F μ cs arr := by
  obtain ⟨zv, hz1, hz2⟩ := run_zero (w := w) (F := F) (μ := μ) hie
  have hzc : VRa w F μ ie.zero.cells zv.cells := VRa_of_list hz2.cells
  have hpos : 0 < ie.zero.cells.length := by rw [hz]; exact Nat.pos_of_ne_zero (fun q => h0 (by rw [q, Nat.mul_zero]))
  have hrel := zeros_rel hzc len (len * ie.size) (by rw [hz]) hpos
  obtain ⟨arr, h3, h4⟩ := fill_sound hf hrel hp
  refine ⟨arr, ?_, h4⟩
  have hn : ¬ len * ie.size > 2 ^ 24 := by simpa using h1
  simp only [Instr.buildSlice, Sem.run_bind, run_underlying hu, Result.andThen_ok, run_tinf_size hie]
  rw [Sem.run_ite, if_neg hn]
  rw [Sem.run_ite, if_neg h0]
  simp only [Sem.run_bind, hz1, Sem.run_pure, Result.andThen_ok, h3]
  simp [run_newRow]

theorem literal_empty {t e : TypeId} {ie : TI} {parts : Array (Nat × Value)} (hu : P.underlying t = some (.slice e)) (hie : tinf P e = some ie) (hp : parts.toList = []) :
    (Instr.buildSlice t 0 parts).run P w = .ok (.slice (some ⟨w.heap.size, 0, none⟩) 0 0) { w with heap := w.heap.push (.cells #[] e) } := by
  simp [Instr.buildSlice, run_underlying hu, run_tinf_size hie, hp, Instr.fill, run_newRow, Array.range_zero']

theorem wrap_small {n : Int} (h0 : 0 ≤ n) (h : n ≤ 4611686018427387904) : IntKind.i64.wrap n = n := by
  unfold IntKind.wrap IntKind.bits
  simp [IntKind.signed]
  omega

theorem make_run {t e : TypeId} {ie : TI} {l c : Int} {k k' : IntKind} (hu : P.underlying t = some (.slice e)) (hie : tinf P e = some ie) (h0 : 0 ≤ l) (h1 : l ≤ c) (h2 : (ie.bytes : Int) * c ≤ 140737488355328) (h3 : c ≤ 4611686018427387904)
    (hs : 0 < ie.size) (hz : ie.zero.cells.length = ie.size) :
    ∃ arr, (Instr.makeSlice t (.int k l) (.int k' c)).run P w = .ok (.slice (some ⟨w.heap.size, 0, none⟩) l.toNat c.toNat) { w with heap := w.heap.push (.cells arr e) } ∧ arr.size = c.toNat * ie.size ∧
      ∀ n, n ≤ c.toNat → ∀ (j : Nat) (x : V), (List.replicate n ie.zero.cells).flatten[j]? = some x → VR w F μ x (arr.getD j undef) := by
  obtain ⟨info, z, q1, q2, q3, q4, q5, q6⟩ := tinf_spec hie
  obtain ⟨zv, hz1, hz2⟩ := run_zero (w := w) (F := F) (μ := μ) hie
  have hzc : VRa w F μ ie.zero.cells zv.cells := VRa_of_list hz2.cells
  have w1 := wrap_small h0 (by omega : l ≤ 4611686018427387904)
  have w2 := wrap_small (by omega : 0 ≤ c) h3
  have hti : (typeInfo e).run P w = .ok info w := by simp [typeInfo, q1]
  have hrel := zeros_rel hzc c.toNat (c.toNat * ie.size) (by rw [hz]) (by omega)
  refine ⟨(Array.range (c.toNat * ie.size)).map (fun i => zv.cells[i % zv.cells.size]!), ?_, by simp, fun n hn j x hx => ?_⟩
  · have ht : ¬ ((decide (c < 0) || decide ((info.bytes : Int) * c > 2 ^ 48)) = true) := by
      rw [q4]
      simp only [Bool.or_eq_true, decide_eq_true_eq, not_or]
      exact ⟨by omega, by omega⟩
    have hcond : ¬ (((decide (c < 0) || decide ((info.bytes : Int) * c > 2 ^ 48)) || decide (l < 0) || decide (l > c)) = true) := by
      simp only [Bool.or_eq_true, decide_eq_true_eq, not_or] at ht ⊢
      exact ⟨⟨ht, by omega⟩, by omega⟩
    simp only [Instr.makeSlice, Sem.run_bind, run_underlying hu, Result.andThen_ok, asInt, asIntOf, Sem.run_pure, hti, w1, w2]
    rw [Sem.run_ite, if_neg (by simpa using hcond)]
    simp only [Sem.run_bind, Sem.run_pure, Result.andThen_ok, run_askRoom, run_tinf_size hie]
    by_cases hc0 : c.toNat * ie.size = 0
    · rw [Sem.run_ite, if_pos hc0]
      simp [hc0, run_newRow, Array.range_zero']
    · rw [Sem.run_ite, if_neg hc0]
      simp only [Sem.run_bind, hz1, Sem.run_pure, Result.andThen_ok, run_newRow]
  · apply hrel.2
    rw [rep_get] at hx ⊢
    split at hx
    · rename_i hj
      rw [if_pos (Nat.lt_of_lt_of_le hj (Nat.mul_le_mul_right _ hn))]
      exact hx
    · cases hx

/-- The bytes of a string. -/
theorem bytes_run {src dst e : TypeId} {is : TI} {s : List UInt8} (hsrc : tinf P src = some is) (hd : P.underlying dst = some (.slice e)) (he : P.underlying e = some (.int .u8)) :
    ∃ w1 arr cap fr, (convert src dst (.string ⟨s.toArray⟩)).run P w = .ok (.slice (some ⟨w.heap.size, 0, none⟩) s.length cap) w1 ∧ Ext w w1 ∧ w1.heap[w.heap.size]? = some (.cells arr e fr) ∧
      arr.size = cap ∧ s.length ≤ cap ∧ (∀ j, j < arr.size → ¬ (fr.1 ≤ j ∧ j < fr.2)) ∧ ∀ (j : Nat) (c : UInt8), s[j]? = some c → arr.getD j undef = .int .u8 (c.toNat : Int) := by
  have hz : (ByteArray.mk s.toArray).size = s.length := by simp [ByteArray.size]
  have hus := tinf_und hsrc
  let q := Question.appendCap s.length 0 e
  let cap := q.cut (w.tape w.drawn q)
  have hcap : s.length ≤ cap := by simp only [cap, q, Question.cut]; omega
  let arr : Array Value := (s.toArray.map fun b => .int .u8 (b.toNat : Int)) ++ Array.replicate (cap - s.length) (.int .u8 0)
  have hsz : arr.size = cap := by simp [arr]; omega
  refine ⟨{ w with drawn := w.drawn + 1, heap := w.heap.push (.cells arr e (cap, cap + 1)) }, arr, cap, (cap, cap + 1), ?_, ⟨rfl, rfl, rfl, by simp, fun k hk => by simp [Array.getElem?_push, Nat.ne_of_lt hk]⟩, by simp, hsz, hcap, fun j hj => by simp only; omega, fun j c hc => ?_⟩
  · have hrun : (Conv.stringToBytes e ⟨s.toArray⟩).run P w = .ok (.slice (some ⟨w.heap.size, 0, none⟩) s.length cap) { w with drawn := w.drawn + 1, heap := w.heap.push (.cells arr e (cap, cap + 1)) } := by
      simp only [Conv.stringToBytes, Sem.run_bind, run_choose, hz, Question.forced, Bool.false_eq_true, if_false, Result.andThen_ok, run_newRow, markStringish, run_shape]
      have e1 : ({ w with drawn := w.drawn + 1, heap := w.heap.push (.cells arr e) } : World).shape? w.heap.size = some (e, cap) := by
        simp [World.shape?, hsz]
      have e2 : ({ w with drawn := w.drawn + 1, heap := w.heap.push (.cells arr e) } : World).freeze ⟨w.heap.size, cap, none⟩ 1 = { w with drawn := w.drawn + 1, heap := w.heap.push (.cells arr e (cap, cap + 1)) } := by
        simp only [World.freeze, Nat.one_ne_zero, if_false]
        congr 1
        apply Array.ext_getElem?
        intro k
        rw [Array.getElem?_modify]
        by_cases hk : k = w.heap.size
        · subst hk; simp
        · rw [if_neg (fun q => hk q.symm)]
          simp [Array.getElem?_push, hk]
      have e1' := e1
      simp only [arr, cap, q] at e1 e2 ⊢
      rw [e1]
      simp only [Sem.run_bind, run_freeze, Result.andThen_ok, Sem.run_pure]
      rw [e2]
    simp only [convert, Sem.run_bind, run_underlying hus, run_underlying hd, Result.andThen_ok]
    cases hdd : is.desc <;> simp only [Sem.run_bind, run_underlying he, Result.andThen_ok] <;> exact hrun
  · have hj : j < s.length := (List.getElem?_eq_some_iff.1 hc).1
    have hsj : s[j] = c := by simpa [hj] using hc
    simp [arr, Array.getD, Array.getElem_append, hj, hsj]
    omega

end Go.Ae

namespace Go.Ae

variable {E : Env} {P : Program} {w : World} {F : Nat → Prop} {μ : Nat → Nat → Option (Nat × Nat)} {H : Heap}

theorem loadCells_heap {w w' : World} (hh : w'.heap = w.heap) (a : Addr) (cvs : List Value) (h : ∀ (j : Nat) (v : Value), cvs[j]? = some v → w.cell? (a.add j) = some v) (n : Nat) (hn : n = cvs.length) :
    (loadCells a n).run P w' = .ok cvs.toArray w' := by
  subst hn
  refine run_loadCells_list w' a cvs (fun j v hj => ?_)
  have := h j v hj
  unfold World.cell? at this ⊢
  rw [hh]; exact this

/-- The values at a stretch of cells. -/
theorem At.vals {cs : List V} {b off : Nat} (h : At w F μ cs b off) : ∃ cvs : List Value, VRs w F μ cs cvs ∧ ∀ (j : Nat) (v : Value), cvs[j]? = some v → w.cell? (Addr.add ⟨b, off, none⟩ j) = some v := by
  refine ⟨(List.range cs.length).map fun j => (w.cell? ⟨b, off + j, none⟩).getD undef, ⟨by simp, fun j c hj => ?_⟩, fun j v hj => ?_⟩
  · obtain ⟨cv, h1, h2⟩ := h j c hj
    have hlt : j < cs.length := (List.getElem?_eq_some_iff.1 hj).1
    exact ⟨cv, by simp [hlt, h1], h2⟩
  · have hlt : j < cs.length := by simpa using (List.getElem?_eq_some_iff.1 hj).1
    obtain ⟨cv, h1, _⟩ := h j cs[j] (by simp [hlt])
    simp [hlt, h1] at hj
    rw [add_eq, h1, hj]

theorem flatten_len {sz : Nat} : ∀ {els : List (List V)}, (∀ e ∈ els, e.length = sz) → els.flatten.length = els.length * sz
  | [], _ => by simp
  | e :: r, h => by
    rw [List.flatten_cons, List.length_append, h e (by simp), flatten_len (fun x hx => h x (by simp [hx])), List.length_cons, Nat.add_mul]; omega

/-- What append reads of a slice or a string. -/
theorem source_sound (hw : WR E w F μ H) {x : V} {cx : Value} {new : List (List V)} {size : Nat} (h : elemsOf H x = some new) (hr : VR w F μ x cx) (hsz : ∀ e ∈ new, e.length = size) :
    (Builtin.lenOf cx).run P w = .ok new.length w ∧ ∃ arr, VRa w F μ new.flatten arr ∧ ∀ w' : World, w'.heap = w.heap → (Builtin.firstCells size new.length cx).run P w' = .ok arr w' := by
  rcases elems_sound hw h hr with ⟨s, rfl⟩ | ⟨rfl, rfl⟩ | ⟨a, cap, rfl, hx⟩
  · simp only [elemsOf, Option.some.injEq] at h; subst h
    cases hr
    have hz : (ByteArray.mk s.toArray).size = s.length := by simp [ByteArray.size]
    refine ⟨by simp [Builtin.lenOf, hz], (s.map fun c => Value.int .u8 (c.toNat : Int)).toArray, ?_, fun w' _ => ?_⟩
    · rw [flatten_single]
      apply VRa_of_list
      refine ⟨by simp, fun j c hj => ?_⟩
      simp only [List.getElem?_map, Option.map_eq_some_iff] at hj
      obtain ⟨u, hu, rfl⟩ := hj
      exact ⟨.int .u8 (u.toNat : Int), by simp [hu], .int _ _⟩
    · simp only [Builtin.firstCells, List.length_map]
      have : (ByteArray.mk s.toArray).extract 0 s.length = ByteArray.mk s.toArray := by
        apply ByteArray.ext; simp [ByteArray.data_extract]
      rw [this]
      simp
  · exact ⟨rfl, #[], VRa.nil, fun w' _ => rfl⟩
  · refine ⟨rfl, ?_⟩
    by_cases hn : new = []
    · subst hn
      exact ⟨#[], VRa.nil, fun w' _ => by simp [Builtin.firstCells, loadCells, loadCellsFrom]⟩
    · obtain ⟨b, off, rfl, hat⟩ := hx hn
      obtain ⟨cvs, h1, h2⟩ := hat.vals
      refine ⟨cvs.toArray, h1.arr, fun w' hh => ?_⟩
      simp only [Builtin.firstCells]
      exact loadCells_heap hh _ cvs h2 _ (by rw [h1.1, flatten_len hsz])

/-- The type of what is appended is no number (no 'append(l, make(..)...)'). -/
theorem append_realloc {ats : Array TypeId} {ty t e u : TypeId} {ie iu : TI} {base : Option Addr} {sLen sCap n : Nat} {cx : Value} {old new : Array Value}
    (h0 : ats[0]? = some t) (h1 : ats[1]? = some u) (hiu : tinf P u = some iu) (hnu : ∀ k, iu.desc ≠ .int k) (ht : P.underlying t = some (.slice e)) (hie : tinf P e = some ie)
    (hz : ie.zero.cells.length = ie.size) (hlen : (Builtin.lenOf cx).run P w = .ok n w) (hgrow : sCap < sLen + n) (hroom : (sLen + n) * ie.bytes ≤ 140737488355328) (hby : ie.bytes ≠ 0)
    (hold : ∀ w' : World, w'.heap = w.heap → (Builtin.firstCells ie.size sLen (.slice base sLen sCap)).run P w' = .ok old w')
    (hnew : ∀ w' : World, w'.heap = w.heap → (Builtin.firstCells ie.size n cx).run P w' = .ok new w') (hos : old.size = sLen * ie.size) (hns : new.size = n * ie.size) :
    ∃ w1 arr cap, (Builtin.append_ ats ty #[.slice base sLen sCap, cx]).run P w = .ok (.slice (some ⟨w.heap.size, 0, none⟩) (sLen + n) cap) w1 ∧ Ext w w1 ∧ w1.heap[w.heap.size]? = some (.cells arr e (0, 0)) ∧
      sLen + n ≤ cap ∧ arr.size = cap * ie.size ∧ ∀ j, j < (sLen + n) * ie.size → arr.getD j undef = (old ++ new).getD j undef := by
  obtain ⟨info, z, q1, q2, q3, q4, q5, q6⟩ := tinf_spec hie
  have hzs : ∀ w : World, ∃ zv, (zeroValue e).run P w = .ok zv w ∧ zv.cells.size = ie.size := fun w => by
    obtain ⟨zv, r1, r2⟩ := run_zero (w := w) (F := fun _ => False) (μ := fun _ _ => none) hie
    exact ⟨zv, r1, by have := r2.cells.1; simp at this; omega⟩
  have hti : ∀ w : World, (typeInfo e).run P w = .ok info w := fun w => by simp [typeInfo, q1]
  let q := Question.appendCap (sLen + n) sCap e
  let cap := q.cut (w.tape w.drawn q)
  have hcap : sLen + n ≤ cap := by simp only [cap, q, Question.cut]; omega
  let w0 : World := { w with drawn := w.drawn + 1 }
  obtain ⟨zv, z1, z2⟩ := hzs w0
  let rest := Builtin.zeroCells zv.cells (cap - (sLen + n))
  have hrs : rest.size = (cap - (sLen + n)) * ie.size := by simp [rest, Builtin.zeroCells, z2]
  refine ⟨{ w0 with heap := w.heap.push (.cells (old ++ new ++ rest) e) }, old ++ new ++ rest, cap, ?_, ⟨rfl, rfl, rfl, by simp [w0], fun k hk => by simp [w0, Array.getElem?_push, Nat.ne_of_lt hk]⟩, by simp [w0], hcap, ?_, fun j hj => ?_⟩
  · have hbig : ¬ ((((sLen + n : Nat) : Int) > IntKind.i64.max) ∧ (False ∨ info.bytes = 0)) := by
      rw [q4]; rintro ⟨_, h | h⟩
      · exact h
      · exact hby h
    have hfit := growslice_fits hgrow hroom
    have hnz : ((iu.desc matches .int _) : Bool) = false := by
      cases hd : iu.desc <;> first | rfl | exact absurd hd (hnu _)
    simp only [Builtin.append_, h0, h1, List.getElem?_toArray, List.getElem?_cons_zero, List.getElem?_cons_succ, Sem.run_bind, run_underlying ht, Result.andThen_ok, run_tinf_size hie, run_tinf_und hiu, Sem.run_pure, hnz, Bool.false_eq_true, if_false, hlen]
    rw [Sem.run_ite, if_neg (by omega)]
    simp only [Sem.run_bind, hti, Result.andThen_ok]
    rw [Sem.run_ite, if_neg hbig]
    simp only [Sem.run_bind, hti, Result.andThen_ok]
    rw [Sem.run_ite, if_neg (by rw [q4]; omega)]
    have hq : q.forced = false := rfl
    have ho := hold w0 rfl
    have hn' := hnew w0 rfl
    simp only [Sem.run_bind, run_choose, hti, Result.andThen_ok, run_askRoom]
    show ((if q.forced = true then Result.ok 0 w else Result.ok cap w0).andThen _) = _
    rw [hq]
    simp only [Bool.false_eq_true, if_false, Result.andThen_ok, hti, run_askRoom, ho, Bool.not_false, if_true, hn', z1, run_newRow, Sem.run_bind, Sem.run_pure, Sem.run_ite]
    rfl
  · rw [Array.size_append, Array.size_append, hrs, hos, hns, ← Nat.add_mul, ← Nat.add_mul]
    congr 1
    omega
  · have hlt : j < (old ++ new).size := by simp [hos, hns, ← Nat.add_mul]; exact hj
    rw [Array.getD_eq_getD_getElem?, Array.getElem?_append_left hlt, ← Array.getD_eq_getD_getElem?]

end Go.Ae

namespace Go.Ae

variable {E : Env} {P : Program} {w : World} {F : Nat → Prop} {μ : Nat → Nat → Option (Nat × Nat)} {H : Heap}

theorem append_room {ats : Array TypeId} {ty t e u : TypeId} {ie iu : TI} {base : Option Addr} {sLen sCap n : Nat} {cx : Value} {new : Array Value}
    (h0 : ats[0]? = some t) (h1 : ats[1]? = some u) (hiu : tinf P u = some iu) (hnu : ∀ k, iu.desc ≠ .int k) (ht : P.underlying t = some (.slice e)) (hie : tinf P e = some ie)
    (hlen : (Builtin.lenOf cx).run P w = .ok n w) (hgrow : sLen + n ≤ sCap)
    (hnew : (Builtin.firstCells ie.size n cx).run P w = .ok new w) :
    (Builtin.append_ ats ty #[.slice base sLen sCap, cx]).run P w = ((match base with
      | some a => storeCells (a.add (sLen * ie.size)) new.toList
      | none => Pure.pure ()).run P w).andThen fun _ w' => .ok (.slice base (sLen + n) sCap) w' := by
  have hnz : ((iu.desc matches .int _) : Bool) = false := by
    cases hd : iu.desc <;> first | rfl | exact absurd hd (hnu _)
  simp only [Builtin.append_, h0, h1, List.getElem?_toArray, List.getElem?_cons_zero, List.getElem?_cons_succ, Sem.run_bind, run_underlying ht, Result.andThen_ok, run_tinf_size hie, run_tinf_und hiu, Sem.run_pure, hnz, Bool.false_eq_true, if_false, hlen]
  rw [Sem.run_ite, if_pos hgrow]
  simp only [Bool.not_false, if_true, Sem.run_bind, hnew, Result.andThen_ok]
  cases base with
  | none => rfl
  | some a => simp only [Sem.run_bind, Sem.run_pure]

theorem allOne_flatten {new : List (List V)} {s : Nat} (h : (new.all fun c => decide (c.length = s) && allOne c) = true) : (∀ e ∈ new, e.length = s) ∧ allOne new.flatten = true := by
  rw [List.all_eq_true] at h
  refine ⟨fun e he => ?_, ?_⟩
  · have := h e he; simp at this; exact this.1
  · unfold allOne
    rw [List.all_eq_true]
    intro c hc
    obtain ⟨l, hl, hcl⟩ := List.mem_flatten.1 hc
    have := h l hl
    simp [allOne] at this
    exact this.2 c hcl

theorem VRa.app {a b : List V} {ca cb : Array Value} (ha : VRa w F μ a ca) (hb : VRa w F μ b cb) : VRa w F μ (a ++ b) (ca ++ cb) := by
  apply VRa_of_list
  rw [Array.toList_append]
  exact ha.list.append hb.list

theorem WR.kill (hw : WR E w F μ H) (b : Nat) : WR E w F μ (H.set b none) ∧ Keep w F μ H w F μ (H.set b none) := by
  have hH : ∀ (i : Nat) (blk : Blk), (H.set b none)[i]? = some (some blk) → H[i]? = some (some blk) := fun i blk hi => by
    by_cases hq : b = i
    · subst hq
      rw [List.getElem?_set] at hi
      simp at hi
    · rwa [List.getElem?_set_ne hq] at hi
  refine ⟨hw.less (by simp) hH, ⟨⟨rfl, rfl, rfl, Nat.le_refl _, fun _ h => h, fun _ _ _ h => h, fun _ _ _ => rfl, fun _ _ _ h => h, by simp, fun cb _ ho => ?_, fun _ _ h => .inl h⟩, fun b' hb' => ⟨?_, fun _ => rfl⟩⟩⟩
  rotate_left
  · by_cases hq : b = b'
    · subst hq; rw [List.getElem?_set_self (dead_lt hb')]
    · rw [List.getElem?_set_ne hq]; exact hb'
  obtain ⟨i, v, cs, sh, h1, h2⟩ := ho
  exact ⟨i, v, cs, sh, hH _ _ h1, h2⟩

/-- The machine's block cb, written, is another block of the heap from now on. -/
theorem WR.moved (hw : WR E w F μ H) {b ver ver' : Nat} {cs cells : List V} {w1 : World} {cb sh sh' : Nat} {arr : Array Value} {e : TypeId} {fr : Nat × Nat}
    (hb : H[b]? = some (some (ver, false, cs))) (hm : μ b ver = some (cb, sh)) (hp : Put w w1 cb arr e fr)
    (hs : w.shape? cb = some (e, arr.size)) (hfr : ∀ j, j < arr.size → ¬ (fr.1 ≤ j ∧ j < fr.2)) (hsh : sh ≤ arr.size) (hsz : sh' + cells.length ≤ arr.size)
    (hv : ∀ (j : Nat) (c : V), cells[j]? = some c → VR w F μ c (arr.getD (sh' + j) undef) ∧ c.one = true) :
    WR E w1 F (upd μ H.length ver' (cb, sh')) (H.set b none ++ [newBlk ver' cells]) ∧ Keep w F μ H w1 F (upd μ H.length ver' (cb, sh')) (H.set b none ++ [newBlk ver' cells]) := by
  obtain ⟨k1, k2⟩ := hw.wrote (ver' := ver) (cells := []) hb hm hp hs hfr (Nat.le_refl _) (by simpa using hsh) (fun j c hj => by simp at hj)
  rw [upd_self hm] at k1 k2
  have hbl : b < H.length := (List.getElem?_eq_some_iff.1 hb).1
  have hset : (setBlk H b ver []).set b none = H.set b none := by simp [setBlk]
  obtain ⟨k3, k4⟩ := k1.kill b
  rw [hset] at k3 k4
  obtain ⟨cb', sh'', arr0, e0, fr0, g1, g2, g3, g4, g5, g6⟩ := hw.live b ver false cs hb
  rw [hm] at g1; injection g1 with g1; injection g1 with g1 g1'; subst g1; subst g1'
  have hno : ∀ v, μ H.length v = none := fun v => by
    cases hq : μ H.length v with
    | none => rfl
    | some r => exact absurd (hw.dom _ _ _ hq) (Nat.lt_irrefl _)
  have hlen : (H.set b none).length = H.length := by simp
  have hle := upd_le (r := (cb, sh')) (.inl (hno ver') : μ H.length ver' = none ∨ μ H.length ver' = some (cb, sh'))
  have hold : ∀ (i : Nat) (blk : Blk), (H.set b none)[i]? = some (some blk) → i ≠ b ∧ H[i]? = some (some blk) := fun i blk hi => by
    by_cases hq : i = b
    · subst hq; rw [List.getElem?_set_self hbl] at hi; cases hi
    · exact ⟨hq, by rwa [List.getElem?_set_ne (Ne.symm hq)] at hi⟩
  have hkv : ∀ {v : V} {cv : Value}, VR w F μ v cv → VR w1 F μ v cv := fun h => k2.vr hw h
  refine ⟨k3.put (by simp) (by simp) (fun i blk hi => ?_) (.inl (hno _)) (fun v _ => hno v) hp.at_ g3 hfr hsz (fun j c hj => ⟨hkv (hv j c hj).1, (hv j c hj).2⟩) (fun i v ro cs' s' hi h1 h2 => ?_), ?_⟩
  · rcases getElem_append_new hi with ⟨q1, q2⟩ | ⟨q1, q2⟩
    · injection q2 with q2; rw [hlen] at q1; exact .inl ⟨q1, q2.symm⟩
    · rw [hlen] at q1; exact .inr ⟨q1, q2⟩
  · obtain ⟨n1, h1⟩ := hold i _ h1
    exact n1 (hw.inj i v ro cs' b ver false cs cb s' sh h1 hb h2 hm)
  · have kk := k2.trans k4
    refine ⟨⟨kk.os, kk.tape, kk.output, kk.size, kk.fz, hle, kk.blk, kk.shape, by simp, fun c hlt ho => ?_, kk.frz⟩, fun b' hb' => ⟨by rw [List.getElem?_append_left (by rw [hlen]; exact dead_lt hb')]; exact (kk.dead b' hb').1, fun v => upd_ne (fun q => by have := dead_lt hb'; omega)⟩⟩
    obtain ⟨i, v, cs', s, h1, h2⟩ := ho
    rcases getElem_append_new h1 with ⟨q1, q2⟩ | ⟨q1, q2⟩
    · rw [hlen] at q1; subst q1
      injection q2 with q2; injection q2 with q2 _; subst q2
      rw [upd_at] at h2; injection h2 with h2; injection h2 with h2 _; subst h2
      exact ⟨b, ver, cs, sh, hb, hm⟩
    · rw [hlen] at q1
      rw [upd_ne (fun q => q1 q.1)] at h2
      exact ⟨i, v, cs', s, (hold i _ q2).2, h2⟩

/-- A block of the heap is a new block of the machine's from now on. -/
theorem WR.renew (hw : WR E w F μ H) {b ver ver' : Nat} {cs cells : List V} {w1 : World} {cb : Nat} {arr : Array Value} {e : TypeId} {fr : Nat × Nat}
    (hb : H[b]? = some (some (ver, false, cs))) (hx : Ext w w1) (hc : w1.heap[cb]? = some (.cells arr e fr)) (hcb : w.heap.size ≤ cb) (hfr : ∀ j, j < arr.size → ¬ (fr.1 ≤ j ∧ j < fr.2)) (hver : ver < ver')
    (hsz : cells.length ≤ arr.size) (hv : ∀ (j : Nat) (c : V), cells[j]? = some c → VR w F μ c (arr.getD j undef) ∧ c.one = true) :
    WR E w1 F (upd μ b ver' (cb, 0)) (setBlk H b ver' cells) ∧ Keep w F μ H w1 F (upd μ b ver' (cb, 0)) (setBlk H b ver' cells) := by
  have hbl : b < H.length := (List.getElem?_eq_some_iff.1 hb).1
  have hw1 := hx.wr hw
  have hk : Keep w F μ H w1 F μ H := hx.keep
  obtain ⟨k3, k4⟩ := hw1.kill b
  have hno := hw.top b ver false cs hb ver' hver
  have hF : ¬ F cb := fun q => Nat.lt_irrefl _ (Nat.lt_of_lt_of_le (hw.fz cb q) hcb)
  have hnew : ∀ (i v : Nat) (ro : Bool) (cs' : List V) (s : Nat), H[i]? = some (some (v, ro, cs')) → μ i v ≠ some (cb, s) := fun i v ro cs' s h1 h2 => by
    obtain ⟨c', s', ar, e', fr', g1, g2, _⟩ := hw.live i v ro cs' h1
    rw [h2] at g1; injection g1 with g1; injection g1 with g1 _; subst g1
    exact Nat.lt_irrefl _ (Nat.lt_of_lt_of_le (Array.getElem?_eq_some_iff.1 g2).1 hcb)
  have hold : ∀ (i : Nat) (blk : Blk), (setBlk H b ver' cells)[i]? = some (some blk) → (i = b ∧ blk = (ver', false, cells)) ∨ (i ≠ b ∧ H[i]? = some (some blk)) := fun i blk hi => by
    unfold setBlk at hi
    by_cases hq : i = b
    · subst hq; rw [List.getElem?_set_self hbl] at hi; injection hi with hi; injection hi with hi; exact .inl ⟨rfl, hi.symm⟩
    · exact .inr ⟨hq, by rwa [List.getElem?_set_ne (Ne.symm hq)] at hi⟩
  refine ⟨k3.put (by simp [setBlk]) (by simp [setBlk]; exact hbl) (fun i blk hi => ?_) (.inl hno) (fun v hv' => hw.top b ver false cs hb v (by omega)) hc hF hfr (by simpa using hsz) (fun j c hj => ?_) (fun i v ro cs' s' hi h1 => ?_), ?_⟩
  · rcases hold i blk hi with q | ⟨q1, q2⟩
    · exact .inl q
    · exact .inr ⟨q1, by rw [List.getElem?_set_ne (Ne.symm q1)]; exact q2⟩
  · rw [Nat.zero_add]; exact ⟨hk.vr hw (hv j c hj).1, (hv j c hj).2⟩
  · rw [List.getElem?_set_ne (Ne.symm hi)] at h1
    exact hnew i v ro cs' s' h1
  · refine ⟨⟨hk.os, hk.tape, hk.output, hk.size, hk.fz, upd_le (.inl hno), hk.blk, hk.shape, by simp [setBlk], fun c hlt ho => ?_, fun _ _ h => .inl h⟩, fun b' hb' => ?_⟩
    rotate_left
    · have hne : b' ≠ b := fun q => by subst q; rw [hb] at hb'; cases hb'
      exact ⟨by unfold setBlk; rw [List.getElem?_set_ne (Ne.symm hne)]; exact hb', fun v => upd_ne (fun q => hne q.1)⟩
    obtain ⟨i, v, cs', s, h1, h2⟩ := ho
    rcases hold i _ h1 with ⟨rfl, q⟩ | ⟨q1, q2⟩
    · injection q with q _; subst q
      rw [upd_at] at h2; injection h2 with h2; injection h2 with h2 _; subst h2
      omega
    · rw [upd_ne (fun q => q1 q.1)] at h2
      exact ⟨i, v, cs', s, q2, h2⟩

theorem VR.ms_inv {sz b ver off len : Nat} {full : Bool} {cv : Value} (h : VR w F μ (.ms sz b ver off len full) cv) :
    ∃ cb sh cap n e, cv = .slice (some ⟨cb, sh + off, none⟩) len cap ∧ μ b ver = some (cb, sh) ∧ w.shape? cb = some (e, n) ∧ sh + off + cap * sz ≤ n ∧ len ≤ cap ∧ (full = true → cap = len) := by
  cases h with
  | ms _ _ _ _ _ _ cb sh cap n e hm hs hr hcap hfull => exact ⟨cb, sh, cap, n, e, rfl, hm, hs, hr, hcap, hfull⟩

theorem append_sound (hw : WR E w F μ H) {ats : Array TypeId} {ty t u : TypeId} {iu : TI} {s x v : V} {cs cx : Value} {H' : Heap} (h : appendV P H t s x = some (v, H'))
    (h0 : ats[0]? = some t) (h1 : ats[1]? = some u) (hiu : tinf P u = some iu) (hnu : ∀ k, iu.desc ≠ .int k) (hs : VR w F μ s cs) (hx : VR w F μ x cx) :
    ∃ w' F' μ' cv, (Builtin.append_ ats ty #[cs, cx]).run P w = .ok cv w' ∧ WR E w' F' μ' H' ∧ Keep w F μ H w' F' μ' H' ∧ VR w' F' μ' v cv := by
  unfold appendV at h
  split at h
  · rename_i e _ _ _ hi
    have ht := tinf_und hi
    simp only at ht
    split at h
    · rename_i ie hie
      split at h
      · rename_i new hnew
        split at h
        · -- nothing is appended
          have hsrc : (Builtin.lenOf cx).run P w = .ok 0 w ∧ ∃ arr, (Builtin.firstCells ie.size 0 cx).run P w = .ok arr w ∧ arr.toList = [] := by
            obtain ⟨r1, arr, r2, r3⟩ := source_sound (P := P) (size := ie.size) hw hnew hx (fun e he => by simp at he)
            refine ⟨r1, arr, r3 w rfl, ?_⟩
            have := r2.1
            simp at this
            simp [this]
          obtain ⟨r1, arr, r2, r3⟩ := hsrc
          have key : ∀ base sLen sCap, cs = .slice base sLen sCap → sLen ≤ sCap → (Builtin.append_ ats ty #[cs, cx]).run P w = .ok cs w := fun base sLen sCap hc hle => by
            subst hc
            rw [append_room (P := P) h0 h1 hiu hnu ht hie r1 (by omega) r2, r3]
            cases base <;> rfl
          split at h
          · injection h with h; injection h with h h'; subst h; subst h'
            cases hs
            exact ⟨w, F, μ, _, key _ _ _ rfl (Nat.le_refl _), hw, .refl .., .nil⟩
          · injection h with h; injection h with h h'; subst h; subst h'
            have hs' := hs
            cases hs
            · exact ⟨w, F, μ, _, key _ _ _ rfl (Nat.zero_le _), hw, .refl .., hs'⟩
            · exact ⟨w, F, μ, _, key _ _ _ rfl (by assumption), hw, .refl .., hs'⟩
          · injection h with h; injection h with h h'; subst h; subst h'
            have hs' := hs
            cases hs
            exact ⟨w, F, μ, _, key _ _ _ rfl (by assumption), hw, .refl .., hs'⟩
          · cases h
        · rename_i c0 cr
          generalize hnw : c0 :: cr = new at *
          have hpos : 0 < new.length := by rw [← hnw]; simp
          split at h
          · cases h
          · rename_i hcond
            simp only [not_or] at hcond
            obtain ⟨hsz0, hby0, hz, hall⟩ := hcond
            have hz : ie.zero.cells.length = ie.size := Decidable.of_not_not hz
            have hall : (new.all fun c => decide (c.length = ie.size) && allOne c) = true := by simpa using hall
            obtain ⟨hlen, hone⟩ := allOne_flatten hall
            obtain ⟨r1, na, r2, r3⟩ := source_sound (P := P) hw hnew hx hlen
            have hfl : new.flatten.length = new.length * ie.size := flatten_len hlen
            have hns : na.size = new.length * ie.size := by rw [r2.1, hfl]
            -- the reallocated row
            have realloc : ∀ (base : Option Addr) (sLen sCap : Nat) (old : List V) (oa : Array Value), cs = .slice base sLen sCap → VRa w F μ old oa → (∀ w' : World, w'.heap = w.heap → (Builtin.firstCells ie.size sLen (.slice base sLen sCap)).run P w' = .ok oa w') →
                old.length = sLen * ie.size → allOne old = true → sCap < sLen + new.length → (sLen + new.length) * ie.bytes ≤ 140737488355328 →
                ∃ w1 cap arr, (Builtin.append_ ats ty #[cs, cx]).run P w = .ok (.slice (some ⟨w.heap.size, 0, none⟩) (sLen + new.length) cap) w1 ∧ Ext w w1 ∧ w1.heap[w.heap.size]? = some (.cells arr e (0, 0)) ∧
                  sLen + new.length ≤ cap ∧ arr.size = cap * ie.size ∧ (old ++ new.flatten).length = (sLen + new.length) * ie.size ∧ ∀ (j : Nat) (c : V), (old ++ new.flatten)[j]? = some c → VR w F μ c (arr.getD j undef) ∧ c.one = true := by
              intro base sLen sCap old oa hc ho hfo hol hoo hg hr
              subst hc
              obtain ⟨w1, arr, cap, q1, q2, q3, q4, q5, q6⟩ := append_realloc (P := P) (ty := ty) h0 h1 hiu hnu ht hie hz r1 hg hr hby0 hfo r3 (by rw [ho.1, hol]) hns
              have hl : (old ++ new.flatten).length = (sLen + new.length) * ie.size := by rw [List.length_append, hol, hfl, Nat.add_mul]
              refine ⟨w1, cap, arr, q1, q2, q3, q4, q5, hl, fun j c hj => ?_⟩
              have hjl : j < (sLen + new.length) * ie.size := by rw [← hl]; exact (List.getElem?_eq_some_iff.1 hj).1
              rw [q6 j hjl]
              refine ⟨(ho.app r2).2 j c hj, ?_⟩
              have := List.all_eq_true.1 (show allOne (old ++ new.flatten) = true by unfold allOne at *; rw [List.all_append, hoo, hone]; rfl) c (List.mem_of_getElem? hj)
              exact this
            have fin : ∀ (base : Option Addr) (sLen sCap : Nat) (old : List V) (oa : Array Value), cs = .slice base sLen sCap → VRa w F μ old oa → (∀ w' : World, w'.heap = w.heap → (Builtin.firstCells ie.size sLen (.slice base sLen sCap)).run P w' = .ok oa w') →
                old.length = sLen * ie.size → allOne old = true → sCap < sLen + new.length → (sLen + new.length) * ie.bytes ≤ 140737488355328 →
                ∃ w' F' μ' cv, (Builtin.append_ ats ty #[cs, cx]).run P w = .ok cv w' ∧ WR E w' F' μ' (H ++ [newBlk (old ++ new.flatten).length (old ++ new.flatten)]) ∧ Keep w F μ H w' F' μ' (H ++ [newBlk (old ++ new.flatten).length (old ++ new.flatten)]) ∧
                  VR w' F' μ' (.ms ie.size H.length (old ++ new.flatten).length 0 (sLen + new.length) false) cv := by
              intro base sLen sCap old oa hc ho hfo hol hoo hg hr
              obtain ⟨w1, cap, arr, q1, q2, q3, q4, q5, q6, q7⟩ := realloc base sLen sCap old oa hc ho hfo hol hoo hg hr
              obtain ⟨k1, k2⟩ := hw.fresh (ver := (old ++ new.flatten).length) q2 q3 (Nat.le_refl _) nofr (by rw [q5, q6]; exact Nat.mul_le_mul_right _ q4) q7
              refine ⟨w1, F, _, _, q1, k1, k2, ?_⟩
              have := VR.ms (w := w1) (F := F) (μ := upd μ H.length (old ++ new.flatten).length (w.heap.size, 0)) ie.size H.length (old ++ new.flatten).length 0 (sLen + new.length) false w.heap.size 0 cap arr.size e (upd_at _ _ _) (by simp [World.shape?, q3]) (by rw [q5]; omega) q4 (by simp)
              exact this
            split at h
            · -- onto nil
              split at h
              · rename_i hr
                injection h with h; injection h with h h'; subst h; subst h'
                cases hs
                have := fin none 0 0 [] #[] rfl VRa.nil (fun w' _ => rfl) (by simp) rfl (by omega) (by simpa [room] using hr)
                simpa using this
              · cases h
            · -- onto a slice that is full
              rename_i els
              split at h
              · rename_i hr
                injection h with h; injection h with h h'; subst h; subst h'
                obtain ⟨hlo, hoo⟩ := allOne_flatten hr.2
                obtain ⟨o1, oa, o2, o3⟩ := source_sound (P := P) (x := .sl true els) hw rfl hs hlo
                have hol : els.flatten.length = els.length * ie.size := flatten_len hlo
                rw [List.flatten_append]
                have hro : (els.length + new.length) * ie.bytes ≤ 140737488355328 := hr.1
                cases hs with
                | slE full a cap hfull =>
                  have := hfull rfl; subst this
                  have := fin (some a) 0 0 [] oa rfl (by simpa using o2) o3 (by simp) rfl (by omega) (by simpa using hro)
                  simpa using this
                | sl full els b off cap sz vs hsz hcap hfull hc hv =>
                  have := hfull rfl; subst this
                  exact fin _ els.length els.length els.flatten oa rfl o2 o3 hol hoo (by omega) hro
              · cases h
            · -- onto a slice of one's own
              rename_i sz b ver off len full
              split at h
              · rename_i bcs hg
                split at h
                · rename_i hr
                  obtain ⟨hsz, hro, hcov⟩ := hr
                  subst hsz
                  have hgb := getW_get hg
                  have hbs := getW_spec hg
                  have hbl : b < H.length := (List.getElem?_eq_some_iff.1 hbs).1
                  have hel : elemsOf H (.ms ie.size b ver off len full) = some (chunk ie.size len (bcs.drop off)) := by
                    simp only [elemsOf, hgb]; rw [if_pos hcov]
                  have hclen : ∀ e ∈ chunk ie.size len (bcs.drop off), e.length = ie.size := fun e he => by
                    obtain ⟨i, hi⟩ := List.mem_iff_getElem?.1 he
                    rw [chunk_get] at hi
                    split at hi
                    · rename_i hil
                      injection hi with hi; subst hi
                      have : (i + 1) * ie.size ≤ len * ie.size := Nat.mul_le_mul_right _ hil
                      rw [Nat.add_mul] at this
                      simp; omega
                    · cases hi
                  obtain ⟨o1, oa, o2, o3⟩ := source_sound (P := P) hw hel hs hclen
                  rw [chunk_flatten] at o2
                  rw [chunk_length] at o3 o1
                  have hol : ((bcs.drop off).take (len * ie.size)).length = len * ie.size := by simp; omega
                  obtain ⟨cb, sh, cap, n, e', rfl, hm, hs', hr', hcap, hfull⟩ := hs.ms_inv
                  obtain ⟨cb', sh', arr0, e0, fr0, g1, g2, g3, g4, g5, g6⟩ := hw.live b ver false bcs hbs
                  rw [hm] at g1; injection g1 with g1; injection g1 with g1 g1'; subst g1; subst g1'
                  have hn : n = arr0.size := by
                    rw [World.shape?, g2] at hs'; injection hs' with hs'; injection hs' with _ hs'; exact hs'.symm
                  subst hn
                  have hbone : allOne bcs = true := by
                    unfold allOne; rw [List.all_eq_true]; intro c hc
                    obtain ⟨j, hj⟩ := List.mem_iff_getElem?.1 hc
                    exact (g6 j c hj).2
                  have hoo : allOne ((bcs.drop off).take (len * ie.size)) = true := by
                    unfold allOne at *; rw [List.all_eq_true] at *
                    exact fun c hc => hbone c (List.mem_of_mem_drop (List.mem_of_mem_take hc))
                  by_cases hfits : len + new.length ≤ cap
                  · -- in place
                    have hone' : ∀ u ∈ na.toList, u.oneCell' = true := fun u hu => by
                      obtain ⟨j, hj⟩ := List.mem_iff_getElem?.1 hu
                      have hjl : j < new.flatten.length := by rw [← r2.1]; simpa using (List.getElem?_eq_some_iff.1 hj).1
                      have := r2.2 j new.flatten[j] (by simp [hjl])
                      have hju : na.getD j undef = u := by
                        rw [Array.getD_eq_getD_getElem?, ← Array.getElem?_toList, hj]; rfl
                      rw [hju] at this
                      exact this.oneCell (List.all_eq_true.1 hone _ (List.getElem_mem hjl))
                    have hmul : (len + new.length) * ie.size ≤ cap * ie.size := Nat.mul_le_mul_right _ hfits
                    rw [Nat.add_mul] at hmul
                    have hnl : na.toList.length = new.length * ie.size := by simpa using hns
                    obtain ⟨w', arr', s1, s2, s3⟩ := run_stores (P := P) na.toList (sh + off + len * ie.size) 0 arr0 w g2 g4 (by rw [hnl]; omega) hone'
                    simp only [Nat.add_zero] at s3
                    have hrun : (Builtin.append_ ats ty #[.slice (some ⟨cb, sh + off, none⟩) len cap, cx]).run P w = .ok (.slice (some ⟨cb, sh + off, none⟩) (len + new.length) cap) w' := by
                      rw [append_room (P := P) h0 h1 hiu hnu ht hie r1 hfits (r3 w rfl)]
                      simp only [add_eq, s1, Result.andThen_ok]
                    have hsize : arr'.size = arr0.size := by
                      have := congrArg List.length s3
                      simp only [List.length_append, List.length_take, List.length_drop, Array.length_toList] at this
                      rw [hns] at this
                      omega
                    -- the cells of the slice, as they are now
                    have hcells : ∀ (j : Nat) (c : V), ((bcs.drop off).take (len * ie.size) ++ new.flatten)[j]? = some c → VR w F μ c (arr'.getD (sh + off + j) undef) ∧ c.one = true := fun j c hj => by
                      have hget : arr'.getD (sh + off + j) undef = (arr'.toList)[sh + off + j]?.getD undef := by simp [Array.getD_eq_getD_getElem?]
                      rw [hget, s3, spl_get _ _ _ _ (by rw [hnl]; simp; omega), hnl]
                      rw [List.getElem?_append, hol] at hj
                      split at hj
                      · rename_i hjl
                        rw [if_pos (by omega)]
                        rw [List.getElem?_take_of_lt hjl, List.getElem?_drop] at hj
                        have := g6 _ c hj
                        rw [Nat.add_assoc]
                        simpa [Array.getD_eq_getD_getElem?] using this
                      · rename_i hjl
                        have hjn : j - len * ie.size < new.length * ie.size := by rw [← hfl]; exact (List.getElem?_eq_some_iff.1 hj).1
                        rw [if_neg (by omega), if_pos (by omega), show sh + off + j - (sh + off + len * ie.size) = j - len * ie.size by omega]
                        have := r2.2 _ c hj
                        refine ⟨?_, one_of hone hj⟩
                        simpa [Array.getD_eq_getD_getElem?] using this
                    split at h
                    · -- it covers its block
                      rename_i hcv
                      obtain ⟨rfl, hcv⟩ := hcv
                      injection h with h; injection h with h h'; subst h; subst h'
                      simp only [Nat.add_zero] at hcells hrun
                      rw [List.drop_zero, hcv, List.take_length] at hcells
                      obtain ⟨k1, k2⟩ := hw.wrote (ver' := ver + new.length * ie.size) (cells := bcs ++ new.flatten) hbs hm s2 (by rw [hsize]; simp [World.shape?, g2]) (by rw [hsize]; exact g4) (Nat.le_add_right _ _) (by rw [hsize, List.length_append, hfl]; omega) hcells
                      refine ⟨w', F, _, _, hrun, k1, k2, ?_⟩
                      exact VR.ms ie.size b (ver + new.length * ie.size) 0 (len + new.length) false cb sh cap arr0.size e0 (upd_at _ _ _) (k2.shape _ _ _ (by simp [World.shape?, g2])) (by omega) hfits (by simp)
                    · -- it does not
                      rename_i hcv
                      injection h with h; injection h with h h'; subst h; subst h'
                      obtain ⟨k1, k2⟩ := hw.moved (ver' := ((bcs.drop off).take (len * ie.size) ++ new.flatten).length) (sh' := sh + off) (cells := (bcs.drop off).take (len * ie.size) ++ new.flatten) hbs hm s2 (by rw [hsize]; simp [World.shape?, g2]) (by rw [hsize]; exact g4) (by rw [hsize]; omega) (by rw [hsize, List.length_append, hol, hfl]; omega) hcells
                      refine ⟨w', F, _, _, hrun, k1, k2, ?_⟩
                      have := VR.ms (w := w') (F := F) (μ := upd μ H.length ((bcs.drop off).take (len * ie.size) ++ new.flatten).length (cb, sh + off)) ie.size H.length ((bcs.drop off).take (len * ie.size) ++ new.flatten).length 0 (len + new.length) false cb (sh + off) cap arr0.size e0 (upd_at _ _ _) (k2.shape _ _ _ (by simp [World.shape?, g2])) (by omega) hfits (by simp)
                      exact this
                  · -- a new row
                    have hq := realloc (some ⟨cb, sh + off, none⟩) len cap _ oa rfl o2 o3 hol hoo (by omega) hro
                    obtain ⟨w1, cap', arr, q1, q2, q3, q4, q5, q6, q7⟩ := hq
                    split at h
                    · rename_i hcv
                      obtain ⟨rfl, hcv⟩ := hcv
                      injection h with h; injection h with h h'; subst h; subst h'
                      rw [List.drop_zero, hcv, List.take_length] at q6 q7
                      have hps : 0 < new.length * ie.size := Nat.mul_pos hpos (Nat.pos_of_ne_zero hsz0)
                      obtain ⟨k1, k2⟩ := hw.renew (ver' := ver + new.length * ie.size) (cells := bcs ++ new.flatten) hbs q2 q3 (Nat.le_refl _) nofr (by omega) (by rw [q5, q6]; exact Nat.mul_le_mul_right _ q4) q7
                      refine ⟨w1, F, _, _, q1, k1, k2, ?_⟩
                      exact VR.ms ie.size b (ver + new.length * ie.size) 0 (len + new.length) false w.heap.size 0 cap' arr.size e (upd_at _ _ _) (by simp [World.shape?, q3]) (by rw [q5]; omega) q4 (by simp)
                    · injection h with h; injection h with h h'; subst h; subst h'
                      obtain ⟨kw, kk⟩ := hw.kill b
                      obtain ⟨k1, k2⟩ := kw.fresh (ver := ((bcs.drop off).take (len * ie.size) ++ new.flatten).length) q2 q3 (Nat.le_refl _) nofr (by rw [q5, q6]; exact Nat.mul_le_mul_right _ q4) q7
                      have hle : (H.set b none).length = H.length := by simp
                      rw [hle] at k1 k2
                      refine ⟨w1, F, _, _, q1, k1, kk.trans k2, ?_⟩
                      exact VR.ms ie.size H.length _ 0 (len + new.length) false w.heap.size 0 cap' arr.size e (upd_at _ _ _) (by simp [World.shape?, q3]) (by rw [q5]; omega) q4 (by simp)
                · cases h
              · cases h
            · cases h
      · cases h
    · cases h
  · cases h

end Go.Ae

namespace Go.Ae

variable {P : Program} {E : Env} {w : World} {F : Nat → Prop} {μ : Nat → Nat → Option (Nat × Nat)} {H : Heap}

set_option maxHeartbeats 1000000 in
theorem appendB_sound (hw : WR E w F μ H) {ats : Array TypeId} {ty t u : TypeId} {iu : TI} {s x v : V} {cs cx : Value} {H' : Heap} (h : appendB P H t s x = some (v, H'))
    (h0 : ats[0]? = some t) (h1 : ats[1]? = some u) (hiu : tinf P u = some iu) (hnu : ∀ k, iu.desc ≠ .int k) (hs : VR w F μ s cs) (hx : VR w F μ x cx) :
    ∃ w' F' μ' cv, (Builtin.append_ ats ty #[cs, cx]).run P w = .ok cv w' ∧ WR E w' F' μ' H' ∧ Keep w F μ H w' F' μ' H' ∧ VR w' F' μ' v cv := by
  unfold appendB at h
  split at h
  · rename_i e _ _ _ hi
    have ht := tinf_und hi
    simp only at ht
    split at h
    · rename_i ie hie
      split at h
      · rename_i new hnew
        split at h
        · cases h
        · rename_i hcond
          simp only [not_or] at hcond
          obtain ⟨hsz1, hby0, hz, hall⟩ := hcond
          have hsz : ie.size = 1 := Decidable.of_not_not hsz1
          have hz : ie.zero.cells.length = ie.size := by rw [hsz]; exact Decidable.of_not_not hz
          have hall : (new.all fun c => decide (c.length = ie.size) && allOne c) = true := by rw [hsz]; simpa using hall
          obtain ⟨hlen, hone⟩ := allOne_flatten hall
          obtain ⟨r1, na, r2, r3⟩ := source_sound (P := P) hw hnew hx hlen
          have hfl : new.flatten.length = new.length * ie.size := flatten_len hlen
          have hns : na.size = new.length * ie.size := by rw [r2.1, hfl]
          have key0 : new = [] → ∀ base sLen sCap, cs = .slice base sLen sCap → sLen ≤ sCap → (Builtin.append_ ats ty #[cs, cx]).run P w = .ok cs w := fun hn base sLen sCap hc hle => by
            subst hn; subst hc
            have hna : na.toList = [] := by
              have := r2.1
              simp at this
              simp [this]
            rw [append_room (P := P) h0 h1 hiu hnu ht hie r1 (by simpa using hle) (r3 w rfl), hna]
            cases base <;> rfl
          have realloc : ∀ (base : Option Addr) (sLen sCap : Nat) (old : List V) (oa : Array Value), cs = .slice base sLen sCap → VRa w F μ old oa → (∀ w' : World, w'.heap = w.heap → (Builtin.firstCells ie.size sLen (.slice base sLen sCap)).run P w' = .ok oa w') →
              old.length = sLen * ie.size → allOne old = true → sCap < sLen + new.length → (sLen + new.length) * ie.bytes ≤ 140737488355328 →
              ∃ w1 cap arr, (Builtin.append_ ats ty #[cs, cx]).run P w = .ok (.slice (some ⟨w.heap.size, 0, none⟩) (sLen + new.length) cap) w1 ∧ Ext w w1 ∧ w1.heap[w.heap.size]? = some (.cells arr e (0, 0)) ∧
                sLen + new.length ≤ cap ∧ arr.size = cap * ie.size ∧ (old ++ new.flatten).length = (sLen + new.length) * ie.size ∧ ∀ (j : Nat) (c : V), (old ++ new.flatten)[j]? = some c → VR w F μ c (arr.getD j undef) ∧ c.one = true := by
            intro base sLen sCap old oa hc ho hfo hol hoo hg hr
            subst hc
            obtain ⟨w1, arr, cap, q1, q2, q3, q4, q5, q6⟩ := append_realloc (P := P) (ty := ty) h0 h1 hiu hnu ht hie hz r1 hg hr hby0 hfo r3 (by rw [ho.1, hol]) hns
            have hl : (old ++ new.flatten).length = (sLen + new.length) * ie.size := by rw [List.length_append, hol, hfl, Nat.add_mul]
            refine ⟨w1, cap, arr, q1, q2, q3, q4, q5, hl, fun j c hj => ?_⟩
            have hjl : j < (sLen + new.length) * ie.size := by rw [← hl]; exact (List.getElem?_eq_some_iff.1 hj).1
            rw [q6 j hjl]
            refine ⟨(ho.app r2).2 j c hj, ?_⟩
            exact List.all_eq_true.1 (show allOne (old ++ new.flatten) = true by unfold allOne at *; rw [List.all_append, hoo, hone]; rfl) c (List.mem_of_getElem? hj)
          split at h
          · -- onto nil
            cases new with
            | nil =>
              simp only at h
              injection h with h; injection h with h h'; subst h; subst h'
              cases hs
              exact ⟨w, F, μ, _, key0 rfl _ _ _ rfl (Nat.le_refl _), hw, .refl .., .nil⟩
            | cons c0 cr =>
              simp only at h
              split at h
              · rename_i hr
                injection h with h; injection h with h h'; subst h; subst h'
                cases hs
                obtain ⟨w1, cap, arr, q1, q2, q3, q4, q5, q6, q7⟩ := realloc none 0 0 [] #[] rfl VRa.nil (fun w' _ => rfl) (by simp) rfl (by simp) (by simpa [room] using hr)
                simp only [List.nil_append, Nat.zero_add] at q1 q4 q6 q7
                obtain ⟨k1, k2⟩ := hw.fresh (ver := (c0 :: cr).flatten.length) q2 q3 (Nat.le_refl _) nofr (by rw [q5, q6]; exact Nat.mul_le_mul_right _ q4) q7
                refine ⟨w1, F, _, _, q1, k1, k2, ?_⟩
                exact VR.mt e H.length (c0 :: cr).flatten.length (c0 :: cr).length w.heap.size cap arr.size (upd_at _ _ _) (by simp [World.shape?, q3]) (by rw [q5, hsz]; omega) q4
              · cases h
          · -- onto a row of one's own
            rename_i e' b ver len
            split at h
            · rename_i bcs hg
              split at h
              · rename_i hr
                obtain ⟨rfl, hcv, hro⟩ := hr
                have hgb := getW_get hg
                have hbs := getW_spec hg
                have hbl : b < H.length := (List.getElem?_eq_some_iff.1 hbs).1
                cases hs with
                | mt _ _ _ _ cb cap n hm hs' hr' hcap =>
                  have hms : VR w F μ (.ms ie.size b ver 0 len false) (.slice (some ⟨cb, 0, none⟩) len cap) := by
                    rw [hsz]
                    exact .ms 1 b ver 0 len false cb 0 cap n e' hm hs' (by omega) hcap (by simp)
                  have hel : elemsOf H (.ms ie.size b ver 0 len false) = some (chunk ie.size len (bcs.drop 0)) := by
                    simp only [elemsOf, hgb]; rw [if_pos (by rw [hsz]; omega)]
                  have hclen : ∀ e ∈ chunk ie.size len (bcs.drop 0), e.length = ie.size := fun e he => by
                    obtain ⟨i, hi⟩ := List.mem_iff_getElem?.1 he
                    rw [chunk_get] at hi
                    split at hi
                    · rename_i hil
                      injection hi with hi; subst hi
                      rw [hsz]
                      simp; omega
                    · cases hi
                  obtain ⟨o1, oa, o2, o3⟩ := source_sound (P := P) hw hel hms hclen
                  rw [chunk_flatten] at o2
                  rw [chunk_length] at o3 o1
                  have htk : (bcs.drop 0).take (len * ie.size) = bcs := by rw [List.drop_zero, hsz, hcv, Nat.mul_one, List.take_length]
                  rw [htk] at o2
                  have hol : bcs.length = len * ie.size := by rw [hsz]; omega
                  obtain ⟨cb', sh', arr0, e0, fr0, g1, g2, g3, g4, g5, g6⟩ := hw.live b ver false bcs hbs
                  rw [hm] at g1; injection g1 with g1; injection g1 with g1 g1'; subst g1; subst g1'
                  have hne : e0 = e' ∧ arr0.size = n := by
                    rw [World.shape?, g2] at hs'; injection hs' with hs'; injection hs' with q1 q2; exact ⟨q1, q2⟩
                  obtain ⟨rfl, rfl⟩ := hne
                  have hoo : allOne bcs = true := by
                    unfold allOne; rw [List.all_eq_true]; intro c hc
                    obtain ⟨j, hj⟩ := List.mem_iff_getElem?.1 hc
                    exact (g6 j c hj).2
                  cases hnw : new with
                  | nil =>
                    rw [hnw] at h
                    simp only at h
                    injection h with h; injection h with h h'; subst h; subst h'
                    exact ⟨w, F, μ, _, key0 hnw _ _ _ rfl hcap, hw, .refl .., .mt _ b ver len cb cap _ hm hs' hr' hcap⟩
                  | cons c0 cr =>
                    have hpos : 0 < new.length := by rw [hnw]; simp
                    have h : some (V.mt e0 b (ver + new.length) (len + new.length), setBlk H b (ver + new.length) (bcs ++ new.flatten)) = some (v, H') := by
                      rw [hnw] at h ⊢; exact h
                    injection h with h; injection h with h h'; subst h; subst h'
                    by_cases hfits : len + new.length ≤ cap
                    · -- in place
                      have hone' : ∀ u ∈ na.toList, u.oneCell' = true := fun u hu => by
                        obtain ⟨j, hj⟩ := List.mem_iff_getElem?.1 hu
                        have hjl : j < new.flatten.length := by rw [← r2.1]; simpa using (List.getElem?_eq_some_iff.1 hj).1
                        have := r2.2 j new.flatten[j] (by simp [hjl])
                        have hju : na.getD j undef = u := by
                          rw [Array.getD_eq_getD_getElem?, ← Array.getElem?_toList, hj]; rfl
                        rw [hju] at this
                        exact this.oneCell (List.all_eq_true.1 hone _ (List.getElem_mem hjl))
                      have hnl : na.toList.length = new.length := by rw [Array.length_toList, hns, hsz, Nat.mul_one]
                      obtain ⟨w', arr', s1, s2, s3⟩ := run_stores (P := P) na.toList (0 + 0 + len * ie.size) 0 arr0 w g2 g4 (by rw [hnl, hsz]; omega) hone'
                      simp only [Nat.add_zero, Nat.zero_add] at s3 s1
                      have hrun : (Builtin.append_ ats ty #[.slice (some ⟨cb, 0, none⟩) len cap, cx]).run P w = .ok (.slice (some ⟨cb, 0, none⟩) (len + new.length) cap) w' := by
                        rw [append_room (P := P) h0 h1 hiu hnu ht hie r1 hfits (r3 w rfl)]
                        simp only [add_eq, Nat.zero_add, s1, Result.andThen_ok]
                      have hsize : arr'.size = arr0.size := by
                        have := congrArg List.length s3
                        simp only [List.length_append, List.length_take, List.length_drop, Array.length_toList] at this
                        rw [hns, hsz] at this
                        omega
                      have hcells : ∀ (j : Nat) (c : V), (bcs ++ new.flatten)[j]? = some c → VR w F μ c (arr'.getD (0 + j) undef) ∧ c.one = true := fun j c hj => by
                        have hget : arr'.getD (0 + j) undef = (arr'.toList)[j]?.getD undef := by simp [Array.getD_eq_getD_getElem?]
                        rw [hget, s3, spl_get _ _ _ _ (by rw [hnl, hsz]; simp; omega), hnl]
                        rw [List.getElem?_append, hol] at hj
                        split at hj
                        · rename_i hjl
                          rw [if_pos (by omega)]
                          have := g6 _ c hj
                          simpa [Array.getD_eq_getD_getElem?] using this
                        · rename_i hjl
                          have hjn : j - len * ie.size < new.length * ie.size := by rw [← hfl]; exact (List.getElem?_eq_some_iff.1 hj).1
                          rw [if_neg (by omega), if_pos (by rw [hsz] at hjn ⊢; omega)]
                          have := r2.2 _ c hj
                          refine ⟨?_, one_of hone hj⟩
                          simpa [Array.getD_eq_getD_getElem?] using this
                      obtain ⟨k1, k2⟩ := hw.wrote (ver' := ver + new.length) (cells := bcs ++ new.flatten) hbs hm s2 (by rw [hsize]; simp [World.shape?, g2]) (by rw [hsize]; exact g4) (Nat.le_add_right _ _) (by rw [hsize, List.length_append, hfl, hsz]; omega) hcells
                      refine ⟨w', F, _, _, hrun, k1, k2, ?_⟩
                      exact VR.mt _ b (ver + new.length) (len + new.length) cb cap arr0.size (upd_at _ _ _) (k2.shape _ _ _ (by simp [World.shape?, g2])) (by omega) hfits
                    · -- a new row
                      obtain ⟨w1, cap', arr, q1, q2, q3, q4, q5, q6, q7⟩ := realloc (some ⟨cb, 0, none⟩) len cap _ oa rfl o2 o3 hol hoo (by omega) hro
                      obtain ⟨k1, k2⟩ := hw.renew (ver' := ver + new.length) (cells := bcs ++ new.flatten) hbs q2 q3 (Nat.le_refl _) nofr (by omega) (by rw [q5, q6]; exact Nat.mul_le_mul_right _ q4) q7
                      refine ⟨w1, F, _, _, q1, k1, k2, ?_⟩
                      exact VR.mt _ b (ver + new.length) (len + new.length) w.heap.size cap' arr.size (upd_at _ _ _) (by simp [World.shape?, q3]) (by rw [q5, hsz]; omega) q4
              · cases h
            · cases h
          · cases h
      · cases h
    · cases h
  · cases h

/-- A block of one's own changed, and left behind. -/
theorem WR.killPut (hw : WR E w F μ H) {b ver : Nat} {cs : List V} {w1 : World} {cb sh : Nat} {arr : Array Value} {e : TypeId} {fr : Nat × Nat}
    (hb : H[b]? = some (some (ver, false, cs))) (hm : μ b ver = some (cb, sh)) (hp : Put w w1 cb arr e fr) (hs : w.shape? cb = some (e, arr.size)) :
    WR E w1 F μ (H.set b none) ∧ Keep w F μ H w1 F μ (H.set b none) := by
  have hbl : b < H.length := (List.getElem?_eq_some_iff.1 hb).1
  have hown : Own H μ cb := ⟨b, ver, cs, sh, hb, hm⟩
  have hH : ∀ (i : Nat) (blk : Blk), (H.set b none)[i]? = some (some blk) → i ≠ b ∧ H[i]? = some (some blk) := fun i blk hi => by
    by_cases hq : b = i
    · subst hq
      rw [List.getElem?_set] at hi
      simp at hi
    · exact ⟨Ne.symm hq, by rwa [List.getElem?_set_ne hq] at hi⟩
  have hnew : ∀ (i v : Nat) (ro : Bool) (cs' : List V) (s' : Nat), i ≠ b → H[i]? = some (some (v, ro, cs')) → μ i v ≠ some (cb, s') := fun i v ro cs' s' hi h1 h2 => hi (hw.inj i v ro cs' b ver false cs cb s' sh h1 hb h2 hm)
  have hsh : ∀ c e' n, w.shape? c = some (e', n) → w1.shape? c = some (e', n) := fun c e' n h => by
    by_cases hc : c = cb
    · subst hc
      rw [hs] at h; injection h with h; injection h with h h'; subst h; subst h'
      simp [World.shape?, hp.at_]
    · rw [shape_of_blk (hp.blk c hc)]; exact h
  have hk : Keep w F μ H w1 F μ (H.set b none) := by
    refine ⟨⟨hp.os, hp.tape, hp.output, Nat.le_of_eq hp.size.symm, fun _ h => h, fun _ _ _ h => h, fun c _ hno => hp.blk c (fun q => hno (q ▸ hown)), hsh, by simp, fun c _ ho => ?_, fun _ _ h => .inl h⟩, fun b' hb' => ⟨?_, fun _ => rfl⟩⟩
    · obtain ⟨i, v, cs', sh', h1, h2⟩ := ho
      exact ⟨i, v, cs', sh', (hH _ _ h1).2, h2⟩
    · by_cases hq : b = b'
      · subst hq; rw [List.getElem?_set_self hbl]
      · rw [List.getElem?_set_ne hq]; exact hb'
  refine ⟨⟨fun i n r h => by simpa using hw.dom i n r h, fun c hc => by rw [hp.size]; exact hw.fz c hc, fun i v ro cs' hi => ?_, fun i v1 r1 c1 i' v2 r2 c2 c s s' h1 h2 => hw.inj i v1 r1 c1 i' v2 r2 c2 c s s' (hH _ _ h1).2 (hH _ _ h2).2, fun g cl hg => hk.vrm hw (hw.glob g cl hg), fun i v ro cs' hi => hw.top i v ro cs' (hH _ _ hi).2⟩, hk⟩
  obtain ⟨hib, hi⟩ := hH _ _ hi
  obtain ⟨c, s, ar, e', fr', q1, q2, q3, q4, q5, q6⟩ := hw.live i v ro cs' hi
  have hc : c ≠ cb := fun q => hnew i v ro cs' s hib hi (by rw [q1, q])
  exact ⟨c, s, ar, e', fr', q1, by rw [hp.blk c hc]; exact q2, q3, q4, q5, fun j c hj => ⟨hk.vr hw (q6 j c hj).1, (q6 j c hj).2⟩⟩

theorem freeze_put {g n : Nat} {arr : Array Value} {e : TypeId} {fr : Nat × Nat} (hn : n ≠ 0) (hg : w.heap[g]? = some (.cells arr e fr)) : ∃ fr', Put w (w.freeze ⟨g, 0, none⟩ n) g arr e fr' := by
  obtain ⟨lo, hi⟩ := fr
  refine ⟨if lo == hi then (0, 0 + n) else (min lo 0, max hi (0 + n)), ?_⟩
  unfold World.freeze
  rw [if_neg hn]
  refine ⟨rfl, rfl, rfl, by simp, ?_, fun k hk => ?_⟩
  · simp only [Array.getElem?_modify, if_true, hg, Option.map_some]
  · simp only [Array.getElem?_modify, if_neg (Ne.symm hk)]

theorem unsafeStr_sound (hw : WR E w F μ H) {pt it ty : TypeId} {p n v : V} {cp cn : Value} {H' : Heap} (h : unsafeStr P H pt p n = some (v, H')) (hp : VR w F μ p cp) (hn : VR w F μ n cn) :
    ∃ w' F' μ' cv, (Builtin.unsafeString_ #[pt, it] ty #[cp, cn]).run P w = .ok cv w' ∧ WR E w' F' μ' H' ∧ Keep w F μ H w' F' μ' H' ∧ VR w' F' μ' v cv := by
  unfold unsafeStr at h
  split at h
  · injection h with h; injection h with h h'; subst h; subst h'
    cases hp; cases hn
    exact ⟨w, F, μ, _, Lib.run_unsafeString_none (P := P) w pt it ty none, hw, .refl .., .str []⟩
  · rename_i t m b ver k
    split at h
    · rename_i e _ _ _ hi
      have hu := tinf_und hi
      simp only at hu
      split at h
      · rename_i ie hie
        split at h
        · rename_i cs hg
          split at h
          · rename_i hq
            obtain ⟨rfl, hsz, hk1, hkm, hkc, hk63⟩ := hq
            split at h
            · rename_i bs hbs
              injection h with h; injection h with h h'; subst h; subst h'
              have hels := mapO_bytes hbs
              have hbl : bs.length = k.toNat := by
                have := congrArg List.length hels
                simp only [List.length_map, List.length_take] at this
                omega
              have hget : ∀ (j : Nat) (x : UInt8), bs[j]? = some x → cs[j]? = some (.int .u8 (x.toNat : Int)) := fun j x hj => by
                have hjl : j < bs.length := (List.getElem?_eq_some_iff.1 hj).1
                have := congrArg (fun l : List (List V) => l[j]?) hels
                simp only [List.getElem?_map, hj, Option.map_some] at this
                cases hc : (cs.take k.toNat)[j]? with
                | none => rw [hc] at this; cases this
                | some c =>
                  rw [hc] at this
                  simp only [Option.map_some, Option.some.injEq, List.cons.injEq, and_true] at this
                  subst this
                  rw [List.getElem?_take_of_lt (by omega)] at hc
                  exact hc
              have hbs' := getW_spec hg
              obtain ⟨cb, sh, arr, e0, fr, g1, g2, g3, g4, g5, g6⟩ := hw.live b ver false cs hbs'
              cases hn
              cases hp with
              | tp _ _ _ _ cb' n' hm hs hmn =>
                rw [hm] at g1; injection g1 with g1; injection g1 with g1 g1'; subst g1; subst g1'
                have hshape : e0 = e ∧ arr.size = n' := by
                  rw [World.shape?, g2] at hs; injection hs with hs; injection hs with q1 q2; exact ⟨q1, q2⟩
                obtain ⟨rfl, rfl⟩ := hshape
                have hcell : ∀ (j : Nat) (x : UInt8), bs[j]? = some x → w.cell? ((⟨cb', 0, none⟩ : Addr).add j) = some (.int .u8 x.toNat) := fun j x hj => by
                  obtain ⟨q1, _⟩ := g6 j _ (hget j x hj)
                  have hjl : j < bs.length := (List.getElem?_eq_some_iff.1 hj).1
                  have hja : j < arr.size := by omega
                  rw [add_eq, Nat.zero_add]
                  simp only [Nat.zero_add] at q1
                  unfold World.cell?
                  simp only [g2, Option.isSome_none, Bool.false_eq_true, if_false]
                  have hv : arr.getD j undef = arr[j] := by simp [Array.getD, hja]
                  rw [hv] at q1
                  rw [Array.getElem?_eq_getElem hja]
                  generalize arr[j] = y at *
                  cases q1
                  rfl
                have hrun := Lib.run_unsafeString_row (P := P) w pt it ty e0 hu (by rw [cellsOf_tinf hie, hsz]) cb' arr.size hs bs (by intro hz; subst hz; simp at hbl; omega) (by omega) (by omega) hcell
                have hkn : ((bs.length : Nat) : Int) = k := by omega
                rw [hkn] at hrun
                obtain ⟨fr', hput⟩ := freeze_put (n := bs.length) (by omega) g2
                obtain ⟨k1, k2⟩ := hw.killPut hbs' hm hput hs
                exact ⟨_, F, μ, _, hrun, k1, k2, .str bs⟩
            · cases h
          · cases h
        · cases h
      · cases h
    · cases h
  · cases h

end Go.Ae

namespace Go.Ae

variable {E : Env} {w : World} {F : Nat → Prop} {μ : Nat → Nat → Option (Nat × Nat)} {H : Heap}

theorem VR.ms_new {w1 : World} {F' : Nat → Prop} {μ : Nat → Nat → Option (Nat × Nat)} {sz b ver len cb cap n : Nat} {full : Bool} {e : TypeId} {arr : Array Value} {fr : Nat × Nat} (hm : μ b ver = some (cb, 0)) (hc : w1.heap[cb]? = some (.cells arr e fr)) (hn : arr.size = n) (hr : cap * sz ≤ n) (hcap : len ≤ cap) (hfull : full = true → cap = len) :
    VR w1 F' μ (.ms sz b ver 0 len full) (.slice (some ⟨cb, 0, none⟩) len cap) :=
  .ms sz b ver 0 len full cb 0 cap n e hm (by simp [World.shape?, hc, hn]) (by omega) hcap hfull

theorem value_of {s : Sem Value} {a : Act} {P : Program} {w w' : World} {cv : Value} (h : s.run P w = .ok cv w') : (do Pure.pure (Next.value (← s)) : Sem Next).run P w = .ok (.value cv) w' := by
  simp [h]

set_option maxHeartbeats 1000000 in
theorem eop_sound (hw : WR E w F μ H) {a : Act} {ts : List V} (ht : VRa w F μ ts a.tmps) {f : FuncId} {o : Oper} {v : V} {H' : Heap} (h : eop E f o.dst H (rho E ts) o.op = some (v, H')) :
    ∃ w' F' μ', WR E w' F' μ' H' ∧ Keep w F μ H w' F' μ' H' ∧
      ((∃ cv, (execOp a.eval o).run E.P w = .ok (.value cv) w' ∧ VR w' F' μ' v cv) ∨ ((execOp a.eval o).run E.P w = .ok .skip w' ∧ v = undefV)) := by
  have R : ∀ {x : Operand} {u : V}, rho E ts x = some u → VR w F μ u (a.eval x) := fun h => rho_sound hw ht h
  obtain ⟨dst, op, type, pos, after, guard⟩ := o
  simp only at h
  cases op with
  | alloc e =>
    simp only [eop] at h
    split at h
    · rename_i i hi
      split at h
      · rename_i h1
        injection h with h; injection h with h h'; subst h; subst h'
        obtain ⟨zv, hz1, hz2⟩ := run_zero (w := w) (F := F) (μ := μ) hi
        obtain ⟨k1, k2⟩ := newOwn (e := e) (ver := 0) hw (VRa_of_list hz2.cells) h1
        refine ⟨_, F, _, k1, k2, .inl ⟨.pointer (some ⟨w.heap.size, 0, none⟩), ?_, ?_⟩⟩
        · simp [execOp, Instr.alloc, hz1, newVar, run_newRow]
        · split
          · exact .tp e i.zero.cells.length H.length 0 w.heap.size _ (upd_at _ _ _) (by simp [World.shape?]) (Nat.le_of_eq (VRa_of_list hz2.cells).1.symm)
          · exact .mp _ _ _ _ 0 (upd_at _ _ _)
      · cases h
    · cases h
  | box t x =>
    simp only [eop] at h
    split at h
    · rename_i u d hu
      split at h
      · rename_i h1
        have hv := R hu
        have hrun : (execOp a.eval ⟨some d, .box t x, type, pos, after, guard⟩).run E.P w = .ok (.value (.pointer (some ⟨w.heap.size, 0, none⟩))) { w with heap := w.heap.push (.cells (a.eval x).cells t) } := by
          simp [execOp, Instr.box, newVar, run_newRow]
        split at h
        · injection h with h; injection h with h h'; subst h; subst h'
          obtain ⟨k1, k2⟩ := newOwn (e := t) (ver := 0) hw (VRa_of_list hv.cells) h1
          exact ⟨_, F, _, k1, k2, .inl ⟨_, hrun, .mp _ _ _ _ 0 (upd_at _ _ _)⟩⟩
        · injection h with h; injection h with h h'; subst h; subst h'
          obtain ⟨k1, k2⟩ := newFrz (w1 := { w with heap := w.heap.push (.cells (a.eval x).cells t) }) hw (Ext.push w _) (cb := w.heap.size) (by simp) (Nat.le_refl _)
          exact ⟨_, _, _, k1, k2, .inl ⟨_, hrun, rp_at (e := t) (fr := (0, 0)) (by simp) (.inr rfl) ((VRa_of_list hv.cells).mono fun _ _ h => k2.vr hw h)⟩⟩
      · cases h
    · cases h
  | buildSlice t len parts =>
    simp only [eop] at h
    split at h
    · rename_i e _ _ _ l hi hl
      have hu := tinf_und hi
      simp only at hu
      have hp := partsO_sound hw ht hl
      have hp' : VRp w F μ l (parts.map fun (i, x) => (i, a.eval x)).toList := by simpa using hp
      split at h
      · rename_i ie hie
        split at h
        · split at h
          · rename_i h0
            injection h with h; injection h with h h'; subst h; subst h'
            obtain ⟨rfl, hle⟩ := h0
            have hle : l = [] := by simpa using hle
            subst hle
            have hpn : (parts.map fun (i, x) => (i, a.eval x)).toList = [] := by
              cases hq : (parts.map fun (i, x) => (i, a.eval x)).toList with
              | nil => rfl
              | cons y r => rw [hq] at hp'; exact hp'.elim
            have hr := literal_empty (P := E.P) (w := w) hu hie hpn
            have hx := Ext.push w (.cells #[] e)
            refine ⟨_, F, μ, hx.wr hw, hx.keep, .inl ⟨_, value_of (a := a) hr, .slE _ _ _ (fun _ => rfl)⟩⟩
          · cases h
        · rename_i h0
          simp only [not_or] at h0
          split at h
          · cases h
          · rename_i hz
            have hz : ie.zero.cells.length = ie.size := Decidable.of_not_not hz
            split at h
            · rename_i cs hf
              split at h
              · rename_i h1
                injection h with h; injection h with h h'; subst h; subst h'
                obtain ⟨arr, r1, r2⟩ := literal_cells (P := E.P) (w := w) (it := ie) hu hie h0.1 h0.2 hz hf hp'
                obtain ⟨k1, k2⟩ := newOwn (e := e) (ver := cs.length) hw r2 h1
                have hcl : cs.length = len * ie.size := by
                  have := fillV_length hf
                  rw [this, rep_length, hz]
                refine ⟨_, F, _, k1, k2, .inl ⟨_, value_of (a := a) r1, ?_⟩⟩
                exact VR.ms_new (arr := arr) (e := e) (fr := (0, 0)) (n := arr.size) (upd_at _ _ _) (by simp) rfl (by rw [r2.1, hcl]; exact Nat.le_refl _) (Nat.le_refl _) (fun _ => rfl)
              · cases h
            · cases h
      · cases h
    · cases h
  | makeSlice t len cap =>
    simp only [eop] at h
    split at h
    · rename_i e _ _ _ k l k' c hi hl hc
      have hu := tinf_und hi
      simp only at hu
      have hvl := R hl
      have hvc := R hc
      split at h
      · rename_i ie hie
        split at h
        · rename_i hcnd
          obtain ⟨c1, c2, c3, c4, c5, c6, c7⟩ := hcnd
          obtain ⟨arr, r1, r2, r3⟩ := make_run (P := E.P) (w := w) (F := F) (μ := μ) (k := k) (k' := k') hu hie c1 c2 (by simpa [room] using c3) c4 c5 c6
          have hrun : (execOp a.eval ⟨dst, .makeSlice t len cap, type, pos, after, guard⟩).run E.P w = .ok (.value (.slice (some ⟨w.heap.size, 0, none⟩) l.toNat c.toNat)) { w with heap := w.heap.push (.cells arr e) } := by
            cases hq1 : a.eval len <;> rw [hq1] at hvl <;> cases hvl
            cases hq2 : a.eval cap <;> rw [hq2] at hvc <;> cases hvc
            have := value_of (a := a) r1
            simpa [execOp, hq1, hq2] using this
          have own : ∀ (n : Nat), n ≤ c.toNat → ∀ ver, WR E { w with heap := w.heap.push (.cells arr e) } F (upd μ H.length ver (w.heap.size, 0)) (H ++ [newBlk ver (List.replicate n ie.zero.cells).flatten]) ∧
              Keep w F μ H { w with heap := w.heap.push (.cells arr e) } F (upd μ H.length ver (w.heap.size, 0)) (H ++ [newBlk ver (List.replicate n ie.zero.cells).flatten]) := fun n hn ver =>
            hw.fresh (Ext.push w _) (cb := w.heap.size) (arr := arr) (e := e) (fr := (0, 0)) (by simp) (Nat.le_refl _) nofr (by rw [rep_length, c6, r2]; exact Nat.mul_le_mul_right _ hn) (fun j x hj => by
              refine ⟨r3 n hn j x hj, ?_⟩
              obtain ⟨y, hy, hxy⟩ := List.mem_flatten.1 (List.mem_of_getElem? hj)
              rw [List.eq_of_mem_replicate hy] at hxy
              exact List.all_eq_true.1 c7 x hxy)
          split at h
          · rename_i hl0
            split at h
            · rename_i hc0
              injection h with h; injection h with h h'; subst h; subst h'
              have hx := Ext.push w (.cells arr e)
              refine ⟨_, F, μ, hx.wr hw, hx.keep, .inl ⟨_, hrun, ?_⟩⟩
              subst hl0; subst hc0
              exact .slE _ _ _ (fun _ => rfl)
            · injection h with h; injection h with h h'; subst h; subst h'
              obtain ⟨k1, k2⟩ := own 0 (Nat.zero_le _) 0
              refine ⟨_, F, _, k1, k2, .inl ⟨_, hrun, ?_⟩⟩
              subst hl0
              exact VR.ms_new (arr := arr) (e := e) (fr := (0, 0)) (n := arr.size) (upd_at _ _ _) (by simp) rfl (by rw [r2]; exact Nat.le_refl _) (Nat.zero_le _) (by simp)
          · injection h with h; injection h with h h'; subst h; subst h'
            obtain ⟨k1, k2⟩ := own l.toNat (by omega) (List.replicate l.toNat ie.zero.cells).flatten.length
            refine ⟨_, F, _, k1, k2, .inl ⟨_, hrun, ?_⟩⟩
            exact VR.ms_new (arr := arr) (e := e) (fr := (0, 0)) (n := arr.size) (upd_at _ _ _) (by simp) rfl (by rw [r2]; exact Nat.le_refl _) (by omega) (fun q => by simp at q; omega)
        · cases h
      · cases h
    · cases h
  | store t x y =>
    simp only [eop] at h
    split at h
    · rename_i i b ver off u hi hx hy
      split at h
      · rename_i cs hg
        split at h
        · rename_i hcnd
          injection h with h; injection h with h h'; subst h; subst h'
          obtain ⟨w', F', μ', r1, r2, r3⟩ := store_sound (P := E.P) hw hi hg hcnd.1 hcnd.2.1 hcnd.2.2 (R hx) (R hy)
          exact ⟨w', F', μ', r2, r3, .inr ⟨by simp [execOp, r1], rfl⟩⟩
        · cases h
      · cases h
    · cases h
  | convert src dst' x =>
    simp only [eop] at h
    split at h
    · rename_i s is e _ _ _ hx hs hd
      split at h
      · rename_i he
        injection h with h; injection h with h h'; subst h; subst h'
        have hr := R hx
        have ud := tinf_und hd
        have ue := tinf_und he
        simp only at ud ue
        obtain ⟨w1, arr, cap, fr, r1, r2, r3, r4, r5, r6, r7⟩ := bytes_run (P := E.P) (w := w) (s := s) hs ud ue
        have hmap : (s.map fun c => V.int .u8 (c.toNat : Int)).length = s.length := by simp
        obtain ⟨k1, k2⟩ := hw.fresh (ver := s.length) (cells := s.map fun c => V.int .u8 (c.toNat : Int)) r2 r3 (Nat.le_refl _) r6 (by rw [hmap, r4]; exact r5) (fun j c hj => by
          simp only [List.getElem?_map, Option.map_eq_some_iff] at hj
          obtain ⟨u, hu, rfl⟩ := hj
          rw [r7 j u hu]
          exact ⟨.int _ _, rfl⟩)
        refine ⟨w1, F, _, k1, k2, .inl ⟨.slice (some ⟨w.heap.size, 0, none⟩) s.length cap, ?_, ?_⟩⟩
        · cases hcv : a.eval x <;> rw [hcv] at hr <;> cases hr
          have := value_of (a := a) r1
          simpa [execOp, hcv] using this
        · exact VR.ms_new (arr := arr) (e := e) (fr := fr) (n := arr.size) (upd_at _ _ _) r3 rfl (by rw [r4]; omega) r5 (by simp)
      · cases h
    · cases h
  | call c =>
    obtain ⟨callee, args, argTypes⟩ := c
    simp only [eop] at h
    split at h
    · rename_i s x hargs
      split at h
      · rename_i t hat
        split at h
        · rename_i u hau
          split at h
          · cases h
          · rename_i iu hnu hiu
            have hvs := rhoL_sound hw ht hargs
            obtain ⟨cs, r, hq, hs, hr⟩ := hvs.head
            obtain ⟨cx, r', rfl, hx, hr'⟩ := hr.head
            have := hr'.none; subst this
            have hargs' : args.map a.eval = #[cs, cx] := by
              apply Array.ext'
              simpa using hq
            have hnu' : ∀ k, iu.desc ≠ .int k := fun k q => hnu k iu.size iu.bytes iu.zero (by cases iu; simp at q; subst q; rfl)
            have happ : ∃ w' F' μ' cv, (Builtin.append_ argTypes type #[cs, cx]).run E.P w = .ok cv w' ∧ WR E w' F' μ' H' ∧ Keep w F μ H w' F' μ' H' ∧ VR w' F' μ' v cv := by
              split at h
              · exact appendB_sound (P := E.P) (ty := type) hw h hat hau hiu hnu' hs hx
              · exact append_sound (P := E.P) (ty := type) hw h hat hau hiu hnu' hs hx
            obtain ⟨w', F', μ', cv, r1, r2, r3, r4⟩ := happ
            refine ⟨w', F', μ', r2, r3, .inl ⟨cv, ?_, r4⟩⟩
            simp only [execOp, resolve, invoke, builtin, Sem.run_bind, Sem.run_pure, Result.andThen_ok, hargs', r1]
          · cases h
        · cases h
      · cases h
    · rename_i p n hargs
      split at h
      · rename_i pt it hats
        have hvs := rhoL_sound hw ht hargs
        obtain ⟨cp, r, hq, hp, hr⟩ := hvs.head
        obtain ⟨cn, r', rfl, hn, hr'⟩ := hr.head
        have := hr'.none; subst this
        have hargs' : args.map a.eval = #[cp, cn] := by
          apply Array.ext'
          simpa using hq
        have hats' : argTypes = #[pt, it] := by apply Array.ext'; rw [hats]
        obtain ⟨w', F', μ', cv, r1, r2, r3, r4⟩ := unsafeStr_sound (P := E.P) (it := it) (ty := type) hw h hp hn
        refine ⟨w', F', μ', r2, r3, .inl ⟨cv, ?_, r4⟩⟩
        simp only [execOp, resolve, invoke, builtin, Sem.run_bind, Sem.run_pure, Result.andThen_ok, hargs', hats', r1]
      · cases h
    · cases h
  | _ => simp [eop] at h

end Go.Ae

namespace Go.Ae

variable {E : Env} {w : World} {F : Nat → Prop} {μ : Nat → Nat → Option (Nat × Nat)} {H : Heap}

set_option maxHeartbeats 1000000 in
theorem nop_sound (hw : WR E w F μ H) {a : Act} {ts : List V} (ht : VRa w F μ ts a.tmps) {o : Oper} {v : V} (h : nop E (rho E ts) o.op = some v) :
    ∃ w' F', WR E w' F' μ H ∧ Keep w F μ H w' F' μ H ∧ ∃ cv, (execOp a.eval o).run E.P w = .ok (.value cv) w' ∧ VR w' F' μ v cv := by
  have R : ∀ {x : Operand} {u : V}, rho E ts x = some u → VR w F μ u (a.eval x) := fun h => rho_sound hw ht h
  obtain ⟨dst, op, type, pos, after, guard⟩ := o
  simp only at h
  cases op with
  | alloc e =>
    simp only [nop] at h
    split at h
    · rename_i i hi
      split at h
      · injection h with h; subst h
        obtain ⟨zv, hz1, hz2⟩ := run_zero (w := w) (F := F) (μ := μ) hi
        obtain ⟨k1, k2⟩ := newFrz (w1 := { w with heap := w.heap.push (.cells zv.cells e) }) hw (Ext.push w _) (cb := w.heap.size) (by simp) (Nat.le_refl _)
        refine ⟨_, _, k1, k2, .pointer (some ⟨w.heap.size, 0, none⟩), ?_, rp_at (e := e) (fr := (0, 0)) (by simp) (.inr rfl) ((VRa_of_list hz2.cells).mono fun _ _ h => k2.vr hw h)⟩
        simp [execOp, Instr.alloc, hz1, newVar, run_newRow]
      · cases h
    · cases h
  | box t x =>
    simp only [nop] at h
    split at h
    · rename_i u hu
      split at h
      · injection h with h; subst h
        have hv := R hu
        obtain ⟨k1, k2⟩ := newFrz (w1 := { w with heap := w.heap.push (.cells (a.eval x).cells t) }) hw (Ext.push w _) (cb := w.heap.size) (by simp) (Nat.le_refl _)
        refine ⟨_, _, k1, k2, .pointer (some ⟨w.heap.size, 0, none⟩), ?_, rp_at (e := t) (fr := (0, 0)) (by simp) (.inr rfl) ((VRa_of_list hv.cells).mono fun _ _ h => k2.vr hw h)⟩
        simp [execOp, Instr.box, newVar, run_newRow]
      · cases h
    · cases h
  | buildSlice t len parts =>
    simp only [nop] at h
    split at h
    · rename_i e _ _ _ l hi hl
      have hu := tinf_und hi
      simp only at hu
      have hp := partsO_sound hw ht hl
      have hp' : VRp w F μ l (parts.map fun (i, x) => (i, a.eval x)).toList := by simpa using hp
      split at h
      · rename_i ie hie
        split at h
        · split at h
          · rename_i h0
            injection h with h; subst h
            obtain ⟨rfl, hle⟩ := h0
            have hle : l = [] := by simpa using hle
            subst hle
            have hpn : (parts.map fun (i, x) => (i, a.eval x)).toList = [] := by
              cases hq : (parts.map fun (i, x) => (i, a.eval x)).toList with
              | nil => rfl
              | cons y r => rw [hq] at hp'; exact hp'.elim
            have hr := literal_empty (P := E.P) (w := w) hu hie hpn
            have hx := Ext.push w (.cells #[] e)
            exact ⟨_, F, hx.wr hw, hx.keep, _, value_of (a := a) hr, .slE _ _ _ (fun _ => rfl)⟩
          · cases h
        · rename_i h0
          simp only [not_or] at h0
          split at h
          · cases h
          · rename_i hz
            have hz : ie.zero.cells.length = ie.size := Decidable.of_not_not hz
            split at h
            · rename_i cs hf
              split at h
              · rename_i h1
                injection h with h; subst h
                obtain ⟨arr, r1, r2⟩ := literal_cells (P := E.P) (w := w) (it := ie) hu hie h0.1 h0.2 hz hf hp'
                obtain ⟨k1, k2⟩ := newFrz (w1 := { w with heap := w.heap.push (.cells arr e) }) hw (Ext.push w _) (cb := w.heap.size) (by simp) (Nat.le_refl _)
                refine ⟨_, _, k1, k2, _, value_of (a := a) r1, ?_⟩
                refine sl_at (sz := ie.size) (e := e) (fr := (0, 0)) (arr := arr) (by simp) (.inr rfl) (chunk_length _ _ _) (fun i x hx => ?_) (Nat.le_refl _) (fun _ => rfl) (fun j c hj => ?_)
                · rw [chunk_get] at hx
                  split at hx
                  · rename_i hil
                    injection hx with hx; subst hx
                    have : (i + 1) * ie.size ≤ len * ie.size := Nat.mul_le_mul_right _ hil
                    rw [Nat.add_mul] at this
                    simp; omega
                  · cases hx
                · rw [chunk_flatten, ← h1.2, List.take_length] at hj
                  exact ⟨by rw [r2.1]; exact (List.getElem?_eq_some_iff.1 hj).1, k2.vr hw (r2.2 j c hj)⟩
              · cases h
            · cases h
      · cases h
    · cases h
  | makeSlice t len cap =>
    simp only [nop] at h
    split at h
    · rename_i e _ _ _ k l k' c hi hl hc
      have hu := tinf_und hi
      simp only at hu
      have hvl := R hl
      have hvc := R hc
      split at h
      · rename_i ie hie
        split at h
        · rename_i hcnd
          obtain ⟨c1, c2, c3, c4, c5, c6, c7⟩ := hcnd
          injection h with h; subst h
          obtain ⟨arr, r1, r2, r3⟩ := make_run (P := E.P) (w := w) (F := F) (μ := μ) (k := k) (k' := k') hu hie c1 c2 (by simpa [room] using c3) c4 c5 c6
          have hrun : (execOp a.eval ⟨dst, .makeSlice t len cap, type, pos, after, guard⟩).run E.P w = .ok (.value (.slice (some ⟨w.heap.size, 0, none⟩) l.toNat c.toNat)) { w with heap := w.heap.push (.cells arr e) } := by
            cases hq1 : a.eval len <;> rw [hq1] at hvl <;> cases hvl
            cases hq2 : a.eval cap <;> rw [hq2] at hvc <;> cases hvc
            have := value_of (a := a) r1
            simpa [execOp, hq1, hq2] using this
          obtain ⟨k1, k2⟩ := newFrz (w1 := { w with heap := w.heap.push (.cells arr e) }) hw (Ext.push w _) (cb := w.heap.size) (by simp) (Nat.le_refl _)
          refine ⟨_, _, k1, k2, _, hrun, ?_⟩
          refine sl_at (sz := ie.size) (e := e) (fr := (0, 0)) (arr := arr) (by simp) (.inr rfl) (by simp) (fun i x hx => ?_) (by omega) (fun q => by simp at q; omega) (fun j x hj => ⟨?_, k2.vr hw (r3 l.toNat (by omega) j x hj)⟩)
          · rw [List.getElem?_replicate] at hx
            split at hx
            · injection hx with hx; subst hx; exact c6
            · cases hx
          · have h1 := (List.getElem?_eq_some_iff.1 hj).1
            rw [rep_length, c6] at h1
            rw [r2]
            exact Nat.lt_of_lt_of_le h1 (Nat.mul_le_mul_right _ (by omega))
        · cases h
      · cases h
    · cases h
  | convert src dst' x =>
    simp only [nop] at h
    split at h
    · rename_i s is e _ _ _ hx hs hd
      split at h
      · rename_i he
        injection h with h; subst h
        have hr := R hx
        have ud := tinf_und hd
        have ue := tinf_und he
        simp only at ud ue
        obtain ⟨w1, arr, cap, fr, r1, r2, r3, r4, r5, r6, r7⟩ := bytes_run (P := E.P) (w := w) (s := s) hs ud ue
        obtain ⟨k1, k2⟩ := newFrz hw r2 (cb := w.heap.size) (Array.getElem?_eq_some_iff.1 r3).1 (Nat.le_refl _)
        refine ⟨w1, _, k1, k2, .slice (some ⟨w.heap.size, 0, none⟩) s.length cap, ?_, ?_⟩
        · cases hcv : a.eval x <;> rw [hcv] at hr <;> cases hr
          have := value_of (a := a) r1
          simpa [execOp, hcv] using this
        · refine sl_at (sz := 1) (e := e) (fr := fr) (arr := arr) r3 (.inr rfl) (by simp) (fun i x hx => ?_) r5 (by simp) (fun j x hj => ?_)
          · simp only [List.getElem?_map, Option.map_eq_some_iff] at hx
            obtain ⟨u, _, rfl⟩ := hx; rfl
          · rw [flatten_single] at hj
            simp only [List.getElem?_map, Option.map_eq_some_iff] at hj
            obtain ⟨u, hu, rfl⟩ := hj
            refine ⟨by have := (List.getElem?_eq_some_iff.1 hu).1; omega, ?_⟩
            rw [r7 j u hu]; exact .int _ _
      · cases h
    · cases h
  | _ => simp [nop] at h

end Go.Ae

namespace Go.Ae

variable {E : Env} {w : World} {F : Nat → Prop} {μ : Nat → Nat → Option (Nat × Nat)} {H : Heap}

/-- A slice, by the values of its cells. -/
theorem sl_vals {els : List (List V)} {full : Bool} {b off cap sz len : Nat} {cvs : List Value} (hlen : els.length = len) (hsz : ∀ (i : Nat) (e : List V), els[i]? = some e → e.length = sz) (hcap : len ≤ cap) (hfull : full = true → cap = len)
    (hF : els.flatten ≠ [] → F b) (hv : VRs w F μ els.flatten cvs) (hc : ∀ (j : Nat) (v : Value), cvs[j]? = some v → w.cell? ⟨b, off + j, none⟩ = some v) : VR w F μ (.sl full els) (.slice (some ⟨b, off, none⟩) len cap) := by
  have hfl : ∀ (i : Nat) (e : List V) (j : Nat) (c : V), els[i]? = some e → e[j]? = some c → els.flatten[i * sz + j]? = some c := by
    clear hv hlen hcap hfull hF hc
    intro i
    induction els generalizing i with
    | nil => intro e j c h; simp at h
    | cons x r ih =>
      intro e j c h1 h2
      have hx : x.length = sz := hsz 0 x rfl
      rw [List.flatten_cons, List.getElem?_append]
      cases i with
      | zero =>
        simp at h1; subst h1
        have hj : j < x.length := (List.getElem?_eq_some_iff.1 h2).1
        rw [if_pos (by omega)]
        simpa using h2
      | succ i =>
        rw [if_neg (by rw [Nat.add_mul]; omega), hx]
        have := ih (fun i e h => hsz (i + 1) e (by simpa using h)) i e j c (by simpa using h1) h2
        rw [show (i + 1) * sz + j - sz = i * sz + j by rw [Nat.add_mul]; omega]
        exact this
  refine .slN full els b off len cap sz (fun i j => cvs.getD (i * sz + j) undef) hlen hsz hcap hfull (fun i e j c h1 h2 => ?_) (fun i e j c h1 h2 => ?_)
  · have hk := hfl i e j c h1 h2
    obtain ⟨y, hy, hr⟩ := hv.2 _ c hk
    refine ⟨hF (fun q => by rw [q] at hk; simp at hk), ?_⟩
    rw [List.getD_eq_getElem?_getD, hy]
    exact hc _ _ hy
  · obtain ⟨y, hy, hr⟩ := hv.2 _ c (hfl i e j c h1 h2)
    rw [List.getD_eq_getElem?_getD, hy]
    exact hr

theorem rp_vals {cells : List V} {b off : Nat} {cvs : List Value} (hF : cells ≠ [] → F b) (hv : VRs w F μ cells cvs) (hc : ∀ (j : Nat) (v : Value), cvs[j]? = some v → w.cell? ⟨b, off + j, none⟩ = some v) :
    VR w F μ (.rp cells) (.pointer (some ⟨b, off, none⟩)) := by
  refine .rp cells b off (fun j => cvs.getD j undef) (fun j c hj => ?_) (fun j c hj => ?_)
  · obtain ⟨y, hy, hr⟩ := hv.2 _ c hj
    refine ⟨hF (fun q => by rw [q] at hj; simp at hj), ?_⟩
    rw [List.getD_eq_getElem?_getD, hy]
    exact hc _ _ hy
  · obtain ⟨y, hy, hr⟩ := hv.2 _ c hj
    rw [List.getD_eq_getElem?_getD, hy]
    exact hr

/-- What a step that makes a value immutable gives. -/
def FrzOk (E : Env) (w : World) (μ : Nat → Nat → Option (Nat × Nat)) (f : Heap → V → Option (V × Heap)) : Prop :=
  ∀ (H : Heap) (F : Nat → Prop) (v v' : V) (H' : Heap) (cv : Value), f H v = some (v', H') → WR E w F μ H → VR w F μ v cv → ∃ F', WR E w F' μ H' ∧ Keep w F μ H w F' μ H' ∧ VR w F' μ v' cv

theorem frzList_sound {f : Heap → V → Option (V × Heap)} (hf : FrzOk E w μ f) : ∀ (vs : List V) (H : Heap) (F : Nat → Prop) (vs' : List V) (H' : Heap) (cvs : List Value), frzList f H vs = some (vs', H') → WR E w F μ H → VRs w F μ vs cvs →
    ∃ F', WR E w F' μ H' ∧ Keep w F μ H w F' μ H' ∧ VRs w F' μ vs' cvs
  | [], H, F, vs', H', cvs, h, hw, hv => by
    simp only [frzList, Option.some.injEq, Prod.mk.injEq] at h
    obtain ⟨rfl, rfl⟩ := h
    exact ⟨F, hw, .refl .., hv⟩
  | v :: r, H, F, vs', H', cvs, h, hw, hv => by
    simp only [frzList] at h
    split at h
    · rename_i v1 H1 h1
      split at h
      · rename_i r1 H2 h2
        injection h with h; injection h with h h'; subst h; subst h'
        obtain ⟨cv, cr, rfl, hv1, hvr⟩ := hv.head
        obtain ⟨F1, w1, k1, v1'⟩ := hf H F v v1 H1 cv h1 hw hv1
        obtain ⟨F2, w2, k2, v2'⟩ := frzList_sound hf r H1 F1 r1 H2 cr h2 w1 (hvr.mono fun _ _ h => k1.vr hw h)
        exact ⟨F2, w2, k1.trans k2, .cons (k2.vr w1 v1') v2'⟩
      · cases h
    · cases h

theorem frzLL_flat {f : Heap → V → Option (V × Heap)} : ∀ (els : List (List V)) (H : Heap) (els' : List (List V)) (H' : Heap), frzLL f H els = some (els', H') →
    frzList f H els.flatten = some (els'.flatten, H') ∧ els'.length = els.length ∧ ∀ (i : Nat) (e' : List V), els'[i]? = some e' → ∃ e, els[i]? = some e ∧ e'.length = e.length
  | [], H, els', H', h => by
    simp only [frzLL, Option.some.injEq, Prod.mk.injEq] at h
    obtain ⟨rfl, rfl⟩ := h
    exact ⟨rfl, rfl, fun i e' h => by simp at h⟩
  | x :: r, H, els', H', h => by
    simp only [frzLL] at h
    split at h
    · rename_i x1 H1 h1
      split at h
      · rename_i r1 H2 h2
        injection h with h; injection h with h h'; subst h; subst h'
        obtain ⟨a1, a2, a3⟩ := frzLL_flat r H1 r1 H2 h2
        have hap : ∀ (l : List V) (m : List V) (H : Heap) (l' : List V) (Ha : Heap) (m' : List V) (Hb : Heap), frzList f H l = some (l', Ha) → frzList f Ha m = some (m', Hb) → frzList f H (l ++ m) = some (l' ++ m', Hb) ∧ l'.length = l.length := by
          intro l
          induction l with
          | nil => intro m H l' Ha m' Hb q1 q2; simp only [frzList, Option.some.injEq, Prod.mk.injEq] at q1; obtain ⟨rfl, rfl⟩ := q1; exact ⟨q2, rfl⟩
          | cons y s ih =>
            intro m H l' Ha m' Hb q1 q2
            simp only [frzList] at q1
            split at q1
            · rename_i y1 Hy hy
              split at q1
              · rename_i s1 Hs hs
                injection q1 with q1; injection q1 with q1 q1'; subst q1; subst q1'
                obtain ⟨i1, i2⟩ := ih m Hy s1 Hs m' Hb hs q2
                refine ⟨?_, by simp [i2]⟩
                simp only [List.cons_append, frzList, hy, i1]
              · cases q1
            · cases q1
        obtain ⟨b1, b2⟩ := hap x r.flatten H x1 H1 r1.flatten H2 h1 a1
        refine ⟨by simpa using b1, by simp [a2], fun i e' hi => ?_⟩
        cases i with
        | zero => simp at hi; subst hi; exact ⟨x, rfl, b2⟩
        | succ i => exact a3 i e' (by simpa using hi)
      · cases h
    · cases h

/-- A block is no longer written. -/
theorem WR.shutW (hw : WR E w F μ H) {b ver : Nat} {cs : List V} (hg : getW H b ver = some cs) {cb sh : Nat} (hm : μ b ver = some (cb, sh)) :
    WR E w (fun c => F c ∨ c = cb) μ (H.set b none) ∧ Keep w F μ H w (fun c => F c ∨ c = cb) μ (H.set b none) := by
  have hb := getW_spec hg
  have hbl : b < H.length := (List.getElem?_eq_some_iff.1 hb).1
  obtain ⟨k1, k2⟩ := hw.kill b
  obtain ⟨cb', sh', arr, e, fr, g1, g2, g3, g4, g5, g6⟩ := hw.live b ver false cs hb
  rw [hm] at g1; injection g1 with g1; injection g1 with g1 g1'; subst g1; subst g1'
  refine ⟨k1.freeze (fun c h => .inl h) (fun c h => ?_) (fun i v ro cs' c s hi hmi hq => ?_), ⟨⟨k2.os, k2.tape, k2.output, k2.size, fun c h => .inl h, k2.map, k2.blk, k2.shape, k2.len, k2.own, fun c _ h => h.elim .inl (fun q => .inr ⟨b, ver, cs, sh, hb, by rw [q]; exact hm⟩)⟩, k2.dead⟩⟩
  · rcases h with h | rfl
    · exact hw.fz c h
    · exact (Array.getElem?_eq_some_iff.1 g2).1
  · rcases hq with hq | rfl
    · exact hq
    · have hib : i ≠ b := fun q => by subst q; rw [List.getElem?_set_self hbl] at hi; cases hi
      rw [List.getElem?_set_ne (Ne.symm hib)] at hi
      exact absurd (hw.inj i v ro cs' b ver false cs c s sh hi hb hmi hm) hib

set_option maxHeartbeats 800000 in
theorem frz_sound : ∀ d : Nat, FrzOk E w μ (frzV d)
  | 0 => fun H F v v' H' cv h _ _ => by simp [frzV] at h
  | d + 1 => fun H F v v' H' cv h hw hv => by
    have ih := frz_sound d
    simp only [frzV] at h
    split at h
    · injection h with h; injection h with h h'; subst h; subst h'
      exact ⟨F, hw, .refl .., hv⟩
    · split at h
      · -- a slice of one's own
        rename_i sz b ver off len full hnp
        split at h
        · rename_i cs hg
          split at h
          · rename_i hcov
            split at h
            · rename_i els H1 hf
              injection h with h; injection h with h h'; subst h; subst h'
              obtain ⟨cb, sh, cap, n, e, rfl, hm, hs', hr', hcap, hfull⟩ := hv.ms_inv
              obtain ⟨k1, k2⟩ := hw.shutW hg hm
              have hat := ((live_cell hw (getW_get hg) hm).drop off).take (len * sz)
              obtain ⟨cvs, c1, c2⟩ := hat.vals
              obtain ⟨a1, a2, a3⟩ := frzLL_flat _ _ _ _ hf
              rw [chunk_flatten] at a1
              obtain ⟨F', w', k', v'⟩ := frzList_sound ih _ _ _ _ _ _ a1 k1 (c1.mono fun _ _ h => k2.vr hw h)
              refine ⟨F', w', k2.trans k', sl_vals (sz := sz) (cvs := cvs) (by rw [a2, chunk_length]) (fun i e' hi => ?_) hcap hfull (fun _ => k'.fz _ (.inr rfl)) v' (fun j x hj => by have := c2 j x hj; rwa [add_eq] at this)⟩
              obtain ⟨e0, he0, hle⟩ := a3 i e' hi
              rw [hle]
              rw [chunk_get] at he0
              split at he0
              · rename_i hil
                injection he0 with he0; subst he0
                have : (i + 1) * sz ≤ len * sz := Nat.mul_le_mul_right _ hil
                rw [Nat.add_mul] at this
                simp; omega
              · cases he0
            · cases h
          · cases h
        · cases h
      · -- a pointer to one's own
        rename_i b ver off hnp
        split at h
        · rename_i cs hg
          split at h
          · rename_i cs' H1 hf
            injection h with h; injection h with h h'; subst h; subst h'
            cases hv
            rename_i cb sh hm
            obtain ⟨k1, k2⟩ := hw.shutW hg hm
            have hat := (live_cell hw (getW_get hg) hm).drop off
            obtain ⟨cvs, c1, c2⟩ := hat.vals
            obtain ⟨F', w', k', v'⟩ := frzList_sound ih _ _ _ _ _ _ hf k1 (c1.mono fun _ _ h => k2.vr hw h)
            exact ⟨F', w', k2.trans k', rp_vals (fun _ => k'.fz _ (.inr rfl)) v' (fun j x hj => by have := c2 j x hj; rwa [add_eq] at this)⟩
          · cases h
        · cases h
      · -- a slice whose elements hold one's own
        rename_i full els hnp
        split at h
        · rename_i els' H1 hf
          injection h with h; injection h with h h'; subst h; subst h'
          obtain ⟨a1, a2, a3⟩ := frzLL_flat _ _ _ _ hf
          cases hv with
          | slE full a cap hfull =>
            simp only [frzLL, Option.some.injEq, Prod.mk.injEq] at hf
            obtain ⟨rfl, rfl⟩ := hf
            exact ⟨F, hw, .refl .., .slE _ _ _ hfull⟩
          | sl full els b off cap sz vs hsz hcap hfull hc hv =>
            have hat : At w F μ els.flatten b off := fun k c hk => by
              obtain ⟨i, j, e, h1, h2, rfl⟩ := flatten_get hsz hk
              exact ⟨_, (hc i e j c h1 h2).2, hv i e j c h1 h2⟩
            have hFb : els.flatten ≠ [] → F b := fun q => by
              cases hfl : els.flatten with
              | nil => exact absurd hfl q
              | cons c r =>
                obtain ⟨i, j, e, h1, h2, _⟩ := flatten_get hsz (k := 0) (c := c) (by rw [hfl]; rfl)
                exact (hc i e j c h1 h2).1
            obtain ⟨cvs, c1, c2⟩ := hat.vals
            obtain ⟨F', w', k', v'⟩ := frzList_sound ih _ _ _ _ _ _ a1 hw c1
            refine ⟨F', w', k', sl_vals (sz := sz) (cvs := cvs) a2 (fun i e' hi => ?_) hcap hfull (fun q => k'.fz _ (hFb (fun q' => q ?_))) v' (fun j x hj => by have := c2 j x hj; rwa [add_eq] at this)⟩
            · obtain ⟨e0, he0, hle⟩ := a3 i e' hi
              rw [hle]; exact hsz i e0 he0
            · have hl := v'.1
              have hl2 := c1.1
              rw [q'] at hl2
              exact List.eq_nil_of_length_eq_zero (by rw [← hl, hl2]; rfl)
        · cases h
      · -- a pointer to immutable cells that hold one's own
        rename_i cs hnp
        split at h
        · rename_i cs' H1 hf
          injection h with h; injection h with h h'; subst h; subst h'
          cases hv with
          | rp cells b off vs hc hv =>
            have hat : At w F μ cs b off := fun k c hk => ⟨_, (hc k c hk).2, hv k c hk⟩
            have hFb : cs ≠ [] → F b := fun q => by
              cases cs with
              | nil => exact absurd rfl q
              | cons c r => exact (hc 0 c rfl).1
            obtain ⟨cvs, c1, c2⟩ := hat.vals
            obtain ⟨F', w', k', v'⟩ := frzList_sound ih _ _ _ _ _ _ hf hw c1
            refine ⟨F', w', k', rp_vals (fun q => k'.fz _ (hFb (fun q' => q ?_))) v' (fun j x hj => by have := c2 j x hj; rwa [add_eq] at this)⟩
            have hl := v'.1
            have hl2 := c1.1
            rw [q'] at hl2
            exact List.eq_nil_of_length_eq_zero (by rw [← hl, hl2]; rfl)
        · cases h
      · -- a struct
        split at h
        · rename_i cs' H1 hf
          injection h with h; injection h with h h'; subst h; subst h'
          obtain ⟨arr, rfl, hr⟩ := VR.agg_iff.1 hv
          obtain ⟨F', w', k', v'⟩ := frzList_sound ih _ _ _ _ _ _ hf hw hr.list
          exact ⟨F', w', k', VR.agg_iff.2 ⟨arr, rfl, VRa_of_list v'⟩⟩
        · cases h
      · split at h
        · rename_i cs' H1 hf
          injection h with h; injection h with h h'; subst h; subst h'
          obtain ⟨arr, rfl, hr⟩ := VR.tup_iff.1 hv
          obtain ⟨F', w', k', v'⟩ := frzList_sound ih _ _ _ _ _ _ hf hw hr.list
          exact ⟨F', w', k', VR.tup_iff.2 ⟨arr, rfl, VRa_of_list v'⟩⟩
        · cases h
      · -- a function value
        rename_i f a c hnp
        split at h
        · rename_i a' H1 hf1
          split at h
          · rename_i c' H2 hf2
            injection h with h; injection h with h h'; subst h; subst h'
            cases hv with
            | fn f a c av cv ha hc hav hcv =>
              have r1 : VRa w F μ a av := ⟨ha, hav⟩
              have r2 : VRa w F μ c cv := ⟨hc, hcv⟩
              obtain ⟨F1, w1, k1, v1⟩ := frzList_sound ih _ _ _ _ _ _ hf1 hw r1.list
              obtain ⟨F2, w2, k2, v2⟩ := frzList_sound ih _ _ _ _ _ _ hf2 w1 (r2.list.mono fun _ _ h => k1.vr hw h)
              exact ⟨F2, w2, k1.trans k2, .fnA (VRa_of_list (v1.mono fun _ _ h => k2.vr w1 h)) (VRa_of_list v2)⟩
          · cases h
        · cases h
      · rename_i t u hnp
        split at h
        · rename_i u' H1 hf
          injection h with h; injection h with h h'; subst h; subst h'
          cases hv
          rename_i cu hu
          obtain ⟨F', w', k', v'⟩ := ih _ _ _ _ _ _ hf hw hu
          exact ⟨F', w', k', .ifc _ _ _ v'⟩
        · cases h
      · cases h

end Go.Ae

namespace Go.Ae

variable {E : Env} {w : World} {F : Nat → Prop} {μ : Nat → Nat → Option (Nat × Nat)} {H : Heap}

theorem pureL_mem : ∀ {l : List V}, V.pureL l = true → ∀ (i : Nat) (x : V), l[i]? = some x → x.pure = true
  | [], _, i, x, h => by simp at h
  | v :: r, hp, i, x, h => by
    simp only [V.pureL, Bool.and_eq_true] at hp
    cases i with
    | zero => simp at h; subst h; exact hp.1
    | succ i => exact pureL_mem hp.2 i x (by simpa using h)

theorem pureLL_mem : ∀ {l : List (List V)}, V.pureLL l = true → ∀ (i : Nat) (x : List V), l[i]? = some x → V.pureL x = true
  | [], _, i, x, h => by simp at h
  | v :: r, hp, i, x, h => by
    simp only [V.pureLL, Bool.and_eq_true] at hp
    cases i with
    | zero => simp at h; subst h; exact hp.1
    | succ i => exact pureLL_mem hp.2 i x (by simpa using h)

theorem VR.anyMap {v : V} {cv : Value} (h : VR w F μ v cv) (hp : v.pure = true) (ν : Nat → Nat → Option (Nat × Nat)) : VR w F ν v cv := by
  induction h with
  | int k n => exact .int k n
  | bool b => exact .bool b
  | str s => exact .str s
  | nil => exact .nil
  | slE full a cap hfull => exact .slE full a cap hfull
  | sl full els b off cap sz vs hsz hcap hfull hc _ ih =>
    simp only [V.pure] at hp
    exact .sl full els b off cap sz vs hsz hcap hfull hc (fun i e j c h1 h2 => ih i e j c h1 h2 (pureL_mem (pureLL_mem hp i e h1) j c h2))
  | ms => simp [V.pure] at hp
  | rp cells b off vs hc _ ih =>
    simp only [V.pure] at hp
    exact .rp cells b off vs hc (fun j c h1 => ih j c h1 (pureL_mem hp j c h1))
  | mp => simp [V.pure] at hp
  | tp => simp [V.pure] at hp
  | mt => simp [V.pure] at hp
  | im ks vs r es c cvs hF hh hf hn _ ih => exact .im ks vs r es c cvs hF hh hf hn (fun i v h => ih i v h (pureL_mem (by simpa [V.pure] using hp) i v h))
  | imn => exact .imn
  | np => exact .np
  | fn f a c av cv ha hc _ _ iha ihc =>
    simp only [V.pure, Bool.and_eq_true] at hp
    exact .fn f a c av cv ha hc (fun i x h => iha i x h (pureL_mem hp.1 i x h)) (fun i x h => ihc i x h (pureL_mem hp.2 i x h))
  | nf => exact .nf
  | ifc t v cv _ ih => exact .ifc t v cv (ih (by simpa [V.pure] using hp))
  | ni => exact .ni
  | agg cs cv hz _ ih => exact .agg cs cv hz (fun i x h => ih i x h (pureL_mem (by simpa [V.pure] using hp) i x h))
  | tup cs cv hz _ ih => exact .tup cs cv hz (fun i x h => ih i x h (pureL_mem (by simpa [V.pure] using hp) i x h))

theorem VRs.anyMap {vs : List V} {cvs : List Value} (h : VRs w F μ vs cvs) (hp : V.pureL vs = true) (ν : Nat → Nat → Option (Nat × Nat)) : VRs w F ν vs cvs :=
  ⟨h.1, fun i x hx => let ⟨y, hy, hr⟩ := h.2 i x hx; ⟨y, hy, hr.anyMap (pureL_mem hp i x hx) ν⟩⟩

def noMap : Nat → Nat → Option (Nat × Nat) := fun _ _ => none

/-- What is immutable, and what only may not be written for a while. -/
def Lent (F : Nat → Prop) (μ : Nat → Nat → Option (Nat × Nat)) (H : Heap) : Nat → Prop := fun c =>
  F c ∨ ∃ (b ver : Nat) (ro : Bool) (cs : List V) (sh : Nat), H[b]? = some (some (ver, ro, cs)) ∧ μ b ver = some (c, sh)

theorem getBlk_spec {b ver : Nat} {cs : List V} (h : getBlk H b ver = some cs) : ∃ ro, H[b]? = some (some (ver, ro, cs)) := by
  unfold getBlk at h
  split at h
  · rename_i v ro cs' hb
    split at h
    · rename_i hv; injection h with h; subst h; subst hv; exact ⟨ro, hb⟩
    · cases h
  · cases h

theorem mapO_vals {f : V → Option V} {G : Nat → Prop} {ν : Nat → Nat → Option (Nat × Nat)} (hf : ∀ v v' cv, f v = some v' → VR w F μ v cv → VR w G ν v' cv) :
    ∀ {vs vs' : List V} {cvs : List Value}, mapO f vs = some vs' → VRs w F μ vs cvs → VRs w G ν vs' cvs
  | [], vs', cvs, h, hv => by
    simp only [mapO, Option.some.injEq] at h; subst h
    rw [hv.none]; exact .nil
  | v :: r, vs', cvs, h, hv => by
    simp only [mapO] at h
    split at h
    · rename_i b hb
      split at h
      · rename_i bs hbs
        injection h with h; subst h
        obtain ⟨cv, cr, rfl, h1, h2⟩ := hv.head
        exact .cons (hf _ _ _ hb h1) (mapO_vals hf hbs h2)
      · cases h
    · cases h

theorem mapO_append {α β : Type} {f : α → Option β} : ∀ {l m : List α} {l' m' : List β}, mapO f l = some l' → mapO f m = some m' → mapO f (l ++ m) = some (l' ++ m') ∧ l'.length = l.length
  | [], m, l', m', h1, h2 => by simp only [mapO, Option.some.injEq] at h1; subst h1; exact ⟨h2, rfl⟩
  | x :: r, m, l', m', h1, h2 => by
    simp only [mapO] at h1
    split at h1
    · rename_i b hb
      split at h1
      · rename_i bs hbs
        injection h1 with h1; subst h1
        obtain ⟨a1, a2⟩ := mapO_append hbs h2
        exact ⟨by simp only [List.cons_append, mapO, hb, a1], by simp [a2]⟩
      · cases h1
    · cases h1

theorem mapO_flat {f : V → Option V} : ∀ {els els' : List (List V)}, mapO (mapO f) els = some els' → mapO f els.flatten = some els'.flatten ∧ els'.length = els.length ∧ ∀ (i : Nat) (e' : List V), els'[i]? = some e' → ∃ e, els[i]? = some e ∧ e'.length = e.length
  | [], els', h => by simp only [mapO, Option.some.injEq] at h; subst h; exact ⟨rfl, rfl, fun i e h => by simp at h⟩
  | x :: r, els', h => by
    simp only [mapO] at h
    split at h
    · rename_i b hb
      split at h
      · rename_i bs hbs
        injection h with h; subst h
        obtain ⟨a1, a2, a3⟩ := mapO_flat hbs
        obtain ⟨b1, b2⟩ := mapO_append hb a1
        refine ⟨by simpa using b1, by simp [a2], fun i e' hi => ?_⟩
        cases i with
        | zero => simp at hi; subst hi; exact ⟨x, rfl, b2⟩
        | succ i => exact a3 i e' (by simpa using hi)
      · cases h
    · cases h

set_option maxHeartbeats 800000 in
theorem snap_sound (hw : WR E w F μ H) (ν : Nat → Nat → Option (Nat × Nat)) : ∀ (d : Nat) (v v' : V) (cv : Value), snapV d H v = some v' → VR w F μ v cv → VR w (Lent F μ H) ν v' cv
  | 0, v, v', cv, h, _ => by simp [snapV] at h
  | d + 1, v, v', cv, h, hv => by
    have ih := snap_sound hw ν d
    have lent : ∀ {v : V} {cv : Value}, VR w F μ v cv → VR w (Lent F μ H) μ v cv := fun h => h.mono (fun _ hb => ⟨.inl hb, rfl⟩) (fun _ _ _ h => h) (fun _ _ _ h => h)
    simp only [snapV] at h
    split at h
    · rename_i hp
      injection h with h; subst h
      exact (lent hv).anyMap hp ν
    · split at h
      · rename_i sz b ver off len full hnp
        split at h
        · rename_i cs hg
          split at h
          · rename_i hcov
            cases hm2 : mapO (mapO (snapV d H)) (chunk sz len (cs.drop off)) with
            | none => rw [hm2] at h; cases h
            | some els =>
              rw [hm2] at h; injection h with h; subst h
              obtain ⟨cb, sh, cap, n, e, rfl, hm, hs', hr', hcap, hfull⟩ := hv.ms_inv
              have hat := ((live_cell hw hg hm).drop off).take (len * sz)
              obtain ⟨cvs, c1, c2⟩ := hat.vals
              obtain ⟨a1, a2, a3⟩ := mapO_flat hm2
              rw [chunk_flatten] at a1
              obtain ⟨ro, hb⟩ := getBlk_spec hg
              refine sl_vals (sz := sz) (cvs := cvs) (by rw [a2, chunk_length]) (fun i e' hi => ?_) hcap hfull (fun _ => .inr ⟨b, ver, ro, cs, sh, hb, hm⟩) (mapO_vals ih a1 c1) (fun j x hj => by have := c2 j x hj; rwa [add_eq] at this)
              obtain ⟨e0, he0, hle⟩ := a3 i e' hi
              rw [hle]
              rw [chunk_get] at he0
              split at he0
              · rename_i hil
                injection he0 with he0; subst he0
                have : (i + 1) * sz ≤ len * sz := Nat.mul_le_mul_right _ hil
                rw [Nat.add_mul] at this
                simp; omega
              · cases he0
          · cases h
        · cases h
      · rename_i b ver off hnp
        split at h
        · rename_i cs hg
          cases hm2 : mapO (snapV d H) (cs.drop off) with
          | none => rw [hm2] at h; cases h
          | some cs' =>
            rw [hm2] at h; injection h with h; subst h
            cases hv
            rename_i cb sh hm
            have hat := (live_cell hw hg hm).drop off
            obtain ⟨cvs, c1, c2⟩ := hat.vals
            obtain ⟨ro, hb⟩ := getBlk_spec hg
            exact rp_vals (fun _ => .inr ⟨b, ver, ro, cs, sh, hb, hm⟩) (mapO_vals ih hm2 c1) (fun j x hj => by have := c2 j x hj; rwa [add_eq] at this)
        · cases h
      · rename_i full els hnp
        cases hm2 : mapO (mapO (snapV d H)) els with
        | none => rw [hm2] at h; cases h
        | some els' =>
          rw [hm2] at h; injection h with h; subst h
          obtain ⟨a1, a2, a3⟩ := mapO_flat hm2
          cases hv with
          | slE full a cap hfull =>
            simp only [mapO, Option.some.injEq] at hm2; subst hm2
            exact .slE _ _ _ hfull
          | sl full els b off cap sz vs hsz hcap hfull hc hv =>
            have hat : At w F μ els.flatten b off := fun k c hk => by
              obtain ⟨i, j, e, h1, h2, rfl⟩ := flatten_get hsz hk
              exact ⟨_, (hc i e j c h1 h2).2, hv i e j c h1 h2⟩
            have hFb : els.flatten ≠ [] → F b := fun q => by
              cases hfl : els.flatten with
              | nil => exact absurd hfl q
              | cons c r =>
                obtain ⟨i, j, e, h1, h2, _⟩ := flatten_get hsz (k := 0) (c := c) (by rw [hfl]; rfl)
                exact (hc i e j c h1 h2).1
            obtain ⟨cvs, c1, c2⟩ := hat.vals
            have v' := mapO_vals ih a1 c1
            refine sl_vals (sz := sz) (cvs := cvs) a2 (fun i e' hi => ?_) hcap hfull (fun q => .inl (hFb (fun q' => q ?_))) v' (fun j x hj => by have := c2 j x hj; rwa [add_eq] at this)
            · obtain ⟨e0, he0, hle⟩ := a3 i e' hi
              rw [hle]; exact hsz i e0 he0
            · have hl := v'.1
              have hl2 := c1.1
              rw [q'] at hl2
              exact List.eq_nil_of_length_eq_zero (by rw [← hl, hl2]; rfl)
      · rename_i cs hnp
        cases hm2 : mapO (snapV d H) cs with
        | none => rw [hm2] at h; cases h
        | some cs' =>
          rw [hm2] at h; injection h with h; subst h
          cases hv with
          | rp cells b off vs hc hv =>
            have hat : At w F μ cs b off := fun k c hk => ⟨_, (hc k c hk).2, hv k c hk⟩
            have hFb : cs ≠ [] → F b := fun q => by
              cases cs with
              | nil => exact absurd rfl q
              | cons c r => exact (hc 0 c rfl).1
            obtain ⟨cvs, c1, c2⟩ := hat.vals
            have v' := mapO_vals ih hm2 c1
            refine rp_vals (fun q => .inl (hFb (fun q' => q ?_))) v' (fun j x hj => by have := c2 j x hj; rwa [add_eq] at this)
            have hl := v'.1
            have hl2 := c1.1
            rw [q'] at hl2
            exact List.eq_nil_of_length_eq_zero (by rw [← hl, hl2]; rfl)
      · rename_i cs hnp
        cases hm2 : mapO (snapV d H) cs with
        | none => rw [hm2] at h; cases h
        | some cs' =>
          rw [hm2] at h; injection h with h; subst h
          obtain ⟨arr, rfl, hr⟩ := VR.agg_iff.1 hv
          exact VR.agg_iff.2 ⟨arr, rfl, VRa_of_list (mapO_vals ih hm2 hr.list)⟩
      · rename_i cs hnp
        cases hm2 : mapO (snapV d H) cs with
        | none => rw [hm2] at h; cases h
        | some cs' =>
          rw [hm2] at h; injection h with h; subst h
          obtain ⟨arr, rfl, hr⟩ := VR.tup_iff.1 hv
          exact VR.tup_iff.2 ⟨arr, rfl, VRa_of_list (mapO_vals ih hm2 hr.list)⟩
      · rename_i f a c hnp
        split at h
        · rename_i a' c' h1 h2
          injection h with h; subst h
          cases hv with
          | fn f a c av cv ha hc hav hcv =>
            have r1 : VRa w F μ a av := ⟨ha, hav⟩
            have r2 : VRa w F μ c cv := ⟨hc, hcv⟩
            exact .fnA (VRa_of_list (mapO_vals ih h1 r1.list)) (VRa_of_list (mapO_vals ih h2 r2.list))
        · cases h
      · rename_i t u hnp
        cases hm2 : snapV d H u with
        | none => rw [hm2] at h; cases h
        | some u' =>
          rw [hm2] at h; injection h with h; subst h
          cases hv
          rename_i cu hu
          exact .ifc _ _ _ (ih _ _ _ hm2 hu)
      · cases h

end Go.Ae

namespace Go.Ae

variable {E : Env} {w : World} {F : Nat → Prop} {μ : Nat → Nat → Option (Nat × Nat)} {H : Heap}

/-- What a call's contract says. -/
def Gives (E : Env) (w : World) (F : Nat → Prop) (μ : Nat → Nat → Option (Nat × Nat)) (H : Heap) (v : V) (H' : Heap) (e : Ending) (w' : World) : Prop :=
  ∃ cv F' μ', e = .returned cv ∧ WR E w' F' μ' H' ∧ Keep w F μ H w' F' μ' H' ∧ VR w' F' μ' v cv

def CallOk (E : Env) (call : Call) : Prop :=
  ∀ (g : FuncId) (args : List V) (H : Heap) (v : V) (H' : Heap), call g args H = some (v, H') →
    (∃ fn, E.P.funcs[g]? = some fn ∧ fn.body.isSome = true) ∧
    ∀ (w : World) (F : Nat → Prop) (μ : Nat → Nat → Option (Nat × Nat)) (cargs : List Value), WR E w F μ H → VRs w F μ args cargs → Calls E.P g cargs.toArray w (Gives E w F μ H v H')

structure EnvOk (E : Env) : Prop where
  mixed : E.P.follows .mixedOrders = true
  ng : ∀ (g : FuncId) (fn : Func), E.P.funcs[g]? = some fn → fn.name ≠ "runtime.NumGoroutine"
  ext : ∀ (f : FuncId) (g : List V → Option V), E.ext f = some g → ∀ args v, V.pureL args = true → g args = some v → v.pure = true ∧ (∃ fn, E.P.funcs[f]? = some fn ∧ fn.body.isSome = true) ∧
    ∀ (w : World) (F : Nat → Prop) (cargs : List Value), WR E w F noMap [] → VRs w F noMap args cargs → Calls E.P f cargs.toArray w (Gives E w F noMap [] v [])
  idf : ∀ (g : FuncId) (x : Value) (w : World), E.idf g = true → (callFunc g #[x]).run E.P w = .ok (.value x) w

theorem VRa.put {ts : List V} {a : Act} (ht : VRa w F μ ts a.tmps) (d : Option Tmp) {v : V} {cv : Value} (h : VR w F μ v cv) : VRa w F μ (putV ts d v) (a.put d cv).tmps := by
  cases d with
  | none => exact ht
  | some d =>
    simp only [putV, Act.put]
    refine ⟨by simp [ht.1], fun i x hx => ?_⟩
    rw [List.getElem?_set] at hx
    split at hx
    · rename_i hq
      split at hx
      · rename_i hl
        injection hx with hx; subst hx; subst hq
        rw [← ht.1] at hl
        simpa [Array.getD, hl] using h
      · cases hx
    · rename_i hq
      have := ht.2 i x hx
      rw [Array.getD_eq_getD_getElem?] at this ⊢
      rw [Array.getElem?_setIfInBounds_ne hq]
      exact this

theorem put_defers (a : Act) (d : Option Tmp) (v : Value) : (a.put d v).defers = a.defers := by cases d <;> rfl

theorem VR.bool_inv {v : V} {b : Bool} (h : VR w F μ v (.bool b)) : v = .bool b := by cases h; rfl

theorem wanted_eq {ops : Array Oper} {ts : List V} {a : Act} (ht : VRa w F μ ts a.tmps) (o : Oper) : Region.wanted o (yielded ops a.tmps) = wantedV ops ts o := by
  unfold Region.wanted wantedV
  cases hg : o.guard with
  | none => rfl
  | some p =>
    obtain ⟨j, want⟩ := p
    simp only [yielded]
    cases hd : (ops[j]?).bind (·.dst) with
    | none => simp
    | some d =>
      simp only [Option.bind_some]
      cases hx : ts[d]? with
      | none =>
        have : a.tmps[d]? = none := by
          rw [Array.getElem?_eq_none_iff, ht.1]; exact List.getElem?_eq_none_iff.1 hx
        rw [this]; simp
      | some x =>
        obtain ⟨cv, h1, h2⟩ := ht.get hx
        rw [h1]
        cases h2 with
        | bool b => cases b <;> cases want <;> rfl
        | _ => simp

theorem calls_args {a b c : List V} {ca cb cc : List Value} (h1 : VRs w F μ a ca) (h2 : VRs w F μ b cb) (h3 : VRs w F μ c cc) : VRs w F μ (a ++ b ++ c) (ca ++ cb ++ cc) := (h1.append h2).append h3

theorem step_sound0 (hE : EnvOk E) {call : Call} (hcall : CallOk E call) (hw : WR E w F μ H) {a : Act} {ts : List V} (ht : VRa w F μ ts a.tmps) {f : FuncId} {o : Oper} {v : V} {H' : Heap} (h : stepV0 E call f o ts H = some (v, H'))
    {next : Act → World → Prop} {Q : Exit → Act → World → Prop} (hn : ∀ cv w' F' μ', WR E w' F' μ' H' → Keep w F μ H w' F' μ' H' → VR w' F' μ' v cv → next (a.put o.dst cv) w') : o.wp E.P a w next Q := by
  unfold Oper.wp
  unfold stepV0 at h
  split at h
  · cases h
  · -- a call
    rename_i g args hcal
    unfold callI at h
    by_cases hid : E.idf g = true
    · rw [if_pos hid] at h
      split at h
      · rename_i u
        injection h with h; injection h with h h'; subst h; subst h'
        have hrun : ∃ cu, (execOp a.eval o).run E.P w = .ok (.value cu) w ∧ VR w F μ u cu := by
          obtain ⟨dst, op, type, pos, after, guard⟩ := o
          simp only at hcal
          cases op with
          | call c =>
            obtain ⟨callee, cas, argTypes⟩ := c
            simp only [calleeV] at hcal
            split at hcal
            · rename_i gx
              split at hcal
              · rename_i g' first cap args' hg hargs
                injection hcal with hcal; injection hcal with hcal; injection hcal with q1 q2
                subst q1
                have hr := rho_sound hw ht hg
                have ha := rhoL_sound hw ht hargs
                cases hcv : a.eval gx <;> rw [hcv] at hr <;> cases hr
                rename_i av cv ha' hav hc hcv'
                have hall := calls_args (VRa.list ⟨ha', hav⟩) ha (VRa.list ⟨hc, hcv'⟩)
                rw [q2] at hall
                obtain ⟨cu, r, hq, hu, hrest⟩ := hall.head
                have := hrest.none; subst this
                refine ⟨cu, ?_, hu⟩
                have harr : av ++ cas.map a.eval ++ cv = #[cu] := by
                  apply Array.ext'
                  simpa using hq
                have hcf := hE.idf g' cu w hid
                simp only [execOp, resolve, hcv, Deferred.ofValue, Sem.run_bind, Sem.run_pure, Result.andThen_ok, invoke, harr, hcf]
              · cases hcal
            · injection hcal with hcal; cases hcal
          | _ => simp [calleeV] at hcal
        obtain ⟨cu, r1, r2⟩ := hrun
        rw [r1, Oper.upon_value]
        exact hn cu w F μ hw (.refl ..) r2
      · cases h
    rw [if_neg hid] at h
    have hrun : ∃ cargs, (execOp a.eval o).run E.P w = .ok (.enter g cargs.toArray) w ∧ VRs w F μ args cargs := by
      obtain ⟨dst, op, type, pos, after, guard⟩ := o
      simp only at hcal
      cases op with
      | call c =>
        obtain ⟨callee, cas, argTypes⟩ := c
        simp only [calleeV] at hcal
        split at hcal
        · rename_i gx
          split at hcal
          · rename_i g' first cap args' hg hargs
            injection hcal with hcal; injection hcal with hcal; injection hcal with q1 q2
            subst q1; subst q2
            have hr := rho_sound hw ht hg
            have ha := rhoL_sound hw ht hargs
            cases hcv : a.eval gx <;> rw [hcv] at hr <;> cases hr
            rename_i av cv ha' hav hc hcv'
            refine ⟨av.toList ++ cas.toList.map a.eval ++ cv.toList, ?_, calls_args (VRa.list ⟨ha', hav⟩) ha (VRa.list ⟨hc, hcv'⟩)⟩
            obtain ⟨⟨fn, hf, hb⟩, _⟩ := hcall _ _ _ _ _ h
            have hng := hE.ng _ fn hf
            have hbn : fn.body.isNone = false := by
              cases hq : fn.body <;> rw [hq] at hb <;> simp at hb ⊢
            simp only [execOp, resolve, hcv, Deferred.ofValue, Sem.run_bind, Sem.run_pure, Result.andThen_ok, invoke, callFunc, run_program, hf]
            rw [if_neg (by simpa using hng)]
            simp only [hbn, Bool.false_eq_true, if_false, Sem.run_pure]
            congr 2
            apply Array.ext'
            simp
          · cases hcal
        · injection hcal with hcal; cases hcal
      | _ => simp [calleeV] at hcal
    obtain ⟨cargs, r1, r2⟩ := hrun
    rw [r1, Oper.upon_enter]
    obtain ⟨_, hc⟩ := hcall _ _ _ _ _ h
    refine (hc w F μ cargs hw r2).mono ?_
    rintro e w' ⟨cv, F', μ', rfl, k1, k2, k3⟩
    exact hn cv w' F' μ' k1 k2 k3
  · split at h
    · obtain ⟨w', F', μ', k1, k2, hr⟩ := eop_sound hw ht h
      rcases hr with ⟨cv, r1, r2⟩ | ⟨r1, rfl⟩
      · rw [r1, Oper.upon_value]; exact hn cv w' F' μ' k1 k2 r2
      · rw [r1, Oper.upon_skip]; exact hn _ w' F' μ' k1 k2 .undef
    · cases hq : qop E H (rho E ts) o.op with
      | none => rw [hq] at h; cases h
      | some u =>
        rw [hq] at h; injection h with h; injection h with h h'; subst h; subst h'
        obtain ⟨cv, r1, r2⟩ := qop_sound hw ht hq
        rw [r1, Oper.upon_value]
        exact hn cv w F μ hw (.refl ..) r2

theorem step_sound (hE : EnvOk E) {call : Call} (hcall : CallOk E call) (hw : WR E w F μ H) {a : Act} {ts : List V} (ht : VRa w F μ ts a.tmps) {f : FuncId} {o : Oper} {v : V} {H' : Heap} (h : stepV E call f o ts H = some (v, H'))
    {next : Act → World → Prop} {Q : Exit → Act → World → Prop} (hn : ∀ cv w' F' μ', WR E w' F' μ' H' → Keep w F μ H w' F' μ' H' → VR w' F' μ' v cv → next (a.put o.dst cv) w') : o.wp E.P a w next Q := by
  unfold stepV fzR at h
  split at h
  · split at h
    · rename_i v0 H0 h0
      refine step_sound0 hE hcall hw ht h0 (fun cv w' F' μ' k1 k2 k3 => ?_)
      obtain ⟨F1, w1, q1, q2⟩ := frz_sound 12 H0 F' _ _ _ _ h k1 k3
      exact hn cv w' F1 μ' w1 (k2.trans q1) q2
    · cases h
  · exact step_sound0 hE hcall hw ht h hn

theorem ops_sound (hE : EnvOk E) {call : Call} (hcall : CallOk E call) {f : FuncId} {ops : Array Oper} : ∀ (l : List Oper) {w : World} {F : Nat → Prop} {μ : Nat → Nat → Option (Nat × Nat)} {H : Heap} {a : Act} {ts ts' : List V} {H' : Heap} {Q : Exit → Act → World → Prop},
    opsV E call f ops l ts H = some (ts', H') → WR E w F μ H → VRa w F μ ts a.tmps →
    (∀ a' w' F' μ', WR E w' F' μ' H' → Keep w F μ H w' F' μ' H' → VRa w' F' μ' ts' a'.tmps → a'.defers = a.defers → Q .normal a' w') → wpList E.P ops Q l a w
  | [], w, F, μ, H, a, ts, ts', H', Q, h, hw, ht, hq => by
    simp only [opsV, Option.some.injEq, Prod.mk.injEq] at h
    obtain ⟨rfl, rfl⟩ := h
    exact hq a w F μ hw (.refl ..) ht rfl
  | o :: rest, w, F, μ, H, a, ts, ts', H', Q, h, hw, ht, hq => by
    refine wpList_step fun K hK => ?_
    rw [wanted_eq ht]
    simp only [opsV] at h
    split at h
    · rename_i hwant
      rw [if_pos hwant]
      split at h
      · rename_i v H1 h1
        refine step_sound hE hcall hw ht h1 (fun cv w' F' μ' k1 k2 k3 => hK _ _ ?_)
        refine ops_sound hE hcall rest h k1 ((ht.mono fun _ _ h => k2.vr hw h).put o.dst k3) (fun a' w'' F'' μ'' q1 q2 q3 q4 => hq a' w'' F'' μ'' q1 (k2.trans q2) q3 (by rw [q4, put_defers]))
      · cases h
    · rename_i hwant
      rw [if_neg hwant]
      refine hK _ _ ?_
      exact ops_sound hE hcall rest h hw (ht.put o.dst .undef) (fun a' w'' F'' μ'' q1 q2 q3 q4 => hq a' w'' F'' μ'' q1 q2 q3 (by rw [q4, put_defers]))

theorem frzTmps_sound {a : Act} : ∀ (l : List Tmp) {F : Nat → Prop} {H : Heap} {ts ts' : List V} {H' : Heap}, frzTmps l ts H = some (ts', H') → WR E w F μ H → VRa w F μ ts a.tmps →
    ∃ F', WR E w F' μ H' ∧ Keep w F μ H w F' μ H' ∧ VRa w F' μ ts' a.tmps
  | [], F, H, ts, ts', H', h, hw, ht => by
    simp only [frzTmps, Option.some.injEq, Prod.mk.injEq] at h
    obtain ⟨rfl, rfl⟩ := h
    exact ⟨F, hw, .refl .., ht⟩
  | t :: r, F, H, ts, ts', H', h, hw, ht => by
    simp only [frzTmps] at h
    split at h
    · rename_i v H1 h1
      have hv : VR w F μ (ts.getD t undefV) (a.tmps.getD t undef) := by
        rw [List.getD_eq_getElem?_getD]
        cases hx : ts[t]? with
        | some v => exact ht.2 t v hx
        | none =>
          have : a.tmps.size ≤ t := by rw [ht.1]; exact List.getElem?_eq_none_iff.1 hx
          have e : a.tmps.getD t undef = undef := by simp [Array.getD, Nat.not_lt.2 this]
          rw [e]; exact .undef
      obtain ⟨F1, w1, k1, v1⟩ := frz_sound 12 H F _ _ _ _ h1 hw hv
      have ht1 : VRa w F1 μ (ts.set t v) a.tmps := by
        refine ⟨by simp [ht.1], fun i x hx => ?_⟩
        rw [List.getElem?_set] at hx
        split at hx
        · rename_i hq
          split at hx
          · injection hx with hx; subst hx; subst hq; exact v1
          · cases hx
        · exact k1.vr hw (ht.2 i x hx)
      obtain ⟨F2, w2, k2, t2⟩ := frzTmps_sound r h w1 ht1
      exact ⟨F2, w2, k1.trans k2, t2⟩
    · cases h

end Go.Ae
