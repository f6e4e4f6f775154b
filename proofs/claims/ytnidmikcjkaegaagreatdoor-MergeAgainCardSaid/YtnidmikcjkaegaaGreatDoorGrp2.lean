/-
  What is proved here: the first loop of merge.Merge: what it keeps, and its steps, with no program in sight. No condition.
-/
import Derived.Test.YtnidmikcjkaegaaGreatDoorGrp
namespace Go.Proofs.YtnidmikcjkaegaaGreatDoor
open Go Go.RowKit Go.ML

theorem mput_same {κ β : Type} [DecidableEq κ] {l : List (κ × β)} {x : κ} {v : β} (h : mget l x = some v) : mput l x v = l := by
  unfold mget at h
  unfold mput
  cases e : findIx x l 0 with
  | none => rw [e] at h; cases h
  | some p =>
    obtain ⟨i, u⟩ := p
    rw [e] at h
    have hu : u = v := by simpa using h
    subst hu
    have hi := (findIx_some e).2
    simp only [Nat.sub_zero] at hi
    have hl : i < l.length := (List.getElem?_eq_some_iff.1 hi).1
    simp only []
    apply List.ext_getElem?
    intro j
    by_cases hj : j = i
    · subst hj; rw [List.getElem?_set_self hl, hi]
    · rw [List.getElem?_set_ne (fun e => hj e.symm)]

def colPtr (c : Col) : Value := .pointer (some ⟨c.cb, 0, none⟩)

structure M1 (HH : Hts) (w2 : World) (S : List GSaid) (tv : Value) (cs : ColL) (wr : World) : Prop where
  below : Below w2.heap.size w2 wr
  mp : Mp Value.string wr w2.heap.size (mapV colPtr cs)
  tags : ML.Own eStr HH wr w2.heap.size (cs.map (·.1)) tv
  cols : Cols HH wr w2.heap.size cs
  data : mapV (·.xs) cs = grp S

/-- The same with one collector taken out: its block cb holds the slice yv, which reads as ys. -/
structure M1o (HH : Hts) (w2 : World) (S : List GSaid) (tv : Value) (cs : ColL) (t : ByteArray) (cb : Nat) (ys : List GSaid) (yv : Value) (wr : World) : Prop where
  below : Below w2.heap.size w2 wr
  mp : Mp Value.string wr w2.heap.size (mput (mapV colPtr cs) t (.pointer (some ⟨cb, 0, none⟩)))
  tags : ∀ c : Col, ML.Own eStr HH wr w2.heap.size ((mput cs t c).map (·.1)) tv
  cols : ∀ p ∈ cs, p.1 ≠ t → ColOk HH wr w2.heap.size p.2 ∧ p.2.cb ≠ cb ∧ yv.ownBlock ≠ some p.2.g
  keys : (cs.map (·.1)).Nodup
  dist : ∀ p ∈ cs, ∀ q ∈ cs, p.1 ≠ q.1 → p.2.cb ≠ q.2.cb ∧ p.2.g ≠ q.2.g
  data : mapV (·.xs) cs = grp S
  cur : wr.heap[cb]? = some (.cells #[yv] 58 (0, 0))
  ge : w2.heap.size ≤ cb
  own : ML.Own eSaid HH wr w2.heap.size ys yv
  ys : ys = (mget (grp S) t).getD []

section
variable {HH : Hts} {w2 wr wr' : World} {S : List GSaid} {tv : Value} {cs : ColL}

theorem later_evo (hf : Fit HH w2) (hb' : Below w2.heap.size wr wr') : Evo HH wr HH wr' :=
  ⟨fun b i v hi h => by
      have hlt : b < w2.heap.size := by
        rcases Nat.lt_or_ge b w2.heap.size with h' | h'
        · exact h'
        · have := hf b h'; omega
      exact (hb'.cell (p := ⟨b, i, none⟩) hlt).trans h,
    fun _ => Nat.le_refl _,
    fun b t hp h => by
      have hlt : b < w2.heap.size := by
        rcases Nat.lt_or_ge b w2.heap.size with h' | h'
        · exact h'
        · have := hf b h'; omega
      rw [tag_of_heap (hb'.block b hlt)]; exact h⟩

theorem M1.later (h : M1 HH w2 S tv cs wr) (hf : Fit HH w2) (hb : Below wr.heap.size wr wr') : M1 HH w2 S tv cs wr' := by
  have hle := h.below.size
  have ev := later_evo hf (hb.mono hle)
  have hs : ∀ k, k < wr.heap.size → wr'.heap[k]? = wr.heap[k]? := fun k hk => hb.block k hk
  exact ⟨h.below.trans (hb.mono hle), h.mp.same (hs _ h.mp.lt), h.tags.keep ev (fun b hb' => hs b (h.tags.lt b hb')) h.tags.zero, h.cols.old ev hs, h.data⟩

theorem M1o.later {t : ByteArray} {cb : Nat} {ys : List GSaid} {yv : Value} (h : M1o HH w2 S tv cs t cb ys yv wr) (hf : Fit HH w2) (hb : Below wr.heap.size wr wr') : M1o HH w2 S tv cs t cb ys yv wr' := by
  have hle := h.below.size
  have ev := later_evo hf (hb.mono hle)
  have hs : ∀ k, k < wr.heap.size → wr'.heap[k]? = wr.heap[k]? := fun k hk => hb.block k hk
  exact ⟨h.below.trans (hb.mono hle), h.mp.same (hs _ h.mp.lt), fun c => (h.tags c).keep ev (fun b hb' => hs b ((h.tags c).lt b hb')) (h.tags c).zero,
    fun p hp hne => ⟨(h.cols p hp hne).1.keep ev (hs _ (h.cols p hp hne).1.lt.1) (hs _ (h.cols p hp hne).1.lt.2.1), (h.cols p hp hne).2⟩, h.keys, h.dist, h.data, (hs _ (lt_of_block h.cur)).trans h.cur, h.ge,
    h.own.keep ev (fun b hb' => hs b (h.own.lt b hb')) h.own.zero, h.ys⟩

/-- A tag that is known. -/
theorem M1.known (h : M1 HH w2 S tv cs wr) {t : ByteArray} {c : Col} (hg : mget cs t = some c) : M1o HH w2 S tv cs t c.cb c.xs (.slice (some ⟨c.g, 0, none⟩) c.xs.length c.cap) wr := by
  have hm := mget_mem hg
  have hc := h.cols.ok _ hm
  obtain ⟨k0, k1, k2, cells, k3, k4⟩ := hc
  refine ⟨h.below, ?_, fun c' => ?_, fun p hp hne => ⟨h.cols.ok p hp, (h.cols.dist p hp _ hm hne).1, fun e => ?_⟩, h.cols.keys, h.cols.dist, h.data, k2, k1, ⟨cells, k3.1, k4, fun b hb => ?_⟩, ?_⟩
  · rw [mput_same (by rw [mget_mapV, hg]; rfl)]; exact h.mp
  · rw [keys_mput_some hg]; exact h.tags
  · simp [Value.ownBlock] at e
    exact (h.cols.dist p hp _ hm hne).2 e.symm
  · simp [Value.ownBlock] at hb
    subst hb
    exact k3.2
  · rw [← h.data, mget_mapV, hg]; rfl

/-- A tag that is new: a collector is laid, entered into the map, and the tag written down. -/
theorem M1.fresh (h : M1 HH w2 S tv cs wr) (hf : Fit HH w2) {t : ByteArray} (hg : mget cs t = none) {wa wb wc : World} {tv' : Value}
    (ha : wa = wr.alloc (.cells #[.slice none 0 0] 58))
    (hmp : Mp Value.string wb w2.heap.size (mput (mapV colPtr cs) t (.pointer (some ⟨wr.heap.size, 0, none⟩)))) (hgb : wa.grownBy wb (some w2.heap.size))
    (htg : ML.Own eStr HH wc w2.heap.size (cs.map (·.1) ++ [t]) tv') (hgc : wb.grownBy wc tv.ownBlock) :
    M1o HH w2 S tv' cs t wr.heap.size [] (.slice none 0 0) wc := by
  subst ha
  have hle := h.below.size
  have hba : Below w2.heap.size wr (wr.alloc (.cells #[.slice none 0 0] 58)) := (Below.refl _ wr).alloc hle _
  have hbb := hba.grown hgb (by simp; omega) (fun k e => by injection e with e; omega)
  have hbc := hbb.grown hgc (Nat.le_trans hle hbb.size) (fun k e => h.tags.ge k e)
  have ev := later_evo hf hbc
  have hm : ∀ (k : Nat) (o : Obj), wr.heap[k]? = some o → (∀ es cl, o ≠ .map es cl) → tv.ownBlock ≠ some k → wc.heap[k]? = some o := fun k o hk hno hne => by
    have h1 := (Below.heap_alloc wr (.cells #[.slice none 0 0] 58) k (lt_of_block hk)).trans hk
    have h2 := (hgb.block k (lt_of_block h1) (fun e => by
      injection e with e
      subst e
      obtain ⟨es, cl, hh, _⟩ := h.mp
      rw [hh] at hk
      injection hk with hk
      exact hno _ _ hk.symm)).trans h1
    exact (hgc.block k (lt_of_block h2) (fun e => hne e.symm)).trans h2
  have hnt : ∀ (k : Nat) (cs' : Array Value) (t' : TypeId) (fr : Nat × Nat), wr.heap[k]? = some (.cells cs' t' fr) → t' ≠ 9 → tv.ownBlock ≠ some k := fun k cs' t' fr hk ht => h.tags.ne hk ht
  have hcell : ∀ (k : Nat) (cs' : Array Value) (t' : TypeId) (fr : Nat × Nat), wr.heap[k]? = some (.cells cs' t' fr) → t' ≠ 9 → wc.heap[k]? = wr.heap[k]? := fun k cs' t' fr hk ht => (hm k _ hk (fun _ _ e => by cases e) (hnt k cs' t' fr hk ht)).trans hk.symm
  have hlt : w2.heap.size < wr.heap.size := h.mp.lt
  have hnew : wc.heap[wr.heap.size]? = some (.cells #[.slice none 0 0] 58 (0, 0)) := by
    have h1 := blk_new wr (.cells #[.slice none 0 0] 58)
    have h2 := (hgb.block _ (lt_of_block h1) (fun e => by injection e with e; omega)).trans h1
    exact (hgc.block _ (lt_of_block h2) (fun e => by have := h.tags.lt _ e.symm; omega)).trans h2
  refine ⟨h.below.trans hbc, hmp.same (hgc.block _ hmp.lt (fun e => ?_)), fun c => ?_, fun p hp _ => ?_, h.cols.keys, h.cols.dist, h.data, hnew, hle, ML.Own.nil _, ?_⟩
  · exact h.mp.ne_own h.tags e.symm
  · rw [mput_none hg, List.map_append]; exact htg
  · have hc := h.cols.ok p hp
    have hl := hc.lt
    have e1 : wc.heap[p.2.cb]? = wr.heap[p.2.cb]? := by
      obtain ⟨_, _, k2, _⟩ := hc
      exact hcell _ _ _ _ k2 (by decide)
    have e2 : wc.heap[p.2.g]? = wr.heap[p.2.g]? := by
      obtain ⟨_, _, _, cells, k3, _⟩ := hc
      rcases k3.1.2 with ⟨hn, _⟩ | ⟨g', _, cur, hv, _, hg', _⟩
      · cases hn
      · injection hv with e; injection e with e; injection e with e
        rw [e]
        exact hcell _ _ _ _ hg' (by decide)
    exact ⟨hc.keep ev e1 e2, by omega, by simp [Value.ownBlock]⟩
  · rw [← h.data, mget_mapV, hg]; rfl

theorem own_blk {α : Type} {E : Enc α} {H : Hts} {w : World} {base : Nat} {xs : List α} {v : Value} (h : ML.Own E H w base xs v) {k : Nat} (hk : v.ownBlock = some k) : ∃ c fr, w.heap[k]? = some (.cells c E.ty fr) := by
  obtain ⟨cells, hr, _⟩ := h
  rcases hr.2 with ⟨rfl, _⟩ | ⟨g, cap, cur, rfl, _, hg, _⟩
  · simp [Value.ownBlock] at hk
  · simp [Value.ownBlock] at hk
    subst hk
    exact ⟨_, _, hg⟩
theorem own_row {α : Type} {E : Enc α} {H : Hts} {w : World} {base g cap n : Nat} {xs : List α} (h : ML.Own E H w base xs (.slice (some ⟨g, 0, none⟩) n cap)) : n = xs.length ∧ H g = 0 ∧ ∃ cells, w.ownsRow base E.ty E.sz (.slice (some ⟨g, 0, none⟩) xs.length cap) xs.length cells ∧ Rels E H w xs cells := by
  have hf := h.form
  obtain ⟨cells, hr, h1, h2⟩ := h
  obtain ⟨a, c, e, _, _⟩ := hf
  injection e with _ e2 _
  subst e2
  exact ⟨rfl, h2 g rfl, cells, hr, h1⟩

theorem setCell_other {w : World} {b k : Nat} {v : Value} (h : k ≠ b) : (w.setCell ⟨b, 0, none⟩ v).heap[k]? = w.heap[k]? := Below.heap_setCell w ⟨b, 0, none⟩ v k h

theorem M1o.close {t : ByteArray} {cb g cap : Nat} {ys : List GSaid} {yv : Value} {wa wb : World} (h : M1o HH w2 S tv cs t cb ys yv wa) (hf : Fit HH w2) {x : GSaid} (hxt : x.field.tag = t)
    (how : ML.Own eSaid HH wb w2.heap.size (ys ++ [x]) (.slice (some ⟨g, 0, none⟩) (ys.length + 1) cap)) (hg : wa.grownBy wb yv.ownBlock) (hat : yv.ownBlock = some g ∨ g = wa.heap.size) :
    M1 HH w2 (S ++ [x]) tv (mput cs t ⟨cb, g, cap, ys ++ [x]⟩) (wb.setCell ⟨cb, 0, none⟩ (.slice (some ⟨g, 0, none⟩) (ys.length + 1) cap)) := by
  have hle := h.below.size
  have hyc : yv.ownBlock ≠ some cb := h.own.ne h.cur (by decide)
  have hbb : Below w2.heap.size wa wb := (Below.refl _ wa).grown hg hle (fun k e => h.own.ge k e)
  have hbc : Below w2.heap.size wa (wb.setCell ⟨cb, 0, none⟩ (.slice (some ⟨g, 0, none⟩) (ys.length + 1) cap)) := hbb.setCell (p := ⟨cb, 0, none⟩) h.ge _
  have ev := later_evo hf hbc
  have evc := later_evo (wr := wb) hf ((Below.refl w2.heap.size wb).setCell (p := ⟨cb, 0, none⟩) h.ge (.slice (some ⟨g, 0, none⟩) (ys.length + 1) cap))
  have hcbl := lt_of_block h.cur
  have hgc : g ≠ cb := by
    rcases hat with h1 | h1
    · exact fun e => hyc (by rw [← e]; exact h1)
    · omega
  have hcur : wb.heap[cb]? = some (.cells #[yv] 58 (0, 0)) := (hg.block cb hcbl (fun e => hyc e.symm)).trans h.cur
  have hfin : ∀ (k : Nat), k < wa.heap.size → k ≠ cb → yv.ownBlock ≠ some k → (wb.setCell ⟨cb, 0, none⟩ (.slice (some ⟨g, 0, none⟩) (ys.length + 1) cap)).heap[k]? = wa.heap[k]? := fun k hk h1 h2 => (setCell_other h1).trans (hg.block k hk (fun e => h2 e.symm))
  obtain ⟨_, hz, cells, hrow, hrel⟩ := own_row how
  have hlen : (ys ++ [x]).length = ys.length + 1 := by simp
  have hcol : ColOk HH (wb.setCell ⟨cb, 0, none⟩ (.slice (some ⟨g, 0, none⟩) (ys.length + 1) cap)) w2.heap.size ⟨cb, g, cap, ys ++ [x]⟩ := by
    refine ⟨by simp, h.ge, ?_, cells, ⟨ownsRow_same hrow (fun b hb => ?_), hz⟩, hrel.evo evc⟩
    · have hb := set_box (.slice (some ⟨g, 0, none⟩) (ys.length + 1) cap) hcur
      rw [← hlen] at hb ⊢
      exact hb
    · simp [Value.ownBlock] at hb
      subst hb
      exact setCell_other hgc
  have hoth : ∀ p ∈ cs, p.1 ≠ t → ColOk HH (wb.setCell ⟨cb, 0, none⟩ (.slice (some ⟨g, 0, none⟩) (ys.length + 1) cap)) w2.heap.size p.2 ∧ p.2.cb ≠ cb ∧ p.2.g ≠ g := fun p hp hne => by
    obtain ⟨k1, k2, k3⟩ := h.cols p hp hne
    have hl := k1.lt
    have hpg : p.2.g ≠ cb := fun e => by
      obtain ⟨_, _, _, cl, j1, _⟩ := k1
      rcases j1.1.2 with ⟨hn, _⟩ | ⟨g', _, cur, hv, _, hg', _⟩
      · cases hn
      · injection hv with e1; injection e1 with e1; injection e1 with e1
        rw [← e1, e, h.cur] at hg'
        cases hg'
    have hpc : yv.ownBlock ≠ some p.2.cb := h.own.ne k1.2.2.1 (by decide)
    refine ⟨k1.keep ev (hfin _ hl.1 k2 hpc) (hfin _ hl.2.1 hpg k3), k2, ?_⟩
    rcases hat with h1 | h1
    · exact fun e => k3 (by rw [e]; exact h1)
    · omega
  have htagne : ∀ c k, tv.ownBlock = some k → k ≠ cb ∧ yv.ownBlock ≠ some k := fun c k hk => by
    refine ⟨fun e => ?_, fun e => ?_⟩
    · subst e
      exact (h.tags c).ne h.cur (by decide) hk
    · obtain ⟨c1, fr, hh⟩ := own_blk h.own e
      exact (h.tags c).ne hh (by decide) hk
  refine ⟨h.below.trans hbc, ?_, ?_, ?_, ?_⟩
  · rw [← mput_mapV colPtr t ⟨cb, g, cap, ys ++ [x]⟩ cs]
    refine h.mp.same (hfin _ h.mp.lt (fun e => ?_) (h.mp.ne_own h.own))
    exact h.mp.ne_blk h.cur e
  · have ht := h.tags ⟨cb, g, cap, ys ++ [x]⟩
    exact ht.keep ev (fun b hb => hfin b (ht.lt b hb) (htagne ⟨cb, g, cap, ys ++ [x]⟩ b hb).1 (htagne ⟨cb, g, cap, ys ++ [x]⟩ b hb).2) ht.zero
  · refine ⟨fun p hp => ?_, nodup_mput h.keys, fun p hp q hq hne => ?_⟩
    · rcases mem_mput' h.keys hp with rfl | ⟨hp, hpt⟩
      · exact hcol
      · exact (hoth p hp hpt).1
    · rcases mem_mput' h.keys hp with rfl | ⟨hp, hpt⟩ <;> rcases mem_mput' h.keys hq with rfl | ⟨hq, hqt⟩
      · exact absurd rfl hne
      · have := (hoth q hq hqt).2; exact ⟨fun e => this.1 e.symm, fun e => this.2 e.symm⟩
      · exact (hoth p hp hpt).2
      · exact h.dist p hp q hq hne
  · rw [← mput_mapV (fun c : Col => c.xs) t ⟨cb, g, cap, ys ++ [x]⟩ cs, h.data, h.ys]
    unfold grp
    rw [List.foldl_append]
    subst hxt
    rfl
end
end Go.Proofs.YtnidmikcjkaegaaGreatDoor
