/-
  What is proved here: how merge.Merge's collectors lie in memory; what merge.Merge computes, in plain Lean. No condition.
-/
import Derived.Test.YtnidmikcjkaegaaGreatDoorPol2
import Derived.Test.YtnidmikcjkaegaaGreatDoorLatest
namespace Go.Proofs.YtnidmikcjkaegaaGreatDoor
open Go Go.RowKit Go.ML

section
variable {κ β : Type} [DecidableEq κ]
theorem mput_none {l : List (κ × β)} {x : κ} (h : mget l x = none) (v : β) : mput l x v = l ++ [(x, v)] := by
  unfold mget at h
  unfold mput
  cases e : findIx x l 0 with
  | none => rfl
  | some p => rw [e] at h; cases h
theorem keys_mput_some {l : List (κ × β)} {x : κ} {u : β} (h : mget l x = some u) (v : β) : (mput l x v).map (·.1) = l.map (·.1) := by
  unfold mget at h
  unfold mput
  cases e : findIx x l 0 with
  | none => rw [e] at h; cases h
  | some p =>
    obtain ⟨i, u'⟩ := p
    have hi := (findIx_some e).2
    simp only [Nat.sub_zero] at hi
    have hl : i < l.length := (List.getElem?_eq_some_iff.1 hi).1
    simp only []
    rw [List.map_set]
    apply List.ext_getElem?
    intro j
    by_cases hj : j = i
    · subst hj
      rw [List.getElem?_set_self (by simpa using hl), List.getElem?_map, hi]; rfl
    · rw [List.getElem?_set_ne (fun e => hj e.symm)]
theorem mem_mput' {l : List (κ × β)} {x : κ} {v : β} (hn : (l.map (·.1)).Nodup) {p : κ × β} (h : p ∈ mput l x v) : p = (x, v) ∨ (p ∈ l ∧ p.1 ≠ x) := by
  cases hg : mget l x with
  | none =>
    rw [mput_none hg] at h
    rcases List.mem_append.1 h with h | h
    · exact .inr ⟨h, mget_none hg p h⟩
    · exact .inl (by simpa using h)
  | some u =>
    unfold mget at hg
    unfold mput at h
    cases e : findIx x l 0 with
    | none => rw [e] at hg; cases hg
    | some q =>
      obtain ⟨i, u'⟩ := q
      rw [e] at h
      simp only [] at h
      have hi := (findIx_some e).2
      simp only [Nat.sub_zero] at hi
      have hl : i < l.length := (List.getElem?_eq_some_iff.1 hi).1
      obtain ⟨j, hj⟩ := List.mem_iff_getElem?.1 h
      by_cases hji : j = i
      · subst hji
        rw [List.getElem?_set_self hl] at hj
        exact .inl (Option.some.inj hj).symm
      · rw [List.getElem?_set_ne (fun e => hji e.symm)] at hj
        refine .inr ⟨List.mem_of_getElem? hj, fun hx => hji ?_⟩
        have h1 : (l.map (·.1))[j]? = some x := by rw [List.getElem?_map, hj]; simp [hx]
        have h2 : (l.map (·.1))[i]? = some x := by rw [List.getElem?_map, hi]; rfl
        exact (List.getElem?_inj (List.getElem?_eq_some_iff.1 h1).1 hn).1 (h1.trans h2.symm)
theorem mget_of_mem {l : List (κ × β)} (hn : (l.map (·.1)).Nodup) {x : κ} {v : β} (h : (x, v) ∈ l) : mget l x = some v := by
  cases hg : mget l x with
  | none => exact absurd rfl (mget_none hg _ h)
  | some u =>
    have hm := mget_mem hg
    obtain ⟨i, hi⟩ := List.mem_iff_getElem?.1 h
    obtain ⟨j, hj⟩ := List.mem_iff_getElem?.1 hm
    have h1 : (l.map (·.1))[i]? = some x := by rw [List.getElem?_map, hi]; rfl
    have h2 : (l.map (·.1))[j]? = some x := by rw [List.getElem?_map, hj]; rfl
    have : i = j := (List.getElem?_inj (List.getElem?_eq_some_iff.1 h1).1 hn).1 (h1.trans h2.symm)
    subst this
    rw [hi] at hj
    injection hj with hj
    injection hj with _ hj
    rw [hj]
theorem nodup_mput {l : List (κ × β)} {x : κ} {v : β} (h : (l.map (·.1)).Nodup) : ((mput l x v).map (·.1)).Nodup := by
  cases hg : mget l x with
  | some u => rw [keys_mput_some hg]; exact h
  | none =>
    rw [mput_none hg, List.map_append]
    refine List.nodup_append.2 ⟨h, by simp, fun a ha q hq => ?_⟩
    simp only [List.map_cons, List.map_nil, List.mem_singleton] at hq
    subst hq
    obtain ⟨p, hp, rfl⟩ := List.mem_map.1 ha
    exact mget_none hg p hp
end

/-! ### What Merge computes -/
abbrev Grp := List (ByteArray × List GSaid)
def gput (l : Grp) (x : GSaid) : Grp := mput l x.field.tag ((mget l x.field.tag).getD [] ++ [x])
def grp (S : List GSaid) : Grp := S.foldl gput []
def saidsOf (v : GVersion) : List GSaid := v.record.fields.map (fun f => ⟨f, v.frm⟩)
def modeOf (tag : ByteArray) (xs : List GSaid) : List GSaid :=
  match polIx tag pols 0 with
  | some k => match pols[k]? with
    | some p => if p.fn = 31 then xs else if p.fn = 32 then modeFirst xs else modeAll xs
    | none => []
  | none => []
def sortTags (l : List ByteArray) : List ByteArray := ((l.map (·.data.toList)).mergeSort (fun x y => decide (x ≤ y))).map (fun b => ⟨b.toArray⟩)
structure GMerged where
  kind : Int
  level : Int
  fields : List GField
  frm : List GRec
def keptOf (G : Grp) : List GSaid := (sortTags (G.map (·.1))).flatMap (fun t => modeOf t ((mget G t).getD []))
def mergeP (xs : List GVersion) : GMerged :=
  match latest xs with
  | [] => ⟨0, 0, [], []⟩
  | v :: r => ⟨v.record.kind, v.record.level, (keptOf (grp ((v :: r).flatMap saidsOf))).map (·.field), (keptOf (grp ((v :: r).flatMap saidsOf))).map (·.frm)⟩

/-! ### Collectors in memory -/
structure Col where
  cb : Nat
  g : Nat
  cap : Nat
  xs : List GSaid

def ColOk (H : Hts) (w : World) (base : Nat) (c : Col) : Prop :=
  0 < c.xs.length ∧ base ≤ c.cb ∧ w.heap[c.cb]? = some (.cells #[.slice (some ⟨c.g, 0, none⟩) c.xs.length c.cap] 58 (0, 0)) ∧ ∃ cells, OwnAt H w base c.g c.xs.length c.cap cells ∧ Rels eSaid H w c.xs cells

abbrev ColL := List (ByteArray × Col)
structure Cols (H : Hts) (w : World) (base : Nat) (cs : ColL) : Prop where
  ok : ∀ p ∈ cs, ColOk H w base p.2
  keys : (cs.map (·.1)).Nodup
  dist : ∀ p ∈ cs, ∀ q ∈ cs, p.1 ≠ q.1 → p.2.cb ≠ q.2.cb ∧ p.2.g ≠ q.2.g

theorem ColOk.lt {H : Hts} {w : World} {base : Nat} {c : Col} (h : ColOk H w base c) : c.cb < w.heap.size ∧ c.g < w.heap.size ∧ base ≤ c.g ∧ c.cb ≠ c.g ∧ H c.g = 0 := by
  obtain ⟨h0, _, h2, cells, h3, _⟩ := h
  obtain ⟨g', cap', e1, hb, hlt⟩ := h3.1.form h0
  injection e1 with e1; injection e1 with e1; injection e1 with e1; subst e1
  refine ⟨lt_of_block h2, hlt, hb, fun e => ?_, h3.2⟩
  rcases h3.1.2 with ⟨hn, _⟩ | ⟨g'', _, _, hv, _, hg, _⟩
  · cases hn
  · injection hv with e2; injection e2 with e2; injection e2 with e2
    rw [e, e2, hg] at h2
    cases h2

theorem ColOk.keep {H : Hts} {w w' : World} {base : Nat} {c : Col} (h : ColOk H w base c) (ev : Evo H w H w') (h1 : w'.heap[c.cb]? = w.heap[c.cb]?) (h2 : w'.heap[c.g]? = w.heap[c.g]?) : ColOk H w' base c := by
  obtain ⟨k0, k1, k2, cells, k3, k4⟩ := h
  refine ⟨k0, k1, h1.trans k2, cells, ⟨ownsRow_same k3.1 (fun b hb => ?_), k3.2⟩, k4.evo ev⟩
  simp [Value.ownBlock] at hb
  subst hb
  exact h2

theorem Cols.keep {H : Hts} {w w' : World} {base : Nat} {cs : ColL} (h : Cols H w base cs) (ev : Evo H w H w') (hs : ∀ p ∈ cs, w'.heap[p.2.cb]? = w.heap[p.2.cb]? ∧ w'.heap[p.2.g]? = w.heap[p.2.g]?) : Cols H w' base cs :=
  ⟨fun p hp => (h.ok p hp).keep ev (hs p hp).1 (hs p hp).2, h.keys, h.dist⟩
theorem Cols.old {H : Hts} {w w' : World} {base : Nat} {cs : ColL} (h : Cols H w base cs) (ev : Evo H w H w') (hs : ∀ k, k < w.heap.size → w'.heap[k]? = w.heap[k]?) : Cols H w' base cs :=
  h.keep ev (fun p hp => ⟨hs _ (h.ok p hp).lt.1, hs _ (h.ok p hp).lt.2.1⟩)

/-- One collector of the others, taken out; its successor put in. -/
theorem Cols.put {H : Hts} {w w' : World} {base : Nat} {cs : ColL} (h : Cols H w base cs) {t : ByteArray} {c' : Col} (hothers : ∀ p ∈ cs, p.1 ≠ t → ColOk H w' base p.2 ∧ p.2.cb ≠ c'.cb ∧ p.2.g ≠ c'.g) (hc : ColOk H w' base c') : Cols H w' base (mput cs t c') := by
  refine ⟨fun p hp => ?_, nodup_mput h.keys, fun p hp q hq hne => ?_⟩
  · rcases mem_mput' h.keys hp with rfl | ⟨hp, hpt⟩
    · exact hc
    · exact (hothers p hp hpt).1
  · rcases mem_mput' h.keys hp with rfl | ⟨hp, hpt⟩ <;> rcases mem_mput' h.keys hq with rfl | ⟨hq, hqt⟩
    · exact absurd rfl hne
    · have := (hothers q hq hqt).2; exact ⟨fun e => this.1 e.symm, fun e => this.2 e.symm⟩
    · exact (hothers p hp hpt).2
    · exact h.dist p hp q hq hne
theorem Cols.nil {H : Hts} {w : World} {base : Nat} : Cols H w base [] := ⟨fun _ h => (by cases h), by simp, fun _ h => (by cases h)⟩
end Go.Proofs.YtnidmikcjkaegaaGreatDoor
