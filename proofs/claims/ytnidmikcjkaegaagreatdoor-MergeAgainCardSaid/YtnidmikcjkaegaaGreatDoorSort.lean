/-
  What is proved here: what a row of structs holds behind the library's sort, in the words of this claim's library. No statement of the program; no condition.
-/
import Derived.Test.YtnidmikcjkaegaaGreatDoorLib
import Derived.Shelf.SlSortCmp.WholeK
namespace Go.ML
open Go Go.RowKit Go.Sort Go.Proofs

section
variable {α : Type} [Inhabited α] {enc : α → List Value} {k : Nat}

omit [Inhabited α] in
theorem flatMap_get (hk : ∀ x, (enc x).length = k) (hk0 : 0 < k) : ∀ (ds : List α) (t : Nat), (ds.flatMap enc)[t]? = (ds[t / k]?).bind (fun x => (enc x)[t % k]?)
  | [], t => by simp
  | x :: r, t => by
    rw [List.flatMap_cons]
    by_cases h : t < k
    · rw [List.getElem?_append_left (by rw [hk]; exact h), Nat.div_eq_of_lt h, Nat.mod_eq_of_lt h]
      simp
    · rw [List.getElem?_append_right (by rw [hk]; omega), hk, flatMap_get hk hk0 r]
      have e1 : t / k = (t - k) / k + 1 := by rw [Nat.div_eq_sub_div hk0 (by omega)]
      have e2 : t % k = (t - k) % k := by rw [Nat.mod_eq_sub_mod (by omega)]
      rw [e1, e2]
      simp

omit [Inhabited α] in
theorem length_flatMap' (hk : ∀ x, (enc x).length = k) : ∀ ds : List α, (ds.flatMap enc).length = ds.length * k
  | [] => by simp
  | x :: r => by rw [List.flatMap_cons, List.length_append, hk, length_flatMap' hk r, List.length_cons, Nat.succ_mul]; omega

theorem flatK_list (hk : ∀ x, (enc x).length = k) (hk0 : 0 < k) (d : Array α) : (flatK enc k d).toList = d.toList.flatMap enc := by
  apply List.ext_getElem?
  intro t
  rw [flatMap_get hk hk0]
  by_cases h : t < d.size * k
  · have hd : t / k < d.size := (Nat.div_lt_iff_lt_mul hk0).2 h
    have hm : t % k < (enc d[t / k]).length := by rw [hk]; exact Nat.mod_lt _ hk0
    rw [Array.getElem?_toList, Array.getElem?_toList, Array.getElem?_eq_getElem hd, Array.getElem?_eq_getElem (by simpa using h)]
    simp only [Option.bind_some]
    have := get_flatK enc k d t h
    rw [getElem!_pos (flatK enc k d) t (by simpa using h), getElem!_pos d (t / k) hd, getElem!_pos (enc d[t / k]) (t % k) hm] at this
    rw [this, List.getElem?_eq_getElem hm]
  · rw [List.getElem?_eq_none (by simp; omega), List.getElem?_eq_none (by rw [Array.length_toList]; rcases Nat.lt_or_ge (t / k) d.size with h' | h'; exact absurd ((Nat.div_lt_iff_lt_mul hk0).1 h') h; exact h')]
    rfl

theorem holdsK_of_row (hk : ∀ x, (enc x).length = k) (hk0 : 0 < k) {w : World} {base e g cap : Nat} {d : Array α} (row : w.ownsRow base e k (.slice (some ⟨g, 0, none⟩) d.size cap) d.size (d.toList.flatMap enc)) : HoldsK enc k w g 0 d := by
  intro j hj
  rw [size_flatK] at hj
  refine ⟨?_, row.frozenAt _⟩
  rw [Nat.zero_add, row.cellAt j hj, ← flatK_list hk hk0, Array.getElem?_toList, Array.getElem?_eq_getElem (by simpa using hj), getElem!_pos _ _ (by simpa using hj)]
  rfl

theorem row_sorted (hk : ∀ x, (enc x).length = k) (hk0 : 0 < k) {w : World} {base e g cap m : Nat} {os : Array Obj} {d d' : Array α} (hs : d'.size = d.size) (row : w.ownsRow base e k (.slice (some ⟨g, 0, none⟩) d.size cap) d.size (d.toList.flatMap enc)) :
    (sortWorldK enc k w g 0 m d' os).ownsRow base e k (.slice (some ⟨g, 0, none⟩) d.size cap) d.size (d'.toList.flatMap enc) ∧ w.grownBy (sortWorldK enc k w g 0 m d' os) (some g) := by
  have hsz : (putRowK enc k (Sort.ahead w m) g 0 d').heap.size = w.heap.size := by simp [putRowK, putRow, mapBlock, Sort.ahead]
  constructor
  · rcases row.2 with ⟨hn, _⟩ | ⟨g', cap', cur, hv, hbg, hg, hn, hcap, hcur, htake⟩
    · cases hn
    injection hv with e1 e2 e3
    injection e1 with e1
    injection e1 with e1 _ _
    subst e1
    subst e3
    have hlt : g < w.heap.size := lt_of_block hg
    have hnc : d.size * k ≤ cur.size := by rw [hcur]; exact Nat.mul_le_mul_right _ hn
    refine ⟨by rw [length_flatMap' hk, Array.length_toList, hs], .inr ⟨g, cap, putCells id 0 (flatK enc k d') cur, rfl, hbg, ?_, hn, hcap, by simp [putCells, hcur], ?_⟩⟩
    · unfold sortWorldK
      rw [heap_grow_old _ _ (by rw [hsz]; exact hlt)]
      simp [putRowK, putRow, mapBlock, Sort.ahead, Array.getElem?_modify, hg, onCells]
    · rw [← flatK_list hk hk0]
      apply List.ext_getElem?
      intro j
      by_cases hj : j < d.size * k
      · rw [List.getElem?_take_of_lt hj, Array.getElem?_toList, Array.getElem?_toList]
        have hj2 : j < d'.size * k := by rw [hs]; exact hj
        simp only [putCells, Array.getElem?_mapIdx, Array.getElem?_eq_getElem (show j < cur.size by omega), Option.map_some, Nat.zero_le, Nat.zero_add, size_flatK, hj2, and_self, if_true, Nat.sub_zero, id]
        rw [Array.getElem?_eq_getElem (by simpa using hj2), getElem!_pos _ _ (by simpa using hj2)]
      · rw [List.getElem?_take_eq_none (by omega), List.getElem?_eq_none (by simp [hs]; omega)]
  · refine ⟨rfl, rfl, rfl, by unfold sortWorldK; simp [grow, hsz], fun j hj hne => ?_⟩
    unfold sortWorldK
    rw [heap_grow_old _ _ (by rw [hsz]; exact hj)]
    have : g ≠ j := fun e => hne (by rw [e])
    simp [putRowK, putRow, mapBlock, Sort.ahead, Array.getElem?_modify, this]

theorem perm_of {d d' : Array α} (h : PermIn 0 d.size d d') : d'.size = d.size ∧ d'.toList.Perm d.toList := by
  obtain ⟨h1, _, h2⟩ := h
  refine ⟨h1, ?_⟩
  have e1 : d'.extract 0 d.size = d' := by rw [← h1]; simp
  have e2 : d.extract 0 d.size = d := by simp
  rwa [e1, e2] at h2

theorem sorted_of {lt : α → α → Bool} {d : Array α} (h : SortedIn lt 0 d.size d) : d.toList.Pairwise (fun x y => lt y x = false) := by
  rw [List.pairwise_iff_getElem]
  intro i j hi hj hij
  have := h i j (Nat.zero_le _) hij (by simpa using hj)
  rwa [getElem!_pos d j (by simpa using hj), getElem!_pos d i (by simpa using hi)] at this
end
end Go.ML
