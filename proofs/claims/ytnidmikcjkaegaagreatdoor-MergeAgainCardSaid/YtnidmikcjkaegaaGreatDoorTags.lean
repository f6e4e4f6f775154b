/-
  What is proved here: what a row of strings holds behind the library's sort. No condition but that the slice is the caller's own.
-/
import Derived.Test.YtnidmikcjkaegaaGreatDoorSort
import Derived.Test.YtnidmikcjkaegaaGreatDoorGrp2
import Derived.Test.YtnidmikcjkaegaaGreatDoorShelf
namespace Go.Proofs.YtnidmikcjkaegaaGreatDoor
open Go Go.RowKit Go.ML Go.Sort Go.Proofs

theorem strs_cells {H : Hts} {w : World} : ∀ {xs : List ByteArray} {cells : List Value}, Rels eStr H w xs cells → cells = xs.map Value.string
  | [], _, h => h
  | _ :: _, _, h => by
    obtain ⟨c, r, rfl, rfl, hr⟩ := h
    rw [strs_cells hr]; rfl

theorem mk_bytes (x : ByteArray) : (⟨x.data.toList.toArray⟩ : ByteArray) = x := by cases x; simp

theorem enc_strs (xs : List ByteArray) : (xs.map (·.data.toList)).flatMap (fun l => [encStr l]) = xs.map Value.string := by
  induction xs with
  | nil => rfl
  | cons x xs ih => simp only [List.map_cons, List.flatMap_cons, ih, List.singleton_append, encStr, mk_bytes]

theorem sorted_strs (ss : List (List UInt8)) : ss.flatMap (fun l => [encStr l]) = (ss.map (fun b => (⟨b.toArray⟩ : ByteArray))).map Value.string := by
  induction ss with
  | nil => rfl
  | cons x xs ih => simp only [List.map_cons, List.flatMap_cons, ih, List.singleton_append, encStr]

theorem flatK_one (d : Array (List UInt8)) : flatK (fun l => [encStr l]) 1 d = d.map encStr := by
  apply Array.ext
  · simp
  · intro i h1 h2
    have h : i < d.size := by simpa using h2
    have := get_flatK (fun l => [encStr l]) 1 d i (by simpa using h)
    rw [getElem!_pos _ i h1] at this
    rw [this]
    simp [Nat.mod_one, h]

theorem row_of_putRow (w : World) (m g : Nat) (d : Array (List UInt8)) (os : Array Obj) : grow (putRow encStr (Sort.ahead w m) g 0 d) os = sortWorldK (fun l => [encStr l]) 1 w g 0 m d os := by
  unfold sortWorldK putRowK
  rw [flatK_one]
  congr 1
  unfold putRow
  congr 1
  funext c
  unfold putCells
  apply Array.ext
  · simp
  · intro i h1 h2
    simp only [Array.getElem_mapIdx, Array.size_map, Nat.zero_le, true_and, Nat.sub_zero, Nat.zero_add, id]
    by_cases h : i < d.size
    · rw [if_pos h, if_pos h, getElem!_pos _ i h, getElem!_pos _ i (by simpa using h)]; simp
    · rw [if_neg h, if_neg h]

theorem sortTags_length (l : List ByteArray) : (sortTags l).length = l.length := by simp [sortTags]

set_option maxHeartbeats 1000000 in
theorem sortTags_spec {H : Hts} {w : World} {base : Nat} {xs : List ByteArray} {v : Value} (hown : ML.Own eStr H w base xs v) (hlen : Hid (xs.length ≤ 1000000)) :
    Calls Tryz.prog 16 #[v] w fun e w' => e = .returned (.tuple #[]) ∧ ML.Own eStr H w' base (sortTags xs) v ∧ w.grownBy w' v.ownBlock := by
  obtain ⟨cells, row, hr, hz⟩ := hown
  obtain rfl := strs_cells hr
  rcases row.2 with ⟨rfl, hn⟩ | ⟨g, cap, cur, rfl, hbg, hg, hn, hcap, hcur, htake⟩
  · have : xs = [] := List.length_eq_zero_iff.1 hn
    subst this
    refine (Tryz.slices_Sort_string_none none 0 w).mono ?_
    rintro e w' ⟨rfl, rfl⟩
    rw [show sortTags [] = [] by simp [sortTags]]
    exact ⟨rfl, ML.Own.nil _, World.grownBy.refl _ _⟩
  · have hlt : g < w.heap.size := lt_of_block hg
    have hl : (xs.map (·.data.toList)).toArray.size = xs.length := by simp
    have row' : w.ownsRow base eStr.ty 1 (.slice (some ⟨g, 0, none⟩) (xs.map (·.data.toList)).toArray.size cap) (xs.map (·.data.toList)).toArray.size ((xs.map (·.data.toList)).toArray.toList.flatMap (fun l => [encStr l])) := by
      rw [hl]; rw [enc_strs]; exact row
    have hH : Holds encStr w g 0 (xs.map (·.data.toList)).toArray := by
      have h1 := holdsK_of_row (enc := fun l => [encStr l]) (fun _ => rfl) (by decide) row'
      intro j hj
      have h2 := h1 j (by rw [flatK_one]; simpa using hj)
      rw [flatK_one, getElem!_pos _ j (by simpa using hj)] at h2
      rw [getElem!_pos _ j (by simpa using hj)]
      simpa using h2
    have hcon := Tryz.slices_Sort_string g 0 cap (xs.map (·.data.toList)) w hH hlt (by have := hlen.out; simp; omega)
    rw [List.length_map] at hcon
    refine hcon.mono ?_
    rintro e w' ⟨rfl, m, os, rfl⟩
    rw [row_of_putRow]
    obtain ⟨r1, r2⟩ := row_sorted (m := m) (os := os) (d' := ((xs.map (·.data.toList)).mergeSort (fun x y => decide (x ≤ y))).toArray) (enc := fun l => [encStr l]) (fun _ => rfl) (by decide) (by simp) row'
    refine ⟨rfl, ⟨(sortTags xs).map Value.string, ?_, rels_strs _, hz⟩, r2⟩
    rw [sortTags_length]
    rw [hl] at r1
    rw [sorted_strs] at r1
    exact r1
end Go.Proofs.YtnidmikcjkaegaaGreatDoor
