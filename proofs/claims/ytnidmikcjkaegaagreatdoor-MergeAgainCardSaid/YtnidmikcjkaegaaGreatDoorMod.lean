/-
  What is proved here: the contracts of the reference's Mod, Tag and Text. Conditions: the modulus is between 1 and 1000.
-/
import Derived.Test.YtnidmikcjkaegaaGreatDoorEnc
import Derived.IntWalk
namespace Go.Proofs.YtnidmikcjkaegaaGreatDoor
open Go Go.RowKit Go.ML

theorem ret_int {k : IntKind} {a b : Int} (h : a = b) : Ending.returned (.int k a) = .returned (.int k b) := by rw [h]

theorem tmod_mod (n m : Int) (h : 0 < m) : (n.tmod m + m).tmod m = n % m := by
  have h1 := Int.tmod_add_mul_tdiv n m
  have h2 : -m < n.tmod m := by
    rcases Int.le_total 0 n with h' | h'
    · have := Int.tmod_nonneg m h'; omega
    · have := Int.tmod_nonneg (a := -n) m (by omega)
      rw [Int.neg_tmod] at this
      have h3 := Int.tmod_lt_of_pos (-n) h
      rw [Int.neg_tmod] at h3
      omega
  rw [Int.tmod_eq_emod_of_nonneg (by omega), Int.add_emod_right]
  have e : n = n.tmod m + m * n.tdiv m := h1.symm
  conv => rhs; rw [e]
  rw [Int.add_mul_emod_self_left]

theorem tmod_bounds (n m : Int) (h : 0 < m) : -m < n.tmod m ∧ n.tmod m < m := by
  have h3 := Int.tmod_lt_of_pos n h
  refine ⟨?_, h3⟩
  have h4 := Int.tmod_lt_of_pos (-n) h
  rw [Int.neg_tmod] at h4
  omega

set_option maxHeartbeats 400000 in
theorem mod_spec (n m : Int) (w : World) (h : 0 < m) (h' : m ≤ 1000) :
    Calls Tryz.prog 22 #[.int .i64 n, .int .i64 m] w fun e w' => e = .returned (.int .i64 (n % m)) ∧ w = w' := by
  have hb := tmod_bounds n m h
  have hb1 := hb.1
  have hb2 := hb.2
  have H := Lib.hid (show (n.tmod m + m) % m = n % m by rw [← Int.tmod_eq_emod_of_nonneg (by omega)]; exact tmod_mod n m h)
  have hne : (m == 0) = false := by simp; omega
  have hb3 := Int.emod_lt_of_pos n h
  have hb4 := Int.emod_nonneg n (show m ≠ 0 by omega)
  clear hb
  go_enter Tryz.func22, Tryz.ntmps22
  go_wp2
  go_ret
  exact ⟨ret_int H.out, rfl⟩

def tags : List ByteArray := [⟨#[48, 48, 49]⟩, ⟨#[50, 52, 53]⟩, ⟨#[49, 48, 48]⟩, ⟨#[48, 50, 48]⟩, ⟨#[54, 53, 48]⟩, ⟨#[55, 48, 48]⟩, ⟨#[50, 54, 48]⟩, ⟨#[53, 48, 48]⟩, ⟨#[57, 48, 48]⟩, ⟨#[57, 52, 57]⟩, ⟨#[48, 48, 56]⟩, ⟨#[50, 52, 54]⟩, ⟨#[54, 48, 48]⟩, ⟨#[49, 49, 48]⟩, ⟨#[52, 57, 48]⟩, ⟨#[48, 48, 51]⟩, ⟨#[57, 122, 57]⟩, ⟨#[50, 52]⟩, ⟨#[57, 57, 57]⟩, ⟨#[48]⟩]
def tagP (n : Int) : ByteArray := tags.getD (n % 20).toNat ⟨#[]⟩

theorem tags_at (w : World) (k : Nat) (hk : k < 20) : (w.alloc (.cells #[.string ⟨#[48, 48, 49]⟩, .string ⟨#[50, 52, 53]⟩, .string ⟨#[49, 48, 48]⟩, .string ⟨#[48, 50, 48]⟩, .string ⟨#[54, 53, 48]⟩, .string ⟨#[55, 48, 48]⟩, .string ⟨#[50, 54, 48]⟩, .string ⟨#[53, 48, 48]⟩, .string ⟨#[57, 48, 48]⟩, .string ⟨#[57, 52, 57]⟩, .string ⟨#[48, 48, 56]⟩, .string ⟨#[50, 52, 54]⟩, .string ⟨#[54, 48, 48]⟩, .string ⟨#[49, 49, 48]⟩, .string ⟨#[52, 57, 48]⟩, .string ⟨#[48, 48, 51]⟩, .string ⟨#[57, 122, 57]⟩, .string ⟨#[50, 52]⟩, .string ⟨#[57, 57, 57]⟩, .string ⟨#[48]⟩] 9)).cell? ⟨w.heap.size, k, none⟩ = some (.string (tags.getD k ⟨#[]⟩)) := by
  rw [cell_of_row _ _ _ _ _ _ (blk_new w _), ← Array.getElem?_toList]
  show (tags.map Value.string)[k]? = _
  have hl : tags.length = 20 := rfl
  rw [List.getElem?_map, List.getD_eq_getElem?_getD, List.getElem?_eq_getElem (show k < tags.length by omega)]
  rfl

set_option maxRecDepth 10000 in
set_option maxHeartbeats 1000000 in
theorem tag_spec (n : Int) (w : World) :
    Calls Tryz.prog 35 #[.int .i64 n] w fun e w' => e = .returned (.string (tagP n)) ∧ Below w.heap.size w w' := by
  have hb1 := Int.emod_lt_of_pos n (show (0 : Int) < 20 by omega)
  have hb2 := Int.emod_nonneg n (show (20 : Int) ≠ 0 by omega)
  obtain ⟨k, hk⟩ : ∃ k : Nat, n % 20 = k := ⟨(n % 20).toNat, by omega⟩
  have hk20 : k < 20 := by omega
  have hP : Hid (tagP n = tags.getD k ⟨#[]⟩) := Lib.hid (by unfold tagP; rw [hk]; rfl)
  have HK := Lib.hid hk
  have hc := tags_at w k hk20
  have hi0 : (0 : Int) ≤ k := by omega
  have hi1 : (k : Int) < 20 := by omega
  clear hb1 hb2 hk hk20
  generalize hxx : tags.getD k ⟨#[]⟩ = xx at *
  clear hxx
  go_enter Tryz.func35, Tryz.ntmps35
  go_wp2_with (go_at_call 22; refine (mod_spec n 20 _ (by decide) (by decide)).mono ?_; rintro e w' ⟨rfl, rfl⟩; rw [HK.out])
  go_ret
  exact ⟨by rw [hP.out]; rfl, (Below.refl _ _).alloc (Nat.le_refl _) _⟩

def texts : List ByteArray := [⟨#[69, 109, 109, 97]⟩, ⟨#[84, 104, 101, 32, 115, 101, 97]⟩, ⟨#[195, 156, 98, 101, 114, 32, 100, 101, 110, 32, 70, 108, 117, 195, 159]⟩, ⟨#[87, 97, 114, 32, 97, 110, 100, 32, 112, 101, 97, 99, 101]⟩, ⟨#[119, 97, 114, 32, 38, 32, 80, 69, 65, 67, 69]⟩, ⟨#[65, 117, 115, 116, 101, 110, 44, 32, 74, 97, 110, 101]⟩, ⟨#[84, 111, 108, 115, 116, 111, 121]⟩, ⟨#[49, 57, 56, 52]⟩, ⟨#[57, 55, 56, 48, 51, 48, 54, 52, 48, 54, 49, 53, 55]⟩, ⟨#[48, 51, 48, 54, 52, 48, 54, 49, 53, 50]⟩, ⟨#[76, 111, 110, 100, 111, 110]⟩, ⟨#[83, 101, 97, 32, 115, 116, 111, 114, 105, 101, 115]⟩, ⟨#[65]⟩, ⟨#[]⟩, ⟨#[69, 109, 109, 97, 32, 97, 110, 100, 32, 116, 104, 101, 32, 115, 101, 97]⟩, ⟨#[49, 57, 57, 57]⟩, ⟨#[99, 49, 57, 57, 57, 46]⟩, ⟨#[82, 105, 118, 101, 114, 115]⟩, ⟨#[79, 99, 101, 97, 110, 115, 32, 45, 45, 32, 72, 105, 115, 116, 111, 114, 121]⟩, ⟨#[112, 101, 97, 99, 101]⟩]
def textP (n : Int) : ByteArray := texts.getD (n % 20).toNat ⟨#[]⟩

theorem texts_at (w : World) (k : Nat) (hk : k < 20) : (w.alloc (.cells #[.string ⟨#[69, 109, 109, 97]⟩, .string ⟨#[84, 104, 101, 32, 115, 101, 97]⟩, .string ⟨#[195, 156, 98, 101, 114, 32, 100, 101, 110, 32, 70, 108, 117, 195, 159]⟩, .string ⟨#[87, 97, 114, 32, 97, 110, 100, 32, 112, 101, 97, 99, 101]⟩, .string ⟨#[119, 97, 114, 32, 38, 32, 80, 69, 65, 67, 69]⟩, .string ⟨#[65, 117, 115, 116, 101, 110, 44, 32, 74, 97, 110, 101]⟩, .string ⟨#[84, 111, 108, 115, 116, 111, 121]⟩, .string ⟨#[49, 57, 56, 52]⟩, .string ⟨#[57, 55, 56, 48, 51, 48, 54, 52, 48, 54, 49, 53, 55]⟩, .string ⟨#[48, 51, 48, 54, 52, 48, 54, 49, 53, 50]⟩, .string ⟨#[76, 111, 110, 100, 111, 110]⟩, .string ⟨#[83, 101, 97, 32, 115, 116, 111, 114, 105, 101, 115]⟩, .string ⟨#[65]⟩, .string ⟨#[]⟩, .string ⟨#[69, 109, 109, 97, 32, 97, 110, 100, 32, 116, 104, 101, 32, 115, 101, 97]⟩, .string ⟨#[49, 57, 57, 57]⟩, .string ⟨#[99, 49, 57, 57, 57, 46]⟩, .string ⟨#[82, 105, 118, 101, 114, 115]⟩, .string ⟨#[79, 99, 101, 97, 110, 115, 32, 45, 45, 32, 72, 105, 115, 116, 111, 114, 121]⟩, .string ⟨#[112, 101, 97, 99, 101]⟩] 9)).cell? ⟨w.heap.size, k, none⟩ = some (.string (texts.getD k ⟨#[]⟩)) := by
  rw [cell_of_row _ _ _ _ _ _ (blk_new w _), ← Array.getElem?_toList]
  show (texts.map Value.string)[k]? = _
  have hl : texts.length = 20 := rfl
  rw [List.getElem?_map, List.getD_eq_getElem?_getD, List.getElem?_eq_getElem (show k < texts.length by omega)]
  rfl

set_option maxRecDepth 10000 in
set_option maxHeartbeats 1000000 in
theorem text_spec (n : Int) (w : World) :
    Calls Tryz.prog 36 #[.int .i64 n] w fun e w' => e = .returned (.string (textP n)) ∧ Below w.heap.size w w' := by
  have hb1 := Int.emod_lt_of_pos n (show (0 : Int) < 20 by omega)
  have hb2 := Int.emod_nonneg n (show (20 : Int) ≠ 0 by omega)
  obtain ⟨k, hk⟩ : ∃ k : Nat, n % 20 = k := ⟨(n % 20).toNat, by omega⟩
  have hk20 : k < 20 := by omega
  have hP : Hid (textP n = texts.getD k ⟨#[]⟩) := Lib.hid (by unfold textP; rw [hk]; rfl)
  have HK := Lib.hid hk
  have hc := texts_at w k hk20
  have hi0 : (0 : Int) ≤ k := by omega
  have hi1 : (k : Int) < 20 := by omega
  clear hb1 hb2 hk hk20
  generalize hxx : texts.getD k ⟨#[]⟩ = xx at *
  clear hxx
  go_enter Tryz.func36, Tryz.ntmps36
  go_wp2_with (go_at_call 22; refine (mod_spec n 20 _ (by decide) (by decide)).mono ?_; rintro e w' ⟨rfl, rfl⟩; rw [HK.out])
  go_ret
  exact ⟨by rw [hP.out]; rfl, (Below.refl _ _).alloc (Nat.le_refl _) _⟩
end Go.Proofs.YtnidmikcjkaegaaGreatDoor
