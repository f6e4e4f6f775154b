/-
  What is proved here: strings.Cut at a blank. Conditions: the string's length is bounded.
-/
import Derived.Test.YtnidmikcjkaegaaGreatDoorShelf
import Derived.Test.YtnidmikcjkaegaaGreatDoorFold
import Derived.WalkSpells
import Derived.RegionTactic
namespace Go.Proofs.YtnidmikcjkaegaaGreatDoor
open Go Go.RowKit Go.ML

def cutB (s : ByteArray) : ByteArray × ByteArray × Bool :=
  if 0 ≤ Lib.indexByte s.data.toList 32 then (s.extract 0 (Lib.indexByte s.data.toList 32).toNat, s.extract ((Lib.indexByte s.data.toList 32).toNat + 1) s.size, true) else (s, ⟨#[]⟩, false)

set_option maxRecDepth 10000 in
set_option maxHeartbeats 400000 in
theorem cut0_yes (s : ByteArray) (n : Nat) (w : World) (hn : Hid (s.size ≤ 1000000)) (hi : Hid (Lib.indexByte s.data.toList 32 = (n : Int))) (hlt : n + 1 ≤ s.size) :
    Calls Tryz.prog 115 #[.string s, .string ⟨#[32]⟩] w fun e w' => e = .returned (.tuple #[.string (s.extract 0 n), .string (s.extract (n + 1) s.size), .bool true]) ∧ ∃ m, w' = w.drewN m := by
  have hnn := hn.out
  go_enter Tryz.func115, Tryz.ntmps115
  go_wp2_with (go_at_call 116; refine (Tryz.stringslite_Index_one s 32 _).mono ?_; rintro e w' ⟨rfl, rfl⟩; rw [hi.out])
  go_quiet (fail)
  go_wp2
  go_ret3
  exact ⟨rfl, _, rfl⟩

set_option maxRecDepth 10000 in
set_option maxHeartbeats 400000 in
theorem cut0_no (s : ByteArray) (w : World) (hi : Hid (Lib.indexByte s.data.toList 32 = -1)) :
    Calls Tryz.prog 115 #[.string s, .string ⟨#[32]⟩] w fun e w' => e = .returned (.tuple #[.string s, .string ⟨#[]⟩, .bool false]) ∧ w = w' := by
  go_enter Tryz.func115, Tryz.ntmps115
  go_wp2_with (go_at_call 116; refine (Tryz.stringslite_Index_one s 32 _).mono ?_; rintro e w' ⟨rfl, rfl⟩; rw [hi.out])
  go_ret3
  exact ⟨rfl, rfl⟩

theorem cut0_spec (s : ByteArray) (w : World) (hn : s.size ≤ 1000000) :
    Calls Tryz.prog 115 #[.string s, .string ⟨#[32]⟩] w fun e w' => e = .returned (.tuple #[.string (cutB s).1, .string (cutB s).2.1, .bool (cutB s).2.2]) ∧ ∃ m, w' = w.drewN m := by
  have hge := Lib.indexByte_ge s.data.toList 32
  by_cases h : 0 ≤ Lib.indexByte s.data.toList 32
  · obtain ⟨n, hi⟩ := Int.eq_ofNat_of_zero_le h
    have hl : n < s.size := by
      have := (Lib.indexByte_some hi).1
      have := (List.getElem?_eq_some_iff.1 this).1
      simpa using this
    have hc : cutB s = (s.extract 0 n, s.extract (n + 1) s.size, true) := by unfold cutB; rw [if_pos h, hi]; simp
    rw [hc]
    exact cut0_yes s n w (Lib.hid hn) (Lib.hid hi) (by omega)
  · have hc : cutB s = (s, ⟨#[]⟩, false) := by unfold cutB; rw [if_neg h]
    rw [hc]
    exact (cut0_no s w (Lib.hid (by omega))).mono fun _ _ ⟨h1, h2⟩ => ⟨h1, 0, by rw [← h2]; rfl⟩

set_option maxRecDepth 10000 in
set_option maxHeartbeats 400000 in
theorem cut_spec (s : ByteArray) (w : World) (hn : s.size ≤ 1000000) :
    Calls Tryz.prog 114 #[.string s, .string ⟨#[32]⟩] w fun e w' => e = .returned (.tuple #[.string (cutB s).1, .string (cutB s).2.1, .bool (cutB s).2.2]) ∧ ∃ m, w' = w.drewN m := by
  have hc := Lib.hid (cut0_spec s w hn)
  generalize cutB s = r at hc ⊢
  go_enter Tryz.func114, Tryz.ntmps114
  go_wp2_with (go_at_call 115; refine hc.out.mono ?_; rintro e w' ⟨rfl, m, rfl⟩)
  go_ret3
  exact ⟨rfl, m, rfl⟩
end Go.Proofs.YtnidmikcjkaegaaGreatDoor
