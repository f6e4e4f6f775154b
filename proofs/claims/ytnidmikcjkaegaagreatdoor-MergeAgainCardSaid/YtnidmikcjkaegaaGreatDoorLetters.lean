/-
  What is proved here: the contract of keys.letters. No condition.
-/
import Derived.Test.YtnidmikcjkaegaaGreatDoorAlpha
namespace Go.Proofs.YtnidmikcjkaegaaGreatDoor
open Go Go.RowKit Go.ML

def letterRows : List ByteArray := [
  ⟨#[97, 32, 195, 160, 195, 161, 195, 162, 195, 163, 195, 164, 195, 165, 196, 129, 196, 131, 196, 133, 195, 128, 195, 129, 195, 130, 195, 131, 195, 132, 195, 133, 196, 128, 196, 130, 196, 132]⟩,
  ⟨#[99, 32, 195, 167, 196, 135, 196, 137, 196, 139, 196, 141, 195, 135, 196, 134, 196, 136, 196, 138, 196, 140]⟩,
  ⟨#[100, 32, 196, 143, 196, 145, 195, 176, 196, 142, 196, 144, 195, 144]⟩,
  ⟨#[101, 32, 195, 168, 195, 169, 195, 170, 195, 171, 196, 147, 196, 149, 196, 151, 196, 153, 196, 155, 195, 136, 195, 137, 195, 138, 195, 139, 196, 146, 196, 148, 196, 150, 196, 152, 196, 154]⟩,
  ⟨#[103, 32, 196, 157, 196, 159, 196, 161, 196, 163, 196, 156, 196, 158, 196, 160, 196, 162]⟩,
  ⟨#[104, 32, 196, 165, 196, 167, 196, 164, 196, 166]⟩,
  ⟨#[105, 32, 195, 172, 195, 173, 195, 174, 195, 175, 196, 169, 196, 171, 196, 173, 196, 175, 196, 177, 195, 140, 195, 141, 195, 142, 195, 143, 196, 168, 196, 170, 196, 172, 196, 174, 196, 176]⟩,
  ⟨#[106, 32, 196, 181, 196, 180]⟩,
  ⟨#[107, 32, 196, 183, 196, 182]⟩,
  ⟨#[108, 32, 196, 186, 196, 188, 196, 190, 197, 130, 196, 185, 196, 187, 196, 189, 197, 129]⟩,
  ⟨#[110, 32, 195, 177, 197, 132, 197, 134, 197, 136, 195, 145, 197, 131, 197, 133, 197, 135]⟩,
  ⟨#[111, 32, 195, 178, 195, 179, 195, 180, 195, 181, 195, 182, 195, 184, 197, 141, 197, 143, 197, 145, 198, 161, 195, 146, 195, 147, 195, 148, 195, 149, 195, 150, 195, 152, 197, 140, 197, 142, 197, 144, 198, 160]⟩,
  ⟨#[114, 32, 197, 149, 197, 151, 197, 153, 197, 148, 197, 150, 197, 152]⟩,
  ⟨#[115, 32, 197, 155, 197, 157, 197, 159, 197, 161, 197, 154, 197, 156, 197, 158, 197, 160]⟩,
  ⟨#[116, 32, 197, 163, 197, 165, 197, 167, 197, 162, 197, 164, 197, 166]⟩,
  ⟨#[117, 32, 195, 185, 195, 186, 195, 187, 195, 188, 197, 169, 197, 171, 197, 173, 197, 175, 197, 177, 197, 179, 198, 176, 195, 153, 195, 154, 195, 155, 195, 156, 197, 168, 197, 170, 197, 172, 197, 174, 197, 176, 197, 178, 198, 175]⟩,
  ⟨#[119, 32, 197, 181, 197, 180]⟩,
  ⟨#[121, 32, 195, 189, 195, 191, 197, 183, 195, 157, 197, 184, 197, 182]⟩,
  ⟨#[122, 32, 197, 186, 197, 188, 197, 190, 197, 185, 197, 187, 197, 189]⟩,
  ⟨#[97, 101, 32, 195, 166, 195, 134]⟩,
  ⟨#[111, 101, 32, 197, 147, 197, 146]⟩,
  ⟨#[115, 115, 32, 195, 159]⟩,
  ⟨#[116, 104, 32, 195, 190, 195, 158]⟩,
  ⟨#[206, 177, 32, 206, 172, 206, 134]⟩,
  ⟨#[206, 181, 32, 206, 173, 206, 136]⟩,
  ⟨#[206, 183, 32, 206, 174, 206, 137]⟩,
  ⟨#[206, 185, 32, 206, 175, 207, 138, 206, 144, 206, 138, 206, 170]⟩,
  ⟨#[206, 191, 32, 207, 140, 206, 140]⟩,
  ⟨#[207, 133, 32, 207, 141, 207, 139, 206, 176, 206, 142, 206, 171]⟩,
  ⟨#[207, 137, 32, 207, 142, 206, 143]⟩,
  ⟨#[208, 181, 32, 209, 145, 208, 129]⟩]

/-- The table of letters. -/
def tabL : Tab := alpha letterRows

theorem letterRows_len : letterRows.length = 31 := by decide
theorem letterRows_small : ∀ x ∈ letterRows, x.size ≤ 1000000 := by
  have h : letterRows.all (fun x => decide (x.size ≤ 200)) = true := by decide
  intro x hx
  have := of_decide_eq_true (List.all_eq_true.1 h x hx)
  omega

set_option maxRecDepth 100000 in
set_option maxHeartbeats 1000000 in
theorem letters_spec {H : Hts} {w : World} (hf : Fit H w) :
    Calls Tryz.prog 101 #[] w (Ret fun v' w' => Ext H w H w' ∧ ∃ b, v' = .map (some b) ∧ w.heap.size ≤ b ∧ Mp (Value.int .i32) w' b (mapV Value.string tabL)) := by
  have HF := Lib.hid hf
  clear hf
  go_enter Tryz.func101, Tryz.ntmps101
  go_wp2_with fail
  have hb := blk_new w (.cells (letterRows.map Value.string).toArray 9)
  have hs : Sl eStr (H.set w.heap.size 31) (w.alloc (.cells (letterRows.map Value.string).toArray 9)) letterRows (.slice (some ⟨w.heap.size, 0, none⟩) letterRows.length 31) :=
    Sl.of_block hb (by simpa using rels_strs letterRows) (by rw [Hts.set_self, letterRows_len]; decide) (by rw [letterRows_len]; exact Nat.le_refl _) (by simp [maxLen])
  rw [letterRows_len] at hs
  have hf2 : Fit (H.set w.heap.size 31) (w.alloc (.cells (letterRows.map Value.string).toArray 9)) := (HF.out.alloc _).pub (by simp) _
  refine (alphabet_spec hf2 hs (Lib.hid (by rw [letterRows_len]; decide)) (Lib.hid letterRows_small)).mono ?_
  rintro e w' ⟨v', rfl, hext, rfl, hmp⟩
  have HX := Lib.hid (And.intro hext hmp)
  clear hext hmp hs hf2 hb
  go_wp2
  go_ret
  obtain ⟨hext, hmp⟩ := HX.out
  have e1 : Ext H w H w' := ⟨((Below.refl _ w).alloc (Nat.le_refl _) _).trans (hext.below.mono (by simp)), fun b hb => HF.out b (by have := hext.below.size; simp at this; omega), fun _ _ => rfl⟩
  rw [show (w.alloc (.cells (letterRows.map Value.string).toArray 9)).heap.size = w.heap.size + 1 by simp] at hmp
  exact Ret.mk ⟨e1, _, rfl, by omega, hmp⟩
end Go.Proofs.YtnidmikcjkaegaaGreatDoor
