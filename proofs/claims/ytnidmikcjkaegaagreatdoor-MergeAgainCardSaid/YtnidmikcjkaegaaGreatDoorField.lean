/-
  What is proved here: the contract of the law's field. No condition.
-/
import Derived.Test.YtnidmikcjkaegaaGreatDoorOwn
namespace Go.Proofs.YtnidmikcjkaegaaGreatDoor
open Go Go.RowKit Go.ML

def fieldP (tag text : ByteArray) : GField := ⟨tag, ⟨#[32, 32]⟩, ⟨#[]⟩, [⟨97, text⟩]⟩

set_option maxRecDepth 10000 in
set_option maxHeartbeats 1000000 in
theorem field_spec {H : Hts} {w : World} (hf : Fit H w) (tag text : ByteArray) :
    Calls Tryz.prog 28 #[.string tag, .string text] w (Ret fun v w' => ∃ H' cs', v = .agg cs'.toArray ∧ Ext H w H' w' ∧ eField.rel (H'.ge w.heap.size) w' (fieldP tag text) cs') := by
  have HF := Lib.hid hf
  clear hf
  go_enter Tryz.func28, Tryz.ntmps28
  go_wp2
  have hb := blk_two w (.cells #[.string tag, .string ⟨#[32, 32]⟩, .string ⟨#[]⟩, .slice (some ⟨w.heap.size + 1, 0, none⟩) 1 1] 38) (.cells #[.int .u8 97, .string text] 44)
  have B := blk4 hb.1
  have e1 : Ext H w (H.set (w.heap.size + 1) 2) ((w.alloc (.cells #[.string tag, .string ⟨#[32, 32]⟩, .string ⟨#[]⟩, .slice (some ⟨w.heap.size + 1, 0, none⟩) 1 1] 38)).alloc (.cells #[.int .u8 97, .string text] 44)) :=
    (((Ext.refl HF.out).alloc _).alloc _).pub (by omega) (by simp) 2
  have s1 : Sl eSub ((H.set (w.heap.size + 1) 2).ge w.heap.size) ((w.alloc (.cells #[.string tag, .string ⟨#[32, 32]⟩, .string ⟨#[]⟩, .slice (some ⟨w.heap.size + 1, 0, none⟩) 1 1] 38)).alloc (.cells #[.int .u8 97, .string text] 44)) [(⟨97, text⟩ : GSub)] (.slice (some ⟨w.heap.size + 1, 0, none⟩) 1 1) :=
    Sl.of_block (xs := [(⟨97, text⟩ : GSub)]) hb.2 (Rels.single rfl) (by unfold Hts.ge; rw [if_neg (by omega), Hts.set_self]; exact Nat.le_refl 2) (Nat.le_refl _) (by simp [maxLen])
  exact bodyPost_ret (v := .agg #[.string tag, .string ⟨#[32, 32]⟩, .string ⟨#[]⟩, .slice (some ⟨w.heap.size + 1, 0, none⟩) 1 1]) (by simp [results, Tryz.results28, go_sem, B]) rfl (Ret.mk ⟨_, [.string tag, .string ⟨#[32, 32]⟩, .string ⟨#[]⟩, .slice (some ⟨w.heap.size + 1, 0, none⟩) 1 1], rfl, e1, _, rfl, s1⟩)
end Go.Proofs.YtnidmikcjkaegaaGreatDoor
