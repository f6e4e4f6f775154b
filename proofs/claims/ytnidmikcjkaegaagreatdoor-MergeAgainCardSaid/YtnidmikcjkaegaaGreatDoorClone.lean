/-
  What is proved here: contracts of slices.Clone at fields and at subfields. Conditions: the lists' lengths are bounded.
-/
import Derived.Test.YtnidmikcjkaegaaGreatDoorEnc
import Derived.WalkSpells
import Derived.Outline
namespace Go.Proofs.YtnidmikcjkaegaaGreatDoor
open Go Go.RowKit Go.ML

theorem okField : EncOk Tryz.prog 24 eField 72 := ⟨Tryz.underlying24, by kernel_rfl, by decide⟩
theorem okSub : EncOk Tryz.prog 36 eSub 24 := ⟨Tryz.underlying36, by kernel_rfl, by decide⟩

set_option maxHeartbeats 400000 in
theorem cloneF {H : Hts} {w : World} {xs : List GField} {v : Value} (hf : Fit H w) (h : Sl eField H w xs v) (hn : Hid (xs.length ≤ 1000000)) :
    Calls Tryz.prog 37 #[v] w (Ret fun v' w' => Ext H w H w' ∧ Own eField H w' w.heap.size xs v') := by
  obtain ⟨a, c, rfl, _, _⟩ := h.form
  have hq := fun w => Lib.run_eql_slice_nil (P := Tryz.prog) w 24 38 a xs.length c 0 0 Tryz.underlying24
  rcases Nat.eq_zero_or_pos xs.length with h0 | h0
  · have := List.length_eq_zero_iff.1 h0
    subst this
    have Hf := Lib.hid hf
    clear hf
    simp only [List.length_nil] at hq h ⊢
    cases a
    · go_enter Tryz.func37, Tryz.ntmps37
      go_wp2_with fail
      go_ret
      exact Ret.mk ⟨Ext.refl Hf.out, Own.nil _⟩
    · go_enter Tryz.func37, Tryz.ntmps37
      go_wp2_with fail
      go_ret
      exact Ret.mk ⟨(Ext.refl Hf.out).alloc _, Own.made Hf.out (Nat.le_refl _) (by simp [maxLen]) rfl⟩
  · obtain ⟨b, o, c', cells, hv, h1, h2, hl, hr, ho, hb, hc⟩ := h.news h0
    injection hv with e1 e2 e3
    subst e1
    subst e3
    have HH := Lib.hid (And.intro hf (And.intro hr hc))
    clear hf hr hc h hl ho h1 h2
    go_enter Tryz.func37, Tryz.ntmps37
    go_wp2_with (at_builtin; refine append_law (H := H) (E := eField) rfl _ _ _ rfl okField (HH.out.1.alloc _) (xs := []) rfl (base := w.heap.size) (Own.made HH.out.1 (Nat.le_refl _) (by simp [maxLen]) rfl) rfl rfl (HH.out.2.1.evo ((Evo.refl _ _).alloc _)) (HH.out.2.2 _ ((Evo.refl _ _).alloc _)) h0 (by have := hn.out; simp; omega) (by simp) ?_; intro g cap w' k1 _ _ _ _ _ _ k8)
    go_ret
    exact Ret.mk ⟨k8 _ _ (Nat.le_refl _) ((Ext.refl HH.out.1).alloc _), by simpa using k1⟩

set_option maxHeartbeats 400000 in
theorem cloneS {H : Hts} {w : World} {xs : List GSub} {v : Value} (hf : Fit H w) (h : Sl eSub H w xs v) (hn : Hid (xs.length ≤ 1000000)) :
    Calls Tryz.prog 58 #[v] w (Ret fun v' w' => Ext H w H w' ∧ Own eSub H w' w.heap.size xs v') := by
  obtain ⟨a, c, rfl, _, _⟩ := h.form
  have hq := fun w => Lib.run_eql_slice_nil (P := Tryz.prog) w 36 44 a xs.length c 0 0 Tryz.underlying36
  rcases Nat.eq_zero_or_pos xs.length with h0 | h0
  · have := List.length_eq_zero_iff.1 h0
    subst this
    have Hf := Lib.hid hf
    clear hf
    simp only [List.length_nil] at hq h ⊢
    cases a
    · go_enter Tryz.func58, Tryz.ntmps58
      go_wp2_with fail
      go_ret
      exact Ret.mk ⟨Ext.refl Hf.out, Own.nil _⟩
    · go_enter Tryz.func58, Tryz.ntmps58
      go_wp2_with fail
      go_ret
      exact Ret.mk ⟨(Ext.refl Hf.out).alloc _, Own.made Hf.out (Nat.le_refl _) (by simp [maxLen]) rfl⟩
  · obtain ⟨b, o, c', cells, hv, h1, h2, hl, hr, ho, hb, hc⟩ := h.news h0
    injection hv with e1 e2 e3
    subst e1
    subst e3
    have HH := Lib.hid (And.intro hf (And.intro hr hc))
    clear hf hr hc h hl ho h1 h2
    go_enter Tryz.func58, Tryz.ntmps58
    go_wp2_with (at_builtin; refine append_law (H := H) (E := eSub) rfl _ _ _ rfl okSub (HH.out.1.alloc _) (xs := []) rfl (base := w.heap.size) (Own.made HH.out.1 (Nat.le_refl _) (by simp [maxLen]) rfl) rfl rfl (HH.out.2.1.evo ((Evo.refl _ _).alloc _)) (HH.out.2.2 _ ((Evo.refl _ _).alloc _)) h0 (by have := hn.out; simp; omega) (by simp) ?_; intro g cap w' k1 _ _ _ _ _ _ k8)
    go_ret
    exact Ret.mk ⟨k8 _ _ (Nat.le_refl _) ((Ext.refl HH.out.1).alloc _), by simpa using k1⟩
end Go.Proofs.YtnidmikcjkaegaaGreatDoor
