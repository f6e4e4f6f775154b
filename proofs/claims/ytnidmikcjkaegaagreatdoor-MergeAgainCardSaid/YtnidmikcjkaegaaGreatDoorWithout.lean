/-
  What is proved here: the contract of merge.Without. Conditions: the lists are small.
-/
import Derived.Test.YtnidmikcjkaegaaGreatDoorLatest
namespace Go.Proofs.YtnidmikcjkaegaaGreatDoor
open Go Go.RowKit Go.ML

def withoutP (xs : List GVersion) (s : Int) : List GVersion := xs.filter (fun x => decide (x.frm.src ≠ s))

set_option maxRecDepth 10000 in
set_option maxHeartbeats 2000000 in
theorem without_spec {H : Hts} {w : World} {xs : List GVersion} {v : Value} {s : Int} (hf : Fit H w) (h : Sl eVersion H w xs v) (hn : Hid (xs.length ≤ 1000000)) (hx : Hid (∀ x ∈ xs, SmallV x)) :
    Calls Tryz.prog 11 #[v, .int .i64 s] w (Ret fun v' w' => ∃ H', Ext H w H' w' ∧ Sl eVersion (H'.ge w.heap.size) w' (withoutP xs s) v') := by
  obtain ⟨a, c, rfl, _, _⟩ := h.form
  have HF := Lib.hid hf
  have HS := Lib.hid h
  clear h hf
  have h0 : Hid (∃ Hk, Ext H w Hk w ∧ ML.Own eVersion (Hk.ge w.heap.size) w w.heap.size (withoutP (xs.take 0) s) (.slice none 0 0)) := Lib.hid ⟨H, Ext.refl HF.out, ML.Own.nil _⟩
  go_enter Tryz.func11, Tryz.ntmps11
  go_wp2_with fail
  go_loopw [5, 10] (fun vv i wr => ∃ k : Nat, k ≤ xs.length ∧ i = .int .i64 k ∧ Hid (∃ Hk, Ext H w Hk wr ∧ ML.Own eVersion (Hk.ge w.heap.size) wr w.heap.size (withoutP (xs.take k) s) vv)) (fun _ i _ => xs.length - (intOf i).toNat)
  case atStart => exact ⟨0, Nat.zero_le _, rfl, h0⟩
  case round =>
    clear h0
    obtain ⟨k, hk, rfl, hm⟩ := hrel
    have hnn := hn.out
    by_cases hlt : k < xs.length
    · obtain ⟨Hk, e1, o1⟩ := hm.out
      obtain ⟨b, o, c', cs, hv, _, _, hrl, hra⟩ := HS.out.range k hlt
      injection hv with e3 _ e5
      subst e3
      subst e5
      obtain ⟨x, hx2⟩ : ∃ x, x = xs[k] := ⟨_, rfl⟩
      rw [← hx2] at hrl
      obtain ⟨v2, rfl, hs4⟩ := rel_version hrl
      obtain ⟨a2, c2, rfl, _, _⟩ := hs4.form
      have hev := e1.evo HF.out
      have hra1 := Lib.hid (hra _ _ hev)
      have hB := blk6 (blk_new wr (.cells #[.int .i64 x.frm.src, .int .i64 x.frm.num, .int .i64 x.number, .int .u8 x.record.kind, .int .u8 x.record.level, .slice a2 x.record.fields.length c2] 40))
      have HX := Lib.hid (And.intro (e1.alloc (.cells #[.int .i64 x.frm.src, .int .i64 x.frm.num, .int .i64 x.number, .int .u8 x.record.kind, .int .u8 x.record.level, .slice a2 x.record.fields.length c2] 40)) (And.intro (o1.alloc (.cells #[.int .i64 x.frm.src, .int .i64 x.frm.num, .int .i64 x.number, .int .u8 x.record.kind, .int .u8 x.record.level, .slice a2 x.record.fields.length c2] 40)) (hs4.evo (hev.alloc (.cells #[.int .i64 x.frm.src, .int .i64 x.frm.num, .int .i64 x.number, .int .u8 x.record.kind, .int .u8 x.record.level, .slice a2 x.record.fields.length c2] 40)))))
      have hsm := Lib.hid (show SmallV x from hx2 ▸ hx.out _ (List.getElem_mem hlt))
      have HXX := Lib.hid hx2
      clear hra hrl hs4 hev hm e1 o1 hx2
      by_cases hs : x.frm.src = s
      · have hst : Hid (withoutP (xs.take (k + 1)) s = withoutP (xs.take k) s) := Lib.hid (by
          unfold withoutP
          rw [List.take_succ_eq_append_getElem hlt, ← HXX.out, List.filter_append]
          simp [hs])
        subst hs
        go_wp2_with (refine wpList_load_mid rfl 40 (.tmp 12) rfl b (o + k * 6) rfl _ _ hra1.out Tryz.underlying40 rfl (by kernel_rfl) ?_)
        exact ⟨⟨k + 1, by omega, by go_num, Lib.hid ⟨Hk, HX.out.1, by rw [hst.out]; exact HX.out.2.1⟩⟩, by simp [intOf]; omega⟩
      · have hsb : (x.frm.src == s) = false := by simpa using hs
        have hst : Hid (withoutP (xs.take (k + 1)) s = withoutP (xs.take k) s ++ [x]) := Lib.hid (by
          unfold withoutP
          rw [List.take_succ_eq_append_getElem hlt, ← HXX.out, List.filter_append]
          simp [hs])
        have hwl : Hid ((withoutP (xs.take k) s).length + 1 ≤ 16777216) := Lib.hid (by
          have h1 : (withoutP (xs.take k) s).length ≤ (xs.take k).length := List.length_filter_le ..
          have h2 : (xs.take k).length ≤ k := List.length_take_le ..
          omega)
        clear hs
        go_wp2_with (first
          | (refine wpList_load_mid rfl 40 (.tmp 12) rfl b (o + k * 6) rfl _ _ hra1.out Tryz.underlying40 rfl (by kernel_rfl) ?_)
          | (go_at_call 24; refine (own_spec HX.out.1.fit (x := x) ⟨_, rfl, HX.out.2.2⟩ (Lib.hid hsm.out.1) (Lib.hid hsm.out.2)).mono ?_; rintro e w3 ⟨v3, rfl, H3, cs', rfl, hext, hrel⟩
             obtain ⟨v4, rfl, hs5⟩ := rel_version hrel
             obtain ⟨a4, c4, rfl, _, _⟩ := hs5.form
             have ho3 := HX.out.2.1.extGe HX.out.1.fit hext
             have hr3 : eVersion.rel (H3.ge w.heap.size) w3 x _ := eVersion.evo (Evo.ge2 H3 w3 HX.out.1.below.size) ⟨_, rfl, hs5⟩
             have HZ := Lib.hid (And.intro hext (And.intro ho3 hr3))
             have hsz : Hid (∀ o, w.heap.size ≤ (w3.alloc o).heap.size) := Lib.hid (fun o => by have := HX.out.1.below.size; have := hext.below.size; simp; omega)
             clear hext ho3 hr3 hs5 hrel)
          | (at_builtin; refine append_law (H := H3.ge w.heap.size) (E := eVersion) rfl _ _ _ rfl okVersion ((HZ.out.1.fit.ge _).alloc _) (xs := withoutP (xs.take k) s) (ys := [x]) rfl (base := w.heap.size) (HZ.out.2.1.alloc _) rfl rfl (Rels.single (eVersion.evo ((Evo.refl _ _).alloc _) HZ.out.2.2)) (World.news_of_block (blk_new w3 _)) (by decide) hwl.out (hsz.out _) ?_; intro g cap w5 k1 k2 k3 k4 k5 k6 k7 k8
             have hfin : Hid (Ext H w H3 w5 ∧ ML.Own eVersion (H3.ge w.heap.size) w5 w.heap.size (withoutP (xs.take (k + 1)) s) (.slice (some ⟨g, 0, none⟩) ((withoutP (xs.take k) s).length + 1) cap)) := Lib.hid ⟨((HX.out.1.trans HZ.out.1).alloc _).grown k4 (fun k e => HZ.out.2.1.ge k e), by rw [hst.out]; exact k1⟩
             clear k1 k2 k3 k4 k5 k6 k7 k8))
        exact ⟨⟨k + 1, by omega, by go_num, Lib.hid ⟨H3, hfin.out⟩⟩, by simp [intOf]; omega⟩
    · have : k = xs.length := by omega
      subst this
      obtain ⟨Hk, e1, o1⟩ := hm.out
      rw [List.take_length] at o1
      have h1 := Lib.hid (o1.freshGe e1)
      clear hm e1 o1
      go_wp2
      go_ret
      exact Ret.mk h1.out
end Go.Proofs.YtnidmikcjkaegaaGreatDoor
