/-
  What is proved here: the contract of the reference's Versions. No condition.
-/
import Derived.Test.YtnidmikcjkaegaaGreatDoorMade
import Derived.Test.YtnidmikcjkaegaaGreatDoorLatest
namespace Go.Proofs.YtnidmikcjkaegaaGreatDoor
open Go Go.RowKit Go.ML

def verF (x : GIn) : GVersion := ⟨⟨x.src, x.num⟩, x.ver, ⟨97 + x.ver % 3, 109, (x.fields.take 6).map madeF⟩⟩
def versP (l : List GIn) : List GVersion := (l.take 10).map verF

structure VersAt (H : Hts) (w : World) (l : List GIn) (k : Nat) (Hk : Hts) (vv : Value) (wr : World) : Prop where
  ext : Ext H w Hk wr
  own : ML.Own eVersion (Hk.ge w.heap.size) wr w.heap.size ((l.take k).map verF) vv

theorem VersAt.push {H Hk : Hts} {w wr wb : World} {l : List GIn} {k : Nat} {vv v' : Value} (h : VersAt H w l k Hk vv wr) (hk : k < l.length) (how : ML.Own eVersion (Hk.ge w.heap.size) wb w.heap.size ((l.take k).map verF ++ [verF l[k]]) v') (hg : wr.grownBy wb vv.ownBlock) : VersAt H w l (k + 1) Hk v' wb :=
  ⟨h.ext.grown hg (fun k e => h.own.ge k e), by rw [List.take_succ_eq_append_getElem hk, List.map_append]; exact how⟩

set_option maxRecDepth 10000 in
set_option maxHeartbeats 2000000 in
theorem versions_spec {H : Hts} {w : World} {l : List GIn} {v : Value} (hf : Fit H w) (h : Si eIn H w l v) :
    Calls Tryz.prog 7 #[v] w (Ret fun v' w' => ∃ H', Ext H w H' w' ∧ Sl eVersion (H'.ge w.heap.size) w' (versP l) v') := by
  obtain ⟨a, c, rfl, hlc, hcm⟩ := h.form
  have HF := Lib.hid hf
  have HS := Lib.hid h
  clear h hf
  have hlm : l.length ≤ 9223372036854775807 := by unfold maxLen at hcm; omega
  have h0 : Hid (∃ Hk, VersAt H w l 0 Hk (.slice none 0 0) w) := Lib.hid ⟨H, Ext.refl HF.out, ML.Own.nil _⟩
  have hfin : Hid (∀ k Hk vv wr, VersAt H w l k Hk vv wr → l.take k = l.take 10 → ∃ H', Ext H w H' wr ∧ Sl eVersion (H'.ge w.heap.size) wr (versP l) vv) := Lib.hid (fun k Hk vv wr M he => by
    have h1 := M.own.freshGe M.ext
    rw [he] at h1
    exact h1)
  go_enter Tryz.func7, Tryz.ntmps7
  go_wp2_with fail
  go_loopw [3, 4] (fun vv i wr => ∃ k : Nat, k ≤ l.length ∧ k ≤ 10 ∧ i = .int .i64 k ∧ Hid (∃ Hk, VersAt H w l k Hk vv wr)) (fun _ i _ => 10 - (intOf i).toNat)
  case atStart => exact ⟨0, Nat.zero_le _, by omega, rfl, h0⟩
  case round =>
    clear h0
    obtain ⟨k, hk, hk10, rfl, hm⟩ := hrel
    by_cases hlt : k < l.length
    · by_cases h10 : k < 10
      · have h10i : (k : Int) < 10 := by omega
        obtain ⟨Hk, M⟩ := hm.out
        obtain ⟨b, o, c', cs, hv, _, _, hrl, hra⟩ := HS.out.range k hlt
        injection hv with e3 _ e5
        subst e3
        subst e5
        obtain ⟨x, hx⟩ : ∃ x, x = l[k] := ⟨_, rfl⟩
        rw [← hx] at hrl
        obtain ⟨fv, rfl, hfs⟩ := (hrl : ∃ v, _)
        obtain ⟨fa, fc, rfl, hfl, hfm⟩ := hfs.form
        have hevk := M.ext.evo HF.out
        have hra1 := Lib.hid (hra _ _ hevk)
        have HM := Lib.hid M
        have HX := Lib.hid hx
        have HFS := Lib.hid (hfs.evo (hevk.alloc (.cells #[.int .i64 x.src, .int .i64 x.num, .int .i64 x.ver, .slice fa x.fields.length fc] 72)))
        have hfn : x.fields.length ≤ 9223372036854775807 := by unfold maxLen at hfm; omega
        have hB := blk4 (blk_new wr (.cells #[.int .i64 x.src, .int .i64 x.num, .int .i64 x.ver, .slice fa x.fields.length fc] 72))
        have hB2 := Lib.hid (blk_new wr (.cells #[.int .i64 x.src, .int .i64 x.num, .int .i64 x.ver, .slice fa x.fields.length fc] 72))
        have hF1 : Hid (Fit Hk (wr.alloc (.cells #[.int .i64 x.src, .int .i64 x.num, .int .i64 x.ver, .slice fa x.fields.length fc] 72))) := Lib.hid (M.ext.fit.alloc _)
        clear hra M hm hx hfs hevk
        have hmin0 : (0 : Int) ≤ min (x.fields.length : Int) 6 := by omega
        have hmin1 : min (x.fields.length : Int) 6 ≤ (fc : Int) := by omega
        have hmin2 : min (x.fields.length : Int) 6 ≤ (x.fields.length : Int) := by omega
        have hS6 : Hid (Si eQuad Hk (wr.alloc (.cells #[.int .i64 x.src, .int .i64 x.num, .int .i64 x.ver, .slice fa x.fields.length fc] 72)) (x.fields.take 6) (.slice fa (min (x.fields.length : Int) 6).toNat fc)) := Lib.hid (by
          have h1 := HFS.out.take (min (x.fields.length : Int) 6).toNat (by omega)
          have h2 : x.fields.take (min (x.fields.length : Int) 6).toNat = x.fields.take 6 := by
            rcases Nat.lt_or_ge 6 x.fields.length with h | h
            · rw [show (min (x.fields.length : Int) 6).toNat = 6 by omega]
            · rw [List.take_of_length_le (by omega), List.take_of_length_le h]
          rw [h2] at h1
          exact h1)
        obtain ⟨n3, hn3⟩ : ∃ n : Nat, x.ver % 3 = n := ⟨(x.ver % 3).toNat, by have := Int.emod_nonneg x.ver (show (3 : Int) ≠ 0 by omega); omega⟩
        have hn3lt : n3 < 3 := by have := Int.emod_lt_of_pos x.ver (show (0 : Int) < 3 by omega); omega
        have HN3 := Lib.hid hn3
        have hmade := Lib.hid (made_spec hF1.out hS6.out (Lib.hid (by simp; omega)))
        have hlk : Hid (((l.take k).map verF).length + [verF x].length ≤ 16777216) := Lib.hid (by simp; omega)
        clear hn3
        go_upto_region 7 with (first
          | (refine wpList_load_mid rfl 72 (.tmp 19) rfl b (o + k * 4) rfl _ _ hra1.out Tryz.underlying72 rfl (by kernel_rfl) ?_)
          | (go_at_call 21; refine hmade.out.mono ?_; rintro e w2 ⟨v2, rfl, H2, rv, hext, rfl, hsl⟩
             obtain ⟨ra, rc, rfl, _, _⟩ := hsl.form
             have HE := Lib.hid hext
             have HSL := Lib.hid hsl
             have hB3 := Lib.hid (hext.blk hB2.out)
             have hB4 := blk4 hB3.out
             have hsz2 : wr.heap.size < w2.heap.size := lt_of_block hB3.out
             clear hext hsl))
        have hM4 : Hid (∀ o, Ext H w H2 ((w2.alloc (.cells #[.int .u8 (97 + (n3 : Int)), .int .u8 109, .slice ra (madeP (x.fields.take 6)).fields.length rc] 26)).alloc o) ∧ ML.Own eVersion (H2.ge w.heap.size) ((w2.alloc (.cells #[.int .u8 (97 + (n3 : Int)), .int .u8 109, .slice ra (madeP (x.fields.take 6)).fields.length rc] 26)).alloc o) w.heap.size ((l.take k).map verF) u3 ∧
            Rels eVersion (H2.ge w.heap.size) ((w2.alloc (.cells #[.int .u8 (97 + (n3 : Int)), .int .u8 109, .slice ra (madeP (x.fields.take 6)).fields.length rc] 26)).alloc o) [verF x] [.int .i64 x.src, .int .i64 x.num, .int .i64 x.ver, .int .u8 (97 + (n3 : Int)), .int .u8 109, .slice ra (madeP (x.fields.take 6)).fields.length rc]) := Lib.hid (fun o => by
          have e1 := HM.out.ext.alloc (.cells #[.int .i64 x.src, .int .i64 x.num, .int .i64 x.ver, .slice fa x.fields.length fc] 72)
          refine ⟨((e1.trans HE.out).alloc _).alloc o, (((HM.out.own.alloc _).extGe hF1.out HE.out).alloc _).alloc o, Rels.single ⟨.slice ra (madeP (x.fields.take 6)).fields.length rc, ?_, ?_⟩⟩
          · show _ = [Value.int .i64 x.src, .int .i64 x.num, .int .i64 x.ver, .int .u8 (97 + x.ver % 3), .int .u8 109, _]
            rw [HN3.out]
          · exact (HSL.out.evo (Evo.ge2 H2 w2 (by have := HM.out.ext.below.size; simp; omega))).evo (((Evo.refl _ _).alloc _).alloc o))
        have hlkk : Hid (((l.take k).map verF).length = k) := Lib.hid (by simp; omega)
        have hnw : Hid (∀ o, ((w2.alloc (.cells #[.int .u8 (97 + (n3 : Int)), .int .u8 109, .slice ra (madeP (x.fields.take 6)).fields.length rc] 26)).alloc o).heap[w2.heap.size + 1]? = some o) := Lib.hid (fun o => (blk_two w2 _ o).2)
        go_wp2_with (first
          | (go_at_call 22; (with_reducible refine (mod_spec x.ver 3 _ (by decide) (by decide)).mono ?_); rintro e w' ⟨rfl, rfl⟩; rw [HN3.out])
          | (at_builtin; refine append_law (H := H2.ge w.heap.size) (E := eVersion) rfl _ _ _ rfl okVersion ((hM4.out _).1.fit.ge _) (xs := (l.take k).map verF) (ys := [verF x]) rfl (base := w.heap.size) (hM4.out _).2.1 rfl rfl (hM4.out _).2.2 (World.news_of_block (hnw.out _)) (by decide) hlk.out (hM4.out _).1.below.size ?_; intro g cap w5 k1 k2 k3 k4 k5 k6 k7 k8
             rw [hlkk.out] at k1
             have hfn2 := Lib.hid ((⟨(hM4.out _).1, (hM4.out _).2.1⟩ : VersAt H w l k H2 _ _).push hlt (by rw [← HX.out]; exact k1) k4)
             clear k1 k2 k3 k4 k5 k6 k7 k8))
        exact ⟨⟨k + 1, by omega, by omega, by go_num, Lib.hid ⟨_, hfn2.out⟩⟩, by simp [intOf]; omega⟩
      · have hke : k = 10 := by omega
        subst hke
        have h10l : ((10 : Nat) : Int) < l.length := by omega
        obtain ⟨Hk, M⟩ := hm.out
        have hR := Lib.hid (hfin.out _ _ _ _ M rfl)
        clear M hm
        go_wp2
        go_ret
        exact Ret.mk hR.out
    · have hke : k = l.length := by omega
      subst hke
      obtain ⟨Hk, M⟩ := hm.out
      have hR := Lib.hid (hfin.out _ _ _ _ M (by rw [List.take_of_length_le (Nat.le_refl _), List.take_of_length_le hk10]))
      clear M hm
      go_wp2
      go_ret
      exact Ret.mk hR.out
end Go.Proofs.YtnidmikcjkaegaaGreatDoor
