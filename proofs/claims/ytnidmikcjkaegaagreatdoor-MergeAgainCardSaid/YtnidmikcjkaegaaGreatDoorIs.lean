/-
  What is proved here: the law's is answers true where the merged record is what the examples say. Conditions: the lists are small.
-/
import Derived.Test.YtnidmikcjkaegaaGreatDoorSays
import Derived.Test.YtnidmikcjkaegaaGreatDoorSame2
namespace Go.Proofs.YtnidmikcjkaegaaGreatDoor
open Go Go.RowKit Go.ML

def eInt : Enc Int where
  ty := 3
  sz := 1
  pos := by decide
  rel _ _ x cs := cs = [.int .i64 x]
  len h := by subst h; rfl
  evo _ h := h
  one h := by subst h; simp [Value.oneCell']

set_option linter.unusedSimpArgs false in
set_option maxRecDepth 10000 in
set_option maxHeartbeats 2000000 in
theorem is_spec {H : Hts} {w : World} {m : GMerged} {mv sv lv : Value} {srcs : List Int} {ls : List ByteArray} (hf : Fit H w) (hm : MergedIs H w m mv) (hs : Sl eInt H w srcs sv) (hl : Sl eStr H w ls lv) (hn : Hid (srcs.length ≤ 100))
    (h1 : Hid (m.frm.map (·.src) = srcs)) (h2 : Hid (m.fields = pairsP ls)) (h3 : Hid (ls.length = 2 * srcs.length)) :
    Calls Tryz.prog 15 #[mv, sv, lv] w fun e w' => e = .returned (.bool true) ∧ Below w.heap.size w w' := by
  obtain ⟨fv, rv, rfl, s1, s2⟩ := hm
  obtain ⟨fa, fc, rfl, _, _⟩ := s1.form
  obtain ⟨ra, rc, rfl, _, _⟩ := s2.form
  obtain ⟨sa, sc, rfl, _, _⟩ := hs.form
  obtain ⟨la, lc, rfl, _, _⟩ := hl.form
  obtain ⟨n, hnn⟩ : ∃ n, n = srcs.length := ⟨_, rfl⟩
  have e1 : m.frm.length = n := by rw [hnn, ← h1.out, List.length_map]
  have e2 : m.fields.length = n := by rw [h2.out, pairsP_len, h3.out, ← hnn]; omega
  have e3 : ls.length = 2 * n := by rw [h3.out, hnn]
  have hn100 : n ≤ 100 := by rw [hnn]; exact hn.out
  have HL := Lib.hid (And.intro e1 (And.intro e2 (And.intro e3 hnn)))
  rw [e1, e2, e3, ← hnn]
  rw [e1] at s2
  rw [e2] at s1
  rw [← hnn] at hs
  rw [e3] at hl
  have HF := Lib.hid hf
  have HS := Lib.hid (And.intro s1 (And.intro s2 (And.intro hs hl)))
  clear s1 s2 hs hl hf e1 e2 e3 hnn
  have h0 : Hid (Below w.heap.size w (w.alloc (.cells #[.int .u8 m.kind, .int .u8 m.level, .slice fa n fc, .slice ra n rc] 29)) ∧
      (w.alloc (.cells #[.int .u8 m.kind, .int .u8 m.level, .slice fa n fc, .slice ra n rc] 29)).heap[w.heap.size]? = some (.cells #[.int .u8 m.kind, .int .u8 m.level, .slice fa n fc, .slice ra n rc] 29 (0, 0))) :=
    Lib.hid ⟨(Below.refl _ w).alloc (Nat.le_refl _) _, blk_new w _⟩
  go_enter Tryz.func15, Tryz.ntmps15
  go_wp2_with fail
  go_loopw [36] (fun i wr => ∃ k : Nat, k ≤ n ∧ i = .int .i64 k ∧ Hid (Below w.heap.size w wr ∧ wr.heap[w.heap.size]? = some (.cells #[.int .u8 m.kind, .int .u8 m.level, .slice fa n fc, .slice ra n rc] 29 (0, 0)))) (fun i _ => n - (intOf i).toNat)
  case atStart => exact ⟨0, Nat.zero_le _, rfl, h0⟩
  case round =>
    clear h0
    obtain ⟨k, hk, rfl, hm⟩ := hrel
    by_cases hlt : k < n
    · have hfl : k < m.fields.length := by have := HL.out.2.1; omega
      have hrl : k < m.frm.length := by have := HL.out.1; omega
      have hsl : k < srcs.length := by have := HL.out.2.2.2; omega
      have hl1 : 2 * k + 1 < ls.length := by have := HL.out.2.2.1; omega
      obtain ⟨fb, fo, _, d1, e1, _, _, r1, g1⟩ := HS.out.1.range k hfl
      obtain ⟨rb, ro, _, d2, e2, _, _, r2, g2⟩ := HS.out.2.1.range k hrl
      obtain ⟨sb, so, _, d3, e3, _, _, r3, g3⟩ := HS.out.2.2.1.range k hsl
      obtain ⟨lb, lo, _, d4, e4, _, _, r4, g4⟩ := HS.out.2.2.2.range (2 * k) (by omega)
      obtain ⟨lb', lo', _, d5, e5, _, _, r5, g5⟩ := HS.out.2.2.2.range (2 * k + 1) hl1
      injection e1 with e11 e12 e13
      injection e2 with e21 e22 e23
      injection e3 with e31 e32 e33
      injection e4 with e41 e42 e43
      injection e5 with e51 e52 e53
      subst e11 e21 e31 e41 e13 e23 e33 e43
      injection e51 with e51
      injection e51 with e54 e55 _
      subst e54 e55
      obtain ⟨a, ha⟩ : ∃ a, a = ls[2 * k] := ⟨_, rfl⟩
      obtain ⟨b, hb⟩ : ∃ b, b = ls[2 * k + 1] := ⟨_, rfl⟩
      obtain ⟨s, hs⟩ : ∃ s, s = m.frm[k].src := ⟨_, rfl⟩
      have hfk : m.fields[k] = fieldP a b := by
        have h5 := pairsP_get ls k hl1
        rw [← h2.out, List.getElem?_eq_getElem hfl] at h5
        rw [ha, hb]; exact Option.some.inj h5
      have hsk : srcs[k] = s := by
        have h5 : (m.frm.map (·.src))[k]? = srcs[k]? := by rw [h1.out]
        rw [List.getElem?_map, List.getElem?_eq_getElem hrl, List.getElem?_eq_getElem hsl] at h5
        rw [hs]; exact (Option.some.inj h5).symm
      rw [hfk] at r1
      rw [hsk] at r3
      rw [← ha] at r4
      rw [← hb] at r5
      obtain ⟨v4, hcs, hs4⟩ := r1
      simp only [fieldP] at hcs hs4
      subst hcs
      obtain ⟨a4, c4, rfl, _, _⟩ := hs4.form
      obtain rfl : d2 = [.int .i64 m.frm[k].src, .int .i64 m.frm[k].num] := r2
      obtain rfl : d3 = [.int .i64 s] := r3
      obtain rfl : d4 = [.string a] := r4
      obtain rfl : d5 = [.string b] := r5
      have evr := (Ext.of_below HF.out hm.out.1).evo HF.out
      have hra1 := Lib.hid (g1 _ _ evr)
      have hSo : Hid (∀ w', Below (wr.alloc (.cells #[.string a, .string ⟨#[32, 32]⟩, .string ⟨#[]⟩, .slice a4 1 c4] 38)).heap.size (wr.alloc (.cells #[.string a, .string ⟨#[32, 32]⟩, .string ⟨#[]⟩, .slice a4 1 c4] 38)) w' → (w'.cell? ⟨w.heap.size, 3, none⟩ = some (.slice (some ⟨rb, ro, none⟩) n rc) ∧ w'.cell? ⟨rb, ro + k * 2, none⟩ = some (.int .i64 s) ∧ w'.cell? ⟨sb, so + k, none⟩ = some (.int .i64 s) ∧ w'.cell? ⟨wr.heap.size, 0, none⟩ = some (.string a) ∧ w'.cell? ⟨wr.heap.size, 1, none⟩ = some (.string ⟨#[32, 32]⟩) ∧ w'.cell? ⟨wr.heap.size, 2, none⟩ = some (.string ⟨#[]⟩) ∧ w'.cell? ⟨wr.heap.size, 3, none⟩ = some (.slice a4 1 c4) ∧ w'.cell? ⟨lb, lo + 2 * k, none⟩ = some (.string a) ∧ w'.cell? ⟨lb, lo + (2 * k + 1), none⟩ = some (.string b))) := Lib.hid (fun w' hbl => by
        have ev := ((Ext.of_below HF.out (((hm.out.1.alloc hm.out.1.size (.cells #[.string a, .string ⟨#[32, 32]⟩, .string ⟨#[]⟩, .slice a4 1 c4] 38)).trans (hbl.mono (by have := hm.out.1.size; simp; omega))))).evo HF.out)
        have eb := Ext.of_below (H := fun _ => 0) (fun _ _ => rfl) hbl
        have B0 := blk4 (eb.blk (blk_old hm.out.2 (.cells #[.string a, .string ⟨#[32, 32]⟩, .string ⟨#[]⟩, .slice a4 1 c4] 38)))
        have B1 := blk4 (eb.blk (blk_new wr (.cells #[.string a, .string ⟨#[32, 32]⟩, .string ⟨#[]⟩, .slice a4 1 c4] 38)))
        have q2 := g2 _ _ ev 0 _ rfl
        have q3 := g3 _ _ ev 0 _ rfl
        have q4 := g4 _ _ ev 0 _ rfl
        have q5 := g5 _ _ ev 0 _ rfl
        rw [← hs] at q2
        have hz1 : eStr.sz = 1 := rfl
        have hz2 : eInt.sz = 1 := rfl
        have hz3 : eRec.sz = 2 := rfl
        rw [hz1] at q4 q5
        rw [hz2] at q3
        rw [hz3] at q2
        simp only [Nat.mul_one, Nat.add_zero] at q2 q3 q4 q5
        exact ⟨B0.2.2.2.1, q2, q3, B1.1.1, B1.2.1.1, B1.2.2.1.1, B1.2.2.2.1, q4, q5⟩)
      have hF2 : Hid (∀ w', Below (wr.alloc (.cells #[.string a, .string ⟨#[32, 32]⟩, .string ⟨#[]⟩, .slice a4 1 c4] 38)).heap.size (wr.alloc (.cells #[.string a, .string ⟨#[32, 32]⟩, .string ⟨#[]⟩, .slice a4 1 c4] 38)) w' → Fit H w' ∧ eField.rel H w' (fieldP a b) [.string a, .string ⟨#[32, 32]⟩, .string ⟨#[]⟩, .slice a4 1 c4]) := Lib.hid (fun w' hbl => by
        have hb2 := (hm.out.1.alloc hm.out.1.size (.cells #[.string a, .string ⟨#[32, 32]⟩, .string ⟨#[]⟩, .slice a4 1 c4] 38)).trans (hbl.mono (by have := hm.out.1.size; simp; omega))
        exact ⟨fun q hq => HF.out q (Nat.le_trans hb2.size hq), _, rfl, hs4.evo ((Ext.of_below HF.out hb2).evo HF.out)⟩)
      have hw1 : IntKind.i64.wrap (2 * (k : Int)) = 2 * (k : Int) := IntWalk.i64_in _ ⟨by omega, by omega⟩
      have hw2 : IntKind.i64.wrap (2 * (k : Int) + 1) = 2 * (k : Int) + 1 := IntWalk.i64_in _ ⟨by omega, by omega⟩
      have hi0 : (0 : Int) ≤ 2 * (k : Int) := by omega
      have hi1 : 2 * (k : Int) < 2 * (n : Int) := by omega
      have hi2 : (0 : Int) ≤ 2 * (k : Int) + 1 := by omega
      have hi3 : 2 * (k : Int) + 1 < 2 * (n : Int) := by omega
      have hi4 : (0 : Int) ≤ k := by omega
      have hi5 : (k : Int) < n := by omega
      have ht1 : (2 * (k : Int)).toNat = 2 * k := by omega
      have ht2 : (2 * (k : Int) + 1).toNat = 2 * k + 1 := by omega
      have HHM := Lib.hid hm.out
      clear g1 g2 g3 g4 g5 hs4 evr hfk hsk ha hb hs e12 e22 e32 e42 e52 e53 hm
      go_upto_region 6 with (refine wpList_load_mid rfl 38 (.tmp 39) rfl fb (fo + k * 4) rfl _ _ hra1.out Tryz.underlying38 rfl (by kernel_rfl) ?_)
      have HB0 : Hid (Below (wr.alloc (.cells #[.string a, .string ⟨#[32, 32]⟩, .string ⟨#[]⟩, .slice a4 1 c4] 38)).heap.size (wr.alloc (.cells #[.string a, .string ⟨#[32, 32]⟩, .string ⟨#[]⟩, .slice a4 1 c4] 38)) (wr.alloc (.cells #[.string a, .string ⟨#[32, 32]⟩, .string ⟨#[]⟩, .slice a4 1 c4] 38)).drew) := Lib.hid (Below.refl _ _).drew
      go_region_held3 (fun w' => (w'.cell? ⟨w.heap.size, 3, none⟩ = some (.slice (some ⟨rb, ro, none⟩) n rc) ∧ w'.cell? ⟨rb, ro + k * 2, none⟩ = some (.int .i64 s) ∧ w'.cell? ⟨sb, so + k, none⟩ = some (.int .i64 s) ∧ w'.cell? ⟨wr.heap.size, 0, none⟩ = some (.string a) ∧ w'.cell? ⟨wr.heap.size, 1, none⟩ = some (.string ⟨#[32, 32]⟩) ∧ w'.cell? ⟨wr.heap.size, 2, none⟩ = some (.string ⟨#[]⟩) ∧ w'.cell? ⟨wr.heap.size, 3, none⟩ = some (.slice a4 1 c4) ∧ w'.cell? ⟨lb, lo + 2 * k, none⟩ = some (.string a) ∧ w'.cell? ⟨lb, lo + (2 * k + 1), none⟩ = some (.string b)))
        (first | exact hSo.out _ HB0.out | exact hSo.out _ HB1.out | exact hSo.out _ HB2.out)
        (first
          | (go_at_call 28; refine (field_spec (H := H) (hF2.out _ HB0.out).1 _ _).mono ?_; rintro e w2 ⟨v2, rfl, H2, cs', rfl, hext, hrel5⟩
             have HB1 := Lib.hid (HB0.out.trans (hext.below.mono (by simp)))
             have HR5 := Lib.hid (And.intro hext hrel5)
             obtain ⟨v6, hcs, hs6⟩ := hrel5
             simp only [fieldP] at hcs
             subst hcs
             have hcall := Lib.hid (sameField_spec (H := H2) (w := w2) HR5.out.1.fit (x := fieldP a b) ((hF2.out _ HB0.out).2 |> eField.evo (HR5.out.1.evo (hF2.out _ HB0.out).1)) (eField.evo (Evo.ge H2 w2 _) HR5.out.2) (Lib.hid (by simp [fieldP])))
             clear hext hs6)
          | (go_at_call 23; refine hcall.out.mono ?_; rintro e w3 ⟨rfl, hb3⟩
             have HB2 := Lib.hid (HB1.out.trans (hb3.mono HB1.out.size))
             clear hb3))
      have hfin : Hid (Below w.heap.size w w3 ∧ w3.heap[w.heap.size]? = some (.cells #[.int .u8 m.kind, .int .u8 m.level, .slice (some ⟨fb, fo, none⟩) n fc, .slice (some ⟨rb, ro, none⟩) n rc] 29 (0, 0))) := Lib.hid (by
        have h5 := HHM.out.1.size
        have hbw : Below wr.heap.size wr w3 := ((Below.refl wr.heap.size wr).alloc (Nat.le_refl _) _).trans (HB2.out.mono (by simp))
        exact ⟨HHM.out.1.trans (hbw.mono h5), (hbw.block _ (lt_of_block HHM.out.2)).trans HHM.out.2⟩)
      clear HB0 HB1 HB2 hcall HR5
      go_wp2
      go_roundw
      case rel => exact ⟨k + 1, by omega, by go_num, hfin⟩
      case measure => simp [intOf]; omega
    · have : k = n := by omega
      subst this
      go_wp2
      go_ret
      exact ⟨rfl, hm.out.1⟩
end Go.Proofs.YtnidmikcjkaegaaGreatDoor
