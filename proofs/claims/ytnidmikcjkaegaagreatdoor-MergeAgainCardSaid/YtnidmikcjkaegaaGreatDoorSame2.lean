/-
  What is proved here: the reference's comparison of records answers true where both sides read alike. Conditions: the lists are small.
-/
import Derived.Test.YtnidmikcjkaegaaGreatDoorSame
import Derived.StillTailTactics
namespace Go.Proofs.YtnidmikcjkaegaaGreatDoor
open Go Go.RowKit Go.ML

set_option maxRecDepth 10000 in
set_option maxHeartbeats 1000000 in
theorem sameRecord_spec {H : Hts} {w : World} {kd lv : Int} {xs : List GField} {v1 v2 : Value} (hf : Fit H w) (s1 : Sl eField H w xs v1) (s2 : Sl eField H w xs v2) (hn : Hid (xs.length ≤ 1000000)) (hx : Hid (∀ f ∈ xs, f.subs.length ≤ 1000000)) :
    Calls Tryz.prog 8 #[.agg #[.int .u8 kd, .int .u8 lv, v1], .agg #[.int .u8 kd, .int .u8 lv, v2]] w fun e w' => e = .returned (.bool true) ∧ Below w.heap.size w w' := by
  obtain ⟨a1, c1, rfl, _, _⟩ := s1.form
  obtain ⟨a2, c2, rfl, _, _⟩ := s2.form
  have HF := Lib.hid hf
  have H1 := Lib.hid s1
  have H2 := Lib.hid s2
  clear s1 s2 hf
  have h0 : Hid (Below w.heap.size w ((w.alloc (.cells #[.int .u8 kd, .int .u8 lv, .slice a1 xs.length c1] 26)).alloc (.cells #[.int .u8 kd, .int .u8 lv, .slice a2 xs.length c2] 26)) ∧
      ((w.alloc (.cells #[.int .u8 kd, .int .u8 lv, .slice a1 xs.length c1] 26)).alloc (.cells #[.int .u8 kd, .int .u8 lv, .slice a2 xs.length c2] 26)).heap[w.heap.size]? = some (.cells #[.int .u8 kd, .int .u8 lv, .slice a1 xs.length c1] 26 (0, 0)) ∧
      ((w.alloc (.cells #[.int .u8 kd, .int .u8 lv, .slice a1 xs.length c1] 26)).alloc (.cells #[.int .u8 kd, .int .u8 lv, .slice a2 xs.length c2] 26)).heap[w.heap.size + 1]? = some (.cells #[.int .u8 kd, .int .u8 lv, .slice a2 xs.length c2] 26 (0, 0))) :=
    Lib.hid ⟨((Below.refl _ w).alloc (Nat.le_refl _) _).alloc (by simp) _, (blk_two w _ _).1, (blk_two w _ _).2⟩
  go_enter Tryz.func8, Tryz.ntmps8
  go_wp2_with fail
  go_loopw [5] (fun i wr => ∃ k : Nat, k ≤ xs.length ∧ i = .int .i64 k ∧ Hid (Below w.heap.size w wr ∧ wr.heap[w.heap.size]? = some (.cells #[.int .u8 kd, .int .u8 lv, .slice a1 xs.length c1] 26 (0, 0)) ∧ wr.heap[w.heap.size + 1]? = some (.cells #[.int .u8 kd, .int .u8 lv, .slice a2 xs.length c2] 26 (0, 0)))) (fun i _ => xs.length - (intOf i).toNat)
  case atStart => exact ⟨0, Nat.zero_le _, rfl, h0⟩
  case round =>
    clear h0
    obtain ⟨k, hk, rfl, hm⟩ := hrel
    have hnn := hn.out
    have B1 := blk3 hm.out.2.1
    have B2 := blk3 hm.out.2.2
    by_cases hlt : k < xs.length
    · obtain ⟨b1, o1, _, d1, e1, _, _, r1, g1⟩ := H1.out.range k hlt
      obtain ⟨b2, o2, _, d2, e2, _, _, r2, g2⟩ := H2.out.range k hlt
      injection e1 with e1 _ e3
      injection e2 with e2 _ e4
      subst e1
      subst e2
      subst e3
      subst e4
      obtain ⟨u1, rfl, t1⟩ := (r1 : ∃ v, _)
      obtain ⟨u2, rfl, t2⟩ := (r2 : ∃ v, _)
      have ev := ((Ext.of_below HF.out hm.out.1).evo HF.out).drew
      have q1 := g1 _ _ ev
      have q2 := g2 _ _ ev
      have q10 : wr.drew.cell? ⟨b1, o1 + k * 4, none⟩ = some (.string xs[k].tag) := q1 0 _ rfl
      have q11 : wr.drew.cell? ⟨b1, o1 + k * 4 + 1, none⟩ = some (.string xs[k].ind) := q1 1 _ rfl
      have q12 : wr.drew.cell? ⟨b1, o1 + k * 4 + 2, none⟩ = some (.string xs[k].data) := q1 2 _ rfl
      have q13 : wr.drew.cell? ⟨b1, o1 + k * 4 + 3, none⟩ = some u1 := q1 3 _ rfl
      have q20 : wr.drew.cell? ⟨b2, o2 + k * 4, none⟩ = some (.string xs[k].tag) := q2 0 _ rfl
      have q21 : wr.drew.cell? ⟨b2, o2 + k * 4 + 1, none⟩ = some (.string xs[k].ind) := q2 1 _ rfl
      have q22 : wr.drew.cell? ⟨b2, o2 + k * 4 + 2, none⟩ = some (.string xs[k].data) := q2 2 _ rfl
      have q23 : wr.drew.cell? ⟨b2, o2 + k * 4 + 3, none⟩ = some u2 := q2 3 _ rfl
      have hcall := Lib.hid (sameField_spec (w := wr.drew) (fun b hb => HF.out b (Nat.le_trans hm.out.1.size hb)) ⟨u1, rfl, t1.evo ev⟩ ⟨u2, rfl, t2.evo ev⟩ (Lib.hid (hx.out _ (List.getElem_mem hlt))))
      have hk0 : (0 : Int) ≤ k := by omega
      have hk1 : (k : Int) < xs.length := by omega
      clear g1 g2 q1 q2 ev t1 t2
      go_upto_region 6 with fail
      refine wp_region_still_tail 10 (by kernel_rfl) (by kernel_rfl) ?_
      simp only [List.take_succ_cons, List.take_zero, List.drop_succ_cons, List.drop_zero]
      change wpStill _ _ wr.drew _ _ _
      iterate 10 still_step
      refine wpStill_nil ?_
      go_wp2_with (go_at_call 23; refine hcall.out.mono ?_; rintro e w' ⟨rfl, hb⟩)
      have hb1 : Below wr.heap.size wr w' := (Below.refl wr.heap.size wr).drew.trans hb
      exact ⟨⟨k + 1, by omega, by go_num, Lib.hid ⟨hm.out.1.trans (hb1.mono hm.out.1.size), (hb1.block _ (lt_of_block hm.out.2.1)).trans hm.out.2.1, (hb1.block _ (lt_of_block hm.out.2.2)).trans hm.out.2.2⟩⟩, by simp [intOf]; omega⟩
    · have : k = xs.length := by omega
      subst this
      go_wp2
      go_ret
      exact ⟨rfl, hm.out.1⟩
end Go.Proofs.YtnidmikcjkaegaaGreatDoor
