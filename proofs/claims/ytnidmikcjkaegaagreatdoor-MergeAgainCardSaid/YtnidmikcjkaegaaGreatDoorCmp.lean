/-
  What is proved here: contracts of cmp.Compare and cmp.Or at int, of merge.compare and of the closure that Latest sorts by. No condition.
-/
import Derived.Test.YtnidmikcjkaegaaGreatDoorEnc
import Derived.Sort.Grow
import Derived.StillTailTactics
import Derived.Outline
namespace Go.Proofs.YtnidmikcjkaegaaGreatDoor
open Go Go.RowKit Go.ML Go.Sort

/-- Draws, and new blocks. -/
def Grw (w w' : World) : Prop := ∃ q os, w' = grow (w.drewN q) os
theorem Grw.refl (w : World) : Grw w w := ⟨0, #[], by simp [grow, World.drewN]⟩
theorem Grw.drewN {w w' : World} (h : Grw w w') (n : Nat) : Grw w (w'.drewN n) := by
  obtain ⟨q, os, rfl⟩ := h
  exact ⟨q + n, os, by simp [grow, World.drewN, Nat.add_assoc]⟩
theorem Grw.drew {w w' : World} (h : Grw w w') : Grw w w'.drew := h.drewN 1
theorem Grw.alloc {w w' : World} (h : Grw w w') (o : Obj) : Grw w (w'.alloc o) := by
  obtain ⟨q, os, rfl⟩ := h
  exact ⟨q, os ++ #[o], by rw [alloc_eq_grow, grow_grow]⟩
theorem Grw.trans {a b c : World} (h : Grw a b) (k : Grw b c) : Grw a c := by
  obtain ⟨q, os, rfl⟩ := h
  obtain ⟨r, ps, rfl⟩ := k
  exact ⟨q + r, os ++ ps, by simp [grow, World.drewN, Array.append_assoc, Nat.add_assoc]⟩
theorem Grw.below {w w' : World} (h : Grw w w') : Below w.heap.size w w' := by
  obtain ⟨q, os, rfl⟩ := h
  exact ⟨rfl, rfl, rfl, by simp [grow, World.drewN], fun k hk => by simp only [grow, World.drewN]; rw [Array.getElem?_append_left hk]⟩

def cmpI (x y : Int) : Int := if x < y then -1 else if y < x then 1 else 0
def cmpRec (a b : GRec) : Int := if cmpI a.src b.src = 0 then cmpI a.num b.num else cmpI a.src b.src

theorem isNaN_spec (x : Int) (w : World) : Calls Tryz.prog 67 #[.int .i64 x] w fun e w' => e = .returned (.bool false) ∧ w = w' := by
  go_enter Tryz.func67, Tryz.ntmps67
  go_wp2
  go_ret
  exact ⟨by simp, rfl⟩

theorem cmpInt_spec (x y : Int) (w : World) : Calls Tryz.prog 41 #[.int .i64 x, .int .i64 y] w fun e w' => e = .returned (.int .i64 (cmpI x y)) ∧ w = w' := by
  go_enter Tryz.func41, Tryz.ntmps41
  go_wp2_with (go_at_call 67; refine (isNaN_spec _ _).mono ?_; rintro e w' ⟨rfl, rfl⟩)
  all_goals go_ret
  all_goals exact ⟨by unfold cmpI; simp [*] <;> omega, rfl⟩

theorem cmpInt_q (x y : Int) (w : World) : Calls Tryz.prog 41 #[.int .i64 x, .int .i64 y] w fun e w' => e = .returned (.int .i64 (cmpI x y)) ∧ w' = w :=
  (cmpInt_spec x y w).mono fun _ _ ⟨h, k⟩ => ⟨h, k.symm⟩

set_option maxHeartbeats 400000 in
theorem or_spec (x y : Int) (b c : Nat) (w : World) (h0 : w.cell? ⟨b, 0, none⟩ = some (.int .i64 x)) (h1 : w.cell? ⟨b, 1, none⟩ = some (.int .i64 y)) :
    Calls Tryz.prog 40 #[.slice (some ⟨b, 0, none⟩) 2 c] w fun e w' => e = .returned (.int .i64 (if x = 0 then y else x)) ∧ w = w' := by
  go_enter Tryz.func40, Tryz.ntmps40
  go_wp2
  go_loop [8] (fun i => ∃ k : Nat, k ≤ 2 ∧ i = .int .i64 k ∧ (0 < k → x = 0) ∧ (1 < k → y = 0)) (fun i => 2 - (intOf i).toNat)
  case atStart => exact ⟨0, by omega, rfl, by omega, by omega⟩
  case round =>
    obtain ⟨k, hk, rfl, hx, hy⟩ := hrel
    have H1 := Lib.hid hx
    have H2 := Lib.hid hy
    clear hx hy
    match k, hk with
    | 0, _ =>
      by_cases e : x = 0
      · subst e
        go_wp2
        go_round
        case rel => exact ⟨1, by omega, rfl, by simp, by omega⟩
        case measure => simp [intOf]
      · have hd : (x == 0) = false := by simpa using e
        have hd2 : (x != 0) = true := by simpa using e
        go_wp2
        go_ret
        exact ⟨by simp, rfl⟩
    | 1, _ =>
      have e0 := H1.out (by omega)
      subst e0
      by_cases e : y = 0
      · subst e
        go_wp2
        go_round
        case rel => exact ⟨2, by omega, rfl, by simp, by simp⟩
        case measure => simp [intOf]
      · have hd : (y == 0) = false := by simpa using e
        have hd2 : (y != 0) = true := by simpa using e
        go_wp2
        go_ret
        exact ⟨by simp, rfl⟩
    | 2, _ =>
      have e0 := H1.out (by omega)
      subst e0
      have e1 := H2.out (by omega)
      subst e1
      go_wp2
      go_ret
      exact ⟨by simp, rfl⟩

set_option maxRecDepth 10000 in
set_option maxHeartbeats 400000 in
theorem compare_spec (x y : GRec) (w : World) :
    Calls Tryz.prog 27 #[.agg #[.int .i64 x.src, .int .i64 x.num], .agg #[.int .i64 y.src, .int .i64 y.num]] w fun e w' => e = .returned (.int .i64 (cmpRec x y)) ∧ Grw w w' := by
  go_enter Tryz.func27, Tryz.ntmps27
  go_wp2_with fail
  obtain ⟨W, hW⟩ : ∃ W, W = (w.alloc (Obj.cells #[Value.int IntKind.i64 x.src, Value.int IntKind.i64 x.num] 34)).alloc (Obj.cells #[Value.int IntKind.i64 y.src, Value.int IntKind.i64 y.num] 34) := ⟨_, rfl⟩
  rw [← hW]
  have B1 : (W.cell? ⟨w.heap.size, 0, none⟩ = _ ∧ _) ∧ _ := blk2 (hW ▸ (blk_two _ _ _).1)
  have B2 : (W.cell? ⟨w.heap.size + 1, 0, none⟩ = _ ∧ _) ∧ _ := blk2 (hW ▸ (blk_two _ _ _).2)
  have HW := Lib.hid hW
  clear hW
  refine wp_region_still_tail 10 (by kernel_rfl) (by kernel_rfl) ?_
  simp only [List.take_succ_cons, List.take_zero, List.drop_succ_cons, List.drop_zero]
  change wpStill _ _ W.drew _ _ _
  iterate 4 still_step
  still_call (cmpInt_q _ _ _)
  iterate 4 still_step
  still_call (cmpInt_q _ _ _)
  refine wpStill_nil ?_
  go_wp2_with fail
  refine (or_spec (cmpI x.src y.src) (cmpI x.num y.num) _ _ _ ?_ ?_).mono ?_
  · exact (blk2 (blk_new W _)).1.1
  · exact (blk2 (blk_new W _)).2.1
  rintro e w' ⟨rfl, rfl⟩
  rw [show (if cmpI x.src y.src = 0 then cmpI x.num y.num else cmpI x.src y.src) = cmpRec x y from rfl]
  go_wp2_with fail
  go_ret
  exact ⟨rfl, by have := HW.out; subst this; exact (((Grw.refl w).alloc _).alloc _).alloc _ |>.drew⟩

set_option maxHeartbeats 400000 in
theorem latestCmp_spec (x y : GVersion) (v u : Value) (w : World) :
    Calls Tryz.prog 26 #[.agg #[.int .i64 x.frm.src, .int .i64 x.frm.num, .int .i64 x.number, .int .u8 x.record.kind, .int .u8 x.record.level, v], .agg #[.int .i64 y.frm.src, .int .i64 y.frm.num, .int .i64 y.number, .int .u8 y.record.kind, .int .u8 y.record.level, u]] w
      fun e w' => e = .returned (.int .i64 (cmpRec x.frm y.frm)) ∧ Grw w w' := by
  go_enter Tryz.func26, Tryz.ntmps26
  go_wp2_with (go_at_call 27; refine (compare_spec x.frm y.frm _).mono ?_; rintro e w' ⟨rfl, hg⟩)
  go_ret
  exact ⟨rfl, (((Grw.refl w).alloc _).alloc _).trans hg⟩
end Go.Proofs.YtnidmikcjkaegaaGreatDoor
