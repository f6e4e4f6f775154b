/-
  What is proved here: the reference's comparisons answer true where both sides read alike. Conditions: the lists are small.
-/
import Derived.Test.YtnidmikcjkaegaaGreatDoorMade
import Derived.Test.YtnidmikcjkaegaaGreatDoorColl
import Derived.Deep.QuietTactic
import Derived.BigQuiet
namespace Go.Proofs.YtnidmikcjkaegaaGreatDoor
open Go Go.RowKit Go.ML

theorem run_neqSub (a : Int) (t : ByteArray) (w : World) : (binOp .neq 44 (.agg #[.int .u8 a, .string t]) (.agg #[.int .u8 a, .string t])).run Tryz.prog w = .ok (.bool false) w := by
  have u1 := Tryz.underlying5
  have a1 := Tryz.isAgg5
  have z1 := Tryz.sizeOf5
  have u3 := Tryz.underlying9
  have a3 := Tryz.isAgg9
  have z3 := Tryz.sizeOf9
  have hS : Tryz.prog.underlying 44 = some (.struct (Tryz.prog.fieldsOf 44)) := by kernel_rfl
  have hp : Tryz.prog.stoodInHeld 44 = false := by kernel_rfl
  have h : (Go.Op.equal 44 (.agg #[.int .u8 a, .string t]) (.agg #[.int .u8 a, .string t])).run Tryz.prog w = .ok true w := by
    unfold Op.equal
    rw [show Op.maxDepth = 9999 + 1 from rfl, run_equalIn_struct w 9999 44 _ _ hS hp]
    simp only [Program.fieldsOf, Tryz.underlying44]
    go_simp
  simp only [binOp, Sem.run_bind, h, Result.andThen_ok]
  simp [Sem.run_pure]

set_option maxRecDepth 10000 in
set_option maxHeartbeats 1000000 in
theorem sameField_spec {H : Hts} {w : World} {x : GField} {cs1 cs2 : List Value} (hf : Fit H w) (h1 : eField.rel H w x cs1) (h2 : eField.rel H w x cs2) (hn : Hid (x.subs.length ≤ 1000000)) :
    Calls Tryz.prog 23 #[.agg cs1.toArray, .agg cs2.toArray] w fun e w' => e = .returned (.bool true) ∧ Below w.heap.size w w' := by
  obtain ⟨v1, rfl, s1⟩ := h1
  obtain ⟨v2, rfl, s2⟩ := h2
  obtain ⟨a1, c1, rfl, _, _⟩ := s1.form
  obtain ⟨a2, c2, rfl, _, _⟩ := s2.form
  have HF := Lib.hid hf
  have H1 := Lib.hid s1
  have H2 := Lib.hid s2
  clear s1 s2 hf
  have h0 : Hid (Below w.heap.size w ((w.alloc (.cells #[.string x.tag, .string x.ind, .string x.data, .slice a1 x.subs.length c1] 38)).alloc (.cells #[.string x.tag, .string x.ind, .string x.data, .slice a2 x.subs.length c2] 38)) ∧
      ((w.alloc (.cells #[.string x.tag, .string x.ind, .string x.data, .slice a1 x.subs.length c1] 38)).alloc (.cells #[.string x.tag, .string x.ind, .string x.data, .slice a2 x.subs.length c2] 38)).heap[w.heap.size]? = some (.cells #[.string x.tag, .string x.ind, .string x.data, .slice a1 x.subs.length c1] 38 (0, 0)) ∧
      ((w.alloc (.cells #[.string x.tag, .string x.ind, .string x.data, .slice a1 x.subs.length c1] 38)).alloc (.cells #[.string x.tag, .string x.ind, .string x.data, .slice a2 x.subs.length c2] 38)).heap[w.heap.size + 1]? = some (.cells #[.string x.tag, .string x.ind, .string x.data, .slice a2 x.subs.length c2] 38 (0, 0))) :=
    Lib.hid ⟨((Below.refl _ w).alloc (Nat.le_refl _) _).alloc (by simp) _, (blk_two w _ _).1, (blk_two w _ _).2⟩
  go_enter Tryz.func23, Tryz.ntmps23
  go_wp2_with fail
  go_loopw [5] (fun i wr => ∃ k : Nat, k ≤ x.subs.length ∧ i = .int .i64 k ∧ Hid (Below w.heap.size w wr ∧ wr.heap[w.heap.size]? = some (.cells #[.string x.tag, .string x.ind, .string x.data, .slice a1 x.subs.length c1] 38 (0, 0)) ∧ wr.heap[w.heap.size + 1]? = some (.cells #[.string x.tag, .string x.ind, .string x.data, .slice a2 x.subs.length c2] 38 (0, 0)))) (fun i _ => x.subs.length - (intOf i).toNat)
  case atStart => exact ⟨0, Nat.zero_le _, rfl, h0⟩
  case round =>
    clear h0
    obtain ⟨k, hk, rfl, hm⟩ := hrel
    have hnn := hn.out
    have B1 := blk4 hm.out.2.1
    have B2 := blk4 hm.out.2.2
    by_cases hlt : k < x.subs.length
    · obtain ⟨b1, o1, _, d1, e1, _, _, r1, g1⟩ := H1.out.range k hlt
      obtain ⟨b2, o2, _, d2, e2, _, _, r2, g2⟩ := H2.out.range k hlt
      injection e1 with e1 _ e3
      injection e2 with e2 _ e4
      subst e1
      subst e2
      subst e3
      subst e4
      obtain rfl : d1 = [.int .u8 x.subs[k].code, .string x.subs[k].text] := r1
      obtain rfl : d2 = [.int .u8 x.subs[k].code, .string x.subs[k].text] := r2
      have ev := (Ext.of_below HF.out hm.out.1).evo HF.out
      have q1 := g1 _ _ ev
      have q2 := g2 _ _ ev
      have q10 : wr.cell? ⟨b1, o1 + k * 2, none⟩ = some (.int .u8 x.subs[k].code) := q1 0 _ rfl
      have q11 : wr.cell? ⟨b1, o1 + k * 2 + 1, none⟩ = some (.string x.subs[k].text) := q1 1 _ rfl
      have q20 : wr.cell? ⟨b2, o2 + k * 2, none⟩ = some (.int .u8 x.subs[k].code) := q2 0 _ rfl
      have q21 : wr.cell? ⟨b2, o2 + k * 2 + 1, none⟩ = some (.string x.subs[k].text) := q2 1 _ rfl
      have hne := run_neqSub x.subs[k].code x.subs[k].text
      have hk0 : (0 : Int) ≤ k := by omega
      have hk1 : (k : Int) < x.subs.length := by omega
      clear g1 g2 q1 q2 ev
      go_upto_region 6 with fail
      go_quiet (fail)
      go_wp2
      go_roundw
      case rel => exact ⟨k + 1, by omega, by go_num, Lib.hid ⟨below_drewN hm.out.1 nq, hm.out.2.1, hm.out.2.2⟩⟩
      case measure => simp [intOf]; omega
    · have : k = x.subs.length := by omega
      subst this
      go_wp2
      go_ret
      exact ⟨rfl, hm.out.1⟩
end Go.Proofs.YtnidmikcjkaegaaGreatDoor
