/-
  What is proved here: a law on clear at a slice that is owned. No statement of the program; no condition.
-/
import Derived.Test.YtnidmikcjkaegaaGreatDoorLib
import Derived.Laws.IdiomCopy
import Derived.Maps.AppendAt
import Derived.Maps.RangeWalk
namespace Go.ML
open Go Go.RowKit

theorem zeroCells_toList (zs : List Value) (n : Nat) : (Builtin.zeroCells zs.toArray n).toList.length = n * zs.length ∧ ∀ u ∈ (Builtin.zeroCells zs.toArray n).toList, zs ≠ [] → u ∈ zs := by
  constructor
  · simp [Builtin.zeroCells]
  · intro u hu hne
    simp only [Builtin.zeroCells, Array.toList_map, List.mem_map] at hu
    obtain ⟨i, _, rfl⟩ := hu
    have h0 : 0 < zs.length := List.length_pos_iff.2 hne
    have hlt : i % zs.toArray.size < zs.toArray.size := Nat.mod_lt _ (by simpa using h0)
    rw [getElem!_pos zs.toArray _ hlt]
    simp

theorem clear_law {P : Program} {ops : Array Oper} {rest : List Oper} {op : Oper} {a : Act} {w : World} {Q : Exit → Act → World → Prop} (hgd : op.guard = none) (x : Operand) (t : TypeId) (ho : op.op = Op.call { callee := Callee.builtin Builtin.clear, args := #[x], argTypes := #[t] })
    {base g n cap sz e i c : Nat} {cells zs : List Value} {z : Value} (ht : P.underlying t = some (.slice e)) (hz : ∀ w, (zeroValue e).run P w = .ok z w) (hzc : z.cells = zs.toArray) (hzl : zs.length = sz) (hsz : 0 < sz) (h1 : ∀ u ∈ zs, u.oneCell' = true)
    (hown : w.ownsRow base e sz (.slice (some ⟨g, 0, none⟩) n cap) n cells) (hx : a.eval x = .slice (some ⟨g, i * sz, none⟩) (n - i) c) (hi : i ≤ n)
    (h : ∀ w', w'.ownsRow base e sz (.slice (some ⟨g, 0, none⟩) i cap) i (cells.take (i * sz)) → w.grownBy w' (some g) → w'.heap.size = w.heap.size → (∀ o, o < i * sz → w'.cell? ⟨g, o, none⟩ = w.cell? ⟨g, o, none⟩) → wpList P ops Q rest (a.put op.dst (.tuple #[])) w') : wpList P ops Q (op :: rest) a w := by
  have hc := hown.1
  rcases hown.2 with ⟨hn, _⟩ | ⟨g', cap', cur, hv, hbg, hg, hn, hcap, hcur, htake⟩
  · cases hn
  injection hv with e1 e2 e3
  injection e1 with e1
  injection e1 with e1 _ _
  subst e1
  subst e3
  have hin : i * sz ≤ n * sz := Nat.mul_le_mul_right _ hi
  have hnc : n * sz ≤ cur.size := by rw [hcur]; exact Nat.mul_le_mul_right _ hn
  obtain ⟨vs, hvs, hl, hone⟩ : ∃ vs, vs = (Builtin.zeroCells zs.toArray (n - i)).toList ∧ vs.length = (n - i) * sz ∧ ∀ u ∈ vs, u.oneCell' = true := by
    obtain ⟨k1, k2⟩ := zeroCells_toList zs (n - i)
    exact ⟨_, rfl, by rw [k1, hzl], fun u hu => h1 u (k2 u hu (by intro e; rw [e] at hzl; simp at hzl; omega))⟩
  have hfit : i * sz + vs.length ≤ cur.size := by rw [hl, ← Nat.add_mul]; rw [show i + (n - i) = n by omega]; exact hnc
  obtain ⟨cur', h2, h3⟩ := setCells_block g (t := e) (fr := (0, 0)) vs (i * sz) w cur hg hfit
  have hrun : (Builtin.clear_ #[t] op.type #[.slice (some ⟨g, i * sz, none⟩) (n - i) c]).run P w = .ok (.tuple #[]) (w.setCells g (i * sz) vs) := by
    have hst := run_storeCells_cells (P := P) g (i * sz) vs 0 w (fun j hj => by
      rw [cell_of_row w g _ cur e (0, 0) hg]; simp; omega) (fun j hj => frozen_of_row w g _ cur e hg) hone
    simp only [Nat.add_zero] at hst
    by_cases h0 : n - i = 0
    · have : vs = [] := List.length_eq_zero_iff.1 (by rw [hl, h0]; simp)
      subst this
      simp [Builtin.clear_, run_underlying ht, h0]
      rfl
    · obtain ⟨m, hm⟩ : ∃ m, n - i = m + 1 := ⟨n - i - 1, by omega⟩
      rw [hm] at hvs
      rw [hm]
      simp [Builtin.clear_, run_underlying ht, hz, hzc, ← hvs, hst]
  refine wpList_plain hgd fun K' hK' => ?_
  unfold Oper.wp
  simp [execOp, ho, resolve, invoke, builtin, hx, hrun, Result.andThen]
  have hcl : cur'.toList.take (i * sz) = cells.take (i * sz) := by
    rw [h3, List.take_append_of_le_length (by simp; omega), List.take_append_of_le_length (by simp; omega), List.take_take, Nat.min_self]
    rw [← htake, List.take_take, Nat.min_eq_left hin]
  refine hK' _ _ (h _ ⟨by rw [List.length_take, hc]; omega, .inr ⟨g, cap, cur', rfl, hbg, h2, by omega, hcap, ?_, hcl⟩⟩ (grownBy_setCells g vs _ w) (by rw [size_setCells']) ?_)
  · have := congrArg List.length h3
    simp only [Array.length_toList, List.length_append, List.length_take, List.length_drop] at this
    omega
  · intro o hlt
    rw [cell_of_row _ g _ cur' e (0, 0) h2, cell_of_row w g _ cur e (0, 0) hg, ← Array.getElem?_toList, ← Array.getElem?_toList, h3, List.getElem?_append_left (by simp; omega), List.getElem?_append_left (by simp; omega), List.getElem?_take_of_lt hlt]
end Go.ML
