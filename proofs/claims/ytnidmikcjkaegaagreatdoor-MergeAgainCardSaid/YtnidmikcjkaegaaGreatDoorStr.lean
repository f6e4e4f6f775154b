/-
  What is proved here: laws on a range over a string; lists of runes. No statement of the program; no condition.
-/
import Derived.Test.YtnidmikcjkaegaaGreatDoorLib
import Derived.Lib.OthersKept
import Derived.Laws.RangeAny
import Derived.Laws.RangeString
namespace Go.ML
open Go Go.RowKit Go.Lib

/-- The runes of s from place pos on. -/
def runesI (s : ByteArray) : Nat → Nat → List Int
  | 0, _ => []
  | n + 1, pos => if pos < s.size then ((Utf8.decode s pos).1 : Int) :: runesI s n (pos + (Utf8.decode s pos).2) else []
def runesOf (s : ByteArray) : List Int := runesI s s.size 0

theorem width_pos (s : ByteArray) (pos : Nat) (h : pos < s.size) : 1 ≤ (Utf8.decode s pos).2 := by
  by_cases ha : (s[pos]'h).toNat < 128
  · rw [decode_ascii s pos h ha]
    exact Nat.le_refl _
  · exact (decode_high s pos h (by omega)).2

theorem runesI_end (s : ByteArray) (n pos : Nat) (h : ¬ pos < s.size) : runesI s n pos = [] := by cases n <;> simp [runesI, h]

theorem runesI_range (s : ByteArray) : ∀ (n pos : Nat), ∀ c ∈ runesI s n pos, 0 ≤ c ∧ c ≤ 2147483647
  | 0, _, c, h => by cases h
  | n + 1, pos, c, h => by
    unfold runesI at h
    split at h
    · rcases List.mem_cons.1 h with rfl | h
      · have := decode_le s pos; omega
      · exact runesI_range s n _ c h
    · cases h

theorem runesI_length (s : ByteArray) : ∀ (n pos : Nat), (runesI s n pos).length ≤ n
  | 0, _ => by simp [runesI]
  | n + 1, pos => by
    unfold runesI
    split
    · have := runesI_length s n (pos + (Utf8.decode s pos).2); simp; omega
    · simp

/-- An iterator over a string: the runes that are still to come. -/
def SIt (w : World) (r : Nat) (s : ByteArray) (todo : List Int) : Prop :=
  ∃ pos n, w.heap[r]? = some (.stringIter s pos) ∧ s.size ≤ pos + n ∧ todo = runesI s n pos

section
variable {w w' : World} {r : Nat} {s : ByteArray} {todo : List Int}
theorem SIt.new (w : World) (s : ByteArray) : SIt (w.alloc (.stringIter s 0)) w.heap.size s (runesOf s) := ⟨0, s.size, heap_alloc_new w _, by omega, rfl⟩
theorem SIt.same (h : SIt w r s todo) (hr : w'.heap[r]? = w.heap[r]?) : SIt w' r s todo := by
  obtain ⟨pos, n, h1, h2, h3⟩ := h
  exact ⟨pos, n, hr.trans h1, h2, h3⟩
theorem SIt.lt (h : SIt w r s todo) : r < w.heap.size := by
  obtain ⟨pos, n, h1, h2, h3⟩ := h
  exact lt_of_block h1
theorem SIt.nocells (h : SIt w r s todo) : ∀ c t f, w.heap[r]? ≠ some (.cells c t f) := fun c t f e => by
  obtain ⟨pos, n, h1, h2, h3⟩ := h
  rw [e] at h1; cases h1
theorem SIt.ext {H H' : Hts} (h : SIt w r s todo) (e : Ext H w H' w') : SIt w' r s todo := h.same (e.below.block r h.lt)
theorem SIt.alloc (h : SIt w r s todo) (o : Obj) : SIt (w.alloc o) r s todo := h.same (Below.heap_alloc _ _ _ h.lt)
theorem SIt.grown {row : Option Nat} (h : SIt w r s todo) (hg : w.grownBy w' row) (hne : some r ≠ row) : SIt w' r s todo := h.same (hg.block r h.lt hne)

theorem grownBy_iterAt (w : World) (r : Nat) (s : ByteArray) (p : Nat) : w.grownBy (w.iterAt r s p) (some r) :=
  ⟨rfl, rfl, rfl, by rw [iterAt_size]; exact Nat.le_refl _, fun k _ hne => iterAt_other w r k s p (fun e => hne (by rw [e]))⟩

theorem snext_law {P : Program} {ops : Array Oper} {rest : List Oper} {o : Oper} {a : Act} {Q : Exit → Act → World → Prop} (hg : o.guard = none) (it : Operand) (hop : o.op = Op.next it true) (hit : a.eval it = .pointer (some ⟨r, 0, none⟩)) (h : SIt w r s todo)
    (hDone : todo = [] → wpList P ops Q rest (a.put o.dst (.tuple #[.bool false])) w)
    (hMore : ∀ c tl v w', todo = c :: tl → 0 ≤ c → c ≤ 2147483647 → SIt w' r s tl → w.grownBy w' (some r) → w'.heap.size = w.heap.size → s.size - w'.iterPos r < s.size - w.iterPos r →
      wpList P ops Q rest (a.put o.dst (.tuple #[.bool true, v, .int .i32 c])) w') : wpList P ops Q (o :: rest) a w := by
  refine wpList_plain hg fun K' hK' => ?_
  obtain ⟨pos, n, h1, h2, h3⟩ := h
  unfold Oper.wp
  by_cases hp : pos < s.size
  · have hrun := run_next_any_at (P := P) w r s pos o.type h1 hp
    simp [execOp, hop, hit, hrun, Result.andThen]
    obtain ⟨m, rfl⟩ : ∃ m, n = m + 1 := ⟨n - 1, by omega⟩
    have hw := width_pos s pos hp
    have hh := iterAt_heap w r s pos (pos + (Utf8.decode s pos).2) h1
    refine hK' _ _ (hMore _ (runesI s m (pos + (Utf8.decode s pos).2)) _ _ ?_ ?_ ?_ ⟨_, m, hh, by omega, rfl⟩ (grownBy_iterAt w r s _) (iterAt_size w r s _) ?_)
    · rw [h3]; simp [runesI, hp]
    · omega
    · have := decode_le s pos; omega
    · simp only [World.iterPos, hh, h1]; omega
  · have hrun := run_next_end_at (P := P) w r s pos o.type h1 hp
    simp [execOp, hop, hit, hrun, Result.andThen]
    exact hK' _ _ (hDone (by rw [h3]; exact runesI_end s n pos hp))
end
end Go.ML
