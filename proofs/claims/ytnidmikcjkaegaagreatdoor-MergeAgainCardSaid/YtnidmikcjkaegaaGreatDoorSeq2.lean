/-
  What is proved here: the contracts of slices.AppendSeq, slices.Collect, keys.words, keys.Words and keys.Fold. Condition: the text's length is bounded.
-/
import Derived.Test.YtnidmikcjkaegaaGreatDoorSeq
namespace Go.Proofs.YtnidmikcjkaegaaGreatDoor
open Go Go.RowKit Go.ML Go.Shelf

set_option maxRecDepth 100000 in
set_option maxHeartbeats 2000000 in
theorem appendSeq_in (Bp : Nat) (s : ByteArray) (w : World) (hp : w.cell? ⟨Bp, 0, none⟩ = some (.string s)) (hs : Hid (s.size ≤ 1000000)) :
    CallsIn Fence.wide 3 Tryz.prog 99 #[.slice none 0 0, .func (.func 100) #[] #[.pointer (some ⟨Bp, 0, none⟩)]] w fun e w' => ∃ v, e = .returned v ∧ w'.ownsRow w.heap.size 9 1 v (wordsOf s).length ((wordsOf s).map Value.string) ∧ Below w.heap.size w w' := by
  have h1 : (1 : Nat) ≤ 3 := by omega
  refine callsIn_of_wp_marks Tryz.func99 rfl trivial ?_ rfl
  simp only [Tryz.ntmps99, List.size_toArray, List.length_cons, List.length_nil, Nat.reduceAdd, Nat.reduceSub, Array.replicate_succ, Array.replicate_zero, List.push_toArray, List.append_toArray, List.nil_append, List.cons_append]
  gi_wp2
  refine wpIn_rangeFunc ?_
  intro fn hfn
  obtain ⟨W0, hW0⟩ : ∃ W0, w.alloc (.cells #[.slice none 0 0] 54) = W0 := ⟨_, rfl⟩
  have hs0 : W0.heap.size = w.heap.size + 1 := by rw [← hW0]; simp
  have hv0 : W0.heap[w.heap.size]? = some (.cells #[.slice none 0 0] 54 (0, 0)) := by rw [← hW0]; exact World.alloc_heap_new w _
  have hb0 : Below w.heap.size w W0 := by rw [← hW0]; exact (Below.refl _ w).alloc (Nat.le_refl _) _
  rw [hW0]
  obtain ⟨W1, hW1⟩ : ∃ W1, (W0.alloc (.deferred (some []))).alloc (.loop (apRec fn (.func (.func 100) #[] #[.pointer (some ⟨Bp, 0, none⟩)]) w.heap.size W0.heap.size .ready none)) = W1 := ⟨_, rfl⟩
  have hold : ∀ k, k < W0.heap.size → W1.heap[k]? = W0.heap[k]? := fun k hk => by
    rw [← hW1]; exact (Below.heap_alloc _ _ k (by simp; omega)).trans (Below.heap_alloc _ _ k hk)
  have hb1 : Below w.heap.size w W1 := by rw [← hW1]; exact (hb0.alloc hb0.size _).alloc (by have := hb0.size; simp; omega) _
  have hs1 : W1.heap.size = W0.heap.size + 2 := by rw [← hW1]; simp
  have hM : ApAt w fn (.func (.func 100) #[] #[.pointer (some ⟨Bp, 0, none⟩)]) w.heap.size (W0.heap.size + 1) W0.heap.size [] W1 :=
    ⟨⟨_, (hold w.heap.size (by omega)).trans hv0, ⟨rfl, .inl ⟨rfl, rfl⟩⟩⟩,
     by rw [← hW1]; have := World.alloc_heap_new (W0.alloc (.deferred (some []))) (.loop (apRec fn (.func (.func 100) #[] #[.pointer (some ⟨Bp, 0, none⟩)]) w.heap.size W0.heap.size .ready none)); rwa [World.size_alloc] at this,
     by rw [← hW1]; exact (Below.heap_alloc _ _ _ (by simp)).trans (World.alloc_heap_new W0 _), hb1⟩
  refine ⟨W0.heap.size + 1, [{ target := .collected W0.heap.size, args := #[] }], W1, { target := .fn (.func 100) #[.pointer (some ⟨Bp, 0, none⟩)], args := #[.func (.yield (W0.heap.size + 1)) #[] #[]] }, W1, 100,
    #[.func (.yield (W0.heap.size + 1)) #[] #[]] ++ #[.pointer (some ⟨Bp, 0, none⟩)], W1, ?_, ?_, ?_, ?_, fun _ => h1, ?_⟩
  · rw [← hW1]; exact run_enterLoop_outer _ _ _ _ _
  · simp [resolve, go_sem]
  · intro f' hf'; trivial
  · simp [invoke, go_sem]
  · have hJ : Hid (∀ pre W1' W2', ApAt w fn (.func (.func 100) #[] #[.pointer (some ⟨Bp, 0, none⟩)]) w.heap.size (W0.heap.size + 1) W0.heap.size pre W1' → Kp W1.heap.size W1' W2' → ApAt w fn (.func (.func 100) #[] #[.pointer (some ⟨Bp, 0, none⟩)]) w.heap.size (W0.heap.size + 1) W0.heap.size pre W2') :=
      Lib.hid fun pre W1' W2' h k => apAt_kp hb1.size h k
    have hY : Hid (∀ pre x W1', ApAt w fn (.func (.func 100) #[] #[.pointer (some ⟨Bp, 0, none⟩)]) w.heap.size (W0.heap.size + 1) W0.heap.size pre W1' → pre.length ≤ s.size → YieldAt Fence.wide 1 Tryz.prog (W0.heap.size + 1) #[.string x] W1' fun e W' => e = .returned (.bool true) ∧ ApAt w fn (.func (.func 100) #[] #[.pointer (some ⟨Bp, 0, none⟩)]) w.heap.size (W0.heap.size + 1) W0.heap.size (pre ++ [x]) W' ∧ Rk W1' W') :=
      Lib.hid fun pre x W1' h hl => apYield w fn _ w.heap.size (W0.heap.size + 1) W0.heap.size (by omega) (by omega) (by omega) (Nat.le_refl _) (by omega) pre x W1' h (by have := hs.out; omega)
    refine (words1_in (W0.heap.size + 1) Bp s _ W1 hJ hY ((hb1.cell (p := ⟨Bp, 0, none⟩) (lt_of_cell hp)).trans hp) hs (Lib.hid hM)).mono ?_
    rintro e W2 ⟨⟨v0, rfl⟩, h2⟩
    obtain ⟨v, hv, hrow⟩ := h2.box
    have hend := run_endLoop (P := Tryz.prog) h2.L (by simp [apRec])
    obtain ⟨W3, hW3⟩ : ∃ W3, W2.putObj (W0.heap.size + 1) (.loop { apRec fn (.func (.func 100) #[] #[.pointer (some ⟨Bp, 0, none⟩)]) w.heap.size W0.heap.size .ready none with state := .exhausted }) = W3 := ⟨_, rfl⟩
    rw [hW3] at hend
    have hg3 : W2.grownBy W3 (some (W0.heap.size + 1)) := by rw [← hW3]; exact grownBy_put _ _ _
    have hv3 : W3.heap[w.heap.size]? = some (.cells #[v] 54 (0, 0)) := by rw [← hW3]; exact (World.putObj_heap_other (by omega)).trans hv
    have hK3 : W3.heap[W0.heap.size]? = some (.deferred (some [])) := by rw [← hW3]; exact (World.putObj_heap_other (by omega)).trans h2.K
    have hrow3 := hrow.kept hg3 (ownsRow_ne hrow h2.L (fun cur e => by cases e))
    have hb3 : Below w.heap.size w W3 := h2.below.grown hg3 h2.below.size (fun k e => by cases e; omega)
    obtain ⟨hc3, hf3⟩ := box_cell hv3
    clear hW3
    refine ⟨none, W3, hend, ?_⟩
    gi_wp2
    rw [← hs0]
    refine ⟨by simp, .inl ⟨_, _, rfl, run_takeDeferred hK3, ?_⟩⟩
    exact ⟨_, results_tmp rfl _ _ _, v, rfl, hrow3.kept (grownBy_put _ _ _) (ownsRow_ne hrow3 hK3 (fun cur e => by cases e)), hb3.grown (grownBy_put _ _ _) hb3.size (fun k e => by cases e; omega)⟩

set_option maxRecDepth 10000 in
theorem collect_spec (Bp : Nat) (s : ByteArray) (w : World) (hp : w.cell? ⟨Bp, 0, none⟩ = some (.string s)) (hs : Hid (s.size ≤ 1000000)) :
    Calls Tryz.prog 92 #[.func (.func 100) #[] #[.pointer (some ⟨Bp, 0, none⟩)]] w fun e w' => ∃ v, e = .returned v ∧ w'.ownsRow w.heap.size 9 1 v (wordsOf s).length ((wordsOf s).map Value.string) ∧ Below w.heap.size w w' := by
  have ha := Lib.hid (callsIn_wide.1 (appendSeq_in Bp s w hp hs))
  go_enter Tryz.func92, Tryz.ntmps92
  go_wp2_with (go_at_call 99; refine ha.out.mono ?_; rintro e w' ⟨v, rfl, h1, h2⟩)
  go_ret
  exact ⟨v, rfl, h1, h2⟩

set_option maxRecDepth 10000 in
theorem words_spec (s : ByteArray) (w : World) :
    Calls Tryz.prog 93 #[.string s] w fun e w' => e = .returned (.func (.func 100) #[] #[.pointer (some ⟨w.heap.size, 0, none⟩)]) ∧ w' = w.alloc (.cells #[.string s] 9) := by
  go_enter Tryz.func93, Tryz.ntmps93
  go_wp2
  go_ret
  exact ⟨rfl, rfl⟩

set_option maxRecDepth 10000 in
theorem wordsCall_spec (s : ByteArray) (w : World) (hs : Hid (s.size ≤ 1000000)) :
    Calls Tryz.prog 87 #[.string s] w fun e w' => ∃ v, e = .returned v ∧ w'.ownsRow w.heap.size 9 1 v (wordsOf s).length ((wordsOf s).map Value.string) ∧ Below w.heap.size w w' := by
  have ha := Lib.hid (collect_spec w.heap.size s (w.alloc (.cells #[.string s] 9)) (box_cell (World.alloc_heap_new w _)).1 hs)
  go_enter Tryz.func87, Tryz.ntmps87
  go_wp2_with (first
    | (go_at_call 93; refine (words_spec s w).mono ?_; rintro e w' ⟨rfl, rfl⟩)
    | (go_at_call 92; refine ha.out.mono ?_; rintro e w' ⟨v, rfl, h1, h2⟩))
  go_ret
  refine ⟨v, rfl, ?_, ((Below.refl _ w).alloc (Nat.le_refl _) _).trans (h2.mono (by simp))⟩
  refine ⟨h1.1, ?_⟩
  rcases h1.2 with hn | ⟨g, cap, cur, hv, hbg, rest⟩
  · exact .inl hn
  · exact .inr ⟨g, cap, cur, hv, by simp at hbg; omega, rest⟩

theorem lens_le (M : Nat) : ∀ (r : List (List UInt8)), (∀ x ∈ r, x.length ≤ M) → Lib.lens r ≤ r.length * M
  | [], _ => by simp [Lib.lens]
  | x :: r, h => by
    have h1 := lens_le M r (fun y hy => h y (List.mem_cons_of_mem _ hy))
    have h2 := h x (List.mem_cons_self ..)
    have e : Lib.lens (x :: r) = x.length + Lib.lens r := by simp [Lib.lens]
    rw [e, List.length_cons, Nat.succ_mul]
    omega

theorem join_small (s : ByteArray) (hs : s.size ≤ 1000000) : (Lib.join ((wordsOf s).map (·.data.toList)) [32]).length ≤ 140737488355328 := by
  have h1 := wordsI_len (runesOf s) []
  have h2 := wordsI_small (runesOf s) []
  have h3 := runesOf_len s
  change (wordsOf s).length ≤ _ at h1
  change ∀ x ∈ wordsOf s, _ at h2
  generalize wordsOf s = l at h1 h2
  cases l with
  | nil => simp [Lib.join, List.intercalate]
  | cons x r =>
    have hx := h2 x (List.mem_cons_self ..)
    have hl := lens_le 4000000 (r.map (·.data.toList)) (fun y hy => by
      obtain ⟨z, hz, rfl⟩ := List.mem_map.1 hy
      have := h2 z (List.mem_cons_of_mem _ hz)
      have e : z.data.toList.length = z.size := Array.length_toList
      rw [e]; simp at this; omega)
    have e : x.data.toList.length = x.size := Array.length_toList
    rw [List.map_cons, Lib.join_cons, List.length_append, Lib.joinTail_length, e]
    simp only [List.length_map, List.length_cons, List.length_nil] at *
    omega

set_option maxRecDepth 10000 in
theorem foldCall_spec {H : Hts} (s : ByteArray) (w : World) (hf : Fit H w) (hs : Hid (s.size ≤ 1000000)) :
    Calls Tryz.prog 78 #[.string s] w fun e w' => e = .returned (.string (foldText s)) ∧ Ext H w H w' := by
  have hW := Lib.hid (wordsCall_spec s w hs)
  have hj := Lib.hid (join_small s hs.out)
  have HF := Lib.hid hf
  clear hf
  have h1 := wordsI_len (runesOf s) []
  have h3 := runesOf_len s
  have hS := hs.out
  change (wordsOf s).length ≤ _ at h1
  go_enter Tryz.func78, Tryz.ntmps78
  go_wp2_with (first
    | (go_at_call 87
       refine hW.out.mono ?_
       rintro e w' ⟨v, rfl, hown, hb⟩
       have HB := Lib.hid hb
       have hj2 : ∃ n, v = n ∧ Hid (Calls Tryz.prog 86 #[n, .string ⟨#[32]⟩] w' fun e w'' => e = .returned (.string (foldText s)) ∧ Below w'.heap.size w' w'') := by
         refine ⟨v, rfl, Lib.hid ?_⟩
         unfold foldText
         rcases hown.2 with ⟨rfl, h0⟩ | ⟨g, cap, cur, rfl, hbg, hg, hl, _⟩
         · have e0 : wordsOf s = [] := List.length_eq_zero_iff.1 h0
           rw [e0]
           refine (Tryz.strings_Join_none none 0 _ w').mono ?_
           rintro e w'' ⟨rfl, rfl⟩
           exact ⟨rfl, Below.refl _ _⟩
         · refine (Tryz.strings_Join g 0 cap (wordsOf s) ⟨#[32]⟩ w' ?_ (lt_of_block hg) (by omega) hl hj.out).mono ?_
           · intro j x hx
             have := hown.cells (g := g) rfl j (.string x) (by simp [hx])
             have e : (⟨g, 0, none⟩ : Addr).add j = ⟨g, j, none⟩ := by cases j <;> simp [Addr.add]
             rw [e] at this
             rw [Nat.zero_add]
             exact this
           · rintro e w'' ⟨rfl, hb⟩
             exact ⟨rfl, hb⟩
       obtain ⟨n, rfl, HJ⟩ := hj2
       clear hown hb)
    | (go_at_call 86; refine HJ.out.mono ?_; rintro e w'' ⟨rfl, hb2⟩))
  go_ret
  exact ⟨rfl, Ext.of_below HF.out (HB.out.trans (hb2.mono HB.out.size))⟩
end Go.Proofs.YtnidmikcjkaegaaGreatDoor
