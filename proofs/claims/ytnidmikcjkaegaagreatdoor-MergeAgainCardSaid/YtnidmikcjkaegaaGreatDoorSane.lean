/-
  What is proved here: the law's sanity answers true. No condition.
-/
import Derived.Test.YtnidmikcjkaegaaGreatDoorEx
import Derived.Test.YtnidmikcjkaegaaGreatDoorIs
namespace Go.Proofs.YtnidmikcjkaegaaGreatDoor
open Go Go.RowKit Go.ML

theorem new_sl {α : Type} {E : Enc α} {H : Hts} {w : World} (hf : Fit H w) {xs : List α} {news : List Value} (hr : Rels E H w xs news) (hm : xs.length ≤ maxLen) :
    ∃ H', Ext H w H' (w.alloc (.cells news.toArray E.ty)) ∧ Sl E H' (w.alloc (.cells news.toArray E.ty)) xs (.slice (some ⟨w.heap.size, 0, none⟩) xs.length xs.length) := by
  have e1 : Ext H w H (w.alloc (.cells news.toArray E.ty)) := (Ext.refl hf).alloc _
  have e2 := e1.pub (g := w.heap.size) (Nat.le_refl _) (by simp) (xs.length * E.sz)
  refine ⟨_, e2, Sl.of_block (blk_new w _) ?_ ?_ (Nat.le_refl _) hm⟩
  · exact hr.evo (e2.evo hf)
  · rw [Hts.set_self]; exact Nat.le_refl _

theorem strs_rels (H : Hts) (w : World) (ls : List ByteArray) : Rels eStr H w ls (ls.map Value.string) := rels_strs ls
theorem ints_rels {H : Hts} {w : World} : ∀ (l : List Int), Rels eInt H w l (l.map (Value.int .i64))
  | [] => rfl
  | x :: xs => ⟨[.int .i64 x], xs.map (Value.int .i64), by simp, rfl, ints_rels xs⟩

theorem says_lit {H : Hts} {w : World} (s n v : Int) (ls : List ByteArray) (hf : Fit H w) (hn : ls.length ≤ 1000) :
    Calls Tryz.prog 14 #[.int .i64 s, .int .i64 n, .int .i64 v, .slice (some ⟨w.heap.size, 0, none⟩) ls.length ls.length] (w.alloc (.cells (ls.map Value.string).toArray 9)) (Ret fun u w' => ∃ H' fv, u = .agg #[.int .i64 s, .int .i64 n, .int .i64 v, .int .u8 0, .int .u8 0, fv] ∧ Ext H w H' w' ∧ Sl eField H' w' (pairsP ls) fv) := by
  obtain ⟨H1, e1, s1⟩ := new_sl (E := eStr) hf (strs_rels H w ls) (by simp only [maxLen]; omega)
  refine (says_spec s n v e1.fit s1 (Lib.hid hn)).mono ?_
  rintro e w' ⟨u, rfl, H2, cs, rfl, e2, fv, hcs, s2⟩
  subst hcs
  exact Ret.mk ⟨H2, fv, rfl, e1.trans e2, s2.un⟩

theorem merge_lit {H : Hts} {w : World} {xs : List GVersion} {news : List Value} (hf : Fit H w) (hr : Rels eVersion H w xs news) (hn : xs.length ≤ 20) (hx : ∀ x ∈ xs, SmallX x) :
    Calls Tryz.prog 6 #[.slice (some ⟨w.heap.size, 0, none⟩) xs.length xs.length] (w.alloc (.cells news.toArray 40)) (Ret fun v' w' => ∃ H', Ext H w H' w' ∧ MergedIs H' w' (mergeP xs) v') := by
  obtain ⟨H1, e1, s1⟩ := new_sl (E := eVersion) hf hr (by simp only [maxLen]; omega)
  refine (merge_spec e1.fit s1 (Lib.hid hn) (Lib.hid hx)).mono ?_
  rintro e w' ⟨v', rfl, H2, e2, fv, rv, rfl, q1, q2⟩
  exact Ret.mk ⟨H2, e1.trans e2, fv, rv, rfl, q1.un, q2.un⟩

theorem without_lit {H : Hts} {w : World} {xs : List GVersion} {news : List Value} {s : Int} (hf : Fit H w) (hr : Rels eVersion H w xs news) (hn : xs.length ≤ 20) (hx : ∀ x ∈ xs, SmallX x) :
    Calls Tryz.prog 11 #[.slice (some ⟨w.heap.size, 0, none⟩) xs.length xs.length, .int .i64 s] (w.alloc (.cells news.toArray 40)) (Ret fun v' w' => ∃ H', Ext H w H' w' ∧ Sl eVersion H' w' (withoutP xs s) v') := by
  obtain ⟨H1, e1, s1⟩ := new_sl (E := eVersion) hf hr (by simp only [maxLen]; omega)
  refine (without_spec e1.fit s1 (Lib.hid (by omega)) (Lib.hid (fun x h => (hx x h).v))).mono ?_
  rintro e w' ⟨v', rfl, H2, e2, q1⟩
  exact Ret.mk ⟨H2, e1.trans e2, q1.un⟩

theorem is_lit {H : Hts} {w : World} {m : GMerged} {mv : Value} {srcs : List Int} {ls : List ByteArray} (hf : Fit H w) (hm : MergedIs H w m mv) (hn : srcs.length ≤ 100) (h1 : m.frm.map (·.src) = srcs) (h2 : m.fields = pairsP ls) (h3 : ls.length = 2 * srcs.length) :
    Calls Tryz.prog 15 #[mv, .slice (some ⟨w.heap.size, 0, none⟩) srcs.length srcs.length, .slice (some ⟨w.heap.size + 1, 0, none⟩) ls.length ls.length] ((w.alloc (.cells (srcs.map (Value.int .i64)).toArray 3)).alloc (.cells (ls.map Value.string).toArray 9)) fun e w' => e = .returned (.bool true) ∧ Below w.heap.size w w' := by
  obtain ⟨H1, e1, s1⟩ := new_sl (E := eInt) hf (ints_rels (H := H) (w := w) srcs) (by simp only [maxLen]; omega)
  obtain ⟨H2, e2, s2⟩ := new_sl (E := eStr) e1.fit (strs_rels H1 _ ls) (by simp only [maxLen]; omega)
  obtain ⟨fv, rv, rfl, q1, q2⟩ := hm
  have ev := (e1.trans e2).evo hf
  simp only [World.size_alloc] at s2
  refine (is_spec e2.fit (m := m) ⟨fv, rv, rfl, q1.evo ev, q2.evo ev⟩ (s1.evo (e2.evo e1.fit)) s2 (Lib.hid hn) (Lib.hid h1) (Lib.hid h2) (Lib.hid h3)).mono ?_
  rintro e w' ⟨rfl, hb⟩
  exact ⟨rfl, ((e1.trans e2).below).trans (hb.mono (by simp; omega))⟩

/-- The three versions of the examples: their boxes, and what they read as. -/
structure Three (H : Hts) (w : World) (b1 b2 b3 : Nat) (fA fB fC : Value) : Prop where
  fit : Fit H w
  a : w.heap[b1]? = some (.cells #[.int .i64 1, .int .i64 5, .int .i64 2, .int .u8 0, .int .u8 0, fA] 40 (0, 0))
  b : w.heap[b2]? = some (.cells #[.int .i64 2, .int .i64 1, .int .i64 1, .int .u8 0, .int .u8 0, fB] 40 (0, 0))
  c : w.heap[b3]? = some (.cells #[.int .i64 1, .int .i64 5, .int .i64 3, .int .u8 0, .int .u8 0, fC] 40 (0, 0))
  ra : Sl eField H w (pairsP lsA) fA
  rb : Sl eField H w (pairsP lsB) fB
  rc : Sl eField H w (pairsP lsC) fC

section
variable {H H' : Hts} {w w' : World} {b1 b2 b3 : Nat} {fA fB fC : Value}
theorem Three.ext (h : Three H w b1 b2 b3 fA fB fC) (e : Ext H w H' w') : Three H' w' b1 b2 b3 fA fB fC :=
  ⟨e.fit, e.blk h.a, e.blk h.b, e.blk h.c, h.ra.evo (e.evo h.fit), h.rb.evo (e.evo h.fit), h.rc.evo (e.evo h.fit)⟩
theorem Three.below (h : Three H w b1 b2 b3 fA fB fC) (b : Below w.heap.size w w') : Three H w' b1 b2 b3 fA fB fC := h.ext (Ext.of_below h.fit b)
theorem relA (h : Three H w b1 b2 b3 fA fB fC) : eVersion.rel H w vA [.int .i64 1, .int .i64 5, .int .i64 2, .int .u8 0, .int .u8 0, fA] := ⟨fA, rfl, h.ra⟩
theorem relB (h : Three H w b1 b2 b3 fA fB fC) : eVersion.rel H w vB [.int .i64 2, .int .i64 1, .int .i64 1, .int .u8 0, .int .u8 0, fB] := ⟨fB, rfl, h.rb⟩
theorem relC (h : Three H w b1 b2 b3 fA fB fC) : eVersion.rel H w vC [.int .i64 1, .int .i64 5, .int .i64 3, .int .u8 0, .int .u8 0, fC] := ⟨fC, rfl, h.rc⟩
end

theorem pairs_small : ∀ (ls : List ByteArray), (∀ t ∈ ls, t.size ≤ 1000) → ∀ f ∈ pairsP ls, SmallF f
  | [], _, f, h => by simp [pairsP] at h
  | [_], _, f, h => by simp [pairsP] at h
  | a :: b :: r, hl, f, h => by
    unfold pairsP at h
    cases h with
    | head => exact ⟨by show (0 : Nat) < 100; omega, by show 1 ≤ 1000; omega, fun s hs => by
        have : s = ⟨97, b⟩ := by simpa [fieldP] using hs
        subst this
        exact ⟨hl b (by simp), by show (0 : Int) ≤ 97; omega, by show (97 : Int) ≤ 255; omega⟩⟩
    | tail _ h => exact pairs_small r (fun t ht => hl t (by simp [ht])) f h
theorem smallA : SmallX vA := ⟨by show (pairsP lsA).length ≤ 100; decide, pairs_small lsA (by decide +kernel)⟩
theorem smallB : SmallX vB := ⟨by show (pairsP lsB).length ≤ 100; decide, pairs_small lsB (by decide +kernel)⟩
theorem smallC : SmallX vC := ⟨by show (pairsP lsC).length ≤ 100; decide, pairs_small lsC (by decide +kernel)⟩
end Go.Proofs.YtnidmikcjkaegaaGreatDoor
