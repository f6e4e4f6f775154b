/-
  What is proved here: the law's sanity answers true. No condition.
-/
import Derived.Test.YtnidmikcjkaegaaGreatDoorSane
namespace Go.Proofs.YtnidmikcjkaegaaGreatDoor
open Go Go.RowKit Go.ML

theorem Rels.two {α : Type} {E : Enc α} {H : Hts} {w : World} {x y : α} {cs ds : List Value} (h1 : E.rel H w x cs) (h2 : E.rel H w y ds) : Rels E H w [x, y] (cs ++ (ds ++ [])) := ⟨_, _, rfl, h1, _, _, rfl, h2, rfl⟩
theorem Rels.three {α : Type} {E : Enc α} {H : Hts} {w : World} {x y z : α} {cs ds es : List Value} (h1 : E.rel H w x cs) (h2 : E.rel H w y ds) (h3 : E.rel H w z es) : Rels E H w [x, y, z] (cs ++ (ds ++ (es ++ []))) := ⟨_, _, rfl, h1, _, _, rfl, h2, _, _, rfl, h3, rfl⟩
theorem MergedIs.un {H : Hts} {B : Nat} {w : World} {m : GMerged} {v : Value} (h : MergedIs (H.ge B) w m v) : MergedIs H w m v := by
  obtain ⟨fv, rv, rfl, q1, q2⟩ := h
  exact ⟨fv, rv, rfl, q1.un, q2.un⟩
theorem small_BA : ∀ x ∈ [vB, vA], SmallX x := by
  intro x h; simp only [List.mem_cons, List.not_mem_nil, or_false] at h; rcases h with rfl | rfl
  · exact smallB
  · exact smallA
theorem small_AB : ∀ x ∈ [vA, vB], SmallX x := by
  intro x h; simp only [List.mem_cons, List.not_mem_nil, or_false] at h; rcases h with rfl | rfl
  · exact smallA
  · exact smallB
theorem small_B : ∀ x ∈ [vB], SmallX x := by
  intro x h; simp only [List.mem_cons, List.not_mem_nil, or_false] at h; rcases h with rfl
  exact smallB
theorem small_CBA : ∀ x ∈ [vC, vB, vA], SmallX x := by
  intro x h; simp only [List.mem_cons, List.not_mem_nil, or_false] at h; rcases h with rfl | rfl | rfl
  · exact smallC
  · exact smallB
  · exact smallA

theorem says_lit' {H : Hts} {w : World} {s n v : Int} {cs : Array Value} {k p : Nat} (ls : List ByteArray) (hf : Fit H w) (hn : Hid (ls.length ≤ 1000)) (hp : p = w.heap.size) (hk : k = ls.length) (hc : cs = (ls.map Value.string).toArray) :
    Calls Tryz.prog 14 #[.int .i64 s, .int .i64 n, .int .i64 v, .slice (some ⟨p, 0, none⟩) k k] (w.alloc (.cells cs 9)) (Ret fun u w' => ∃ H' fv, u = .agg #[.int .i64 s, .int .i64 n, .int .i64 v, .int .u8 0, .int .u8 0, fv] ∧ Ext H w H' w' ∧ Sl eField H' w' (pairsP ls) fv) := by
  subst hp hk hc; exact says_lit s n v ls hf hn.out

theorem merge_lit' {H : Hts} {w : World} {cs : Array Value} {k p : Nat} {xs : List GVersion} {news : List Value} (hf : Fit H w) (hr : Rels eVersion H w xs news) (hx : Hid (xs.length ≤ 20 ∧ ∀ x ∈ xs, SmallX x)) (hp : p = w.heap.size) (hk : k = xs.length) (hc : cs = news.toArray) :
    Calls Tryz.prog 6 #[.slice (some ⟨p, 0, none⟩) k k] (w.alloc (.cells cs 40)) (Ret fun v' w' => ∃ H', Ext H w H' w' ∧ MergedIs H' w' (mergeP xs) v') := by
  subst hp hk hc; exact merge_lit hf hr hx.out.1 hx.out.2

theorem without_lit' {H : Hts} {w : World} {cs : Array Value} {k p : Nat} {xs : List GVersion} {news : List Value} {s : Int} (hf : Fit H w) (hr : Rels eVersion H w xs news) (hx : Hid (xs.length ≤ 20 ∧ ∀ x ∈ xs, SmallX x)) (hp : p = w.heap.size) (hk : k = xs.length) (hc : cs = news.toArray) :
    Calls Tryz.prog 11 #[.slice (some ⟨p, 0, none⟩) k k, .int .i64 s] (w.alloc (.cells cs 40)) (Ret fun v' w' => ∃ H', Ext H w H' w' ∧ Sl eVersion H' w' (withoutP xs s) v') := by
  subst hp hk hc; exact without_lit hf hr hx.out.1 hx.out.2

theorem is_lit' {H : Hts} {w : World} {m : GMerged} {mv : Value} {cs ds : Array Value} {k k' p p' : Nat} (srcs : List Int) (ls : List ByteArray) (hf : Fit H w) (hm : MergedIs H w m mv) (h : Hid ((m.frm.map (·.src) = srcs ∧ m.fields = pairsP ls) ∧ srcs.length ≤ 100 ∧ ls.length = 2 * srcs.length)) (hp : p = w.heap.size) (hp' : p' = w.heap.size + 1) (hk : k = srcs.length) (hk' : k' = ls.length)
    (hc : cs = (srcs.map (Value.int .i64)).toArray) (hd : ds = (ls.map Value.string).toArray) :
    Calls Tryz.prog 15 #[mv, .slice (some ⟨p, 0, none⟩) k k, .slice (some ⟨p', 0, none⟩) k' k'] ((w.alloc (.cells cs 3)).alloc (.cells ds 9)) fun e w' => e = .returned (.bool true) ∧ Below w.heap.size w w' := by
  subst hp hp' hk hk' hc hd; exact is_lit hf hm h.out.2.1 h.out.1.1 h.out.1.2 h.out.2.2

set_option linter.unusedSimpArgs false in
set_option maxRecDepth 10000 in
set_option maxHeartbeats 2000000 in
theorem sanity_spec {H : Hts} {w : World} (hf : Fit H w) :
    Calls Tryz.prog 5 #[] w fun e w' => e = .returned (.bool true) ∧ Below w.heap.size w w' := by
  have HF := Lib.hid hf
  have LA : Hid (lsA.length ≤ 1000) := Lib.hid (by decide)
  have LB : Hid (lsB.length ≤ 1000) := Lib.hid (by decide)
  have LC : Hid (lsC.length ≤ 1000) := Lib.hid (by decide)
  clear hf
  go_enter Tryz.func5, Tryz.ntmps5
  go_upto_region 2 with (go_at_call 14
                         with_reducible refine (says_lit' lsA HF.out LA ?_ ?_ ?_).mono ?_
                         · simp
                         · rfl
                         · rfl
                         rintro e w1 ⟨u, rfl, H1, fA, rfl, e1, sA⟩
                         obtain ⟨aA, cA, rfl, _, _⟩ := sA.form
                         have E1 := Lib.hid e1
                         have SA := Lib.hid sA
                         have E1f := Lib.hid (fun o => (E1.out.alloc o).fit)
                         clear e1 sA)
  go_upto_region 3 with (go_at_call 14
                         with_reducible refine (says_lit' lsB (E1f.out _) LB ?_ ?_ ?_).mono ?_
                         · simp
                         · rfl
                         · rfl
                         rintro e w2 ⟨u, rfl, H2, fB, rfl, e2, sB⟩
                         obtain ⟨aB, cB, rfl, _, _⟩ := sB.form
                         have E2 := Lib.hid e2
                         have SB := Lib.hid sB
                         have E2f := Lib.hid (fun o => (E2.out.alloc o).fit)
                         clear e2 sB)
  go_upto_region 4 with (go_at_call 14
                         with_reducible refine (says_lit' lsC (E2f.out _) LC ?_ ?_ ?_).mono ?_
                         · simp
                         · rfl
                         · rfl
                         rintro e w3 ⟨u, rfl, H3, fC, rfl, e3, sC⟩
                         obtain ⟨aC, cC, rfl, _, _⟩ := sC.form
                         have E3 := Lib.hid e3
                         have SC := Lib.hid sC
                         clear e3 sC)
  have T0 : Hid (Three H3 (w3.alloc (.cells #[.int .i64 1, .int .i64 5, .int .i64 3, .int .u8 0, .int .u8 0, .slice aC (pairsP lsC).length cC] 40 (0, 0))) w1.heap.size w2.heap.size w3.heap.size (.slice aA (pairsP lsA).length cA) (.slice aB (pairsP lsB).length cB) (.slice aC (pairsP lsC).length cC)) := Lib.hid (by
    have a1 := (Ext.refl E1.out.fit).alloc (.cells #[.int .i64 1, .int .i64 5, .int .i64 2, .int .u8 0, .int .u8 0, .slice aA (pairsP lsA).length cA] 40 (0, 0))
    have a2 := (Ext.refl E2.out.fit).alloc (.cells #[.int .i64 2, .int .i64 1, .int .i64 1, .int .u8 0, .int .u8 0, .slice aB (pairsP lsB).length cB] 40 (0, 0))
    have a3 := (Ext.refl E3.out.fit).alloc (.cells #[.int .i64 1, .int .i64 5, .int .i64 3, .int .u8 0, .int .u8 0, .slice aC (pairsP lsC).length cC] 40 (0, 0))
    have x23 := E3.out.trans a3
    have x13 := (E2.out.trans a2).trans x23
    exact ⟨a3.fit, x13.blk (blk_new w1 _), x23.blk (blk_new w2 _), blk_new w3 _, SA.out.evo ((a1.trans x13).evo E1.out.fit), SB.out.evo ((a2.trans x23).evo E2.out.fit), SC.out.evo (a3.evo E3.out.fit)⟩)
  have D1 : Hid ([vB, vA].length ≤ 20 ∧ ∀ x ∈ [vB, vA], SmallX x) := Lib.hid ⟨by decide, small_BA⟩
  have D2 : Hid ([vA, vB].length ≤ 20 ∧ ∀ x ∈ [vA, vB], SmallX x) := Lib.hid ⟨by decide, small_AB⟩
  have D3 : Hid ((withoutP [vA, vB] 1).length ≤ 20 ∧ ∀ x ∈ withoutP [vA, vB] 1, SmallX x) := Lib.hid (by rw [without2]; exact ⟨by decide, small_B⟩)
  have D4 : Hid ([vC, vB, vA].length ≤ 20 ∧ ∀ x ∈ [vC, vB, vA], SmallX x) := Lib.hid ⟨by decide, small_CBA⟩
  have X1 : Hid (((mergeP [vB, vA]).frm.map (·.src) = [1, 1, 2, 1, 2] ∧ (mergeP [vB, vA]).fields = pairsP ls1) ∧ [(1 : Int), 1, 2, 1, 2].length ≤ 100 ∧ ls1.length = 2 * [(1 : Int), 1, 2, 1, 2].length) := Lib.hid ⟨ex1, by decide, by decide⟩
  have X2 : Hid (((mergeP (withoutP [vA, vB] 1)).frm.map (·.src) = [2, 2, 2, 2] ∧ (mergeP (withoutP [vA, vB] 1)).fields = pairsP ls2) ∧ [(2 : Int), 2, 2, 2].length ≤ 100 ∧ ls2.length = 2 * [(2 : Int), 2, 2, 2].length) := Lib.hid ⟨by rw [without2]; exact ex2, by decide, by decide⟩
  have X3 : Hid (((mergeP [vC, vB, vA]).frm.map (·.src) = [2, 1, 2, 2, 2] ∧ (mergeP [vC, vB, vA]).fields = pairsP ls3) ∧ [(2 : Int), 1, 2, 2, 2].length ≤ 100 ∧ ls3.length = 2 * [(2 : Int), 1, 2, 2, 2].length) := Lib.hid ⟨ex3, by decide, by decide⟩
  have Z0 : Hid (Below w.heap.size w (w3.alloc (.cells #[.int .i64 1, .int .i64 5, .int .i64 3, .int .u8 0, .int .u8 0, .slice aC (pairsP lsC).length cC] 40 (0, 0)))) := Lib.hid (by
    exact ((((((E1.out.alloc _).trans E2.out).alloc _).trans E3.out).alloc _).below))
  generalize w3.alloc (.cells #[.int .i64 1, .int .i64 5, .int .i64 3, .int .u8 0, .int .u8 0, .slice aC (pairsP lsC).length cC] 40 (0, 0)) = wz at *
  generalize w1.heap.size = b1 at *
  generalize w2.heap.size = b2 at *
  generalize w3.heap.size = b3 at *
  have B1 := blk6 T0.out.a
  have B2 := blk6 T0.out.b
  have B3 := blk6 T0.out.c
  go_wp2_with (first
  | (go_at_call 6
     with_reducible refine (merge_lit' (xs := [vB, vA]) T0.out.fit (Rels.two (relB T0.out) (relA T0.out)) D1 ?_ ?_ ?_).mono ?_
     · simp
     · rfl
     · rfl
     rintro e w4 ⟨v4, rfl, H4, e4, m4⟩
     have T1 := Lib.hid (T0.out.ext e4)
     have M1 := Lib.hid m4
     have Z1 := Lib.hid (Z0.out.trans (e4.below.mono Z0.out.size))
     clear D1 T0 Z0 B1 B2 B3 e4 m4)
  | (go_at_call 15
     with_reducible refine (is_lit' [1, 1, 2, 1, 2] ls1 T1.out.fit M1.out X1 ?_ ?_ ?_ ?_ ?_ ?_).mono ?_
     · simp
     · simp
     · rfl
     · rfl
     · rfl
     · rfl
     rintro e w5 ⟨rfl, hb⟩
     have T2 := Lib.hid (T1.out.below hb)
     have Z2 := Lib.hid (Z1.out.trans (hb.mono Z1.out.size))
     have B1 := blk6 T2.out.a
     have B2 := blk6 T2.out.b
     clear X1 T1 Z1 M1 hb)
  | (go_at_call 11
     with_reducible refine (without_lit' (xs := [vA, vB]) T2.out.fit (Rels.two (relA T2.out) (relB T2.out)) D2 ?_ ?_ ?_).mono ?_
     · simp
     · rfl
     · rfl
     rintro e w6 ⟨v6, rfl, H6, e6, s6⟩
     have T3 := Lib.hid (T2.out.ext e6)
     have S6 := Lib.hid s6
     have Z3 := Lib.hid (Z2.out.trans (e6.below.mono Z2.out.size))
     clear D2 T2 Z2 B1 B2 e6 s6)
  | (go_at_call 6
     with_reducible refine (merge_spec T3.out.fit S6.out (Lib.hid D3.out.1) (Lib.hid D3.out.2)).mono ?_
     rintro e w7 ⟨v7, rfl, H7, e7, m7⟩
     have T4 := Lib.hid (T3.out.ext e7)
     have M2 := Lib.hid (m7.un)
     have Z4 := Lib.hid (Z3.out.trans (e7.below.mono Z3.out.size))
     clear D3 T3 Z3 S6 e7 m7)
  | (go_at_call 15
     with_reducible refine (is_lit' [2, 2, 2, 2] ls2 T4.out.fit M2.out X2 ?_ ?_ ?_ ?_ ?_ ?_).mono ?_
     · simp
     · simp
     · rfl
     · rfl
     · rfl
     · rfl
     rintro e w8 ⟨rfl, hb⟩
     have T5 := Lib.hid (T4.out.below hb)
     have Z5 := Lib.hid (Z4.out.trans (hb.mono Z4.out.size))
     have B1 := blk6 T5.out.a
     have B2 := blk6 T5.out.b
     have B3 := blk6 T5.out.c
     clear X2 T4 Z4 M2 hb)
  | (go_at_call 6
     with_reducible refine (merge_lit' (xs := [vC, vB, vA]) T5.out.fit (Rels.three (relC T5.out) (relB T5.out) (relA T5.out)) D4 ?_ ?_ ?_).mono ?_
     · simp
     · rfl
     · rfl
     rintro e w9 ⟨v9, rfl, H9, e9, m9⟩
     have T6 := Lib.hid (T5.out.ext e9)
     have M3 := Lib.hid m9
     have Z6 := Lib.hid (Z5.out.trans (e9.below.mono Z5.out.size))
     clear D4 T5 Z5 B1 B2 B3 e9 m9)
  | (go_at_call 15
     with_reducible refine (is_lit' [2, 1, 2, 2, 2] ls3 T6.out.fit M3.out X3 ?_ ?_ ?_ ?_ ?_ ?_).mono ?_
     · simp
     · simp
     · rfl
     · rfl
     · rfl
     · rfl
     rintro e wx ⟨rfl, hb⟩
     have Z7 := Lib.hid (Z6.out.trans (hb.mono Z6.out.size))
     clear X3 T6 Z6 M3 hb))
  go_ret
  exact ⟨rfl, Z7.out⟩
end Go.Proofs.YtnidmikcjkaegaaGreatDoor
