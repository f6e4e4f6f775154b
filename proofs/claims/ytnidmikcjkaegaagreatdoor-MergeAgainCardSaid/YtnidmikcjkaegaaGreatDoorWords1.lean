/-
  What is proved here: the contract of the iterator of keys.words. Condition: the text's length is bounded.
-/
import Derived.Test.YtnidmikcjkaegaaGreatDoorWords
import Derived.Test.YtnidmikcjkaegaaGreatDoorShelf
namespace Go.Proofs.YtnidmikcjkaegaaGreatDoor
open Go Go.RowKit Go.ML Go.Shelf
attribute [local go_sem] Oper.semAt_some

/-- Between two runes of the text: m the table's block, g the builder's, r the iterator's. -/
def Wd (J : List ByteArray → World → Prop) (B m g r : Nat) (s : ByteArray) (wr : World) : Prop :=
  ∃ pre todo cur, J pre wr ∧ SIt wr r s todo ∧ Mp (Value.int .i32) wr m (mapV Value.string tabL) ∧ Lib.IsBuilderF 127 5 B g (Lib.byteCells cur) wr ∧ wordsOf s = pre ++ wordsI todo cur ∧
    pre.length + todo.length ≤ s.size ∧ cur.length + 4 * todo.length ≤ 4 * s.size ∧ B ≤ wr.heap.size

set_option maxRecDepth 10000 in
set_option maxHeartbeats 2000000 in
theorem words1_in (l Bp : Nat) (s : ByteArray) (J : List ByteArray → World → Prop) (W : World)
    (hJ : Hid (∀ pre W1 W2, J pre W1 → Kp W.heap.size W1 W2 → J pre W2))
    (hY : Hid (∀ pre x W1, J pre W1 → pre.length ≤ s.size → YieldAt Fence.wide 1 Tryz.prog l #[.string x] W1 fun e W' => e = .returned (.bool true) ∧ J (pre ++ [x]) W' ∧ Rk W1 W'))
    (hp : W.cell? ⟨Bp, 0, none⟩ = some (.string s)) (hs : Hid (s.size ≤ 1000000)) (h0 : Hid (J [] W)) :
    CallsIn Fence.wide 2 Tryz.prog 100 #[.func (.yield l) #[] #[], .pointer (some ⟨Bp, 0, none⟩)] W fun e W' => (∃ v, e = .returned v) ∧ J (wordsOf s) W' := by
  have h1 : (1 : Nat) ≤ 2 := by omega
  have hlet := Lib.hid (letters_spec (w := W) (H := fun _ => 0) (fun _ _ => rfl))
  refine callsIn_of_wp Tryz.func100 rfl trivial ?_ rfl
  simp only [Tryz.ntmps100, List.size_toArray, List.length_cons, List.length_nil, Nat.reduceAdd, Nat.reduceSub, Array.replicate_succ, Array.replicate_zero, List.push_toArray, List.append_toArray, List.nil_append, List.cons_append]
  gi_wp2_with (
    refine ⟨trivial, ?_⟩
    gi_at_call 101
    refine (callsIn_wide.2 hlet.out).mono ?_
    rintro e W1 ⟨v, rfl, hext, m, rfl, hb, hmp⟩
    have hp1 : W1.cell? ⟨Bp, 0, none⟩ = some (.string s) := (hext.below.cell (p := ⟨Bp, 0, none⟩) (lt_of_cell hp)).trans hp
    have hp2 : (W1.alloc (.cells #[.pointer none, .slice none 0 0] 127)).cell? ⟨Bp, 0, none⟩ = some (.string s) := (World.cell?_alloc_lt W1 _ ⟨Bp, 0, none⟩ (lt_of_cell hp1)).trans hp1
    have hz : W.heap.size ≤ W1.heap.size := hext.below.size
    have hJ1 := Lib.hid (hJ.out [] _ _ h0.out (Kp.of_ext (Nat.le_refl _) hext))
    have HM := Lib.hid hmp
    clear hext hmp hlet h0)
  have hw0 : Hid (Wd J W.heap.size m W1.heap.size (W1.heap.size + 1) s ((W1.alloc (.cells #[.pointer none, .slice none 0 0] 127)).alloc (.stringIter s 0))) := by
    refine Lib.hid ⟨[], runesOf s, [], hJ.out _ _ _ hJ1.out (((Kp.refl _ W1).alloc hz _).alloc (by simp; omega) _), ?_, (HM.out.alloc _).alloc _, ?_, rfl, ?_, ?_, ?_⟩
    · have := SIt.new (W1.alloc (.cells #[.pointer none, .slice none 0 0] 127)) s
      simpa using this
    · have hb := (blk_two W1 (.cells #[.pointer none, .slice none 0 0] 127) (.stringIter s 0)).1
      exact .inl ⟨hz, _, hb, ⟨rfl, .inl ⟨rfl, rfl⟩⟩, by simp [Value.ownBlock]⟩
    · have := runesOf_len s; simpa using this
    · have := runesOf_len s; simp; omega
    · simp; omega
  clear hJ1 HM hp hp1 hp2
  have hgr : Hid (W1.heap.size ≠ W1.heap.size + 1) := Lib.hid (by omega)
  have hzg : Hid (W.heap.size ≤ W1.heap.size) := Lib.hid hz
  have hzr : Hid (W.heap.size ≤ W1.heap.size + 1) := Lib.hid (by omega)
  clear hz
  generalize hr : W1.heap.size + 1 = r at *
  clear hr
  generalize W1.heap.size = g at *
  gi_loopw [6] (fun _ wr => Hid (Wd J W.heap.size m g r s wr)) (fun _ wr => s.size - wr.iterPos r)
  case atStart => exact hw0
  case round =>
    clear hw0
    obtain ⟨pre, todo, cur, hJp, hit, hmp, hbd, hw, hl1, hl2, hsz⟩ := hrel.out
    have HX := Lib.hid (And.intro hJp (And.intro hw (And.intro hl1 (And.intro hl2 hsz))))
    have HB := Lib.hid hbd
    have HM := Lib.hid hmp
    clear hJp hw hl1 hl2 hsz hbd hmp hrel
    gi_wp2_with (refine snext_lawIn rfl (.tmp 10) rfl rfl hit ?_ ?_)
    · intro hd
      subst hd
      clear hit
      by_cases hc : cur = []
      · subst hc
        have hlen := Lib.hid (Tryz.Builder_Len_f W.heap.size g (Lib.byteCells []) wr HB.out)
        gi_wp2_with (
          refine ⟨trivial, ?_⟩
          gi_at_call 103
          refine (callsIn_wide.2 hlen.out).mono ?_
          rintro e W2 ⟨rfl, rfl⟩)
        go_end0
        refine ⟨⟨_, rfl⟩, ?_⟩
        have e := HX.out.2.1
        rw [show wordsI [] [] = [] from rfl, List.append_nil] at e
        rw [e]; exact HX.out.1
      · have hlen := Lib.hid (Tryz.Builder_Len_f W.heap.size g (Lib.byteCells cur) wr HB.out)
        have hpos : 0 < (Lib.byteCells cur).length := by rw [Lib.byteCells_length]; exact List.length_pos_iff.2 hc
        have hstr := Lib.hid (Tryz.Builder_String_any_k W.heap.size g cur wr HB.out HX.out.2.2.2.2)
        have HC := Lib.hid hc
        clear hc
        gi_wp2_with (
          refine ⟨trivial, ?_⟩
          first
          | (gi_at_call 103
             refine (callsIn_wide.2 hlen.out).mono ?_
             rintro e W2 ⟨rfl, rfl⟩)
          | (gi_at_call 79
             refine (callsIn_wide.2 hstr.out).mono ?_
             rintro e W3 ⟨rfl, hb3, hbl3, hk3⟩
             obtain ⟨cs0, fr0, hblk⟩ := isB_blk HB.out
             have hJ3 := hJ.out _ _ _ HX.out.1 ((Kp.refl _ _).others hk3 hbl3 hblk)
             clear hblk hbl3 hb3 hk3
             obtain ⟨fn, tmps, assign, body, hy, hR⟩ := hY.out pre ⟨cur.toArray⟩ W3 hJ3 (by have := HX.out.2.2.1; simpa using this)))
        refine hR.mono ?_
        rintro e W4 ⟨rfl, hJ4, hk4⟩
        gi_wp2
        go_end0
        refine ⟨⟨_, rfl⟩, ?_⟩
        have e := HX.out.2.1
        rw [show wordsI [] cur = [⟨cur.toArray⟩] by unfold wordsI; rw [if_neg HC.out]] at e
        rw [e]; exact hJ4
    · intro c tl u w2 ht hc1 hc2 hit2 hg2 hs2 hpos
      subst ht
      have hJ2 := Lib.hid (hJ.out _ _ _ HX.out.1 ((Kp.refl W.heap.size wr).grownIt hit hg2 ((Below.refl _ wr).grown hg2 HX.out.2.2.2.2 (fun k e => by injection e with e; subst e; exact hzr.out))))
      have hb2 := Lib.hid (isB_grownIt HB.out hit hg2)
      have hm2 := Lib.hid (HM.out.grown hg2 (fun e => by injection e with e; exact SIt_ne hit HM.out e))
      have hz2 : Hid (W.heap.size ≤ w2.heap.size) := Lib.hid (by rw [hs2]; exact HX.out.2.2.2.2)
      have hfold := Lib.hid (fold_spec c hm2.out)
      have hI2 := Lib.hid (And.intro hit2 hpos)
      have hF : Hid ((foldR tabL c).size ≤ 4) := Lib.hid (foldR_size c)
      have hw2 : Hid (wordsOf s = pre ++ (if foldR tabL c = blank then (if cur = [] then wordsI tl [] else ⟨cur.toArray⟩ :: wordsI tl []) else wordsI tl (cur ++ (foldR tabL c).data.toList))) := Lib.hid (by rw [HX.out.2.1]; rfl)
      have hN : Hid (pre.length + (tl.length + 1) ≤ s.size ∧ cur.length + 4 * (tl.length + 1) ≤ 4 * s.size) := Lib.hid ⟨by simpa using HX.out.2.2.1, by simpa using HX.out.2.2.2.1⟩
      clear hit hg2 hs2 hpos hit2 HX HM HB
      generalize foldR tabL c = f at *
      by_cases hbl : f = blank
      · have hne : (!f.toList == [32]) = false := by rw [hbl, ByteArray.toList_eq]; rfl
        have hw2 : Hid (wordsOf s = pre ++ (if cur = [] then wordsI tl [] else ⟨cur.toArray⟩ :: wordsI tl [])) := Lib.hid (by have := hw2.out; rw [if_pos hbl] at this; exact this)
        clear hbl hF
        have hlen := Lib.hid (Tryz.Builder_Len_f W.heap.size g (Lib.byteCells cur) w2 hb2.out)
        by_cases hc : cur = []
        · have hpos : ¬ 0 < (Lib.byteCells cur).length := by rw [Lib.byteCells_length, hc]; decide
          have hHC := Lib.hid hc
          clear hc
          have hres := Lib.hid (bd_reset_k W.heap.size g (Lib.byteCells cur) w2 hb2.out)
          gi_wp2_with (
            refine ⟨trivial, ?_⟩
            first
            | (gi_at_call 102
               refine (callsIn_wide.2 hfold.out).mono ?_
               rintro e w3 ⟨rfl, rfl⟩)
            | (gi_at_call 75
               exfalso
               exact absurd ‹(!f.toList == [32]) = true› (by rw [hne]; decide))
            | (gi_at_call 103
               refine (callsIn_wide.2 hlen.out).mono ?_
               rintro e w4 ⟨rfl, rfl⟩)
            | (gi_at_call 104
               refine (callsIn_wide.2 hres.out).mono ?_
               rintro e w5 ⟨rfl, hb5, hbl5, hk5⟩))
          refine ⟨trivial, ?_⟩
          gi_wp2
          refine ⟨fun _ e => (nomatch e), ?_⟩
          gi_wp2_with (
            refine ⟨trivial, ?_⟩
            gi_at_call 104
            refine (callsIn_wide.2 hres.out).mono ?_
            rintro e w5 ⟨rfl, hb5, hbl5, hk5⟩)
          obtain ⟨cs0, fr0, hblk⟩ := isB_blk hb2.out
          obtain ⟨hit5, hpos5⟩ := SIt_others hI2.out.1 hk5 hblk
          refine ⟨Lib.hid ⟨pre, tl, [], hJ.out _ _ _ hJ2.out ((Kp.refl _ _).others hk5 hbl5 hblk), hit5, Mp_others hm2.out hk5 hblk, hb5, ?_, ?_, ?_, ?_⟩, by rw [hpos5]; exact hI2.out.2⟩
          · rw [hw2.out, if_pos hHC.out]
          · have := hN.out.1; omega
          · have := hN.out.2; simp; omega
          · exact Nat.le_trans hz2.out hbl5.size
        · have hpos : 0 < (Lib.byteCells cur).length := by rw [Lib.byteCells_length]; exact List.length_pos_iff.2 hc
          have hHC := Lib.hid hc
          clear hc
          have hstr := Lib.hid (Tryz.Builder_String_any_k W.heap.size g cur w2 hb2.out hz2.out)
          gi_wp2_with (
            refine ⟨trivial, ?_⟩
            first
            | (gi_at_call 102
               refine (callsIn_wide.2 hfold.out).mono ?_
               rintro e w3 ⟨rfl, rfl⟩)
            | (gi_at_call 75
               exfalso
               exact absurd ‹(!f.toList == [32]) = true› (by rw [hne]; decide))
            | (gi_at_call 103
               refine (callsIn_wide.2 hlen.out).mono ?_
               rintro e w4 ⟨rfl, rfl⟩)
            | (gi_at_call 79
               refine (callsIn_wide.2 hstr.out).mono ?_
               rintro e W3 ⟨rfl, hb3, hbl3, hk3⟩
               obtain ⟨cs0, fr0, hblk⟩ := isB_blk hb2.out
               have hJ3 := hJ.out _ _ _ hJ2.out ((Kp.refl _ _).others hk3 hbl3 hblk)
               have HS := Lib.hid (And.intro hb3 (And.intro hbl3 (And.intro hk3 hblk)))
               clear hblk hbl3 hb3 hk3
               obtain ⟨fn, tmps, assign, body, hy, hR⟩ := hY.out pre ⟨cur.toArray⟩ W3 hJ3 (by have := hN.out.1; omega)))
          refine hR.mono ?_
          rintro e W4 ⟨rfl, hJ4, hk4⟩
          have hz4 : Hid (W.heap.size ≤ W4.heap.size) := Lib.hid (Nat.le_trans hz2.out (Nat.le_trans HS.out.2.1.size hk4.1))
          have hB4 := Lib.hid (isB_rk HS.out.1 hk4)
          have hres := Lib.hid (bd_reset_k W.heap.size g (Lib.byteCells cur) W4 hB4.out)
          obtain ⟨hit3, hpos3⟩ := SIt_others hI2.out.1 HS.out.2.2.1 HS.out.2.2.2
          obtain ⟨hit4, hpos4⟩ := SIt_rk hit3 hk4
          have hM4 := Lib.hid (Mp_rk (Mp_others hm2.out HS.out.2.2.1 HS.out.2.2.2) hk4)
          have hI4 : Hid (SIt W4 r s tl ∧ s.size - W4.iterPos r < s.size - wr.iterPos r) := Lib.hid ⟨hit4, by rw [hpos4, hpos3]; exact hI2.out.2⟩
          clear hit3 hpos3 hit4 hpos4 hk4
          gi_wp2_with (
            refine ⟨trivial, ?_⟩
            first
            | (gi_at_call 104
               refine (callsIn_wide.2 hres.out).mono ?_
               rintro e w5 ⟨rfl, hb5, hbl5, hk5⟩))
          obtain ⟨cs0, fr0, hblk⟩ := isB_blk hB4.out
          obtain ⟨hit5, hpos5⟩ := SIt_others hI4.out.1 hk5 hblk
          refine ⟨Lib.hid ⟨pre ++ [⟨cur.toArray⟩], tl, [], hJ.out _ _ _ hJ4 ((Kp.refl _ _).others hk5 hbl5 hblk), hit5, Mp_others hM4.out hk5 hblk, hb5, ?_, ?_, ?_, ?_⟩, by rw [hpos5]; exact hI4.out.2⟩
          · rw [hw2.out, if_neg hHC.out]; simp
          · have := hN.out.1; simp; omega
          · have := hN.out.2; simp; omega
          · exact Nat.le_trans hz4.out hbl5.size
      · have hne : (!f.toList == [32]) = true := by
          have : ¬ f.toList = [32] := fun e => hbl (by
            rw [ByteArray.toList_eq] at e
            have e2 : f.data = #[32] := Array.toList_inj.1 (by rw [e])
            cases f; simp at e2; rw [e2]; rfl)
          simp [this]
        have hwr := Lib.hid (bd_string_k W.heap.size g (Lib.byteCells cur) f w2 hb2.out (Lib.hid (by rw [Lib.byteCells_length]; have := hF.out; have := hN.out.2; have := hs.out; omega)) hz2.out)
        have hw2 : Hid (wordsOf s = pre ++ wordsI tl (cur ++ f.data.toList)) := Lib.hid (by have := hw2.out; rw [if_neg hbl] at this; exact this)
        clear hbl
        gi_wp2_with (
          refine ⟨trivial, ?_⟩
          first
          | (gi_at_call 102
             refine (callsIn_wide.2 hfold.out).mono ?_
             rintro e w3 ⟨rfl, rfl⟩)
          | (gi_at_call 75
             refine (callsIn_wide.2 hwr.out).mono ?_
             rintro e w4 ⟨rfl, hb4, hbl4, hk4⟩)
          | (gi_at_call 103
             exfalso
             exact absurd ‹(!f.toList == [32]) = false› (by rw [hne]; decide)))
        obtain ⟨cs0, fr0, hblk⟩ := isB_blk hb2.out
        obtain ⟨hit4, hpos4⟩ := SIt_others hI2.out.1 hk4 hblk
        refine ⟨Lib.hid ⟨pre, tl, cur ++ f.data.toList, hJ.out _ _ _ hJ2.out ((Kp.refl _ w2).others hk4 hbl4 hblk), hit4, Mp_others hm2.out hk4 hblk, ?_, hw2.out, ?_, ?_, ?_⟩, by rw [hpos4]; exact hI2.out.2⟩
        · have e : Lib.byteCells cur ++ Lib.strCells f = Lib.byteCells (cur ++ f.data.toList) := by simp [Lib.byteCells, Lib.strCells]
          rw [← e]; exact hb4
        · have := hN.out.1; omega
        · have e : f.data.toList.length = f.size := Array.length_toList
          have := hN.out.2; have := hF.out
          rw [List.length_append, e]; omega
        · exact Nat.le_trans hz2.out hbl4.size
end Go.Proofs.YtnidmikcjkaegaaGreatDoor
