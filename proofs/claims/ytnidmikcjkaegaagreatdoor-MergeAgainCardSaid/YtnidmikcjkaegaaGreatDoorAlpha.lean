/-
  What is proved here: contracts of keys.alphabet and keys.letters. Conditions: the rows' lengths are bounded.
-/
import Derived.Test.YtnidmikcjkaegaaGreatDoorCut
import Derived.Test.YtnidmikcjkaegaaGreatDoorFold2
import Derived.Carry
namespace Go.Proofs.YtnidmikcjkaegaaGreatDoor
open Go Go.RowKit Go.ML

abbrev Tab := List (Int × ByteArray)
def rowFold (m : Tab) (f : ByteArray) (l : List Int) : Tab := l.foldl (fun m c => mput m c f) m
def alphaStep (m : Tab) (row : ByteArray) : Tab := rowFold m (cutB row).1 (runesOf (cutB row).2.1)
def alpha (rows : List ByteArray) : Tab := rows.foldl alphaStep []

theorem SIt_ne {κ : Type} {ek : κ → Value} {w : World} {b r : Nat} {l : List (κ × Value)} {s : ByteArray} {todo : List Int} (h : SIt w r s todo) (hm : Mp ek w b l) : b ≠ r := by
  rintro rfl
  obtain ⟨es, cl, hh, _⟩ := hm
  obtain ⟨p0, n0, hh2, _⟩ := h
  rw [hh2] at hh; cases hh
theorem iterPos_same {w w' : World} {r : Nat} (h : w'.heap[r]? = w.heap[r]?) : w'.iterPos r = w.iterPos r := by unfold World.iterPos; rw [h]

def Al1 (H : Hts) (w : World) (rows : List ByteArray) (k : Nat) (wr : World) : Prop :=
  Ext H w H wr ∧ Mp (Value.int .i32) wr w.heap.size (mapV Value.string (alpha (rows.take k)))
def Al2 (H : Hts) (w : World) (r : Nat) (s f : ByteArray) (goal : Tab) (wr : World) : Prop :=
  ∃ m todo, Ext H w H wr ∧ SIt wr r s todo ∧ Mp (Value.int .i32) wr w.heap.size (mapV Value.string m) ∧ rowFold m f todo = goal

set_option maxRecDepth 10000 in
set_option maxHeartbeats 1000000 in
theorem alphabet_spec {H : Hts} {w : World} {rows : List ByteArray} {v : Value} (hf : Fit H w) (h : Sl eStr H w rows v) (hn : Hid (rows.length ≤ 1000000)) (hm : Hid (∀ x ∈ rows, x.size ≤ 1000000)) :
    Calls Tryz.prog 110 #[v] w (Ret fun v' w' => Ext H w H w' ∧ v' = .map (some w.heap.size) ∧ Mp (Value.int .i32) w' w.heap.size (mapV Value.string (alpha rows))) := by
  obtain ⟨a, c, rfl, h1, h2⟩ := h.form
  have hmm := @run_makeMap Tryz.prog
  have hst : Hid (Al1 H w rows 0 (w.alloc (.map #[] 0))) := Lib.hid ⟨(Ext.refl hf).alloc _, Mp.made w⟩
  have HF := Lib.hid hf
  have HS := Lib.hid h
  clear hf h h1 h2
  go_enter Tryz.func110, Tryz.ntmps110
  go_wp2_with fail
  go_loopw [14] (fun i wr => ∃ k : Nat, k ≤ rows.length ∧ i = .int .i64 k ∧ Hid (Al1 H w rows k wr)) (fun i _ => rows.length - (intOf i).toNat)
  case atStart => exact ⟨0, Nat.zero_le _, rfl, hst⟩
  case round =>
    clear hst hmm
    obtain ⟨k, hk, rfl, hm2⟩ := hrel
    have hnn := hn.out
    by_cases hlt : k < rows.length
    · obtain ⟨b, o, c', cs, hv, _, _, hrl, hra⟩ := HS.out.range k hlt
      injection hv with e1 _ e3
      subst e1
      subst e3
      obtain rfl : cs = [.string rows[k]] := hrl
      have hc0 : wr.cell? ⟨b, o + k, none⟩ = some (.string rows[k]) := by have := hra _ _ (hm2.out.1.evo HF.out) 0 _ rfl; simpa [eStr] using this
      have hcut := Lib.hid (fun w => cut_spec rows[k] w (hm.out _ (List.getElem_mem hlt)))
      have hstep : Hid (alpha (rows.take (k + 1)) = alphaStep (alpha (rows.take k)) rows[k]) := by
        unfold alpha; rw [List.take_succ_eq_append_getElem hlt, List.foldl_append]; rfl
      unfold alphaStep at hstep
      clear hra
      generalize cutB rows[k] = q at hcut hstep
      go_wp2_with (go_at_call 114; refine (hcut.out _).mono ?_; rintro e w1 ⟨rfl, m, rfl⟩)
      have hb2 : Hid (Al2 H w wr.heap.size q.2.1 q.1 (alpha (rows.take (k + 1))) ((wr.alloc (.stringIter q.2.1 0)).drewN m)) :=
        Lib.hid ⟨_, _, (hm2.out.1.alloc _).drewN _, SIt.new wr q.2.1, (hm2.out.2.alloc _).drewN _, hstep.out.symm⟩
      have hrge : w.heap.size ≤ wr.heap.size := hm2.out.1.below.size
      clear hm2 hc0
      generalize wr.heap.size = r at *
      go_loopw [10] (fun _ wr' => Hid (Al2 H w r q.2.1 q.1 (alpha (rows.take (k + 1))) wr')) (fun _ wr' => q.2.1.size - wr'.iterPos r)
      case atStart => exact hb2
      case round =>
        clear hb2
        obtain ⟨T, todo, e1, hit, hmp, hg⟩ := hrel.out
        have HX := Lib.hid (And.intro e1 (And.intro hmp hg))
        clear e1 hg hrel
        go_wp2_with (refine snext_law rfl (.tmp 25) rfl rfl hit ?_ ?_)
        · intro hd
          subst hd
          clear hit hmp
          go_wp2
          go_roundw
          case rel => exact ⟨k + 1, by omega, by go_num, Lib.hid ⟨HX.out.1, by have := HX.out.2.2; subst this; exact HX.out.2.1⟩⟩
          case measure => simp [intOf]; omega
        · intro ch tl u w2 ht hc1 hc2 hit2 hg2 hs2 hpos
          subst ht
          have hne : Hid (w.heap.size ≠ r) := SIt_ne hit hmp
          have hm2 := hmp.grown hg2 (fun e => by injection e with e; exact hne.out e)
          have HP := Lib.hid hpos
          have HG := Lib.hid (And.intro hg2 hs2)
          clear hpos hmp hit hg2 hs2
          go_wp2_with (at_mapUpdate; refine update_law rfl _ _ _ rfl (keyInt Tryz.underlying21) Tryz.underlying157 rfl hm2 ch rfl (.string q.1) rfl ?_; intro w3 h1 h2 h3; go_frame)
          have hr3 : w3.heap[r]? = w2.heap[r]? := h2.block r hit2.lt (fun e => by injection e with e; exact hne.out e.symm)
          go_roundw
          case rel =>
            refine Lib.hid ⟨mput T ch q.1, tl, (HX.out.1.grown HG.out.1 (fun k e => by injection e with e; omega)).grown h2 (fun k e => by injection e with e; omega), hit2.same hr3, ?_, HX.out.2.2⟩
            rw [← mput_mapV]; exact h1
          case measure =>
            rw [iterPos_same hr3]
            exact HP.out
    · have : k = rows.length := by omega
      subst this
      go_wp2
      go_ret
      obtain ⟨e1, e2⟩ := hm2.out
      rw [List.take_length] at e2
      exact Ret.mk ⟨e1, rfl, e2⟩
end Go.Proofs.YtnidmikcjkaegaaGreatDoor
