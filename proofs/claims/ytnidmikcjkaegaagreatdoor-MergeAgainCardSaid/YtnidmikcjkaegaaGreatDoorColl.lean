/-
  What is proved here: the closures that merge.collector's methods hand to slices.DeleteFunc. Conditions: the fields are small.
-/
import Derived.Test.YtnidmikcjkaegaaGreatDoorDel2
import Derived.Test.YtnidmikcjkaegaaGreatDoorKey
import Derived.Test.YtnidmikcjkaegaaGreatDoorKeys
import Derived.Deep.QuietTactic
import Derived.BigQuiet
import Derived.Deep.RegionHeld3
namespace Go.Proofs.YtnidmikcjkaegaaGreatDoor
open Go Go.RowKit Go.ML Go.Shelf

structure S1 (pb cb g n cap : Nat) (x0 : GSaid) (w : World) : Prop where
  pbox : w.heap[pb]? = some (.cells #[.pointer (some ⟨cb, 0, none⟩)] 55 (0, 0))
  cbox : w.heap[cb]? = some (.cells #[.slice (some ⟨g, 0, none⟩) n cap] 58 (0, 0))
  src : w.cell? ⟨g, 4, none⟩ = some (.int .i64 x0.frm.src)
  num : w.cell? ⟨g, 5, none⟩ = some (.int .i64 x0.frm.num)
  ne : pb ≠ g ∧ cb ≠ g

theorem S1.keep {pb cb g n cap : Nat} {x0 : GSaid} {w w' : World} (h : S1 pb cb g n cap x0 w) (hg : w.grownBy w' (some g)) (hc : ∀ o, o < 6 → w'.cell? ⟨g, o, none⟩ = w.cell? ⟨g, o, none⟩) : S1 pb cb g n cap x0 w' :=
  ⟨(hg.block _ (lt_of_block h.pbox) (fun e => h.ne.1 (Option.some.inj e))).trans h.pbox, (hg.block _ (lt_of_block h.cbox) (fun e => h.ne.2 (Option.some.inj e))).trans h.cbox, (hc 4 (by omega)).trans h.src, (hc 5 (by omega)).trans h.num, h.ne⟩

theorem run_neqRec (a b c d : Int) (w : World) : (binOp .neq 34 (.agg #[.int .i64 a, .int .i64 b]) (.agg #[.int .i64 c, .int .i64 d])).run Tryz.prog w = .ok (.bool (decide ((⟨a, b⟩ : GRec) ≠ ⟨c, d⟩))) w := by
  have h := eqRec ⟨a, b⟩ ⟨c, d⟩ w
  simp only [vRec] at h
  simp only [binOp, Sem.run_bind, h, Result.andThen_ok]
  simp [Sem.run_pure]

def delFirst (x0 : GSaid) (_ : List GSaid) (x : GSaid) : Bool := !decide (x.frm.src = x0.frm.src) || !decide (x.frm.num = x0.frm.num)

set_option maxRecDepth 10000 in
set_option maxHeartbeats 1000000 in
theorem first1_spec {H : Hts} {w : World} {x x0 : GSaid} {cs : List Value} {pb cb g n cap : Nat} (h : eSaid.rel H w x cs) (hs : S1 pb cb g n cap x0 w) (hn : 0 < n) :
    Calls Tryz.prog 54 #[.agg cs.toArray, .pointer (some ⟨pb, 0, none⟩)] w fun e w' => e = .returned (.bool (delFirst x0 [] x)) ∧ w.grownBy w' none := by
  obtain ⟨v, rfl, hsl⟩ := (h : ∃ v, _)
  obtain ⟨a, c, rfl, _, _⟩ := hsl.form
  clear hsl
  obtain ⟨W, hW⟩ : ∃ W, W = w.alloc (.cells #[.string x.field.tag, .string x.field.ind, .string x.field.data, .slice a x.field.subs.length c, .int .i64 x.frm.src, .int .i64 x.frm.num] 60) := ⟨_, rfl⟩
  have B1 := blk6 (hW ▸ blk_new w _)
  have B2 := blk1 (hW ▸ blk_old hs.pbox _)
  have B3 := blk1 (hW ▸ blk_old hs.cbox _)
  have B4 : W.cell? ⟨g, 4, none⟩ = some (.int .i64 x0.frm.src) := by rw [hW, World.cell?_alloc_lt w _ ⟨g, 4, none⟩ (lt_of_cell hs.src)]; exact hs.src
  have B5 : W.cell? ⟨g, 5, none⟩ = some (.int .i64 x0.frm.num) := by rw [hW, World.cell?_alloc_lt w _ ⟨g, 5, none⟩ (lt_of_cell hs.num)]; exact hs.num
  have hWg : Hid (w.grownBy W none) := Lib.hid (by rw [hW]; exact World.grownBy_alloc w _ none)
  clear hs
  go_enter Tryz.func54, Tryz.ntmps54
  go_wp2_with fail
  rw [← hW]
  clear hW
  have hq := run_neqRec x.frm.src x.frm.num x0.frm.src x0.frm.num
  go_quiet (fail)
  go_wp2
  go_ret
  exact ⟨rfl, hWg.out.os, hWg.out.tape, hWg.out.output, hWg.out.size, hWg.out.block⟩

/-! ### all -/
def pk (x : GSaid) : ByteArray × ByteArray := (x.field.tag, keyText x.field)
abbrev Seen := List ((ByteArray × ByteArray) × Unit)
def seenStep (T : Seen) (x : GSaid) : Seen := if (mget T (pk x)).isSome then T else mput T (pk x) ()
def seenT (pre : List GSaid) : Seen := pre.foldl seenStep []
def delAll (pre : List GSaid) (x : GSaid) : Bool := (mget (seenT pre) (pk x)).isSome

structure S2 (sb m : Nat) (T : Seen) (w : World) : Prop where
  mp : Mp vPair w m (mapV (fun _ : Unit => Value.bool true) T)
  box : w.heap[sb]? = some (.cells #[.map (some m)] 107 (0, 0))

theorem zeroBool (w : World) : (zeroValue 4).run Tryz.prog w = .ok (.bool false) w := by kernel_rfl

theorem S2.same {sb m : Nat} {T : Seen} {w w' : World} (h : S2 sb m T w) (hb : ∀ k, k < w.heap.size → w'.heap[k]? = w.heap[k]?) : S2 sb m T w' :=
  ⟨h.mp.same (hb _ h.mp.lt), (hb _ (lt_of_block h.box)).trans h.box⟩

set_option maxRecDepth 10000 in
set_option maxHeartbeats 2000000 in
theorem all1_spec {H : Hts} {w : World} {x : GSaid} {cs : List Value} {sb m : Nat} {T : Seen} (hf : Fit H w) (h : eSaid.rel H w x cs) (hx : Hid (SmallF x.field)) (hs : S2 sb m T w) :
    Calls Tryz.prog 55 #[.agg cs.toArray, .pointer (some ⟨sb, 0, none⟩)] w fun e w' => e = .returned (.bool (mget T (pk x)).isSome) ∧ S2 sb m (seenStep T x) w' ∧ w.grownBy w' (some m) := by
  obtain ⟨v, rfl, hsl⟩ := (h : ∃ v, _)
  obtain ⟨a, c, rfl, _, _⟩ := hsl.form
  obtain ⟨W, hW⟩ : ∃ W, W = w.alloc (.cells #[.string x.field.tag, .string x.field.ind, .string x.field.data, .slice a x.field.subs.length c, .int .i64 x.frm.src, .int .i64 x.frm.num] 60) := ⟨_, rfl⟩
  have hblk : W.heap[w.heap.size]? = some (.cells #[.string x.field.tag, .string x.field.ind, .string x.field.data, .slice a x.field.subs.length c, .int .i64 x.frm.src, .int .i64 x.frm.num] 60 (0, 0)) := hW ▸ blk_new w _
  have B1 := blk6 hblk
  have hkey := Lib.hid (fun (w' : World) (hb : Below w.heap.size w w') => key_spec (H := H) (w := w') (x := x.field) (cs := [.string x.field.tag, .string x.field.ind, .string x.field.data, .slice a x.field.subs.length c]) (fun b hb' => hf b (Nat.le_trans hb.size hb')) ⟨_, rfl, hsl.evo ((Ext.of_below hf hb).evo hf)⟩ hx)
  have HW := Lib.hid (And.intro hW hs)
  have hW2 := Lib.hid hW
  have hWs : W.heap.size = w.heap.size + 1 := by rw [hW]; simp
  have HSo : Hid (∀ w', Below W.heap.size W w' → Below W.heap.size W w' ∧ (w'.cell? ⟨w.heap.size, 0, none⟩ = some (.string x.field.tag) ∧ w'.cell? ⟨w.heap.size, 1, none⟩ = some (.string x.field.ind) ∧ w'.cell? ⟨w.heap.size, 2, none⟩ = some (.string x.field.data) ∧ w'.cell? ⟨w.heap.size, 3, none⟩ = some (.slice a x.field.subs.length c))) :=
    Lib.hid fun w' hb => ⟨hb, (hb.cell (p := ⟨w.heap.size, 0, none⟩) (by simp [hWs])).trans B1.1.1, (hb.cell (p := ⟨w.heap.size, 1, none⟩) (by simp [hWs])).trans B1.2.1.1, (hb.cell (p := ⟨w.heap.size, 2, none⟩) (by simp [hWs])).trans B1.2.2.1.1, (hb.cell (p := ⟨w.heap.size, 3, none⟩) (by simp [hWs])).trans B1.2.2.2.1.1⟩
  have HB0 : Hid (Below W.heap.size W W.drew) := Lib.hid (Below.refl _ W).drew
  have HB1 : Hid (∀ o, Below W.heap.size W (W.alloc o).drew) := Lib.hid fun o => ((Below.refl _ W).alloc (Nat.le_refl _) o).drew
  have HBt : Hid (∀ w' w'', Below W.heap.size W w' → Ext H w' H w'' → Below W.heap.size W w'') := Lib.hid fun w' w'' h1 h2 => h1.trans (h2.below.mono h1.size)
  have HBa : Hid (∀ w' o, Below W.heap.size W w' → Below W.heap.size W (w'.alloc o)) := Lib.hid fun w' o h1 => h1.alloc h1.size o
  have HBs : Hid (∀ w' u v, Below W.heap.size W w' → Below W.heap.size W ((w'.setCell ⟨W.heap.size, 0, none⟩ u).setCell ⟨W.heap.size, 1, none⟩ v)) := Lib.hid fun w' u v h1 => (h1.setCell (p := ⟨W.heap.size, 0, none⟩) (Nat.le_refl _) u).setCell (p := ⟨W.heap.size, 1, none⟩) (Nat.le_refl _) v
  have hkey2 := Lib.hid (fun (w' : World) (hb : Below W.heap.size W w') => hkey.out w' (((hW ▸ (Below.refl _ w).alloc (Nat.le_refl _) _ : Below w.heap.size w W)).trans (hb.mono (by omega))))
  clear hs hsl hf hblk
  go_enter Tryz.func55, Tryz.ntmps55
  go_wp2_with fail
  rw [← hW]
  clear hW
  clear hkey hWs
  go_region_held3 (fun w' => Below W.heap.size W w' ∧ (w'.cell? ⟨w.heap.size, 0, none⟩ = some (.string x.field.tag) ∧ w'.cell? ⟨w.heap.size, 1, none⟩ = some (.string x.field.ind) ∧ w'.cell? ⟨w.heap.size, 2, none⟩ = some (.string x.field.data) ∧ w'.cell? ⟨w.heap.size, 3, none⟩ = some (.slice a x.field.subs.length c)))
    (first
      | exact HSo.out _ HB0.out
      | exact HSo.out _ (HB1.out _)
      | exact HSo.out _ (HBt.out _ _ HB0.out hext)
      | exact HSo.out _ (HBt.out _ _ (HB1.out _) hext)
      | exact HSo.out _ (HBa.out _ _ (HBt.out _ _ HB0.out hext))
      | exact HSo.out _ (HBs.out _ _ _ (HBt.out _ _ (HB1.out _) hext)))
    (first
      | (go_at_call 56; refine (hkey2.out _ ?_).mono ?_; exact HB0.out; rintro e w1 ⟨rfl, hext⟩)
      | (go_at_call 56; refine (hkey2.out _ ?_).mono ?_; exact HB1.out _; rintro e w1 ⟨rfl, hext⟩; have C2 := blk2 (hext.blk (blk_new W _))))
  · have hfin : Hid (Below W.heap.size W (w1.alloc (.cells #[.string x.field.tag, .string (keyText x.field)] 109))) := Lib.hid (HBa.out _ _ (HBt.out _ _ HB0.out hext))
    have C2 := blk2 (blk_new w1 (.cells #[.string x.field.tag, .string (keyText x.field)] 109))
    clear hext hkey2 HSo HB0 HB1 HBt HBa HBs
    generalize hwf : w1.alloc (.cells #[.string x.field.tag, .string (keyText x.field)] 109) = wf at *
    clear hwf
    generalize w1.heap.size = q at *
    have hs2 : S2 sb m T wf := HW.out.2.same (fun k hk => (hfin.out.block k (by rw [HW.out.1]; simp; omega)).trans (by rw [HW.out.1]; exact Below.heap_alloc _ _ k hk))
    have hbx := blk1 hs2.box
    have hmp := hs2.mp
    have hbb := Lib.hid hs2.box
    have hgr : Hid (w.grownBy wf (some m)) := Lib.hid (by
      have h2 := ((hW2.out ▸ (Below.refl _ w).alloc (Nat.le_refl _) _ : Below w.heap.size w W)).trans (hfin.out.mono (by rw [hW2.out]; simp))
      exact ⟨h2.os, h2.tape, h2.output, h2.size, fun k hk _ => h2.block k hk⟩)
    clear hs2 B1 hfin
    have hml : Hid (m < w.heap.size) := Lib.hid HW.out.2.mp.lt
    have hsl : Hid (sb < w.heap.size) := Lib.hid (lt_of_block HW.out.2.box)
    have hmg : mget (mapV (fun _ : Unit => Value.bool true) T) (pk x) = (mget T (pk x)).map (fun _ => Value.bool true) := mget_mapV _ _ _
    cases hg : mget T (pk x) with
    | some u =>
      rw [hg] at hmg
      have hlk := Lib.hid (show lookVal false (.bool false) (mget (mapV (fun _ : Unit => Value.bool true) T) (pk x)) = .bool true by rw [hmg]; rfl)
      have hfin2 : Hid (seenStep T x = T) := Lib.hid (by simp [seenStep, hg])
      have hgH := Lib.hid hg
      clear hmg hg
      go_wp2_with (at_lookup; refine lookup_law rfl _ _ false rfl keyPair Tryz.underlying107 zeroBool rfl hmp (pk x) rfl ?_; rw [hlk.out])
      go_ret
      rw [hfin2.out]
      exact ⟨by rw [hgH.out]; rfl, ⟨hmp, hbb.out⟩, hgr.out⟩
    | none =>
      rw [hg] at hmg
      have hlk := Lib.hid (show lookVal false (.bool false) (mget (mapV (fun _ : Unit => Value.bool true) T) (pk x)) = .bool false by rw [hmg]; rfl)
      have hfin2 : Hid (seenStep T x = mput T (pk x) ()) := Lib.hid (by simp [seenStep, hg])
      have hgH := Lib.hid hg
      clear hmg hg
      go_wp2_with (first
        | (at_lookup; refine lookup_law rfl _ _ false rfl keyPair Tryz.underlying107 zeroBool rfl hmp (pk x) rfl ?_; rw [hlk.out])
        | (at_mapUpdate; refine update_law rfl _ _ _ rfl keyPair Tryz.underlying107 rfl hmp (pk x) rfl (.bool true) rfl ?_; intro w3 k1 k2 k3; go_frame))
      go_ret
      rw [hfin2.out]
      refine ⟨by rw [hgH.out]; rfl, ⟨?_, ?_⟩, hgr.out.trans k2⟩
      · rw [← mput_mapV]; exact k1
      · refine (k2.block sb ?_ ?_).trans hbb.out
        · exact lt_of_block hbb.out
        · intro e
          injection e with e
          subst e
          exact hmp.nocells _ _ _ hbb.out
  · have hfin : Hid (Below W.heap.size W ((w1.setCell ⟨W.heap.size, 0, none⟩ (.string x.field.tag)).setCell ⟨W.heap.size, 1, none⟩ (.string (keyText x.field)))) := Lib.hid (HBs.out _ _ _ (HBt.out _ _ (HB1.out _) hext))
    have C3 := blk2 (setCell1_blk (frozen_setCell0 (hext.blk (blk_new W _)) (.string x.field.tag)) (.string (keyText x.field)))
    clear hext hkey2 HSo HB0 HB1 HBt HBa HBs C2
    generalize hwf : (w1.setCell ⟨W.heap.size, 0, none⟩ (.string x.field.tag)).setCell ⟨W.heap.size, 1, none⟩ (.string (keyText x.field)) = wf at *
    clear hwf
    have hs2 : S2 sb m T wf := HW.out.2.same (fun k hk => (hfin.out.block k (by rw [HW.out.1]; simp; omega)).trans (by rw [HW.out.1]; exact Below.heap_alloc _ _ k hk))
    have hbx := blk1 hs2.box
    have hmp := hs2.mp
    have hbb := Lib.hid hs2.box
    have hgr : Hid (w.grownBy wf (some m)) := Lib.hid (by
      have h2 := ((hW2.out ▸ (Below.refl _ w).alloc (Nat.le_refl _) _ : Below w.heap.size w W)).trans (hfin.out.mono (by rw [hW2.out]; simp))
      exact ⟨h2.os, h2.tape, h2.output, h2.size, fun k hk _ => h2.block k hk⟩)
    clear hs2 B1 hfin
    have hml : Hid (m < w.heap.size) := Lib.hid HW.out.2.mp.lt
    have hsl : Hid (sb < w.heap.size) := Lib.hid (lt_of_block HW.out.2.box)
    have hmg : mget (mapV (fun _ : Unit => Value.bool true) T) (pk x) = (mget T (pk x)).map (fun _ => Value.bool true) := mget_mapV _ _ _
    cases hg : mget T (pk x) with
    | some u =>
      rw [hg] at hmg
      have hlk := Lib.hid (show lookVal false (.bool false) (mget (mapV (fun _ : Unit => Value.bool true) T) (pk x)) = .bool true by rw [hmg]; rfl)
      have hfin2 : Hid (seenStep T x = T) := Lib.hid (by simp [seenStep, hg])
      have hgH := Lib.hid hg
      clear hmg hg
      go_wp2_with (at_lookup; refine lookup_law rfl _ _ false rfl keyPair Tryz.underlying107 zeroBool rfl hmp (pk x) rfl ?_; rw [hlk.out])
      go_ret
      rw [hfin2.out]
      exact ⟨by rw [hgH.out]; rfl, ⟨hmp, hbb.out⟩, hgr.out⟩
    | none =>
      rw [hg] at hmg
      have hlk := Lib.hid (show lookVal false (.bool false) (mget (mapV (fun _ : Unit => Value.bool true) T) (pk x)) = .bool false by rw [hmg]; rfl)
      have hfin2 : Hid (seenStep T x = mput T (pk x) ()) := Lib.hid (by simp [seenStep, hg])
      have hgH := Lib.hid hg
      clear hmg hg
      go_wp2_with (first
        | (at_lookup; refine lookup_law rfl _ _ false rfl keyPair Tryz.underlying107 zeroBool rfl hmp (pk x) rfl ?_; rw [hlk.out])
        | (at_mapUpdate; refine update_law rfl _ _ _ rfl keyPair Tryz.underlying107 rfl hmp (pk x) rfl (.bool true) rfl ?_; intro w3 k1 k2 k3; go_frame))
      go_ret
      rw [hfin2.out]
      refine ⟨by rw [hgH.out]; rfl, ⟨?_, ?_⟩, hgr.out.trans k2⟩
      · rw [← mput_mapV]; exact k1
      · refine (k2.block sb ?_ ?_).trans hbb.out
        · exact lt_of_block hbb.out
        · intro e
          injection e with e
          subst e
          exact hmp.nocells _ _ _ hbb.out
end Go.Proofs.YtnidmikcjkaegaaGreatDoor
