/-
  What is proved here: the contracts of merge.collector's methods. Conditions: the list is not empty; the fields are small.
-/
import Derived.Test.YtnidmikcjkaegaaGreatDoorColl
namespace Go.Proofs.YtnidmikcjkaegaaGreatDoor
open Go Go.RowKit Go.ML Go.Shelf

/-- What a method of the collector answers: what is kept, in the same row. -/
def KeepOk (fn : FuncId) (mode : List GSaid → List GSaid) : Prop :=
  ∀ (H : Hts) (w : World) (cb g cap base : Nat) (xs : List GSaid) (cells : List Value), Fit H w → w.heap[cb]? = some (.cells #[.slice (some ⟨g, 0, none⟩) xs.length cap] 58 (0, 0)) → OwnAt H w base g xs.length cap cells → Rels eSaid H w xs cells →
    0 < xs.length → (∀ x ∈ xs, SmallF x.field) → xs.length ≤ 1000000 → cb ≠ g →
    Calls Tryz.prog fn #[.pointer (some ⟨cb, 0, none⟩)] w (Ret fun v w' => ∃ cells', v = .slice (some ⟨g, 0, none⟩) (mode xs).length cap ∧ OwnAt H w' base g (mode xs).length cap cells' ∧ Rels eSaid H w' (mode xs) cells' ∧ Chg g none w w' ∧ Fit H w')

def modeFirst (xs : List GSaid) : List GSaid := match xs with
  | [] => []
  | x :: r => keepF (delFirst x) [] (x :: r)
def modeAll (xs : List GSaid) : List GSaid := keepF delAll [] xs

theorem OwnAt.glt {H : Hts} {w : World} {base g n cap : Nat} {cells : List Value} (h : OwnAt H w base g n cap cells) (hn : 0 < n) : g < w.heap.size := by
  obtain ⟨g', _, e1, _, hlt⟩ := h.1.form hn
  injection e1 with e1; injection e1 with e1; injection e1 with e1; subst e1; exact hlt
theorem OwnAt.alloc {H : Hts} {w : World} {base g n cap : Nat} {cells : List Value} (h : OwnAt H w base g n cap cells) (o : Obj) : OwnAt H (w.alloc o) base g n cap cells := ⟨h.1.alloc o, h.2⟩
theorem Chg.before {g : Nat} {m : Option Nat} {w w1 w' : World} (h : Chg g m w1 w') (hb : Below w.heap.size w w1) (hm : ∀ k, m = some k → w.heap.size ≤ k) : Chg g none w w' :=
  ⟨h.os.trans hb.os, h.tape.trans hb.tape, h.output.trans hb.output, Nat.le_trans hb.size h.size, fun k hk h1 _ => (h.block k (Nat.lt_of_lt_of_le hk hb.size) h1 (fun e => by have := hm k e.symm; omega)).trans (hb.block k hk)⟩

set_option maxRecDepth 10000 in
theorem local_ok : KeepOk 31 id := by
  intro H w cb g cap base xs cells hf hc hr hrl _ _ _ _
  have B1 := blk1 hc
  have HR := Lib.hid (And.intro hf (And.intro hr hrl))
  clear hf hc hr hrl
  go_enter Tryz.func31, Tryz.ntmps31
  go_wp2
  go_ret
  exact Ret.mk ⟨cells, rfl, HR.out.2.1, HR.out.2.2, Chg.refl _ _ _, HR.out.1⟩

set_option maxRecDepth 10000 in
set_option maxHeartbeats 400000 in
theorem first_ok : KeepOk 32 modeFirst := by
  intro H w cb g cap base xs cells hf hc hr hrl hpos hsm hn hne
  obtain ⟨x0, r, rfl⟩ : ∃ x0 r, xs = x0 :: r := by cases xs with | nil => simp at hpos | cons a b => exact ⟨a, b, rfl⟩
  have hglt := hr.glt hpos
  have hclt := lt_of_block hc
  have hclos : Clos 54 #[.pointer (some ⟨w.heap.size, 0, none⟩)] g none 0 H (fun _ => True) (delFirst x0) (fun _ w' => S1 w.heap.size cb g (x0 :: r).length cap x0 w') :=
    ⟨enters_of Tryz.func54 (by kernel_rfl) rfl, fun pre x cs w' hf' hs _ hrel => (first1_spec hrel hs hpos).mono (by
        rintro e w'' ⟨rfl, hg⟩
        refine ⟨rfl, hs.keep ⟨hg.os, hg.tape, hg.output, hg.size, fun k hk _ => hg.block k hk (by simp)⟩ (fun o ho => ?_), hg⟩
        have hlt : g < w'.heap.size := World.block_lt_of_cell? w' ⟨g, 4, none⟩ hs.src
        exact hg.cell_far ⟨g, o, none⟩ hlt (by simp)),
      fun pre w' w'' hs hg hc' => hs.keep hg hc', fun k hk => by cases hk⟩
  have hst : S1 w.heap.size cb g (x0 :: r).length cap x0 (w.alloc (.cells #[.pointer (some ⟨cb, 0, none⟩)] 55)) := by
    obtain ⟨c, r', rfl, hx, _⟩ := (Rels.head (k := 0) (xs := x0 :: r) hrl hpos)
    obtain ⟨v, rfl, _⟩ := (hx : ∃ v, _)
    refine ⟨blk_new w _, blk_old hc _, ?_, ?_, ⟨by omega, hne⟩⟩
    · rw [World.cell?_alloc_lt w _ ⟨g, 4, none⟩ hglt, hr.1.cellAt 4 (by simp; omega)]; rfl
    · rw [World.cell?_alloc_lt w _ ⟨g, 5, none⟩ hglt, hr.1.cellAt 5 (by simp; omega)]; rfl
  have hdel := Lib.hid (deleteFunc_spec (w := w.alloc (.cells #[.pointer (some ⟨cb, 0, none⟩)] 55)) hclos (hf.alloc _) (hr.alloc _) (hrl.evo ((Evo.refl _ _).alloc _)) hst (Lib.hid (fun _ _ => trivial)) (Lib.hid hn) (Lib.hid (fun k hk => by cases hk)) (Lib.hid (fun _ => by simp [delFirst])))
  have B1 := blk1 hc
  have B2 := blk1 (blk_old hc (.cells #[.pointer (some ⟨cb, 0, none⟩)] 55))
  clear hst hclos hf hr hrl hc hsm hpos hn
  go_enter Tryz.func32, Tryz.ntmps32
  go_wp2_with (go_at_call 53; refine hdel.out.mono ?_; rintro e w' ⟨v, rfl, cells', rfl, h1, h2, h3, h4⟩)
  go_ret
  exact Ret.mk ⟨cells', rfl, h1, h2, h3.before ((Below.refl _ w).alloc (Nat.le_refl _) _) (fun k hk => by cases hk), h4⟩

set_option maxRecDepth 10000 in
set_option maxHeartbeats 400000 in
theorem all_ok : KeepOk 33 modeAll := by
  intro H w cb g cap base xs cells hf hc hr hrl hpos hsm hn hne
  have hglt := hr.glt hpos
  have hclt := lt_of_block hc
  have hmm := @run_makeMap Tryz.prog
  have hclos : Clos 55 #[.pointer (some ⟨w.heap.size + 1, 0, none⟩)] g (some w.heap.size) 0 H (fun x => SmallF x.field) delAll (fun pre w' => S2 (w.heap.size + 1) w.heap.size (seenT pre) w') :=
    ⟨enters_of Tryz.func55 (by kernel_rfl) rfl, fun pre x cs w' hf' hs hq hrel => (all1_spec hf' hrel (Lib.hid hq) hs).mono (by
        rintro e w'' ⟨rfl, h1, h2⟩
        refine ⟨rfl, ?_, h2⟩
        rw [show seenT (pre ++ [x]) = seenStep (seenT pre) x by simp [seenT]]
        exact h1),
      fun pre w' w'' hs hg _ => ⟨hs.mp.grown hg (fun e => by injection e with e; omega), (hg.block _ (lt_of_block hs.box) (fun e => by injection e with e; omega)).trans hs.box⟩,
      fun k hk => by injection hk with hk; subst hk; exact ⟨hf _ (Nat.le_refl _), by omega, Nat.zero_le _⟩⟩
  have hst : S2 (w.heap.size + 1) w.heap.size (seenT []) ((w.alloc (.map #[] 0)).alloc (.cells #[.map (some w.heap.size)] 107)) :=
    ⟨(Mp.made w).alloc _, (blk_two _ _ _).2⟩
  have hdel := Lib.hid (deleteFunc_spec (w := (w.alloc (.map #[] 0)).alloc (.cells #[.map (some w.heap.size)] 107)) hclos ((hf.alloc _).alloc _) ((hr.alloc _).alloc _) (hrl.evo (((Evo.refl _ _).alloc _).alloc _)) hst (Lib.hid hsm) (Lib.hid hn) (Lib.hid (fun k hk => by injection hk with hk; subst hk; simp; omega)) (Lib.hid (fun _ => rfl)))
  have B1 := blk1 hc
  have B2 := blk1 (blk_old (blk_old hc (.map #[] 0)) (.cells #[.map (some w.heap.size)] 107))
  clear hst hclos hf hr hrl hc hsm hpos hn
  go_enter Tryz.func33, Tryz.ntmps33
  go_wp2_with (go_at_call 53; refine hdel.out.mono ?_; rintro e w' ⟨v, rfl, cells', rfl, h1, h2, h3, h4⟩)
  go_ret
  exact Ret.mk ⟨cells', rfl, h1, h2, h3.before (((Below.refl _ w).alloc (Nat.le_refl _) _).alloc (by simp) _) (fun k hk => by injection hk with hk; omega), h4⟩
end Go.Proofs.YtnidmikcjkaegaaGreatDoor
