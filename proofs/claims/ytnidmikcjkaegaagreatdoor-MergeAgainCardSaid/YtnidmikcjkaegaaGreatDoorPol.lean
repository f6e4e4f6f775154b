/-
  What is proved here: the contract of merge.policies, of merge.policy.holds and of the search for a tag's policy. No condition.
-/
import Derived.Test.YtnidmikcjkaegaaGreatDoorColl2
namespace Go.Proofs.YtnidmikcjkaegaaGreatDoor
open Go Go.RowKit Go.ML

structure GPol where
  begin_ : ByteArray
  fn : FuncId

def vFn (f : FuncId) : Value := .func (.func f) #[] #[]
def ePol : Enc GPol where
  ty := 67
  sz := 2
  pos := by decide
  rel _ _ x cs := cs = [.string x.begin_, vFn x.fn]
  len h := by subst h; rfl
  evo _ h := h
  one h := by subst h; simp [Value.oneCell', vFn]

theorem okPol : EncOk Tryz.prog 62 ePol 24 := ⟨Tryz.underlying62, by kernel_rfl, by decide⟩

def begins : List ByteArray := [⟨#[48, 48]⟩, ⟨#[48, 49, 48]⟩, ⟨#[48, 52, 48]⟩, ⟨#[49, 48, 48]⟩, ⟨#[49, 49, 48]⟩, ⟨#[50, 52, 53]⟩]
def polsAt (k : Nat) : List GPol := ⟨⟨#[57]⟩, 31⟩ :: (begins.take k).map (fun b => ⟨b, 32⟩)
def pols : List GPol := polsAt 6 ++ [⟨⟨#[]⟩, 33⟩]

theorem polsAt_len (k : Nat) (hk : k ≤ 6) : (polsAt k).length = k + 1 := by
  unfold polsAt
  simp [begins]
  omega
theorem polsAt_succ (k : Nat) (hk : k < 6) : polsAt (k + 1) = polsAt k ++ [⟨begins[k]'(by simpa [begins] using hk), 32⟩] := by
  unfold polsAt
  rw [List.take_succ_eq_append_getElem (show k < begins.length by simpa [begins] using hk), List.map_append]
  rfl

/-- The loop of policies. -/
structure PolAt (H : Hts) (w : World) (k : Nat) (v : Value) (wr : World) : Prop where
  ext : Ext H w H wr
  own : ML.Own ePol H wr w.heap.size (polsAt k) v
  strs : ∀ j (h : j < 6), wr.cell? ⟨w.heap.size + 1, j, none⟩ = some (.string (begins[j]'(by simpa [begins] using h)))
  ne : v.ownBlock ≠ some (w.heap.size + 1)
  lt : w.heap.size + 1 < wr.heap.size

set_option maxRecDepth 10000 in
set_option maxHeartbeats 1000000 in
theorem policies_spec {H : Hts} {w : World} (hf : Fit H w) :
    Calls Tryz.prog 17 #[] w (Ret fun v w' => Ext H w H w' ∧ ML.Own ePol H w' w.heap.size pols v) := by
  have HF := Lib.hid hf
  clear hf
  have h0 : Hid (PolAt H w 0 (.slice (some ⟨w.heap.size, 0, none⟩) 1 1) ((w.alloc (.cells #[.string ⟨#[57]⟩, .func (.func 31) #[] #[]] 67)).alloc (.cells #[.string ⟨#[48, 48]⟩, .string ⟨#[48, 49, 48]⟩, .string ⟨#[48, 52, 48]⟩, .string ⟨#[49, 48, 48]⟩, .string ⟨#[49, 49, 48]⟩, .string ⟨#[50, 52, 53]⟩] 9))) := by
    have hb := blk_two w (.cells #[.string ⟨#[57]⟩, .func (.func 31) #[] #[]] 67) (.cells #[.string ⟨#[48, 48]⟩, .string ⟨#[48, 49, 48]⟩, .string ⟨#[48, 52, 48]⟩, .string ⟨#[49, 48, 48]⟩, .string ⟨#[49, 49, 48]⟩, .string ⟨#[50, 52, 53]⟩] 9)
    refine Lib.hid ⟨((Ext.refl HF.out).alloc _).alloc _, ⟨[.string ⟨#[57]⟩, vFn 31], ⟨rfl, .inr ⟨_, 1, _, rfl, Nat.le_refl _, hb.1, Nat.le_refl _, by decide, rfl, rfl⟩⟩, Rels.single rfl, fun b hb' => ?_⟩, ?_, ?_, by simp⟩
    · simp [Value.ownBlock] at hb'
      subst hb'
      exact HF.out _ (Nat.le_refl _)
    · intro j hj
      have c6 := blk6 hb.2
      match j, hj with
      | 0, _ => exact c6.1.1
      | 1, _ => exact c6.2.1.1
      | 2, _ => exact c6.2.2.1.1
      | 3, _ => exact c6.2.2.2.1.1
      | 4, _ => exact c6.2.2.2.2.1.1
      | 5, _ => exact c6.2.2.2.2.2.1
    · simp [Value.ownBlock]
  go_enter Tryz.func17, Tryz.ntmps17
  go_wp2_with fail
  go_loopw [1, 8] (fun v i wr => ∃ k : Nat, k ≤ 6 ∧ i = .int .i64 k ∧ Hid (PolAt H w k v wr)) (fun _ i _ => 6 - (intOf i).toNat)
  case atStart => exact ⟨0, by omega, rfl, h0⟩
  case round =>
    clear h0
    obtain ⟨k, hk, rfl, hm⟩ := hrel
    obtain ⟨a, c, rfl, hc1, hc2⟩ := hm.out.own.form
    by_cases hlt : k < 6
    · have hst := hm.out.strs k hlt
      have hbl : begins.length = 6 := rfl
      have hstep := Lib.hid (polsAt_succ k hlt)
      generalize hb : begins[k]'(by simpa [begins] using hlt) = bk at *
      clear hb hbl
      have hl := polsAt_len k (by omega)
      have ho := Lib.hid hm.out.own
      have hfit := Lib.hid hm.out.ext.fit
      go_wp2_with (at_builtin; refine append_law (H := H) (E := ePol) rfl _ _ _ rfl okPol (hfit.out.alloc _) (xs := polsAt k) (ys := [⟨bk, 32⟩]) rfl (base := w.heap.size) (ho.out.alloc _) rfl rfl (Rels.single rfl) (World.news_of_block (blk_new wr _)) (by decide) (by rw [hl]; simp; omega) (by have := hm.out.lt; simp; omega) ?_; intro g cap w' k1 _ k3 k4 k5 k6 k7 k8)
      refine ⟨⟨k + 1, by omega, by go_num, Lib.hid ⟨k8 _ _ (Nat.le_refl _) (hm.out.ext.alloc _), ?_, fun j hj => ?_, ?_, Nat.lt_of_lt_of_le hm.out.lt (by have := k4.size; simp at this; omega)⟩⟩, by simp [intOf]; omega⟩
      · rw [hstep.out]; simpa [hl] using k1
      · have h1 : (wr.alloc (.cells #[.string bk, .func (.func 32) #[] #[]] 67)).cell? ⟨w.heap.size + 1, j, none⟩ = _ := (World.cell?_alloc_lt wr _ ⟨w.heap.size + 1, j, none⟩ (lt_of_cell (hm.out.strs j hj))).trans (hm.out.strs j hj)
        exact (k4.cell_far ⟨w.heap.size + 1, j, none⟩ (lt_of_cell h1) (fun e => hm.out.ne e.symm)).trans h1
      · intro e
        simp [Value.ownBlock] at e
        subst e
        rcases k5 with k5 | k5
        · exact hm.out.ne k5
        · simp at k5; have := hm.out.lt; omega
    · have : k = 6 := by omega
      subst this
      have hl := polsAt_len 6 (by omega)
      have ho := Lib.hid hm.out.own
      have hfit := Lib.hid hm.out.ext.fit
      go_wp2_with (at_builtin; refine append_law (H := H) (E := ePol) rfl _ _ _ rfl okPol (hfit.out.alloc _) (xs := polsAt 6) (ys := [⟨⟨#[]⟩, 33⟩]) rfl (base := w.heap.size) (ho.out.alloc _) rfl rfl (Rels.single rfl) (World.news_of_block (blk_new wr _)) (by decide) (by rw [hl]; simp) (by have := hm.out.lt; simp; omega) ?_; intro g cap w' k1 _ k3 k4 k5 k6 k7 k8)
      go_ret
      exact Ret.mk ⟨k8 _ _ (Nat.le_refl _) (hm.out.ext.alloc _), k1⟩
end Go.Proofs.YtnidmikcjkaegaaGreatDoor
