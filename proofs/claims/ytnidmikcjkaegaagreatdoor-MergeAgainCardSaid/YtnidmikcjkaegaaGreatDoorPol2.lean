/-
  What is proved here: the contracts of merge.policy.holds and of the search for a tag's policy. No condition.
-/
import Derived.Test.YtnidmikcjkaegaaGreatDoorPol
namespace Go.Proofs.YtnidmikcjkaegaaGreatDoor
open Go Go.RowKit Go.ML

def holdsB (b tag : ByteArray) : Bool := decide (tag = b) || (decide (b.size < 3) && Lib.hasPrefix tag.data.toList b.data.toList)

theorem bytes_beq (a b : ByteArray) : (a.toList == b.toList) = decide (a = b) := by
  by_cases h : a = b
  · subst h; simp
  · have : a.toList ≠ b.toList := fun e => h (by
      rw [ByteArray.toList_eq, ByteArray.toList_eq] at e
      have e2 : a.data = b.data := Array.toList_inj.1 e
      cases a; cases b; simp at e2; rw [e2])
    simp [this, h]

set_option maxRecDepth 10000 in
set_option maxHeartbeats 400000 in
theorem holds_spec (b tag : ByteArray) (u : Value) (w : World) :
    Calls Tryz.prog 20 #[.agg #[.string b, u], .string tag] w fun e w' => e = .returned (.bool (holdsB b tag)) ∧ w.grownBy w' none := by
  by_cases h1 : tag = b
  · have hq : (tag.toList == b.toList) = true := by rw [bytes_beq]; simpa using h1
    have hr : Hid (holdsB b tag = true) := Lib.hid (by simp [holdsB, h1])
    clear h1
    go_enter Tryz.func20, Tryz.ntmps20
    go_wp2_with fail
    go_ret
    exact ⟨by rw [hr.out]; rfl, World.grownBy_alloc w _ none⟩
  · have hq : (tag.toList == b.toList) = false := by rw [bytes_beq]; simpa using h1
    by_cases h2 : b.size < 3
    · have hr : Hid (holdsB b tag = Lib.hasPrefix tag.data.toList b.data.toList) := Lib.hid (by simp [holdsB, h1, h2])
      have hp := Lib.hid (fun w => Tryz.strings_HasPrefix tag b w)
      clear h1
      go_enter Tryz.func20, Tryz.ntmps20
      go_wp2_with (go_at_call 34; refine (hp.out _).mono ?_; rintro e w' ⟨rfl, rfl⟩)
      go_ret
      exact ⟨by rw [hr.out]; rfl, World.grownBy_alloc w _ none⟩
    · have hr : Hid (holdsB b tag = false) := Lib.hid (by simp [holdsB, h1, h2])
      clear h1
      go_enter Tryz.func20, Tryz.ntmps20
      go_wp2_with fail
      go_ret
      exact ⟨by rw [hr.out]; rfl, World.grownBy_alloc w _ none⟩

set_option maxRecDepth 10000 in
set_option maxHeartbeats 400000 in
theorem merge1_spec (x : GPol) (tag : ByteArray) (tb : Nat) (w : World) (ht : w.cell? ⟨tb, 0, none⟩ = some (.string tag)) :
    Calls Tryz.prog 19 #[.agg #[.string x.begin_, vFn x.fn], .pointer (some ⟨tb, 0, none⟩)] w fun e w' => e = .returned (.bool (holdsB x.begin_ tag)) ∧ w.grownBy w' none := by
  have h2 : (w.alloc (.cells #[.string x.begin_, .func (.func x.fn) #[] #[]] 67)).cell? ⟨tb, 0, none⟩ = some (.string tag) := (World.cell?_alloc_lt w _ ⟨tb, 0, none⟩ (lt_of_cell ht)).trans ht
  unfold vFn
  go_enter Tryz.func19, Tryz.ntmps19
  go_wp2_with (go_at_call 20; refine (holds_spec x.begin_ tag (.func (.func x.fn) #[] #[]) _).mono ?_; rintro e w' ⟨rfl, hg⟩)
  go_ret
  exact ⟨rfl, (World.grownBy_alloc w _ none).trans hg⟩

/-- The place of the first policy that holds. -/
def polIx (tag : ByteArray) : List GPol → Nat → Option Nat
  | [], _ => none
  | p :: r, k => if holdsB p.begin_ tag then some k else polIx tag r (k + 1)

def ixVal : Option Nat → Int
  | some k => k
  | none => -1

theorem polIx_drop (tag : ByteArray) (ps : List GPol) (k : Nat) (hk : k < ps.length) : polIx tag (ps.drop k) k = if holdsB ps[k].begin_ tag then some k else polIx tag (ps.drop (k + 1)) (k + 1) := by
  rw [List.drop_eq_getElem_cons hk]; rfl

set_option maxRecDepth 10000 in
set_option maxHeartbeats 400000 in
theorem indexPol_spec {H : Hts} {w : World} {base : Nat} {ps : List GPol} {v : Value} (tag : ByteArray) (tb : Nat) (ho : ML.Own ePol H w base ps v) (ht : w.cell? ⟨tb, 0, none⟩ = some (.string tag)) (hn : Hid (ps.length ≤ 1000)) :
    Calls Tryz.prog 18 #[v, .func (.func 19) #[] #[.pointer (some ⟨tb, 0, none⟩)]] w fun e w' =>
      e = .returned (.int .i64 (ixVal (polIx tag ps 0))) ∧ w.grownBy w' none := by
  obtain ⟨a, c, rfl, _, _⟩ := ho.form
  have HO := Lib.hid ho
  have HT := Lib.hid ht
  have hen := enters_of Tryz.func19 (by kernel_rfl) rfl
  clear ho ht
  go_enter Tryz.func18, Tryz.ntmps18
  go_wp2_with fail
  go_loopw [8] (fun i wr => ∃ k : Nat, k ≤ ps.length ∧ i = .int .i64 k ∧ Hid (w.grownBy wr none ∧ polIx tag (ps.drop k) k = polIx tag ps 0)) (fun i _ => ps.length - (intOf i).toNat)
  case atStart => exact ⟨0, Nat.zero_le _, rfl, Lib.hid ⟨World.grownBy.refl _ _, by rw [List.drop_zero]⟩⟩
  case round =>
    obtain ⟨k, hk, rfl, hm⟩ := hrel
    have hnn := hn.out
    by_cases hlt : k < ps.length
    · obtain ⟨cells, hrow, hr, _⟩ := HO.out
      obtain ⟨cs, hcs, hc⟩ := hr.get k hlt
      obtain rfl : cs = [.string ps[k].begin_, vFn ps[k].fn] := hcs
      obtain ⟨g, cap, hv, _, hglt⟩ := hrow.form (by omega)
      injection hv with e1 _ e3
      subst e1
      subst e3
      have hra : Hid (wr.rangeAt g (k * 2) [.string ps[k].begin_, .func (.func ps[k].fn) #[] #[]]) := Lib.hid (fun j u hu => by
        have hj : j < 2 := (List.getElem?_eq_some_iff.1 hu).1
        have h1 := hrow.cellAt (k * 2 + j) (show k * 2 + j < ps.length * 2 by omega)
        have h2 : w.cell? ⟨g, k * 2 + j, none⟩ = some u := h1.trans ((hc j hj).trans hu)
        exact (hm.out.1.cell_far ⟨g, k * 2 + j, none⟩ hglt (by simp)).trans h2)
      have htr := (hm.out.1.cell_far ⟨tb, 0, none⟩ (lt_of_cell HT.out) (by simp)).trans HT.out
      have hcall := Lib.hid (merge1_spec ps[k] tag tb wr htr)
      have hstep := Lib.hid (polIx_drop tag ps k hlt)
      unfold vFn at hcall
      clear hrow hr hc htr
      cases hd : holdsB ps[k].begin_ tag with
      | true =>
        rw [hd] at hcall hstep
        go_wp2_with (first
          | (refine wpList_load_mid rfl 67 (.tmp 14) rfl g (k * 2) rfl _ _ hra.out Tryz.underlying67 rfl (by kernel_rfl) ?_)
          | (go_at_call 19; refine hcall.out.mono ?_; rintro e w1 ⟨rfl, hg1⟩))
        go_ret
        refine ⟨?_, hm.out.1.trans hg1⟩
        rw [← hm.out.2, hstep.out]
        rfl
      | false =>
        rw [hd] at hcall hstep
        go_wp2_with (first
          | (refine wpList_load_mid rfl 67 (.tmp 14) rfl g (k * 2) rfl _ _ hra.out Tryz.underlying67 rfl (by kernel_rfl) ?_)
          | (go_at_call 19; refine hcall.out.mono ?_; rintro e w1 ⟨rfl, hg1⟩))
        go_roundw
        case rel => exact ⟨k + 1, by omega, by go_num, Lib.hid ⟨hm.out.1.trans hg1, by rw [← hm.out.2, hstep.out]; rfl⟩⟩
        case measure => simp [intOf]; omega
    · have : k = ps.length := by omega
      subst this
      go_wp2
      go_ret
      refine ⟨?_, hm.out.1⟩
      rw [← hm.out.2, List.drop_length]
      rfl
end Go.Proofs.YtnidmikcjkaegaaGreatDoor
