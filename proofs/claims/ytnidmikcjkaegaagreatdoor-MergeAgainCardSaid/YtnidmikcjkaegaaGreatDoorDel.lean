/-
  What is proved here: the contract of slices.IndexFunc at merge.said, over a function value with a state of its own. Conditions: the list's length is bounded.
-/
import Derived.Test.YtnidmikcjkaegaaGreatDoorClear
import Derived.Test.YtnidmikcjkaegaaGreatDoorEnc
import Derived.Shelf.Abstract
namespace Go.Proofs.YtnidmikcjkaegaaGreatDoor
open Go Go.RowKit Go.ML Go.Shelf

/-- What DeleteFunc keeps: pre is what the function has been asked of before. -/
def keepF (del : List GSaid → GSaid → Bool) : List GSaid → List GSaid → List GSaid
  | _, [] => []
  | pre, x :: r => if del pre x then keepF del (pre ++ [x]) r else x :: keepF del (pre ++ [x]) r

/-- What is asked of the function value: S its state, m the block of its own that it may write, g the row's block. -/
structure Clos (f : FuncId) (lb : Array Value) (g : Nat) (m : Option Nat) (B : Nat) (H : Hts) (Q : GSaid → Prop) (del : List GSaid → GSaid → Bool) (S : List GSaid → World → Prop) : Prop where
  enters : ∀ args w, (callFunc f args).run Tryz.prog w = .ok (.enter f args) w
  call : ∀ pre x cs w, Fit H w → S pre w → Q x → eSaid.rel H w x cs → Calls Tryz.prog f (#[.agg cs.toArray] ++ lb) w fun e w' => e = .returned (.bool (del pre x)) ∧ S (pre ++ [x]) w' ∧ w.grownBy w' m
  keep : ∀ pre w w', S pre w → w.grownBy w' (some g) → (∀ o, o < 6 → w'.cell? ⟨g, o, none⟩ = w.cell? ⟨g, o, none⟩) → S pre w'
  own : ∀ k, m = some k → H k = 0 ∧ k ≠ g ∧ B ≤ k

theorem Clos.alloc {f : FuncId} {lb : Array Value} {g : Nat} {m : Option Nat} {B : Nat} {H : Hts} {Q : GSaid → Prop} {del : List GSaid → GSaid → Bool} {S : List GSaid → World → Prop} (h : Clos f lb g m B H Q del S) {pre : List GSaid} {w : World} (hs : S pre w) (hg : g < w.heap.size) (o : Obj) : S pre (w.alloc o) :=
  h.keep pre w _ hs (World.grownBy_alloc w o _) (fun i _ => World.cell?_alloc_lt w o ⟨g, i, none⟩ hg)

/-- Own, and the block named. -/
def OwnAt (H : Hts) (w : World) (base g n cap : Nat) (cells : List Value) : Prop :=
  w.ownsRow base 60 6 (.slice (some ⟨g, 0, none⟩) n cap) n cells ∧ H g = 0

theorem evo_grown {H : Hts} {w w' : World} {row : Option Nat} (hg : w.grownBy w' row) (hr : ∀ k, row = some k → H k = 0) : Evo H w H w' := (Evo.refl H w).grown hg hr

/-- The loop of IndexFunc. -/
structure IxAt (H : Hts) (w : World) (m : Option Nat) (base g cap : Nat) (xs : List GSaid) (cells : List Value) (del : List GSaid → GSaid → Bool) (S : List GSaid → World → Prop) (k : Nat) (wr : World) : Prop where
  row : OwnAt H wr base g xs.length cap cells
  rels : Rels eSaid H wr xs cells
  fit : Fit H wr
  st : S (xs.take k) wr
  moved : w.grownBy wr m
  kept : ∀ j (hl : j < xs.length), j < k → del (xs.take j) xs[j] = false

theorem IxAt.elem {H : Hts} {w : World} {m : Option Nat} {base g cap : Nat} {xs : List GSaid} {cells : List Value} {del : List GSaid → GSaid → Bool} {S : List GSaid → World → Prop} {k : Nat} {wr : World} (h : IxAt H w m base g cap xs cells del S k wr) (hk : k < xs.length) :
    ∃ v, eSaid.rel H wr xs[k] [.string xs[k].field.tag, .string xs[k].field.ind, .string xs[k].field.data, v, .int .i64 xs[k].frm.src, .int .i64 xs[k].frm.num] ∧ wr.rangeAt g (k * 6) [.string xs[k].field.tag, .string xs[k].field.ind, .string xs[k].field.data, v, .int .i64 xs[k].frm.src, .int .i64 xs[k].frm.num] := by
  obtain ⟨cs, hr, hc⟩ := h.rels.get k hk
  obtain ⟨v, rfl, hs⟩ := (hr : ∃ v, _)
  refine ⟨v, ⟨v, rfl, hs⟩, fun j u hu => ?_⟩
  have hj : j < 6 := (List.getElem?_eq_some_iff.1 hu).1
  have : k * 6 + j < xs.length * 6 := by omega
  rw [h.row.1.cellAt (k * 6 + j) this]
  have := hc j hj
  exact this.trans hu

theorem IxAt.next {H : Hts} {w : World} {m : Option Nat} {base g cap : Nat} {xs : List GSaid} {cells : List Value} {del : List GSaid → GSaid → Bool} {S : List GSaid → World → Prop} {k : Nat} {wr w' : World} (h : IxAt H w m base g cap xs cells del S k wr) (hk : k < xs.length)
    (hm : ∀ b, m = some b → H b = 0 ∧ b ≠ g) (hs : S (xs.take k ++ [xs[k]]) w') (hg : wr.grownBy w' m) (hd : del (xs.take k) xs[k] = false) : IxAt H w m base g cap xs cells del S (k + 1) w' := by
  have hne : ∀ b, Value.ownBlock (.slice (some ⟨g, 0, none⟩) xs.length cap) = some b → w'.heap[b]? = wr.heap[b]? := fun b hb => by
    simp [Value.ownBlock] at hb
    subst hb
    obtain ⟨_, _, _, _, hlt⟩ := h.row.1.form (by omega)
    refine hg.block _ ?_ (fun e => (hm _ e.symm).2 rfl)
    rename_i e1 _
    injection e1 with e1; injection e1 with e1; injection e1 with e1; subst e1; exact hlt
  refine ⟨⟨ownsRow_same h.row.1 hne, h.row.2⟩, h.rels.evo (evo_grown hg (fun b hb => (hm b hb).1)), h.fit.grown hg, ?_, h.moved.trans hg, ?_⟩
  · rw [List.take_succ_eq_append_getElem hk]; exact hs
  · intro j hl hj
    rcases Nat.lt_or_ge j k with h1 | h1
    · exact h.kept j hl h1
    · have : j = k := by omega
      subst this; exact hd

set_option maxRecDepth 10000 in
set_option maxHeartbeats 1000000 in
theorem indexFunc_spec {f : FuncId} {lb : Array Value} {g : Nat} {m : Option Nat} {B : Nat} {H : Hts} {Q : GSaid → Prop} {del : List GSaid → GSaid → Bool} {S : List GSaid → World → Prop} (hc : Clos f lb g m B H Q del S)
    {w : World} {base cap : Nat} {xs : List GSaid} {cells : List Value} (h : IxAt H w m base g cap xs cells del S 0 w) (hq : Hid (∀ x ∈ xs, Q x)) (hn : Hid (xs.length ≤ 1000000)) :
    Calls Tryz.prog 74 #[.slice (some ⟨g, 0, none⟩) xs.length cap, .func (.func f) #[] lb] w (Ret fun v w' =>
      (v = .int .i64 (-1) ∧ IxAt H w m base g cap xs cells del S xs.length w') ∨ ∃ k, ∃ hk : k < xs.length, v = .int .i64 k ∧ del (xs.take k) xs[k] = true ∧ S (xs.take (k + 1)) w' ∧ w.grownBy w' m ∧ ∀ j (hl : j < xs.length), j < k → del (xs.take j) xs[j] = false) := by
  have hen := hc.enters
  have HC := Lib.hid hc
  have H0 := Lib.hid h
  clear hc h
  go_enter Tryz.func74, Tryz.ntmps74
  go_wp2_with fail
  go_loopw [8] (fun i wr => ∃ k : Nat, k ≤ xs.length ∧ i = .int .i64 k ∧ Hid (IxAt H w m base g cap xs cells del S k wr)) (fun i _ => xs.length - (intOf i).toNat)
  case atStart => exact ⟨0, Nat.zero_le _, rfl, H0⟩
  case round =>
    clear H0
    obtain ⟨k, hk, rfl, hm⟩ := hrel
    have hnn := hn.out
    by_cases hlt : k < xs.length
    · obtain ⟨v, hrl, hra⟩ := hm.out.elem hlt
      have hcall := Lib.hid (HC.out.call _ _ _ _ hm.out.fit hm.out.st (hq.out _ (List.getElem_mem hlt)) hrl)
      have hra1 := Lib.hid hra
      clear hra hrl
      cases hd : del (xs.take k) xs[k] with
      | true =>
        rw [hd] at hcall
        go_wp2_with (first
          | (refine wpList_load_mid rfl 60 (.tmp 14) rfl g (k * 6) rfl _ _ hra1.out Tryz.underlying60 rfl (by kernel_rfl) ?_)
          | (go_at_fn f; refine hcall.out.mono ?_; rintro e w1 ⟨rfl, hs1, hg1⟩))
        go_ret
        exact Ret.mk (.inr ⟨k, hlt, rfl, hd, by rw [List.take_succ_eq_append_getElem hlt]; exact hs1, hm.out.moved.trans hg1, hm.out.kept⟩)
      | false =>
        rw [hd] at hcall
        go_wp2_with (first
          | (refine wpList_load_mid rfl 60 (.tmp 14) rfl g (k * 6) rfl _ _ hra1.out Tryz.underlying60 rfl (by kernel_rfl) ?_)
          | (go_at_fn f; refine hcall.out.mono ?_; rintro e w1 ⟨rfl, hs1, hg1⟩))
        go_roundw
        case rel => exact ⟨k + 1, by omega, by go_num, Lib.hid (hm.out.next hlt (fun b hb => ⟨(HC.out.own b hb).1, (HC.out.own b hb).2.1⟩) hs1 hg1 hd)⟩
        case measure => simp [intOf]; omega
    · have : k = xs.length := by omega
      subst this
      go_wp2
      go_ret
      exact Ret.mk (.inl ⟨rfl, hm.out⟩)
end Go.Proofs.YtnidmikcjkaegaaGreatDoor
