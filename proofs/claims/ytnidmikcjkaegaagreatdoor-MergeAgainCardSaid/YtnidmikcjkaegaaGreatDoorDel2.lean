/-
  What is proved here: the contract of slices.DeleteFunc at merge.said, over a function value with a state of its own. Conditions: the list's length is bounded; the first element stays.
-/
import Derived.Test.YtnidmikcjkaegaaGreatDoorDel
namespace Go.Proofs.YtnidmikcjkaegaaGreatDoor
open Go Go.RowKit Go.ML Go.Shelf

/-- What has turned: the row's block and the function's own. -/
structure Chg (g : Nat) (m : Option Nat) (w w' : World) : Prop where
  os : w'.os = w.os
  tape : w'.tape = w.tape
  output : w'.output = w.output
  size : w.heap.size ≤ w'.heap.size
  block : ∀ k, k < w.heap.size → k ≠ g → some k ≠ m → w'.heap[k]? = w.heap[k]?

theorem Chg.refl (g : Nat) (m : Option Nat) (w : World) : Chg g m w w := ⟨rfl, rfl, rfl, Nat.le_refl _, fun _ _ _ _ => rfl⟩
theorem Chg.row {g : Nat} {m : Option Nat} {w a b : World} (h : Chg g m w a) (hg : a.grownBy b (some g)) : Chg g m w b :=
  ⟨hg.os.trans h.os, hg.tape.trans h.tape, hg.output.trans h.output, Nat.le_trans h.size hg.size, fun k hk h1 h2 => (hg.block k (Nat.lt_of_lt_of_le hk h.size) (fun e => h1 (Option.some.inj e))).trans (h.block k hk h1 h2)⟩
theorem Chg.own {g : Nat} {m : Option Nat} {w a b : World} (h : Chg g m w a) (hg : a.grownBy b m) : Chg g m w b :=
  ⟨hg.os.trans h.os, hg.tape.trans h.tape, hg.output.trans h.output, Nat.le_trans h.size hg.size, fun k hk h1 h2 => (hg.block k (Nat.lt_of_lt_of_le hk h.size) h2).trans (h.block k hk h1 h2)⟩
theorem Chg.alloc {g : Nat} {m : Option Nat} {w a : World} (h : Chg g m w a) (o : Obj) : Chg g m w (a.alloc o) := h.row (World.grownBy_alloc a o _)

theorem keepF_step (del : List GSaid → GSaid → Bool) {xs : List GSaid} {j : Nat} (hj : j < xs.length) : keepF del (xs.take j) (xs.drop j) = if del (xs.take j) xs[j] then keepF del (xs.take (j + 1)) (xs.drop (j + 1)) else xs[j] :: keepF del (xs.take (j + 1)) (xs.drop (j + 1)) := by
  rw [List.drop_eq_getElem_cons hj, List.take_succ_eq_append_getElem hj]
  rfl
theorem keepF_kept (del : List GSaid → GSaid → Bool) (xs : List GSaid) : ∀ k, k ≤ xs.length → (∀ j (hl : j < xs.length), j < k → del (xs.take j) xs[j] = false) → keepF del [] xs = xs.take k ++ keepF del (xs.take k) (xs.drop k)
  | 0, _, _ => by simp
  | k + 1, hk, h => by
    have h1 := keepF_kept del xs k (by omega) (fun j hl hj => h j hl (by omega))
    rw [h1, keepF_step del (show k < xs.length by omega), h k (by omega) (by omega), List.take_succ_eq_append_getElem (show k < xs.length by omega), List.append_assoc]
    rfl

/-- The loop of DeleteFunc: i elements kept, j looked at, p asked about. -/
structure DfAt (H : Hts) (w : World) (m : Option Nat) (base g cap : Nat) (xs : List GSaid) (del : List GSaid → GSaid → Bool) (S : List GSaid → World → Prop) (i j p : Nat) (wr : World) : Prop where
  ex : ∃ ks c1 c2 c3, OwnAt H wr base g xs.length cap (c1 ++ c2 ++ c3) ∧ Rels eSaid H wr ks c1 ∧ ks.length = i ∧ Rels eSaid H wr (xs.drop j) c3 ∧ c1.length = i * 6 ∧ c2.length = (j - i) * 6 ∧ ks ++ keepF del (xs.take j) (xs.drop j) = keepF del [] xs
  le : 1 ≤ i ∧ i < j ∧ j ≤ xs.length
  fit : Fit H wr
  st : S (xs.take p) wr
  chg : Chg g m w wr

section
variable {H : Hts} {w : World} {m : Option Nat} {base g cap : Nat} {xs : List GSaid} {del : List GSaid → GSaid → Bool} {S : List GSaid → World → Prop} {i j p : Nat} {wr : World}

theorem DfAt.elem (h : DfAt H w m base g cap xs del S i j p wr) (hj : j < xs.length) :
    ∃ v, Sl eSub H wr xs[j].field.subs v ∧ wr.rangeAt g (j * 6) [.string xs[j].field.tag, .string xs[j].field.ind, .string xs[j].field.data, v, .int .i64 xs[j].frm.src, .int .i64 xs[j].frm.num] := by
  obtain ⟨ks, c1, c2, c3, hrow, h1, h2, h3, h4, h5, h6⟩ := h.ex
  obtain ⟨c, r, rfl, hc, hr⟩ := h3.head hj
  obtain ⟨v, rfl, hs⟩ := (hc : ∃ v, _)
  have hle := h.le
  refine ⟨v, hs, fun o u hu => ?_⟩
  have ho : o < 6 := (List.getElem?_eq_some_iff.1 hu).1
  rw [hrow.1.cellAt (j * 6 + o) (by omega), List.getElem?_append_right (by rw [List.length_append, h4, h5, ← Nat.add_mul]; rw [show i + (j - i) = j by omega]; omega), List.length_append, h4, h5, ← Nat.add_mul, show i + (j - i) = j by omega, show j * 6 + o - j * 6 = o by omega, List.getElem?_append_left (by simpa using ho)]
  exact hu

theorem DfAt.glt (h : DfAt H w m base g cap xs del S i j p wr) : g < wr.heap.size := by
  obtain ⟨ks, c1, c2, c3, hrow, _⟩ := h.ex
  obtain ⟨g', _, e1, _, hlt⟩ := hrow.1.form (by have := h.le; omega)
  injection e1 with e1; injection e1 with e1; injection e1 with e1; subst e1; exact hlt

theorem DfAt.alloc (h : DfAt H w m base g cap xs del S i j p wr) {f : FuncId} {lb : Array Value} {B : Nat} {Q : GSaid → Prop} (hc : Clos f lb g m B H Q del S) (o : Obj) : DfAt H w m base g cap xs del S i j p (wr.alloc o) := by
  have hlt := h.glt
  obtain ⟨ks, c1, c2, c3, hrow, h1, h2, h3, h4, h5, h6⟩ := h.ex
  refine ⟨⟨ks, c1, c2, c3, ⟨hrow.1.alloc o, hrow.2⟩, h1.evo ((Evo.refl _ _).alloc o), h2, h3.evo ((Evo.refl _ _).alloc o), h4, h5, h6⟩, h.le, h.fit.alloc o, hc.alloc h.st hlt o, h.chg.alloc o⟩

theorem DfAt.called {w' : World} (h : DfAt H w m base g cap xs del S i j p wr) (hm : ∀ b, m = some b → H b = 0 ∧ b ≠ g) {p' : Nat} (hs : S (xs.take p') w') (hg : wr.grownBy w' m) : DfAt H w m base g cap xs del S i j p' w' := by
  have hlt := h.glt
  obtain ⟨ks, c1, c2, c3, hrow, h1, h2, h3, h4, h5, h6⟩ := h.ex
  have hev := evo_grown hg (fun b hb => (hm b hb).1)
  refine ⟨⟨ks, c1, c2, c3, ⟨ownsRow_same hrow.1 (fun b hb => ?_), hrow.2⟩, h1.evo hev, h2, h3.evo hev, h4, h5, h6⟩, h.le, h.fit.grown hg, hs, h.chg.own hg⟩
  simp [Value.ownBlock] at hb
  subst hb
  exact hg.block _ hlt (fun e => (hm _ e.symm).2 rfl)

theorem DfAt.skip (h : DfAt H w m base g cap xs del S i j p wr) (hj : j < xs.length) (hd : del (xs.take j) xs[j] = true) : DfAt H w m base g cap xs del S i (j + 1) p wr := by
  obtain ⟨ks, c1, c2, c3, hrow, h1, h2, h3, h4, h5, h6⟩ := h.ex
  obtain ⟨c, r, rfl, hc, hr⟩ := h3.head hj
  have hl := eSaid.len hc
  have hle := h.le
  refine ⟨⟨ks, c1, c2 ++ c, r, by simpa [List.append_assoc] using hrow, h1, h2, hr, h4, ?_, ?_⟩, ⟨hle.1, by omega, by omega⟩, h.fit, h.st, h.chg⟩
  · rw [List.length_append, h5, hl, show j + 1 - i = j - i + 1 by omega, Nat.succ_mul]; rfl
  · rw [← h6, keepF_step del hj, hd]; rfl

theorem DfAt.rowOf (h : DfAt H w m base g cap xs del S i j p wr) : ∃ cells, OwnAt H wr base g xs.length cap cells ∧ ∀ (hj : j < xs.length) (w' : World) (cs : List Value), eSaid.rel H wr xs[j] cs → del (xs.take j) xs[j] = false →
    w'.ownsRow base 60 6 (.slice (some ⟨g, 0, none⟩) xs.length cap) xs.length (cells.take (i * 6) ++ cs ++ cells.drop (i * 6 + 6)) → wr.grownBy w' (some g) → S (xs.take p) w' → DfAt H w m base g cap xs del S (i + 1) (j + 1) p w' := by
  obtain ⟨ks, c1, c2, c3, hrow, h1, h2, h3, h4, h5, h6⟩ := h.ex
  refine ⟨_, hrow, fun hj w' cs hrel hd hrow' hg hst => ?_⟩
  obtain ⟨c, r, rfl, hc, hr⟩ := h3.head hj
  have hl := eSaid.len hc
  have hl' := eSaid.len hrel
  have hle := h.le
  change c.length = 6 at hl
  change cs.length = 6 at hl'
  have hev := evo_grown hg (fun b hb => by injection hb with hb; subst hb; exact hrow.2)
  have e1 : (c1 ++ c2 ++ (c ++ r)).take (i * 6) = c1 := by rw [List.append_assoc, List.take_append_of_le_length (by omega), List.take_of_length_le (by omega)]
  have e2 : (c1 ++ c2 ++ (c ++ r)).drop (i * 6 + 6) = (c2 ++ c).drop 6 ++ r := by
    rw [List.append_assoc, List.drop_append, List.drop_eq_nil_of_le (by omega), List.nil_append, h4, show i * 6 + 6 - i * 6 = 6 by omega, ← List.append_assoc, List.drop_append_of_le_length (by rw [List.length_append]; omega)]
  rw [e1, e2] at hrow'
  refine ⟨⟨ks ++ [xs[j]], c1 ++ cs, (c2 ++ c).drop 6, r, ⟨by simpa [List.append_assoc] using hrow', hrow.2⟩, (h1.evo hev).append (Rels.single (eSaid.evo hev hrel)), by simp [h2], hr.evo hev, by rw [List.length_append, h4, hl', Nat.succ_mul], ?_, ?_⟩, ⟨by omega, by omega, by omega⟩, h.fit.grown hg, hst, h.chg.row hg⟩
  · rw [List.length_drop, List.length_append, h5, hl, show j + 1 - (i + 1) = j - i by omega]; omega
  · rw [← h6, keepF_step del hj, hd, List.append_assoc]; rfl

theorem row_head {w' : World} {base n cap i : Nat} {cells cs : List Value} (h : wr.ownsRow base 60 6 (.slice (some ⟨g, 0, none⟩) n cap) n cells) (h' : w'.ownsRow base 60 6 (.slice (some ⟨g, 0, none⟩) n cap) n (cells.take (i * 6) ++ cs ++ cells.drop (i * 6 + 6))) (hi : 1 ≤ i) (hn : i ≤ n) : ∀ o, o < 6 → w'.cell? ⟨g, o, none⟩ = wr.cell? ⟨g, o, none⟩ := by
  intro o ho
  have hl := h.1
  rw [h.cellAt o (by omega), h'.cellAt o (by omega), List.append_assoc, List.getElem?_append_left (by rw [List.length_take]; omega), List.getElem?_take_of_lt (by omega)]
end

theorem zeroSaid (w : World) : (zeroValue 60).run Tryz.prog w = .ok (.agg #[.string ⟨#[]⟩, .string ⟨#[]⟩, .string ⟨#[]⟩, .slice none 0 0, .int .i64 0, .int .i64 0]) w := by kernel_rfl

set_option maxRecDepth 10000 in
set_option maxHeartbeats 2000000 in
theorem deleteFunc_spec {f : FuncId} {lb : Array Value} {g : Nat} {m : Option Nat} {B : Nat} {H : Hts} {Q : GSaid → Prop} {del : List GSaid → GSaid → Bool} {S : List GSaid → World → Prop} (hc : Clos f lb g m B H Q del S)
    {w : World} {base cap : Nat} {xs : List GSaid} {cells : List Value} (hf : Fit H w) (hrow : OwnAt H w base g xs.length cap cells) (hr : Rels eSaid H w xs cells) (hs : S [] w) (hq : Hid (∀ x ∈ xs, Q x)) (hn : Hid (xs.length ≤ 1000000)) (hm : Hid (∀ k, m = some k → k < w.heap.size)) (hd0 : Hid (∀ h : 0 < xs.length, del [] xs[0] = false)) :
    Calls Tryz.prog 53 #[.slice (some ⟨g, 0, none⟩) xs.length cap, .func (.func f) #[] lb] w (Ret fun v w' =>
      ∃ cells', v = .slice (some ⟨g, 0, none⟩) (keepF del [] xs).length cap ∧ OwnAt H w' base g (keepF del [] xs).length cap cells' ∧ Rels eSaid H w' (keepF del [] xs) cells' ∧ Chg g m w w' ∧ Fit H w') := by
  have hen := hc.enters
  have HC := Lib.hid hc
  have H0 : Hid (IxAt H w m base g cap xs cells del S 0 w) := Lib.hid ⟨hrow, hr, hf, hs, World.grownBy.refl _ _, fun j _ hj => by omega⟩
  have HI := Lib.hid (indexFunc_spec hc H0.out hq hn)
  clear hc hs hf hrow hr
  go_enter Tryz.func53, Tryz.ntmps53
  go_wp2_with fail
  refine HI.out.mono ?_
  rintro e w1 ⟨v, rfl, ⟨rfl, hix⟩ | ⟨k, hk, rfl, hd, hst, hmv, hkept⟩⟩
  · have hix2 := Lib.hid hix
    clear hix HI
    go_wp2
    go_ret
    have e := keepF_kept del xs xs.length (Nat.le_refl _) (fun j hl hj => hix2.out.kept j hl hj)
    rw [List.take_length, List.drop_length, show keepF del xs [] = [] from rfl, List.append_nil] at e
    rw [e]
    exact Ret.mk ⟨cells, rfl, hix2.out.row, hix2.out.rels, (Chg.refl g m w).own hix2.out.moved, hix2.out.fit⟩
  · have hk1 : 1 ≤ k := by
      rcases Nat.eq_zero_or_pos k with h0 | h0
      · subst h0
        rw [List.take_zero, hd0.out hk] at hd
        cases hd
      · exact h0
    have hD : Hid (DfAt H w m base g cap xs del S k (k + 1) (k + 1) w1) := by
      have hcl := H0.out.rels.length
      change cells.length = xs.length * 6 at hcl
      have hev := evo_grown hmv (fun b hb => (HC.out.own b hb).1)
      have hglt : g < w.heap.size := by
        obtain ⟨g', _, e1, _, hlt⟩ := H0.out.row.1.form (by omega)
        injection e1 with e1; injection e1 with e1; injection e1 with e1; subst e1; exact hlt
      have r1 := (H0.out.rels.take k).evo hev
      have r3 := (H0.out.rels.drop (k + 1)).evo hev
      change Rels eSaid H w1 (xs.take k) (cells.take (k * 6)) at r1
      change Rels eSaid H w1 (xs.drop (k + 1)) (cells.drop ((k + 1) * 6)) at r3
      refine Lib.hid ⟨⟨xs.take k, cells.take (k * 6), (cells.drop (k * 6)).take 6, cells.drop ((k + 1) * 6), ⟨ownsRow_same (w := w) (v := .slice (some ⟨g, 0, none⟩) xs.length cap) ?_ (fun b hb => ?_), H0.out.row.2⟩, r1, by rw [List.length_take]; omega, r3, by rw [List.length_take]; omega, by rw [List.length_take, List.length_drop]; omega, ?_⟩, ⟨hk1, by omega, by omega⟩, H0.out.fit.grown hmv, hst, (Chg.refl g m w).own hmv⟩
      · rw [show cells.take (k * 6) ++ (cells.drop (k * 6)).take 6 ++ cells.drop ((k + 1) * 6) = cells by
          rw [List.append_assoc, show (k + 1) * 6 = k * 6 + 6 by omega, ← List.drop_drop, List.take_append_drop, List.take_append_drop]]
        exact H0.out.row.1
      · simp [Value.ownBlock] at hb
        subst hb
        exact hmv.block _ hglt (fun e => (HC.out.own _ e.symm).2.1 rfl)
      · rw [keepF_kept del xs k (by omega) hkept, keepF_step del hk, hd]; rfl
    clear hkept hst hmv hd HI H0
    go_wp2_with fail
    have hk0 : ((k : Int) == -1) = false := by simp
    have hk2 : wrap64 ((k : Int) + 1) = (k : Int) + 1 := IntWalk.wrap64_in _ (by have := hn.out; omega)
    simp only [hk0, hk2]
    clear hk0 hk2
    rename_i hk3 _ _
    clear hk3
    go_loopw [5, 6] (fun vi vj wr => ∃ i j : Nat, vi = .int .i64 i ∧ vj = .int .i64 j ∧ Hid (DfAt H w m base g cap xs del S i j j wr)) (fun _ vj _ => xs.length - (intOf vj).toNat)
    case atStart => exact ⟨k, k + 1, rfl, by have := hn.out; go_num, hD⟩
    case round =>
      clear hD hk1 hk
      obtain ⟨i, j, rfl, rfl, hm2⟩ := hrel
      have hnn := hn.out
      have hle := hm2.out.le
      have hsz : w.heap.size ≤ wr.heap.size := hm2.out.chg.size
      by_cases hlt : j < xs.length
      · obtain ⟨v, hsl, hra⟩ := hm2.out.elem hlt
        have hra1 := Lib.hid hra
        have hD1 := Lib.hid (hm2.out.alloc HC.out (.cells #[.string xs[j].field.tag, .string xs[j].field.ind, .string xs[j].field.data, v, .int .i64 xs[j].frm.src, .int .i64 xs[j].frm.num] 60))
        have hrel1 : Hid (eSaid.rel H (wr.alloc (.cells #[.string xs[j].field.tag, .string xs[j].field.ind, .string xs[j].field.data, v, .int .i64 xs[j].frm.src, .int .i64 xs[j].frm.num] 60)) xs[j] [.string xs[j].field.tag, .string xs[j].field.ind, .string xs[j].field.data, v, .int .i64 xs[j].frm.src, .int .i64 xs[j].frm.num]) := Lib.hid ⟨v, rfl, hsl.evo ((Evo.refl _ _).alloc _)⟩
        have hcall := Lib.hid (HC.out.call _ _ _ _ hD1.out.fit hD1.out.st (hq.out _ (List.getElem_mem hlt)) hrel1.out)
        obtain ⟨sa, sc, rfl, _, _⟩ := hsl.form
        clear hra hsl
        have hmm : ∀ b, m = some b → H b = 0 ∧ b ≠ g := fun b hb => ⟨(HC.out.own b hb).1, (HC.out.own b hb).2.1⟩
        have hblk : ∀ w2, (wr.alloc (.cells #[.string xs[j].field.tag, .string xs[j].field.ind, .string xs[j].field.data, .slice sa xs[j].field.subs.length sc, .int .i64 xs[j].frm.src, .int .i64 xs[j].frm.num] 60)).grownBy w2 m → w2.heap[wr.heap.size]? = some (.cells #[.string xs[j].field.tag, .string xs[j].field.ind, .string xs[j].field.data, .slice sa xs[j].field.subs.length sc, .int .i64 xs[j].frm.src, .int .i64 xs[j].frm.num] 60 (0, 0)) := fun w2 hg =>
          (hg.block _ (by simp) (fun e => by have := hm.out _ e.symm; omega)).trans (blk_new wr _)
        have HH := Lib.hid (And.intro hmm hblk)
        clear hmm hblk
        cases hd : del (xs.take j) xs[j] with
        | true =>
          rw [hd] at hcall
          go_wp2_with (first
            | (refine wpList_load_mid rfl 60 (.tmp 24) rfl g (j * 6) rfl _ _ hra1.out Tryz.underlying60 rfl (by kernel_rfl) ?_)
            | (go_at_fn f; refine hcall.out.mono ?_; rintro e w2 ⟨rfl, hs2, hg2⟩))
          go_roundw
          case rel => exact ⟨i, j + 1, rfl, by go_num, Lib.hid ((hD1.out.called HH.out.1 (by rw [List.take_succ_eq_append_getElem hlt]; exact hs2) hg2).skip hlt hd)⟩
          case measure => simp [intOf]; omega
        | false =>
          rw [hd] at hcall
          go_wp2_with (first
            | (refine wpList_load_mid rfl 60 (.tmp 24) rfl g (j * 6) rfl _ _ hra1.out Tryz.underlying60 rfl (by kernel_rfl) ?_)
            | (go_at_fn f
               refine hcall.out.mono ?_
               rintro e w2 ⟨rfl, hs2, hg2⟩
               have B2 := blk6 (HH.out.2 w2 hg2)
               have hD2 : DfAt H w m base g cap xs del S i j (j + 1) w2 := hD1.out.called HH.out.1 (by rw [List.take_succ_eq_append_getElem hlt]; exact hs2) hg2
               obtain ⟨cells2, hrow2, hput⟩ := hD2.rowOf
               have hev2 := evo_grown hg2 (fun b hb => (HH.out.1 b hb).1)
               have hrel2 := Lib.hid (eSaid.evo hev2 hrel1.out)
               have HP := Lib.hid (And.intro hrow2 (And.intro hput hD2))
               clear hs2 hg2 hD2 hrow2 hput hev2)
            | (refine row_store rfl 60 (.tmp 33) (.tmp 32) rfl HP.out.1.1 (k := i) (by omega) (by decide) rfl rfl rfl rfl (by kernel_rfl) (eSaid.one hrel2.out) ?_; intro w3 r3 g3 _))
          go_roundw
          case rel => exact ⟨i + 1, j + 1, by go_num, by go_num, Lib.hid (HP.out.2.1 hlt w3 _ hrel2.out hd r3 g3 (HC.out.keep _ _ _ HP.out.2.2.st g3 (row_head HP.out.1.1 r3 hle.1 (by omega))))⟩
          case measure => simp [intOf]; omega
      · have : j = xs.length := by omega
        subst this
        obtain ⟨ks, c1, c2, c3, hrow, h1, h2, h3, h4, h5, h6⟩ := hm2.out.ex
        have hcap : xs.length ≤ cap ∧ cap ≤ maxLen := by
          rcases hrow.1.2 with ⟨hn', _⟩ | ⟨_, cap', _, hv', _, _, k1, k2, _⟩
          · cases hn'
          · injection hv' with _ _ e3
            subst e3; exact ⟨k1, k2⟩
        have hcap1 := hcap.1
        rw [List.drop_length, List.take_length, show keepF del xs [] = [] from rfl, List.append_nil] at h6
        subst h6
        have HR := Lib.hid (And.intro hrow (And.intro h1 (And.intro h2 h4)))
        clear hrow h1 h2 h3 h4 h5 hcap
        have hi2 : i ≤ xs.length := by omega
        go_wp2_with (refine clear_law rfl (.tmp 38) 56 rfl Tryz.underlying56 zeroSaid (zs := [.string ⟨#[]⟩, .string ⟨#[]⟩, .string ⟨#[]⟩, .slice none 0 0, .int .i64 0, .int .i64 0]) rfl rfl (by decide) (by decide) HR.out.1.1 rfl hi2 ?_; intro w3 r3 g3 _ _)
        go_ret
        obtain ⟨hrow, h1, h2, h4⟩ := HR.out
        change w3.ownsRow base 60 6 (.slice (some ⟨g, 0, none⟩) i cap) i ((c1 ++ c2 ++ c3).take (i * 6)) at r3
        rw [show (c1 ++ c2 ++ c3).take (i * 6) = c1 by rw [List.append_assoc, List.take_append_of_le_length (by omega), List.take_of_length_le (by omega)]] at r3
        refine Ret.mk ⟨c1, by rw [h2]; rfl, ⟨by rw [h2]; exact r3, hrow.2⟩, h1.evo (evo_grown g3 (fun b hb => by injection hb with hb; subst hb; exact hrow.2)), hm2.out.chg.row g3, hm2.out.fit.grown g3⟩
end Go.Proofs.YtnidmikcjkaegaaGreatDoor
