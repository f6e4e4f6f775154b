/-
  What is proved here: the contract of the law's says. Conditions: the list is small.
-/
import Derived.Test.YtnidmikcjkaegaaGreatDoorField
import Derived.Test.YtnidmikcjkaegaaGreatDoorMade
import Derived.Deep.DeepCutAuto
namespace Go.Proofs.YtnidmikcjkaegaaGreatDoor
open Go Go.RowKit Go.ML

def pairsP : List ByteArray → List GField
  | a :: b :: r => fieldP a b :: pairsP r
  | _ => []
def saysP (s n v : Int) (ls : List ByteArray) : GVersion := ⟨⟨s, n⟩, v, ⟨0, 0, pairsP ls⟩⟩

theorem pairsP_get : ∀ (ls : List ByteArray) (j : Nat) (h : 2 * j + 1 < ls.length), (pairsP ls)[j]? = some (fieldP (ls[2 * j]'(by omega)) ls[2 * j + 1])
  | [], j, h => by simp at h
  | [_], j, h => by simp at h
  | a :: b :: r, j, h => by
    match j with
    | 0 => rfl
    | j + 1 =>
      have := pairsP_get r j (by simp only [List.length_cons] at h; omega)
      unfold pairsP
      rw [List.getElem?_cons_succ, this]
      congr 2
theorem pairsP_len : ∀ (ls : List ByteArray), (pairsP ls).length = ls.length / 2
  | [] => rfl
  | [_] => by simp [pairsP]
  | a :: b :: r => by
    unfold pairsP
    rw [List.length_cons, pairsP_len r]
    simp only [List.length_cons]
    omega
theorem pairsP_succ (ls : List ByteArray) (j : Nat) (h : 2 * j + 1 < ls.length) : (pairsP ls).take (j + 1) = (pairsP ls).take j ++ [fieldP (ls[2 * j]'(by omega)) ls[2 * j + 1]] := by
  rw [List.take_add_one, pairsP_get ls j h]
  rfl

structure SaysAt (H : Hts) (w : World) (s n v : Int) (ls : List ByteArray) (j : Nat) (Hk : Hts) (fv : Value) (wr : World) : Prop where
  ext : Ext H w Hk wr
  res : wr.heap[w.heap.size]? = some (.cells #[.int .i64 0, .int .i64 0, .int .i64 0, .int .u8 0, .int .u8 0, .slice none 0 0] 40 (0, 0))
  box : wr.heap[w.heap.size + 1]? = some (.cells #[.int .i64 s, .int .i64 n, .int .i64 v, .int .u8 0, .int .u8 0, fv] 40 (0, 0))
  own : ML.Own eField (Hk.ge w.heap.size) wr w.heap.size ((pairsP ls).take j) fv
  z : Hk (w.heap.size + 1) = 0
  z0 : Hk w.heap.size = 0

section
variable {H Hk : Hts} {w wr wr' : World} {s n v : Int} {ls : List ByteArray} {j : Nat} {fv : Value}
theorem SaysAt.below (h : SaysAt H w s n v ls j Hk fv wr) (hb : Below wr.heap.size wr wr') : SaysAt H w s n v ls j Hk fv wr' := by
  have e := Ext.of_below h.ext.fit hb
  exact ⟨h.ext.trans e, e.blk h.res, e.blk h.box, h.own.extGe h.ext.fit e, h.z, h.z0⟩
theorem SaysAt.ex {Hk' : Hts} (h : SaysAt H w s n v ls j Hk fv wr) (e : Ext Hk wr Hk' wr') : SaysAt H w s n v ls j Hk' fv wr' :=
  ⟨h.ext.trans e, e.blk h.res, e.blk h.box, h.own.extGe h.ext.fit e, (e.same _ (lt_of_block h.box)).trans h.z, (e.same _ (lt_of_block h.res)).trans h.z0⟩
theorem SaysAt.boxG {wb : World} (h : SaysAt H w s n v ls j Hk fv wr) (hg : wr.grownBy wb fv.ownBlock) : wb.heap[w.heap.size + 1]? = some (.cells #[.int .i64 s, .int .i64 n, .int .i64 v, .int .u8 0, .int .u8 0, fv] 40 (0, 0)) :=
  (hg.block _ (lt_of_block h.box) (fun e => h.own.ne h.box (by decide) e.symm)).trans h.box
theorem SaysAt.extG {wb : World} (h : SaysAt H w s n v ls j Hk fv wr) (hg : wr.grownBy wb fv.ownBlock) : Ext H w Hk wb := h.ext.grown hg (fun k e => h.own.ge k e)
theorem SaysAt.push {wb : World} {v' : Value} (h : SaysAt H w s n v ls j Hk fv wr) (hj : 2 * j + 1 < ls.length) (how : ML.Own eField (Hk.ge w.heap.size) wb w.heap.size ((pairsP ls).take j ++ [fieldP (ls[2 * j]'(by omega)) ls[2 * j + 1]]) v') (hg : wr.grownBy wb fv.ownBlock) :
    SaysAt H w s n v ls (j + 1) Hk v' (wb.setCell ⟨w.heap.size + 1, 5, none⟩ v') := by
  have hbox := h.boxG hg
  refine ⟨(h.ext.grown hg (fun k e => h.own.ge k e)).setCell (p := ⟨w.heap.size + 1, 5, none⟩) (by simp) v', (Below.heap_setCell wb ⟨w.heap.size + 1, 5, none⟩ v' _ (by simp)).trans ((hg.block _ (lt_of_block h.res) (fun e => h.own.ne h.res (by decide) e.symm)).trans h.res), blk_store' hbox v', ?_, h.z, h.z0⟩
  rw [pairsP_succ ls j hj]
  exact how.setCell (p := ⟨w.heap.size + 1, 5, none⟩) (ge_zero h.z) (how.ne hbox (by decide)) v'
end

set_option linter.unusedSimpArgs false in
set_option maxRecDepth 10000 in
set_option maxHeartbeats 2000000 in
theorem says_spec {H : Hts} {w : World} {ls : List ByteArray} {lv : Value} (s n v : Int) (hf : Fit H w) (h : Sl eStr H w ls lv) (hn : Hid (ls.length ≤ 1000)) :
    Calls Tryz.prog 14 #[.int .i64 s, .int .i64 n, .int .i64 v, lv] w (Ret fun u w' => ∃ H' cs', u = .agg cs'.toArray ∧ Ext H w H' w' ∧ eVersion.rel (H'.ge w.heap.size) w' (saysP s n v ls) cs') := by
  obtain ⟨a, c, rfl, hc1, hc2⟩ := h.form
  have HF := Lib.hid hf
  have HS := Lib.hid h
  clear h hf
  have h0 : Hid (∃ Hk fv, SaysAt H w s n v ls 0 Hk fv ((w.alloc (.cells #[.int .i64 0, .int .i64 0, .int .i64 0, .int .u8 0, .int .u8 0, .slice none 0 0] 40)).alloc (.cells #[.int .i64 s, .int .i64 n, .int .i64 v, .int .u8 0, .int .u8 0, .slice none 0 0] 40))) :=
    Lib.hid ⟨H, .slice none 0 0, ((Ext.refl HF.out).alloc _).alloc _, (blk_two w _ _).1, (blk_two w _ _).2, ML.Own.nil _, HF.out _ (by omega), HF.out _ (Nat.le_refl _)⟩
  go_enter Tryz.func14, Tryz.ntmps14
  go_wp2_with fail
  go_loopw [10] (fun i wr => ∃ j : Nat, 2 * j ≤ ls.length ∧ i = .int .i64 (2 * (j : Int) + 1) ∧ Hid (∃ Hk fv, SaysAt H w s n v ls j Hk fv wr)) (fun i _ => ls.length + 1 - (intOf i).toNat)
  case atStart => exact ⟨0, by omega, rfl, h0⟩
  case round =>
    clear h0
    obtain ⟨j, hj, rfl, hm⟩ := hrel
    have hnn := hn.out
    by_cases hlt : 2 * j + 1 < ls.length
    · obtain ⟨Hk, fv, M⟩ := hm.out
      obtain ⟨b1, o1, _, d1, e1, _, _, r1, g1⟩ := HS.out.range (2 * j) (by omega)
      obtain ⟨b2, o2, _, d2, e2, _, _, r2, g2⟩ := HS.out.range (2 * j + 1) hlt
      injection e1 with e1 _ e3
      injection e2 with e2 _ e4
      subst e1
      injection e2 with e2
      injection e2 with e2 e5 _
      subst e2
      subst e5
      subst e3
      obtain rfl : d1 = [.string ls[2 * j]] := r1
      obtain rfl : d2 = [.string ls[2 * j + 1]] := r2
      have HM := Lib.hid M
      have BX := blk6 M.box
      have hsub : IntKind.i64.wrap (2 * (j : Int)) = 2 * (j : Int) := by
        exact IntWalk.i64_in _ ⟨by omega, by omega⟩
      clear M hm
      go_upto_region 5 with fail
      have hS0 : Hid (∀ Hx wx, Ext H w Hx wx → wx.heap[w.heap.size + 1]? = some (.cells #[.int .i64 s, .int .i64 n, .int .i64 v, .int .u8 0, .int .u8 0, fv] 40 (0, 0)) → (wx.cell? ⟨w.heap.size + 1, 5, none⟩ = some fv ∧ wx.cell? ⟨b1, o1 + 2 * j, none⟩ = some (.string ls[2 * j]) ∧ wx.cell? ⟨b1, o1 + (2 * j + 1), none⟩ = some (.string ls[2 * j + 1]))) := Lib.hid (fun Hx wx hx hbx => by
        have B := blk6 hbx
        have ev := hx.evo HF.out
        have q1 := g1 _ _ ev 0 _ rfl
        have q2 := g2 _ _ ev 0 _ rfl
        have hs1 : eStr.sz = 1 := rfl
        rw [hs1] at q1 q2
        simp only [Nat.mul_one, Nat.add_zero] at q1 q2
        exact ⟨B.2.2.2.2.2.1, q1, q2⟩)
      have HM0 := Lib.hid (HM.out.below (Below.refl _ wr).drew)
      have hi0 : (0 : Int) ≤ 2 * (j : Int) := by omega
      have hi1 : 2 * (j : Int) < ls.length := by omega
      have hi2 : (0 : Int) ≤ 2 * (j : Int) + 1 := by omega
      have hi3 : 2 * (j : Int) + 1 < ls.length := by omega
      have ht1 : (2 * (j : Int)).toNat = 2 * j := by omega
      have ht2 : (2 * (j : Int) + 1).toNat = 2 * j + 1 := by omega
      have hls : Hid (((pairsP ls).take j).length + [fieldP ls[2 * j] ls[2 * j + 1]].length ≤ 16777216) := Lib.hid (by rw [List.length_take]; simp; omega)
      clear g1 g2
      refine wp_region_noPanic ?_
      refine wp_region_last (S := fun w' => w'.cell? ⟨w.heap.size + 1, 5, none⟩ = some fv ∧ w'.cell? ⟨b1, o1 + 2 * j, none⟩ = some (.string ls[2 * j]) ∧ w'.cell? ⟨b1, o1 + (2 * j + 1), none⟩ = some (.string ls[2 * j + 1])) (by kernel_rfl) (by simp) (by kernel_rfl) (hS0.out _ _ HM0.out.ext HM0.out.box) (fun hHeld => ?_)
      simp only [setLast, lastOf, dummy]
      refine wpAnyH_take (i := 0) (v := ?_) rfl (by kernel_rfl) (by kernel_rfl) (by kernel_rfl) (fun _ _ _ h => h) (Or.inl ⟨by rfl, ?_⟩) (by assumption) ?_
      rotate_left 1
      · (intro w hSw; (try dsimp only at hSw); go_simp; (try with_reducible rfl))
      try simp only [Act.put, List.setIfInBounds_toArray, List.set_cons_zero, List.set_cons_succ]
      refine wpAnyH_take (i := 1) (v := ?_) rfl (by kernel_rfl) (by kernel_rfl) (by kernel_rfl) (fun _ _ _ h => h) (Or.inl ⟨by rfl, ?_⟩) (by assumption) ?_
      rotate_left 1
      · (intro w hSw; (try dsimp only at hSw); go_simp; (try with_reducible rfl))
      try simp only [Act.put, List.setIfInBounds_toArray, List.set_cons_zero, List.set_cons_succ]
      refine wpAnyH_take (i := 2) (v := ?_) rfl (by kernel_rfl) (by kernel_rfl) (by kernel_rfl) (fun _ _ _ h => h) (Or.inl ⟨by rfl, ?_⟩) (by assumption) ?_
      rotate_left 1
      · (intro w hSw; (try dsimp only at hSw); go_simp; (try with_reducible rfl))
      try simp only [Act.put, List.setIfInBounds_toArray, List.set_cons_zero, List.set_cons_succ]
      refine wpAnyH_take (i := 3) (v := ?_) rfl (by kernel_rfl) (by kernel_rfl) (by kernel_rfl) (fun _ _ _ h => h) (Or.inl ⟨by rfl, ?_⟩) (by assumption) ?_
      rotate_left 1
      · (intro w hSw; (try dsimp only at hSw); go_simp; (try with_reducible rfl))
      try simp only [Act.put, List.setIfInBounds_toArray, List.set_cons_zero, List.set_cons_succ]
      refine wpAnyH_take (i := 4) (v := ?_) rfl (by kernel_rfl) (by kernel_rfl) (by kernel_rfl) (fun _ _ _ h => h) (Or.inl ⟨by rfl, ?_⟩) (by assumption) ?_
      rotate_left 1
      · (intro w hSw; (try dsimp only at hSw); go_simp; (try with_reducible rfl))
      try simp only [Act.put, List.setIfInBounds_toArray, List.set_cons_zero, List.set_cons_succ]
      refine wpAnyH_take (i := 5) (v := ?_) rfl (by kernel_rfl) (by kernel_rfl) (by kernel_rfl) (fun _ _ _ h => h) (Or.inl ⟨by rfl, ?_⟩) (by assumption) ?_
      rotate_left 1
      · (intro w hSw; (try dsimp only at hSw); go_simp; (try with_reducible rfl))
      try simp only [Act.put, List.setIfInBounds_toArray, List.set_cons_zero, List.set_cons_succ]
      refine wpAnyH_take (i := 6) (v := ?_) rfl (by kernel_rfl) (by kernel_rfl) (by kernel_rfl) (fun _ _ _ h => h) (Or.inl ⟨by rfl, ?_⟩) (by assumption) ?_
      rotate_left 1
      · (intro w hSw; (try dsimp only at hSw); go_simp; (try with_reducible rfl))
      try simp only [Act.put, List.setIfInBounds_toArray, List.set_cons_zero, List.set_cons_succ]
      refine wpAnyH_take (i := 7) (v := ?_) rfl (by kernel_rfl) (by kernel_rfl) (by kernel_rfl) (fun _ _ _ h => h) (Or.inl ⟨by rfl, ?_⟩) (by assumption) ?_
      rotate_left 1
      · (intro w hSw; (try dsimp only at hSw); go_simp; (try with_reducible rfl))
      try simp only [Act.put, List.setIfInBounds_toArray, List.set_cons_zero, List.set_cons_succ]
      refine wpAnyH_take (i := 8) (v := ?_) rfl (by kernel_rfl) (by kernel_rfl) (by kernel_rfl) (fun _ _ _ h => h) (Or.inl ⟨by rfl, ?_⟩) (by assumption) ?_
      rotate_left 1
      · (intro w hSw; (try dsimp only at hSw); go_simp; (try with_reducible rfl))
      try simp only [Act.put, List.setIfInBounds_toArray, List.set_cons_zero, List.set_cons_succ]
      refine wpAnyH_take (i := 9) (v := ?_) rfl (by kernel_rfl) (by kernel_rfl) (by kernel_rfl) (fun _ _ _ h => h) (Or.inl ⟨by rfl, ?_⟩) (by assumption) ?_
      rotate_left 1
      · (intro w hSw; (try dsimp only at hSw); go_simp; (try with_reducible rfl))
      try simp only [Act.put, List.setIfInBounds_toArray, List.set_cons_zero, List.set_cons_succ]
      refine wpAnyH_take (i := 10) (v := ?_) rfl (by kernel_rfl) (by kernel_rfl) (by kernel_rfl) (fun _ _ _ h => h) (Or.inl ⟨by rfl, ?_⟩) (by assumption) ?_
      rotate_left 1
      · (intro w hSw; (try dsimp only at hSw); go_simp; (try with_reducible rfl))
      try simp only [Act.put, List.setIfInBounds_toArray, List.set_cons_zero, List.set_cons_succ]
      refine wpAnyH_take (i := 11) (v := ?_) rfl (by kernel_rfl) (by kernel_rfl) (by kernel_rfl) (fun _ _ _ h => h) (Or.inl ⟨by rfl, ?_⟩) (by assumption) ?_
      rotate_left 1
      · (intro w hSw; (try dsimp only at hSw); go_simp; (try with_reducible rfl))
      try simp only [Act.put, List.setIfInBounds_toArray, List.set_cons_zero, List.set_cons_succ]
      refine wpAnyH_ready (rs := [12]) (by kernel_rfl) (by simp) ?_
      refine AllReadyH.cons rfl (fun K hK => ?_) AllReadyH.nil
      go_simp
      go_at_call 28
      refine (field_spec (H := Hk) HM0.out.ext.fit _ _).mono ?_
      rintro e w2 ⟨v2, rfl, H2, cs', rfl, hext, v4, hcs, hs5⟩
      simp only [fieldP] at hcs
      subst hcs
      obtain ⟨a4, c4, rfl, _, _⟩ := hs5.form
      have HMa := Lib.hid (fun o => (HM0.out.ex hext).below ((Below.refl _ w2).alloc (Nat.le_refl _) o))
      have HM2 := Lib.hid (HM0.out.ex hext)
      have hA : Hid (∀ o, Rels eField (H2.ge w.heap.size) (w2.alloc o) [fieldP ls[2 * j] ls[2 * j + 1]] [.string ls[2 * j], .string ⟨#[32, 32]⟩, .string ⟨#[]⟩, .slice a4 1 c4]) := Lib.hid (fun o => Rels.single ⟨_, rfl, (hs5.evo (Evo.ge2 H2 w2 HM0.out.ext.below.size)).evo ((Evo.refl _ _).alloc o)⟩)
      clear hext hs5
      refine hK.out _ _ (hS0.out _ _ HM2.out.ext HM2.out.box) (fun hHeld => ?_)
      clear hK K
      try simp only [Act.put, List.setIfInBounds_toArray, List.set_cons_zero, List.set_cons_succ]
      refine wpAnyH_ready (rs := [13]) (by kernel_rfl) (by simp) ?_
      refine AllReadyH.cons rfl (fun K hK => ?_) AllReadyH.nil
      go_simp
      refine hK.out _ _ (hS0.out _ _ (HMa.out _).ext (HMa.out _).box) (fun hHeld => ?_)
      clear hK K
      try simp only [Act.put, List.setIfInBounds_toArray, List.set_cons_zero, List.set_cons_succ]
      refine wpAnyH_ready (rs := [14]) (by kernel_rfl) (by simp) ?_
      refine AllReadyH.cons rfl (fun K hK => ?_) AllReadyH.nil
      refine step_append (H := H2.ge w.heap.size) (E := eField) rfl _ _ _ rfl okField ((HMa.out _).ext.fit.ge _) (xs := (pairsP ls).take j) (ys := [fieldP ls[2 * j] ls[2 * j + 1]]) rfl (base := w.heap.size) (HMa.out _).own rfl rfl (hA.out _) (World.news_of_block (blk_new w2 _)) (Nat.succ_pos _) hls.out (HMa.out _).ext.below.size ?_
      intro g cap wb k1 k2 k3
      have hbw := (HMa.out _).boxG k2
      have hew := (HMa.out _).extG k2
      have BW := blk6 hbw
      have HP := Lib.hid ((HMa.out _).push hlt k1 k2)
      clear k1 k2 k3
      refine hK.out _ _ (hS0.out _ _ hew hbw) (fun hHeld => ?_)
      clear hK K
      try simp only [Act.put, List.setIfInBounds_toArray, List.set_cons_zero, List.set_cons_succ]
      refine wpAnyH_take (i := 15) (v := ?_) rfl (by kernel_rfl) (by kernel_rfl) (by kernel_rfl) (fun _ _ _ h => h) (Or.inl ⟨by rfl, ?_⟩) (by assumption) ?_
      rotate_left 1
      · (intro w hSw; (try dsimp only at hSw); go_simp; (try with_reducible rfl))
      try simp only [Act.put, List.setIfInBounds_toArray, List.set_cons_zero, List.set_cons_succ]
      refine wpAnyH_take (i := 16) (v := ?_) rfl (by kernel_rfl) (by kernel_rfl) (by kernel_rfl) (fun _ _ _ h => h) (Or.inl ⟨by rfl, ?_⟩) (by assumption) ?_
      rotate_left 1
      · (intro w hSw; (try dsimp only at hSw); go_simp; (try with_reducible rfl))
      try simp only [Act.put, List.setIfInBounds_toArray, List.set_cons_zero, List.set_cons_succ]
      refine wpAnyH_take (i := 17) (v := ?_) rfl (by kernel_rfl) (by kernel_rfl) (by kernel_rfl) (fun _ _ _ h => h) (Or.inl ⟨by rfl, ?_⟩) (by assumption) ?_
      rotate_left 1
      · (intro w hSw; (try dsimp only at hSw); go_simp; (try with_reducible rfl))
      try simp only [Act.put, List.setIfInBounds_toArray, List.set_cons_zero, List.set_cons_succ]
      refine wpAnyH_done (by kernel_rfl) ?_ _
      refine LastPost.intro ?_
      go_simp
      refine NoPanic.normal ?_
      have HP2 := HP.out
      rw [List.length_take] at HP2
      have HP3 := Lib.hid HP2
      clear HP2 HP
      go_wp2
      go_roundw
      case rel => exact ⟨j + 1, by omega, by go_num, Lib.hid ⟨_, _, HP3.out⟩⟩
      case measure => simp [intOf]; omega
    · obtain ⟨Hk, fv, M⟩ := hm.out
      have hown := M.own
      have htk : (pairsP ls).take j = pairsP ls := List.take_of_length_le (by rw [pairsP_len]; omega)
      rw [htk] at hown
      obtain ⟨fa, fc, rfl, _, _⟩ := hown.form
      have BX := blk6 M.box
      have BS := blk6 M.res
      have HM := Lib.hid M
      have HO := Lib.hid hown
      clear M hown hm htk
      go_wp2
      have hz := ge_zero (B := w.heap.size) HM.out.z0
      have hne := HO.out.ne HM.out.res (by decide)
      have o1 := (((((HO.out.setCell (p := ⟨w.heap.size, 0, none⟩) hz hne (.int .i64 s)).setCell (p := ⟨w.heap.size, 1, none⟩) hz hne (.int .i64 n)).setCell (p := ⟨w.heap.size, 2, none⟩) hz hne (.int .i64 v)).setCell (p := ⟨w.heap.size, 3, none⟩) hz hne (.int .u8 0)).setCell (p := ⟨w.heap.size, 4, none⟩) hz hne (.int .u8 0)).setCell (p := ⟨w.heap.size, 5, none⟩) hz hne (.slice fa (pairsP ls).length fc)
      have e1 := (((((HM.out.ext.setCell (p := ⟨w.heap.size, 0, none⟩) (Nat.le_refl _) (.int .i64 s)).setCell (p := ⟨w.heap.size, 1, none⟩) (Nat.le_refl _) (.int .i64 n)).setCell (p := ⟨w.heap.size, 2, none⟩) (Nat.le_refl _) (.int .i64 v)).setCell (p := ⟨w.heap.size, 3, none⟩) (Nat.le_refl _) (.int .u8 0)).setCell (p := ⟨w.heap.size, 4, none⟩) (Nat.le_refl _) (.int .u8 0)).setCell (p := ⟨w.heap.size, 5, none⟩) (Nat.le_refl _) (.slice fa (pairsP ls).length fc)
      obtain ⟨H3, e2, s1⟩ := o1.freshGe e1
      exact bodyPost_ret (v := .agg #[.int .i64 s, .int .i64 n, .int .i64 v, .int .u8 0, .int .u8 0, .slice fa (pairsP ls).length fc]) (by simp [results, Tryz.results14, go_sem, BS]) rfl (Ret.mk ⟨H3, [.int .i64 s, .int .i64 n, .int .i64 v, .int .u8 0, .int .u8 0, .slice fa (pairsP ls).length fc], rfl, e2, _, rfl, s1⟩)
end Go.Proofs.YtnidmikcjkaegaaGreatDoor
