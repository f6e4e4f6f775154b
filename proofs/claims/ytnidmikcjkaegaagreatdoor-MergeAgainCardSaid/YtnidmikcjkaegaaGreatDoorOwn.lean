/-
  What is proved here: contracts of merge.copied and merge.own. Conditions: the lists' lengths are bounded.
-/
import Derived.Test.YtnidmikcjkaegaaGreatDoorClone
namespace Go.Proofs.YtnidmikcjkaegaaGreatDoor
open Go Go.RowKit Go.ML

set_option maxHeartbeats 400000 in
theorem copied_spec {H : Hts} {w : World} {x : GField} {cs : List Value} (hf : Fit H w) (h : eField.rel H w x cs) (hn : Hid (x.subs.length ≤ 1000000)) :
    Calls Tryz.prog 38 #[.agg cs.toArray] w (Ret fun v w' => ∃ H' cs', v = .agg cs'.toArray ∧ Ext H w H' w' ∧ eField.rel (H'.ge w.heap.size) w' x cs') := by
  obtain ⟨v, rfl, hs⟩ := h
  have HF := Lib.hid hf
  have HS := Lib.hid hs
  clear hf hs
  go_enter Tryz.func38, Tryz.ntmps38
  go_wp2_with fail
  refine (cloneS ((HF.out.alloc _).alloc _) (HS.out.evo (((Evo.refl _ _).alloc _).alloc _)) hn).mono ?_
  rintro e w1 ⟨v', rfl, hext, hown⟩
  obtain ⟨a', c', rfl, _, _⟩ := hown.form
  have hz : w.heap.size + 1 < w1.heap.size := by have := hext.below.size; simp at this; omega
  have B1 := blk4 (hext.blk (blk_two _ _ _).1)
  have B2 := blk4 (hext.blk (blk_two _ _ _).2)
  have HE := Lib.hid hext
  have HO := Lib.hid hown
  clear hext hown
  go_wp2_with fail
  have z0 := HF.out w.heap.size (Nat.le_refl _)
  have z1 := HF.out (w.heap.size + 1) (by omega)
  have hb : w.heap.size + 1 + 1 = ((w.alloc (Obj.cells #[Value.string x.tag, Value.string x.ind, Value.string x.data, v] 38)).alloc (Obj.cells #[Value.string ⟨#[]⟩, Value.string ⟨#[]⟩, Value.string ⟨#[]⟩, Value.slice none 0 0] 38)).heap.size := by simp
  have o2 := ((((HO.out.setCellLt (p := ⟨w.heap.size, 3, none⟩) (by simp; omega) z0 (Value.slice a' x.subs.length c')).setCellLt (p := ⟨w.heap.size + 1, 0, none⟩) (by simp) z1 (.string x.tag)).setCellLt (p := ⟨w.heap.size + 1, 1, none⟩) (by simp) z1 (.string x.ind)).setCellLt (p := ⟨w.heap.size + 1, 2, none⟩) (by simp) z1 (.string x.data)).setCellLt (p := ⟨w.heap.size + 1, 3, none⟩) (by simp) z1 (Value.slice a' x.subs.length c')
  have e2 := (((((((Ext.refl HF.out).alloc _).alloc _).trans HE.out).setCell (p := ⟨w.heap.size, 3, none⟩) (by simp) (Value.slice a' x.subs.length c')).setCell (p := ⟨w.heap.size + 1, 0, none⟩) (by simp) (.string x.tag)).setCell (p := ⟨w.heap.size + 1, 1, none⟩) (by simp) (.string x.ind)).setCell (p := ⟨w.heap.size + 1, 2, none⟩) (by simp) (.string x.data) |>.setCell (p := ⟨w.heap.size + 1, 3, none⟩) (by simp) (Value.slice a' x.subs.length c')
  obtain ⟨H', e3, s3⟩ := ((o2.low (base' := w.heap.size) (by omega)).geOf (fun _ _ h => h)).freshGe e2
  exact bodyPost_ret (v := .agg #[.string x.tag, .string x.ind, .string x.data, .slice a' x.subs.length c']) (by simp [results, Tryz.results38, go_sem, B2]) rfl (Ret.mk ⟨H', [.string x.tag, .string x.ind, .string x.data, .slice a' x.subs.length c'], rfl, e3, _, rfl, s3⟩)

theorem rel_field {H : Hts} {w : World} {x : GField} {cs : List Value} (h : eField.rel H w x cs) : ∃ v, cs = [.string x.tag, .string x.ind, .string x.data, v] ∧ Sl eSub H w x.subs v := h

/-- The loop of merge.own: of the owned fields the first k are made anew. -/
def OwnMid (H : Hts) (w : World) (xs : List GField) (a : Option Addr) (c : Nat) (A Z : Obj) (k : Nat) (wr : World) : Prop :=
  ∃ Hk cells1 cells2, Ext H w Hk wr ∧ wr.ownsRow (w.heap.size + 1 + 1) 38 4 (.slice a xs.length c) xs.length (cells1 ++ cells2) ∧ cells1.length = k * 4 ∧
    Rels eField (Hk.ge w.heap.size) wr (xs.take k) cells1 ∧ Rels eField Hk wr (xs.drop k) cells2 ∧ (∀ b, Value.ownBlock (.slice a xs.length c) = some b → Hk b = 0) ∧
    wr.heap[w.heap.size]? = some A ∧ wr.heap[w.heap.size + 1]? = some Z ∧ (∀ b, w.heap.size ≤ b → b < w.heap.size + 1 + 1 → Hk b = 0)

theorem OwnMid.step {H : Hts} {w wr : World} {xs : List GField} {a : Option Addr} {c k : Nat} {A Z : Obj} (h : OwnMid H w xs a c A Z k wr) (hk : k < xs.length) :
    ∃ g Hk v2, a = some ⟨g, 0, none⟩ ∧ Fit Hk wr ∧ Sl eSub Hk wr xs[k].subs v2 ∧ wr.rangeAt g (k * 4) [.string xs[k].tag, .string xs[k].ind, .string xs[k].data, v2] ∧ xs.length ≤ c ∧
      ∀ H3 w2 cs', Ext Hk wr H3 w2 → eField.rel (H3.ge wr.heap.size) w2 xs[k] cs' → ∃ cells, w2.ownsRow (w.heap.size + 1 + 1) 38 4 (.slice (some ⟨g, 0, none⟩) xs.length c) xs.length cells ∧
        ∀ w3, w3.ownsRow (w.heap.size + 1 + 1) 38 4 (.slice (some ⟨g, 0, none⟩) xs.length c) xs.length (cells.take (k * 4) ++ cs' ++ cells.drop (k * 4 + 4)) → w2.grownBy w3 (some g) → OwnMid H w xs (some ⟨g, 0, none⟩) c A Z (k + 1) w3 := by
  obtain ⟨Hk, cells1, cells2, e1, row, hl, r1, r2, hz, b1, b2, hz2⟩ := h
  obtain ⟨g, cap, hv, hbg, hlt⟩ := row.form (by omega)
  injection hv with e2 _ e3
  subst e2
  subst e3
  obtain ⟨cx, r, rfl, hx, hr⟩ := r2.head hk
  obtain ⟨v2, rfl, hs2⟩ := rel_field hx
  have hcap : xs.length ≤ c := by
    rcases row.2 with ⟨hn, _⟩ | ⟨_, cap', _, hv', _, _, k1, _⟩
    · cases hn
    · injection hv' with _ _ e3
      subst e3; exact k1
  refine ⟨g, Hk, v2, rfl, e1.fit, hs2, ?_, hcap, ?_⟩
  · intro j u hu
    have hj : j < 4 := (List.getElem?_eq_some_iff.1 hu).1
    have hb : k * 4 + j < xs.length * 4 := by omega
    rw [row.cellAt (k * 4 + j) hb, List.getElem?_append_right (by omega), hl, show k * 4 + j - k * 4 = j by omega, List.getElem?_append_left (by simpa using hj)]
    exact hu
  · intro H3 w2 cs' e3 hrel
    have hsame : w2.heap[g]? = wr.heap[g]? := e3.below.block g hlt
    have row2 : w2.ownsRow (w.heap.size + 1 + 1) 38 4 (.slice (some ⟨g, 0, none⟩) xs.length c) xs.length (cells1 ++ ([.string xs[k].tag, .string xs[k].ind, .string xs[k].data, v2] ++ r)) :=
      ownsRow_same row (fun b hb => by simp [Value.ownBlock] at hb; subst hb; exact hsame)
    refine ⟨_, row2, fun w3 row3 hg => ?_⟩
    have hz3 : H3 g = 0 := (e3.same g hlt).trans (hz g rfl)
    have hl' : cs'.length = 4 := eField.len hrel
    have v3 : Evo H3 w2 H3 w3 := (Evo.refl H3 w2).grown hg (fun q hq => by injection hq with hq; subst hq; exact hz3)
    have ev := (e3.evo e1.fit).trans v3
    have ets : (cells1 ++ ([.string xs[k].tag, .string xs[k].ind, .string xs[k].data, v2] ++ r)).take (k * 4) = cells1 := by
      rw [List.take_append, List.take_of_length_le (by omega), hl]; simp
    have eds : (cells1 ++ ([.string xs[k].tag, .string xs[k].ind, .string xs[k].data, v2] ++ r)).drop (k * 4 + 4) = r := by
      rw [List.drop_append, List.drop_eq_nil_of_le (by omega), hl, List.nil_append, show k * 4 + 4 - k * 4 = 4 by omega]; rfl
    rw [ets, eds] at row3
    refine ⟨H3, cells1 ++ cs', r, (e1.trans e3).grown hg (fun q hq => by injection hq with hq; omega), row3, by rw [List.length_append, hl, hl']; omega,
      Rels.snoc (r1.evo (ev.geMono _)) hk (eField.evo ((Evo.ge2 H3 w2 e1.below.size).trans (v3.geMono _)) hrel), hr.evo ev, fun b hb => ?_, ?_, ?_, fun b hb1 hb2 => (e3.same b (by have := lt_of_block b2; omega)).trans (hz2 b hb1 hb2)⟩
    · simp [Value.ownBlock] at hb; subst hb; exact hz3
    · rw [hg.block _ (by have := e3.below.size; have := lt_of_block b1; omega) (fun q => by injection q with q; omega)]; exact e3.blk b1
    · rw [hg.block _ (by have := e3.below.size; have := lt_of_block b2; omega) (fun q => by injection q with q; omega)]; exact e3.blk b2

set_option maxHeartbeats 400000 in
theorem own_spec {H : Hts} {w : World} {x : GVersion} {cs : List Value} (hf : Fit H w) (h : eVersion.rel H w x cs) (hn : Hid (x.record.fields.length ≤ 1000000)) (hm : Hid (∀ f ∈ x.record.fields, f.subs.length ≤ 1000000)) :
    Calls Tryz.prog 24 #[.agg cs.toArray] w (Ret fun v w' => ∃ H' cs', v = .agg cs'.toArray ∧ Ext H w H' w' ∧ eVersion.rel (H'.ge w.heap.size) w' x cs') := by
  obtain ⟨v, rfl, hs⟩ := h
  have HF := Lib.hid hf
  have HS := Lib.hid hs
  clear hf hs
  go_enter Tryz.func24, Tryz.ntmps24
  go_wp2_with fail
  refine (cloneF ((HF.out.alloc _).alloc _) (HS.out.evo (((Evo.refl _ _).alloc _).alloc _)) hn).mono ?_
  rintro e w1 ⟨v', rfl, hext, hown⟩
  obtain ⟨a', c', rfl, ha', hc'⟩ := hown.form
  have hMid : Hid (OwnMid H w x.record.fields a' c' (.cells #[.int .i64 x.frm.src, .int .i64 x.frm.num, .int .i64 x.number, .int .u8 x.record.kind, .int .u8 x.record.level, v] 40) (.cells #[.int .i64 0, .int .i64 0, .int .i64 0, .int .u8 0, .int .u8 0, .slice none 0 0] 40) 0 w1) := by
    obtain ⟨cells, k1, k2, k3⟩ := hown
    exact ⟨H, [], cells, ((Ext.refl HF.out).alloc _ |>.alloc _).trans hext, by simpa [eField] using k1, by simp, by simp [Rels], by simpa using k2, k3, hext.blk (blk_two _ _ _).1, hext.blk (blk_two _ _ _).2, HF.out.zero (Nat.le_refl _)⟩
  clear hext hown
  go_wp2_with fail
  go_loopw [11] (fun i wr => ∃ k : Nat, k ≤ x.record.fields.length ∧ i = .int .i64 k ∧ Hid (OwnMid H w x.record.fields a' c' (.cells #[.int .i64 x.frm.src, .int .i64 x.frm.num, .int .i64 x.number, .int .u8 x.record.kind, .int .u8 x.record.level, v] 40) (.cells #[.int .i64 0, .int .i64 0, .int .i64 0, .int .u8 0, .int .u8 0, .slice none 0 0] 40) k wr)) (fun i _ => x.record.fields.length - (intOf i).toNat)
  case atStart => exact ⟨0, Nat.zero_le _, rfl, hMid⟩
  case round =>
    obtain ⟨k, hk, rfl, hm2⟩ := hrel
    clear hMid
    have hnn := hn.out
    by_cases hlt : k < x.record.fields.length
    · obtain ⟨g, Hk, v2, rfl, hfk, hs2, hra, hcap, hnext⟩ := hm2.out.step hlt
      have HN := Lib.hid hnext
      have HX := Lib.hid (And.intro hfk hs2)
      clear hnext hfk hs2 hm2
      go_wp2_with (refine wpList_load_mid rfl 38 (.tmp 18) rfl g (k * 4) rfl _ _ hra Tryz.underlying38 rfl (by kernel_rfl) ?_)
      refine (copied_spec HX.out.1 (x := x.record.fields[k]) ⟨v2, rfl, HX.out.2⟩ (Lib.hid (hm.out _ (List.getElem_mem hlt)))).mono ?_
      rintro e w2 ⟨v3, rfl, H3, cs', rfl, hext, hrel⟩
      obtain ⟨cells, row, hfin⟩ := HN.out H3 w2 cs' hext hrel
      have HR := Lib.hid (And.intro row (And.intro hfin hrel))
      clear row hfin hext hrel HN hra
      go_wp2_with (refine row_store rfl 38 (.tmp 21) (.tmp 20) rfl HR.out.1 hlt (by decide) rfl rfl rfl (eField.len HR.out.2.2) (by kernel_rfl) (eField.one HR.out.2.2) ?_; intro w3 r3 g3 _)
      go_roundw
      case rel => exact ⟨k + 1, by omega, by go_num, HR.out.2.1 w3 r3 g3⟩
      case measure => simp [intOf]; omega
    · have : k = x.record.fields.length := by omega
      subst this
      obtain ⟨Hk, cells1, cells2, e1, row, hl, r1, r2, hz, b1, b2, hz2⟩ := hm2.out
      have B1 := blk6 b1
      have B2 := blk6 b2
      have hzz : w.heap.size + 1 < wr.heap.size := lt_of_block b2
      rw [List.drop_length] at r2
      obtain rfl : cells2 = [] := r2
      rw [List.take_length] at r1
      rw [List.append_nil] at row
      have HR := Lib.hid (And.intro e1 (And.intro row (And.intro r1 (And.intro hz hz2))))
      clear e1 row r1 hz b1 b2 hm2 hnn hlt hl hz2
      go_wp2
      have l : MLoc w.heap.size (w.heap.size + 1 + 1) wr (((((((wr.setCell ⟨w.heap.size, 5, none⟩ (.slice a' x.record.fields.length c')).setCell ⟨w.heap.size + 1, 0, none⟩ (.int .i64 x.frm.src)).setCell ⟨w.heap.size + 1, 1, none⟩ (.int .i64 x.frm.num)).setCell ⟨w.heap.size + 1, 2, none⟩ (.int .i64 x.number)).setCell ⟨w.heap.size + 1, 3, none⟩ (.int .u8 x.record.kind)).setCell ⟨w.heap.size + 1, 4, none⟩ (.int .u8 x.record.level)).setCell ⟨w.heap.size + 1, 5, none⟩ (.slice a' x.record.fields.length c')) := by
        repeat (first | with_reducible exact MLoc.refl _ _ _ | refine MLoc.setCell ?_ (by dsimp only; omega) (by dsimp only; omega) _)
      obtain ⟨e1, row, r1, hz, hz2⟩ := HR.out
      have hown : Own eField (Hk.ge w.heap.size) wr (w.heap.size + 1 + 1) x.record.fields (.slice a' x.record.fields.length c') :=
        ⟨cells1, row, r1, fun b hb => by have := Hk.ge_le w.heap.size b; have := hz b hb; omega⟩
      obtain ⟨H', e3, s3⟩ := ((hown.loc l (fun b h1 h2 => by have := Hk.ge_le w.heap.size b; have := hz2 b h1 h2; omega) (Nat.le_refl _)).low (base' := w.heap.size) (by omega)).freshGe (e1.loc l (Nat.le_refl _))
      exact bodyPost_ret (v := .agg #[.int .i64 x.frm.src, .int .i64 x.frm.num, .int .i64 x.number, .int .u8 x.record.kind, .int .u8 x.record.level, .slice a' x.record.fields.length c']) (by simp [results, Tryz.results24, go_sem, B2]) rfl (Ret.mk ⟨H', [.int .i64 x.frm.src, .int .i64 x.frm.num, .int .i64 x.number, .int .u8 x.record.kind, .int .u8 x.record.level, .slice a' x.record.fields.length c'], rfl, e3, _, rfl, s3⟩)
end Go.Proofs.YtnidmikcjkaegaaGreatDoor
