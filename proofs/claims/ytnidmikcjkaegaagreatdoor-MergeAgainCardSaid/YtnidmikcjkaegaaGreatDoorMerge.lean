/-
  What is proved here: the contract of merge.Merge. Conditions: the lists are small.
-/
import Derived.Test.YtnidmikcjkaegaaGreatDoorGrp3
import Derived.Deep.AppendLies
import Derived.Deep.RegionLaw
import Derived.StillTailTactics
import Derived.Shelf.Abstract
import Derived.Deep.DeepCutAuto
namespace Go.Proofs.YtnidmikcjkaegaaGreatDoor
open Go Go.RowKit Go.ML

def SmallX (x : GVersion) : Prop := x.record.fields.length ≤ 100 ∧ ∀ f ∈ x.record.fields, SmallF f
theorem SmallX.v {x : GVersion} (h : SmallX x) : SmallV x := ⟨by have := h.1; omega, fun f hf => by have := (h.2 f hf).2.1; omega⟩

theorem length_mput' {κ β : Type} [DecidableEq κ] (l : List (κ × β)) (x : κ) (v : β) : (mput l x v).length ≤ l.length + 1 := by
  unfold mput
  cases findIx x l 0 with
  | none => simp
  | some p => simp
theorem grp_len0 : ∀ (S : List GSaid) (G : Grp) (n : Nat), G.length ≤ n → (∀ p ∈ G, p.2.length ≤ n) → (S.foldl gput G).length ≤ n + S.length ∧ ∀ p ∈ S.foldl gput G, p.2.length ≤ n + S.length
  | [], G, n, h1, h2 => ⟨h1, h2⟩
  | x :: S, G, n, h1, h2 => by
    have hg : ((mget G x.field.tag).getD []).length ≤ n := by
      cases hm : mget G x.field.tag with
      | none => simp
      | some ys => exact h2 _ (mget_mem hm)
    have k1 : (gput G x).length ≤ n + 1 := by
      unfold gput
      have := length_mput' G x.field.tag ((mget G x.field.tag).getD [] ++ [x])
      omega
    have k2 : ∀ p ∈ gput G x, p.2.length ≤ n + 1 := fun p hp => by
      unfold gput at hp
      rcases mem_mput hp with rfl | hp
      · simp; omega
      · have := h2 p hp; omega
    have := grp_len0 S (gput G x) (n + 1) k1 k2
    rw [List.length_cons, show n + (S.length + 1) = n + 1 + S.length by omega]
    exact this
theorem grp_len (S : List GSaid) : (grp S).length ≤ S.length ∧ ∀ p ∈ grp S, p.2.length ≤ S.length := by
  have := grp_len0 S [] 0 (Nat.le_refl _) (fun p hp => by cases hp)
  simpa [grp] using this
theorem setCell_blk {w : World} {b i : Nat} {cs : Array Value} {t : TypeId} (h : w.heap[b]? = some (.cells cs t (0, 0))) (x : Value) : (w.setCell ⟨b, i, none⟩ x).heap[b]? = some (.cells (cs.setIfInBounds i x) t (0, 0)) := by
  obtain ⟨hlt, hk⟩ := Array.getElem?_eq_some_iff.1 h
  show (w.heap.modify b _)[b]? = _
  rw [Array.getElem?_eq_getElem (by rw [Array.size_modify]; exact hlt), Array.getElem_modify_self, hk]
  rfl
theorem saids_len {vs : List GVersion} (h : ∀ x ∈ vs, x.record.fields.length ≤ 100) : (vs.flatMap saidsOf).length ≤ vs.length * 100 := by
  induction vs with
  | nil => simp
  | cons v r ih =>
    have h1 := h v (List.mem_cons_self ..)
    have h2 := ih (fun x hx => h x (List.mem_cons_of_mem _ hx))
    rw [List.flatMap_cons, List.length_append, List.length_cons, Nat.succ_mul]
    have : (saidsOf v).length = v.record.fields.length := by simp [saidsOf]
    omega

def MergedIs (H : Hts) (w : World) (x : GMerged) (v : Value) : Prop := ∃ fv rv, v = .agg #[.int .u8 x.kind, .int .u8 x.level, fv, rv] ∧ Sl eField H w x.fields fv ∧ Sl eRec H w x.frm rv

theorem mergeP_pos {xs : List GVersion} (h : 0 < (latest xs).length) : mergeP xs = ⟨(latest xs)[0].record.kind, (latest xs)[0].record.level, (keptOf (grp ((latest xs).flatMap saidsOf))).map (·.field), (keptOf (grp ((latest xs).flatMap saidsOf))).map (·.frm)⟩ := by
  unfold mergeP
  split
  · rename_i e; rw [e] at h; simp at h
  · rename_i v r e; simp only [e]; rfl

theorem step_append {α : Type} {E : Enc α} {H : Hts} {w : World} {P : Program} {ops : Array Oper} {o : Oper} {a : Act} {K : Act → World → Prop} {Q : Exit → Act → World → Prop} {F : Prop} (hgd : o.guard = none) (s x : Operand) (t : TypeId)
    (ho : o.op = .call { callee := .builtin .append, args := #[s, x], argTypes := #[t, t] }) {bytes : Nat} (ok : EncOk P t E bytes) (hf : Fit H w) {base : Nat} {xs ys : List α} {v : Value} (hs : a.eval s = v) (hown : ML.Own E H w base xs v)
    {ad : Addr} {m c : Nat} {news : List Value} (hx : a.eval x = .slice (some ad) m c) (hm : m = ys.length) (hy : Rels E H w ys news) (hnews : ∀ j u, news[j]? = some u → w.cell? (ad.add j) = some u)
    (hpos : 0 < m) (hlen : xs.length + ys.length ≤ 16777216) (hb : base ≤ w.heap.size)
    (h : ∀ g cap w', ML.Own E H w' base (xs ++ ys) (.slice (some ⟨g, 0, none⟩) (xs.length + m) cap) → w.grownBy w' v.ownBlock → (v.ownBlock = some g ∨ g = w.heap.size) → K (a.put o.dst (.slice (some ⟨g, 0, none⟩) (xs.length + m) cap)) w') : if Region.wanted o (yielded ops a.tmps) = true then Oper.wp P o a w K Q else F := by
  obtain ⟨i, z, hi, hz, h1, h2, h3⟩ := ok.parts
  obtain ⟨cells, hr, hc, hzero⟩ := hown
  subst hm
  have hbd : (xs.length + ys.length) * bytes ≤ 140737488355328 := by
    have := Nat.mul_le_mul hlen ok.small
    omega
  refine step_append_lies (w := w) hgd s x t ho base E.ty i z E.sz bytes ok.u hi hz h1 h2 h3 E.pos v xs.length cells hs hr ad ys.length c news hx hy.length hnews hy.one hpos (by simp only [maxLen]; omega) hbd hb _ rfl ?_
  intro g cap w' hown' hgrow hat hlt
  obtain ⟨k1, k2, k3⟩ := ML.Own.appended (v' := .slice (some ⟨g, 0, none⟩) (xs.length + ys.length) cap) hr hc hzero hf hy rfl hown' hgrow hat
  exact h g cap w' k1 hgrow hat

theorem okSaid : EncOk Tryz.prog 56 eSaid 88 := ⟨Tryz.underlying56, by kernel_rfl, by decide⟩

theorem zeroCol (w : World) : (zeroValue 55).run Tryz.prog w = .ok (.pointer none) w := by kernel_rfl

set_option maxRecDepth 10000 in
set_option maxHeartbeats 4000000 in
theorem merge_spec {H : Hts} {w : World} {xs : List GVersion} {v : Value} (hf : Fit H w) (h : Sl eVersion H w xs v) (hn : Hid (xs.length ≤ 20)) (hx : Hid (∀ x ∈ xs, SmallX x)) :
    Calls Tryz.prog 6 #[v] w (Ret fun v' w' => ∃ H', Ext H w H' w' ∧ MergedIs (H'.ge w.heap.size) w' (mergeP xs) v') := by
  obtain ⟨a, c, rfl, _, _⟩ := h.form
  have HF := Lib.hid hf
  have HS := Lib.hid h
  clear h hf
  go_enter Tryz.func6, Tryz.ntmps6
  go_wp2_with fail
  refine (latest_spec ((HF.out.alloc _).alloc _) (HS.out.evo (((Evo.refl _ _).alloc _).alloc _)) (Lib.hid (by have := hn.out; omega)) (Lib.hid (fun x h => (hx.out x h).v))).mono ?_
  rintro e w1 ⟨v1, rfl, H1, hext, hown⟩
  obtain ⟨a1, c1, rfl, hc1, hc2⟩ := hown.form
  have B1 := blk4 (hext.blk (blk_two _ _ _).1)
  have B2 := blk4 (hext.blk (blk_two _ _ _).2)
  have hb1 := Lib.hid (hext.blk (blk_two _ _ _).1)
  have hb2 := Lib.hid (hext.blk (blk_two _ _ _).2)
  have HX := Lib.hid (And.intro hext hown)
  clear hext hown
  rcases Nat.eq_zero_or_pos (latest xs).length with hl0 | hlp
  · have hl := List.length_eq_zero_iff.1 hl0
    rw [hl] at HX
    simp only [hl0] at *
    have hm0 : Hid (mergeP xs = ⟨0, 0, [], []⟩) := Lib.hid (by unfold mergeP; rw [hl])
    clear hl
    go_wp2
    have e1 : Ext H w H1 ((((w1.setCell ⟨w.heap.size, 0, none⟩ (.int .u8 0)).setCell ⟨w.heap.size, 1, none⟩ (.int .u8 0)).setCell ⟨w.heap.size, 2, none⟩ (.slice none 0 0)).setCell ⟨w.heap.size, 3, none⟩ (.slice none 0 0)) :=
      (((((((Ext.refl HF.out).alloc _).alloc _).trans HX.out.1).setCell (p := ⟨w.heap.size, 0, none⟩) (by simp) _).setCell (p := ⟨w.heap.size, 1, none⟩) (by simp) _).setCell (p := ⟨w.heap.size, 2, none⟩) (by simp) _).setCell (p := ⟨w.heap.size, 3, none⟩) (by simp) _
    exact bodyPost_ret (v := .agg #[.int .u8 0, .int .u8 0, .slice none 0 0, .slice none 0 0]) (by simp [results, Tryz.results6, go_sem, B1]) rfl (Ret.mk ⟨H1, e1, by rw [hm0.out]; exact ⟨_, _, rfl, Sl.nil, Sl.nil⟩⟩)
  · have hlen : Hid ((latest xs).length ≤ 20) := Lib.hid (by
      have h1 := (latest_perm xs).length_eq
      have h2 := best_length xs xs.length
      have h3 : (vers xs (best xs xs.length)).length ≤ (best xs xs.length).length := List.length_filterMap_le ..
      have := hn.out
      omega)
    have hsm : Hid (∀ x ∈ latest xs, SmallX x) := Lib.hid (fun x h => by
      have h1 := (latest_perm xs).mem_iff.1 h
      obtain ⟨p, _, hp⟩ := List.mem_filterMap.1 h1
      exact hx.out x (List.mem_of_getElem? hp))
    have hml : Hid (mergeP xs = ⟨(latest xs)[0].record.kind, (latest xs)[0].record.level, (keptOf (grp ((latest xs).flatMap saidsOf))).map (·.field), (keptOf (grp ((latest xs).flatMap saidsOf))).map (·.frm)⟩) := Lib.hid (mergeP_pos hlp)
    obtain ⟨H2, e2, s2⟩ := HX.out.2.freshGe HX.out.1
    obtain ⟨b0, o0, _, _, hv0, _, _, _, _, htag, _⟩ := s2.at_ 0 hlp
    injection hv0 with hv0 _ _
    subst hv0
    have hne : b0 ≠ w.heap.size + 1 := fun e => by
      rw [e, tag_cells hb2.out] at htag
      cases htag
    obtain ⟨b, o, c', cs, hv, _, _, hrl, hra⟩ := s2.range 0 hlp
    injection hv with e3 _ e5
    injection e3 with e3
    injection e3 with e3 e4 _
    subst e3
    subst e4
    subst e5
    obtain ⟨v2, rfl, _⟩ := rel_version hrl
    have hra0 := hra _ _ (Evo.refl _ _)
    have r3 : w1.cell? ⟨b0, o0 + 3, none⟩ = some (.int .u8 (latest xs)[0].record.kind) := hra0 3 _ rfl
    have r4 : w1.cell? ⟨b0, o0 + 4, none⟩ = some (.int .u8 (latest xs)[0].record.level) := hra0 4 _ rfl
    have HV := Lib.hid (And.intro e2 s2)
    clear hra hra0 hrl e2 s2 HX
    have hvp : ¬ (latest xs).length = 0 := by omega
    have hms : mergeP xs = mergeP xs := rfl
    clear hms
    generalize latest xs = vs at *
    go_wp2_with fail
    go_region_held3 (fun w' => w'.cell? ⟨b0, o0 + 3, none⟩ = some (.int .u8 vs[0].record.kind) ∧ w'.cell? ⟨b0, o0 + 4, none⟩ = some (.int .u8 vs[0].record.level))
      (first
        | exact ⟨r3, r4⟩
        | exact ⟨(World.cell?_setCell_far w1 ⟨w.heap.size + 1, _, none⟩ ⟨b0, o0 + 3, none⟩ _ (fun e => hne e.symm)).trans r3, (World.cell?_setCell_far w1 ⟨w.heap.size + 1, _, none⟩ ⟨b0, o0 + 4, none⟩ _ (fun e => hne e.symm)).trans r4⟩
        | exact ⟨(World.cell?_setCell_far _ ⟨w.heap.size + 1, _, none⟩ ⟨b0, o0 + 3, none⟩ _ (fun e => hne e.symm)).trans ((World.cell?_setCell_far w1 ⟨w.heap.size + 1, _, none⟩ ⟨b0, o0 + 3, none⟩ _ (fun e => hne e.symm)).trans r3), (World.cell?_setCell_far _ ⟨w.heap.size + 1, _, none⟩ ⟨b0, o0 + 4, none⟩ _ (fun e => hne e.symm)).trans ((World.cell?_setCell_far w1 ⟨w.heap.size + 1, _, none⟩ ⟨b0, o0 + 4, none⟩ _ (fun e => hne e.symm)).trans r4)⟩)
      (first | fail)
    obtain ⟨w2, hw2⟩ : ∃ w2, w2 = ((w1.setCell ⟨w.heap.size + 1, 0, none⟩ (.int .u8 vs[0].record.kind)).setCell ⟨w.heap.size + 1, 1, none⟩ (.int .u8 vs[0].record.level)).drew := ⟨_, rfl⟩
    rw [← hw2]
    have HQ : Hid (Ext H w H2 w2 ∧ Fit (H2.ge (w.heap.size + 2)) w2 ∧ Sl eVersion (H2.ge (w.heap.size + 2)) w2 vs (.slice (some ⟨b0, o0, none⟩) vs.length c1) ∧
        w2.heap[w.heap.size]? = some (.cells #[.int .u8 0, .int .u8 0, .slice none 0 0, .slice none 0 0] 29 (0, 0)) ∧ w2.heap[w.heap.size + 1]? = some (.cells #[.int .u8 vs[0].record.kind, .int .u8 vs[0].record.level, .slice none 0 0, .slice none 0 0] 29 (0, 0)) ∧ w.heap.size + 2 ≤ w2.heap.size) := by
      have e1 := ((Ext.refl HF.out).alloc (.cells #[.int .u8 0, .int .u8 0, .slice none 0 0, .slice none 0 0] 29)).alloc (.cells #[.int .u8 0, .int .u8 0, .slice none 0 0, .slice none 0 0] 29) |>.trans HV.out.1
      have hz : H2.ge (w.heap.size + 2) (w.heap.size + 1) = 0 := by simp [Hts.ge]
      have hs := HV.out.2
      simp only [World.size_alloc] at hs
      rw [hw2]
      refine Lib.hid ⟨((e1.setCell (p := ⟨w.heap.size + 1, 0, none⟩) (by simp) _).setCell (p := ⟨w.heap.size + 1, 1, none⟩) (by simp) _).drew, ((((HV.out.1.fit.ge _).setCell _ _).setCell _ _).drew), hs.evo ((((Evo.refl _ _).setCell (p := ⟨w.heap.size + 1, 0, none⟩) hz _).setCell (p := ⟨w.heap.size + 1, 1, none⟩) hz _).drew), ?_, ?_, ?_⟩
      · exact (Below.heap_setCell _ ⟨w.heap.size + 1, 1, none⟩ _ w.heap.size (by simp)).trans ((Below.heap_setCell w1 ⟨w.heap.size + 1, 0, none⟩ _ w.heap.size (by simp)).trans hb1.out)
      · exact setCell_blk (setCell_blk hb2.out (.int .u8 vs[0].record.kind)) (.int .u8 vs[0].record.level)
      · have h1 := HV.out.1.below.size
        have h2 : ((w1.setCell ⟨w.heap.size + 1, 0, none⟩ (.int .u8 vs[0].record.kind)).setCell ⟨w.heap.size + 1, 1, none⟩ (.int .u8 vs[0].record.level)).drew.heap.size = w1.heap.size := by
          simp [World.setCell, World.drew]
        rw [h2]
        simp at h1
        omega
    have hmm := @run_makeMap Tryz.prog
    have hM : Hid (∃ cs, M1 (H2.ge (w.heap.size + 2)) w2 ([] : List GSaid) (.slice none 0 0) cs (w2.alloc (.map #[] 0))) :=
      Lib.hid ⟨[], (Below.refl _ w2).alloc (Nat.le_refl _) _, Mp.made w2, ML.Own.nil _, Cols.nil, rfl⟩
    have hH2z : Hid (H2 w.heap.size = 0) := Lib.hid (by rw [HV.out.1.same _ (by simp; omega)]; exact HF.out _ (Nat.le_refl _))
    clear hw2 r3 r4 B1 B2 hb1 hb2 hne htag HV
    generalize hHH : H2.ge (w.heap.size + 2) = HH at *
    go_wp2_with fail
    go_loopw [6, 41] (fun tv i wr => ∃ k : Nat, k ≤ vs.length ∧ i = .int .i64 k ∧ Hid (∃ cs, M1 HH w2 ((vs.take k).flatMap saidsOf) tv cs wr)) (fun _ i _ => vs.length - (intOf i).toNat)
    case atStart => exact ⟨0, Nat.zero_le _, rfl, hM⟩
    case round =>
      clear hM hmm
      obtain ⟨k, hk, rfl, hm⟩ := hrel
      have hnn := hlen.out
      by_cases hlt : k < vs.length
      · obtain ⟨cs, M⟩ := hm.out
        obtain ⟨b, o, c', cl, hv, _, _, hrl, hra⟩ := HQ.out.2.2.1.range k hlt
        injection hv with e3 _ e5
        injection e3 with e3
        injection e3 with e3 e4 _
        subst e3
        subst e4
        subst e5
        obtain ⟨fv, rfl, hfs⟩ := rel_version hrl
        obtain ⟨fa, fc, rfl, _, _⟩ := hfs.form
        have hev := (Ext.of_below HQ.out.2.1 M.below).evo HQ.out.2.1
        have hra1 := Lib.hid (hra _ _ hev)
        have hsx := Lib.hid (hsm.out vs[k] (List.getElem_mem hlt))
        have hfl := hsx.out.1
        have HFS := Lib.hid hfs
        have hM1 : Hid (∃ cs, M1 HH w2 ((vs.take k).flatMap saidsOf ++ (saidsOf vs[k]).take 0) u6 cs (wr.alloc (.cells #[.int .i64 vs[k].frm.src, .int .i64 vs[k].frm.num, .int .i64 vs[k].number, .int .u8 vs[k].record.kind, .int .u8 vs[k].record.level, .slice fa vs[k].record.fields.length fc] 40)) ∧
            (wr.alloc (.cells #[.int .i64 vs[k].frm.src, .int .i64 vs[k].frm.num, .int .i64 vs[k].number, .int .u8 vs[k].record.kind, .int .u8 vs[k].record.level, .slice fa vs[k].record.fields.length fc] 40)).heap[wr.heap.size]? = some (.cells #[.int .i64 vs[k].frm.src, .int .i64 vs[k].frm.num, .int .i64 vs[k].number, .int .u8 vs[k].record.kind, .int .u8 vs[k].record.level, .slice fa vs[k].record.fields.length fc] 40 (0, 0))) :=
          Lib.hid ⟨cs, by rw [List.take_zero, List.append_nil]; exact M.later HQ.out.2.1 ((Below.refl _ wr).alloc (Nat.le_refl _) _), blk_new wr _⟩
        have hvb : Hid (w2.heap.size ≤ wr.heap.size) := Lib.hid M.below.size
        clear hra hrl hfs hev M hm
        go_wp2_with (refine wpList_load_mid rfl 40 (.tmp 43) rfl b0 (o0 + k * 6) rfl _ _ hra1.out Tryz.underlying40 rfl (by kernel_rfl) ?_)
        generalize wr.heap.size = vb at *
        go_loopw [6, 49] (fun tv i wr' => ∃ j : Nat, j ≤ vs[k].record.fields.length ∧ i = .int .i64 j ∧ Hid (∃ cs, M1 HH w2 ((vs.take k).flatMap saidsOf ++ (saidsOf vs[k]).take j) tv cs wr' ∧ wr'.heap[vb]? = some (.cells #[.int .i64 vs[k].frm.src, .int .i64 vs[k].frm.num, .int .i64 vs[k].number, .int .u8 vs[k].record.kind, .int .u8 vs[k].record.level, .slice fa vs[k].record.fields.length fc] 40 (0, 0)))) (fun _ i _ => vs[k].record.fields.length - (intOf i).toNat)
        case atStart => exact ⟨0, Nat.zero_le _, rfl, hM1⟩
        case round =>
          clear hM1
          obtain ⟨j, hj, rfl, hm⟩ := hrel
          by_cases hjl : j < vs[k].record.fields.length
          · obtain ⟨cs, M, hvblk⟩ := hm.out
            obtain ⟨bf, of_, c', cl, hv, _, _, hrl, hra⟩ := HFS.out.range j hjl
            injection hv with e3 _ e5
            subst e3
            subst e5
            obtain ⟨sv, rfl, hss⟩ := rel_field hrl
            obtain ⟨sa, sc, rfl, _, _⟩ := hss.form
            have hra2 := Lib.hid (hra _ _ ((Ext.of_below HQ.out.2.1 M.below).evo HQ.out.2.1))
            have hlen2 : Hid (((vs.take k).flatMap saidsOf ++ (saidsOf vs[k]).take j).length ≤ 1000000) := Lib.hid (by
              have h1 := saids_len (vs := vs.take k) (fun x hx => (hsm.out x (List.mem_of_mem_take hx)).1)
              have h2 : ((saidsOf vs[k]).take j).length = j := by simp [saidsOf]; omega
              rw [List.length_append, h2]
              rw [List.length_take] at h1
              have : min k vs.length = k := by omega
              rw [this] at h1
              have := Nat.mul_le_mul_right 100 (show k + 1 ≤ 20 by omega)
              rw [Nat.succ_mul] at this
              omega)
            have hx0 : Hid ((saidsOf vs[k]).take (j + 1) = (saidsOf vs[k]).take j ++ [⟨vs[k].record.fields[j], vs[k].frm⟩]) := Lib.hid (by
              rw [List.take_succ_eq_append_getElem (show j < (saidsOf vs[k]).length by simpa [saidsOf] using hjl)]
              simp [saidsOf])
            clear hra hrl
            cases hg : mget cs vs[k].record.fields[j].tag with
            | some col =>
              --BEGIN known
              have hlk := Lib.hid (show lookVal false (.pointer none) (mget (mapV colPtr cs) vs[k].record.fields[j].tag) = .pointer (some ⟨col.cb, 0, none⟩) by rw [mget_mapV, hg]; rfl)
              have MO := Lib.hid ((M.known hg).later HQ.out.2.1 ((Below.refl _ wr).alloc (Nat.le_refl _) (.cells #[.string vs[k].record.fields[j].tag, .string vs[k].record.fields[j].ind, .string vs[k].record.fields[j].data, .slice sa vs[k].record.fields[j].subs.length sc] 38)))
              have hmp := M.mp.alloc (.cells #[.string vs[k].record.fields[j].tag, .string vs[k].record.fields[j].ind, .string vs[k].record.fields[j].data, .slice sa vs[k].record.fields[j].subs.length sc] 38)
              have BV := blk6 (blk_old hvblk (.cells #[.string vs[k].record.fields[j].tag, .string vs[k].record.fields[j].ind, .string vs[k].record.fields[j].data, .slice sa vs[k].record.fields[j].subs.length sc] 38))
              have hvb2 := Lib.hid hvblk
              clear hg M hm hvblk
              go_wp2_with (first
                | (refine wpList_load_mid rfl 38 (.tmp 51) rfl bf (of_ + j * 4) rfl _ _ hra2.out Tryz.underlying38 rfl (by kernel_rfl) ?_)
                | (at_lookup; refine lookup_law rfl _ _ false rfl (keyString Tryz.underlying9) Tryz.underlying53 zeroCol rfl hmp vs[k].record.fields[j].tag rfl ?_; rw [hlk.out]))
              have BC := blk1 MO.out.cur
              obtain ⟨ww, hww⟩ : ∃ ww, ww = wr.alloc (.cells #[.string vs[k].record.fields[j].tag, .string vs[k].record.fields[j].ind, .string vs[k].record.fields[j].data, .slice sa vs[k].record.fields[j].subs.length sc] 38) := ⟨_, rfl⟩
              have BF := blk4 (blk_new wr (.cells #[.string vs[k].record.fields[j].tag, .string vs[k].record.fields[j].ind, .string vs[k].record.fields[j].data, .slice sa vs[k].record.fields[j].subs.length sc] 38))
              have HVW : Hid (ww.heap[vb]? = some (.cells #[.int .i64 vs[k].frm.src, .int .i64 vs[k].frm.num, .int .i64 vs[k].number, .int .u8 vs[k].record.kind, .int .u8 vs[k].record.level, .slice (some ⟨bf, of_, none⟩) vs[k].record.fields.length fc] 40 (0, 0))) := Lib.hid (by rw [hww]; exact blk_old hvb2.out _)
              rw [← hww] at BC BF BV MO hmp ⊢
              clear hww
              generalize wr.heap.size = fb at *
              have hle := MO.out.below.size
              have hA : Hid (∀ o, Fit HH ((ww.alloc o).drew) ∧ ML.Own eSaid HH ((ww.alloc o).drew) w2.heap.size col.xs (.slice (some ⟨col.g, 0, none⟩) col.xs.length col.cap) ∧ w2.heap.size ≤ ((ww.alloc o).drew).heap.size ∧
                  Rels eSaid HH ((ww.alloc o).drew) [(⟨vs[k].record.fields[j], vs[k].frm⟩ : GSaid)] [.string vs[k].record.fields[j].tag, .string vs[k].record.fields[j].ind, .string vs[k].record.fields[j].data, .slice sa vs[k].record.fields[j].subs.length sc, .int .i64 vs[k].frm.src, .int .i64 vs[k].frm.num]) :=
                Lib.hid fun o => ⟨fun q hq => HQ.out.2.1 q (by have h2 : (ww.alloc o).heap.size ≤ q := hq; simp at h2; omega), (MO.out.own.alloc o).drew, by show _ ≤ (ww.alloc o).heap.size; simp; omega,
                  Rels.single ⟨_, rfl, hss.evo ((later_evo (wr := w2) HQ.out.2.1 MO.out.below).trans ((Evo.refl HH ww).alloc o).drew)⟩⟩
              have hys : Hid (col.xs.length + 1 ≤ 16777216) := Lib.hid (by
                have h1 := MO.out.ys
                have h2 := grp_len ((vs.take k).flatMap saidsOf ++ (saidsOf vs[k]).take j)
                have h3 := hlen2.out
                rw [h1]
                cases hm : mget (grp ((vs.take k).flatMap saidsOf ++ (saidsOf vs[k]).take j)) vs[k].record.fields[j].tag with
                | none => simp
                | some ys =>
                  have h4 : ys.length ≤ _ := h2.2 _ (mget_mem hm)
                  show ys.length + 1 ≤ _
                  omega)
              have hcbK : Hid (∀ o wb, ((ww.alloc o).drew).grownBy wb (Value.ownBlock (.slice (some ⟨col.g, 0, none⟩) col.xs.length col.cap)) → wb.heap[col.cb]? = some (.cells #[.slice (some ⟨col.g, 0, none⟩) col.xs.length col.cap] 58 (0, 0))) := Lib.hid fun o wb hg => by
                have h1 : (ww.alloc o).drew.heap[col.cb]? = _ := blk_old MO.out.cur o
                exact (hg.block _ (lt_of_block h1) (fun e => MO.out.own.ne MO.out.cur (by decide) e.symm)).trans h1
              have BC2 : ∀ o, (ww.alloc o).cell? ⟨col.cb, 0, none⟩ = some (.slice (some ⟨col.g, 0, none⟩) col.xs.length col.cap) := fun o => (blk1 (blk_old MO.out.cur o)).1
              go_region_law (first | (refine step_append (H := HH) (E := eSaid) rfl _ _ _ rfl okSaid (hA.out _).1 (xs := col.xs) (ys := [(⟨vs[k].record.fields[j], vs[k].frm⟩ : GSaid)]) rfl (base := w2.heap.size) (hA.out _).2.1 rfl rfl (hA.out _).2.2.2 (World.news_of_block (blk_new ww _)) (by decide) hys.out (hA.out _).2.2.1 ?_; intro g cap wb k1 k2 k3; have BW := blk1 (hcbK.out _ _ k2)))
              all_goals (
                have hfin : Hid (∃ cs', M1 HH w2 ((vs.take k).flatMap saidsOf ++ (saidsOf vs[k]).take (j + 1)) u6 cs' (wb.setCell ⟨col.cb, 0, none⟩ (.slice (some ⟨g, 0, none⟩) (col.xs.length + 1) cap)) ∧ (wb.setCell ⟨col.cb, 0, none⟩ (.slice (some ⟨g, 0, none⟩) (col.xs.length + 1) cap)).heap[vb]? = some (.cells #[.int .i64 vs[k].frm.src, .int .i64 vs[k].frm.num, .int .i64 vs[k].number, .int .u8 vs[k].record.kind, .int .u8 vs[k].record.level, .slice (some ⟨bf, of_, none⟩) vs[k].record.fields.length fc] 40 (0, 0))) := by
                  refine Lib.hid ⟨_, by rw [hx0.out, ← List.append_assoc]; exact M1o.close (MO.out.later HQ.out.2.1 (((Below.refl _ ww).alloc (Nat.le_refl _) _).drew)) HQ.out.2.1 rfl k1 k2 k3, ?_⟩
                  rw [setCell_other (fun e => by have h1 := HVW.out; rw [e, MO.out.cur] at h1; cases h1)]
                  exact (k2.block vb (Nat.lt_of_lt_of_le (lt_of_block HVW.out) (by show ww.heap.size ≤ (ww.alloc _).heap.size; simp)) (fun e => MO.out.own.ne HVW.out (by decide) e.symm)).trans (blk_old HVW.out _)
                clear k1 k2 k3 BW
                go_wp2
                go_roundw
                case rel => exact ⟨j + 1, by omega, by go_num, hfin⟩
                case measure => simp [intOf]; omega)
              --END known
            | none =>
              --BEGIN fresh
              have hlk := Lib.hid (show lookVal false (.pointer none) (mget (mapV colPtr cs) vs[k].record.fields[j].tag) = .pointer none by rw [mget_mapV, hg]; rfl)
              have hmp := M.mp.alloc (.cells #[.string vs[k].record.fields[j].tag, .string vs[k].record.fields[j].ind, .string vs[k].record.fields[j].data, .slice sa vs[k].record.fields[j].subs.length sc] 38)
              have hvb2 := Lib.hid hvblk
              have HMM := Lib.hid M
              have hgH := Lib.hid hg
              have hkl : Hid ((cs.map (·.1)).length + 1 ≤ 16777216) := Lib.hid (by
                rw [M.keys_len]
                have h2 := (grp_len ((vs.take k).flatMap saidsOf ++ (saidsOf vs[k]).take j)).1
                have h3 := hlen2.out
                omega)
              clear hg M hm hvblk
              go_wp2_with (first
                | (refine wpList_load_mid rfl 38 (.tmp 51) rfl bf (of_ + j * 4) rfl _ _ hra2.out Tryz.underlying38 rfl (by kernel_rfl) ?_)
                | (at_lookup; refine lookup_law rfl _ _ false rfl (keyString Tryz.underlying9) Tryz.underlying53 zeroCol rfl hmp vs[k].record.fields[j].tag rfl ?_; rw [hlk.out])
                | (at_mapUpdate; refine update_law rfl _ _ _ rfl (keyString Tryz.underlying9) Tryz.underlying53 rfl (hmp.alloc _) vs[k].record.fields[j].tag rfl (.pointer (some ⟨wr.heap.size + 1, 0, none⟩)) rfl ?_; intro w3 m1 m2 m3
                   have hfb : Hid (w3.heap[wr.heap.size]? = some (.cells #[.string vs[k].record.fields[j].tag, .string vs[k].record.fields[j].ind, .string vs[k].record.fields[j].data, .slice sa vs[k].record.fields[j].subs.length sc] 38 (0, 0))) := Lib.hid (by
                     have h1 := blk_old (blk_new wr (.cells #[.string vs[k].record.fields[j].tag, .string vs[k].record.fields[j].ind, .string vs[k].record.fields[j].data, .slice sa vs[k].record.fields[j].subs.length sc] 38)) (.cells #[.slice none 0 0] 58)
                     exact (m2.block _ (lt_of_block h1) (fun e => by injection e with e; have := HMM.out.mp.lt; omega)).trans h1)
                   have hvb3 : Hid (w3.heap[vb]? = some (.cells #[.int .i64 vs[k].frm.src, .int .i64 vs[k].frm.num, .int .i64 vs[k].number, .int .u8 vs[k].record.kind, .int .u8 vs[k].record.level, .slice (some ⟨bf, of_, none⟩) vs[k].record.fields.length fc] 40 (0, 0))) := Lib.hid (by
                     have h1 := blk_old (blk_old hvb2.out (.cells #[.string vs[k].record.fields[j].tag, .string vs[k].record.fields[j].ind, .string vs[k].record.fields[j].data, .slice sa vs[k].record.fields[j].subs.length sc] 38)) (.cells #[.slice none 0 0] 58)
                     exact (m2.block _ (lt_of_block h1) (fun e => by
                       injection e with e
                       have h2 := hvb2.out
                       rw [e] at h2
                       exact HMM.out.mp.nocells _ _ _ h2)).trans h1)
                   have HT3 := Lib.hid (((hmp.alloc (.cells #[.slice none 0 0] 58))).keepOwn ((HMM.out.tags.alloc (.cells #[.string vs[k].record.fields[j].tag, .string vs[k].record.fields[j].ind, .string vs[k].record.fields[j].data, .slice sa vs[k].record.fields[j].subs.length sc] 38)).alloc (.cells #[.slice none 0 0] 58)) m2)
                   have F3 : Hid (Fit HH w3 ∧ w2.heap.size ≤ w3.heap.size ∧ w3.heap.size = wr.heap.size + 2) := Lib.hid (by
                     have h1 := HMM.out.below.size
                     simp at m3
                     exact ⟨fun q hq => HQ.out.2.1 q (by omega), by omega, m3⟩)
                   have BF3 := blk4 hfb.out
                   have HM3 := Lib.hid (And.intro m1 m2)
                   clear m1 m2 m3
                   go_frame)
                | (at_builtin; refine append_law (H := HH) (E := eStr) rfl _ _ _ rfl okStr (F3.out.1.alloc _) (xs := cs.map (·.1)) (ys := [vs[k].record.fields[j].tag]) rfl (base := w2.heap.size) (HT3.out.alloc _) rfl rfl (Rels.single rfl) (World.news_of_block (blk_new w3 _)) (by decide) hkl.out (by have := F3.out.2.1; simp; omega) ?_; intro gt capt wc k1 k2 k3 k4 k5 k6 k7 k8
                   rw [List.length_map] at k1
                   have HK := Lib.hid (And.intro k1 k4)
                   clear k1 k2 k3 k4 k5 k6 k7 k8))
              have hMO := (HMM.out.later HQ.out.2.1 ((Below.refl _ wr).alloc (Nat.le_refl _) (.cells #[.string vs[k].record.fields[j].tag, .string vs[k].record.fields[j].ind, .string vs[k].record.fields[j].data, .slice sa vs[k].record.fields[j].subs.length sc] 38))).fresh HQ.out.2.1 hgH.out rfl (by rw [World.size_alloc]; exact HM3.out.1) HM3.out.2 HK.out.1 ((World.grownBy_alloc w3 _ _).trans HK.out.2)
              simp only [World.size_alloc] at hMO
              have MO := Lib.hid hMO
              clear hMO
              have BC := blk1 MO.out.cur
              have BF := blk4 ((HK.out.2.block _ (by rw [World.size_alloc]; exact Nat.lt_succ_of_lt (lt_of_block hfb.out)) (fun e => HT3.out.ne hfb.out (by decide) e.symm)).trans (blk_old hfb.out _))
              have HVW : Hid (wc.heap[vb]? = some (.cells #[.int .i64 vs[k].frm.src, .int .i64 vs[k].frm.num, .int .i64 vs[k].number, .int .u8 vs[k].record.kind, .int .u8 vs[k].record.level, .slice (some ⟨bf, of_, none⟩) vs[k].record.fields.length fc] 40 (0, 0))) := Lib.hid ((HK.out.2.block _ (by rw [World.size_alloc]; exact Nat.lt_succ_of_lt (lt_of_block hvb3.out)) (fun e => HT3.out.ne hvb3.out (by decide) e.symm)).trans (blk_old hvb3.out _))
              have BV := blk6 HVW.out
              clear BF3 hmp HM3 HT3 F3 HK hfb hvb3 hvb2 HMM
              generalize wr.heap.size = fb at *
              have hle := MO.out.below.size
              have hA : Hid (∀ o, Fit HH ((wc.alloc o).drew) ∧ ML.Own eSaid HH ((wc.alloc o).drew) w2.heap.size [] (.slice none 0 0) ∧ w2.heap.size ≤ ((wc.alloc o).drew).heap.size ∧
                  Rels eSaid HH ((wc.alloc o).drew) [(⟨vs[k].record.fields[j], vs[k].frm⟩ : GSaid)] [.string vs[k].record.fields[j].tag, .string vs[k].record.fields[j].ind, .string vs[k].record.fields[j].data, .slice sa vs[k].record.fields[j].subs.length sc, .int .i64 vs[k].frm.src, .int .i64 vs[k].frm.num]) :=
                Lib.hid fun o => ⟨fun q hq => HQ.out.2.1 q (by have h2 : (wc.alloc o).heap.size ≤ q := hq; simp at h2; omega), ML.Own.nil _, by show _ ≤ (wc.alloc o).heap.size; simp; omega,
                  Rels.single ⟨_, rfl, hss.evo ((later_evo (wr := w2) HQ.out.2.1 MO.out.below).trans ((Evo.refl HH wc).alloc o).drew)⟩⟩
              have hcbK : Hid (∀ o wb, ((wc.alloc o).drew).grownBy wb (Value.ownBlock (.slice none 0 0)) → wb.heap[fb + 1]? = some (.cells #[.slice none 0 0] 58 (0, 0))) := Lib.hid fun o wb hg => by
                have h1 : (wc.alloc o).drew.heap[fb + 1]? = _ := blk_old MO.out.cur o
                exact (hg.block _ (lt_of_block h1) (fun e => by simp [Value.ownBlock] at e)).trans h1
              have BC2 : ∀ o, (wc.alloc o).cell? ⟨fb + 1, 0, none⟩ = some (.slice none 0 0) := fun o => (blk1 (blk_old MO.out.cur o)).1
              go_region_law (first | (refine step_append (H := HH) (E := eSaid) rfl _ _ _ rfl okSaid (hA.out _).1 (xs := []) (ys := [(⟨vs[k].record.fields[j], vs[k].frm⟩ : GSaid)]) rfl (base := w2.heap.size) (hA.out _).2.1 rfl rfl (hA.out _).2.2.2 (World.news_of_block (blk_new wc _)) (by decide) (by simp) (hA.out _).2.2.1 ?_; intro g cap wb k1 k2 k3; have BW := blk1 (hcbK.out _ _ k2)))
              all_goals (
                have hfin : Hid (∃ cs', M1 HH w2 ((vs.take k).flatMap saidsOf ++ (saidsOf vs[k]).take (j + 1)) (.slice (some ⟨gt, 0, none⟩) (cs.length + 1) capt) cs' (wb.setCell ⟨fb + 1, 0, none⟩ (.slice (some ⟨g, 0, none⟩) 1 cap)) ∧ (wb.setCell ⟨fb + 1, 0, none⟩ (.slice (some ⟨g, 0, none⟩) 1 cap)).heap[vb]? = some (.cells #[.int .i64 vs[k].frm.src, .int .i64 vs[k].frm.num, .int .i64 vs[k].number, .int .u8 vs[k].record.kind, .int .u8 vs[k].record.level, .slice (some ⟨bf, of_, none⟩) vs[k].record.fields.length fc] 40 (0, 0))) := by
                  refine Lib.hid ⟨_, by rw [hx0.out, ← List.append_assoc]; exact M1o.close (MO.out.later HQ.out.2.1 (((Below.refl _ wc).alloc (Nat.le_refl _) _).drew)) HQ.out.2.1 rfl k1 k2 k3, ?_⟩
                  rw [setCell_other (fun e => by have h1 := HVW.out; rw [e, MO.out.cur] at h1; cases h1)]
                  exact (k2.block vb (Nat.lt_of_lt_of_le (lt_of_block HVW.out) (by show wc.heap.size ≤ (wc.alloc _).heap.size; simp)) (fun e => Option.some_ne_none vb e)).trans (blk_old HVW.out _)
                clear k1 k2 k3 BW
                go_wp2
                go_roundw
                case rel => exact ⟨j + 1, by omega, by go_num, hfin⟩
                case measure => simp [intOf]; omega)
              --END fresh
          · have : j = vs[k].record.fields.length := by omega
            subst this
            go_wp2
            go_roundw
            case rel =>
              refine ⟨k + 1, by omega, by go_num, Lib.hid ?_⟩
              obtain ⟨cs, M, _⟩ := hm.out
              refine ⟨cs, ?_⟩
              rw [List.take_succ_eq_append_getElem hlt, List.flatMap_append]
              have e : (saidsOf vs[k]).take vs[k].record.fields.length = [vs[k]].flatMap saidsOf := by
                rw [List.take_of_length_le (by simp [saidsOf])]; simp
              rw [← e]
              exact M
            case measure => simp [intOf]; omega
      · --BEGIN tail
        have hkv : k = vs.length := by omega
        subst hkv
        obtain ⟨cs, M0⟩ := hm.out
        rw [List.take_length] at M0
        obtain ⟨S, hS⟩ : ∃ S, S = vs.flatMap saidsOf := ⟨_, rfl⟩
        rw [← hS] at M0
        have hSl : Hid (S.length ≤ 2000) := Lib.hid (by
          have h1 := saids_len (vs := vs) (fun x hx => (hsm.out x hx).1)
          have h2 := hlen.out
          rw [hS]
          have := Nat.mul_le_mul_right 100 h2
          omega)
        have hSS : Hid (∀ x ∈ S, SmallF x.field) := Lib.hid (by
          intro x hx
          rw [hS] at hx
          obtain ⟨y, hy, hxy⟩ := List.mem_flatMap.1 hx
          obtain ⟨f, hf, rfl⟩ := List.mem_map.1 hxy
          exact (hsm.out y hy).2 f hf)
        have hml2 : Hid (mergeP xs = ⟨vs[0].record.kind, vs[0].record.level, (keptOf (grp S)).map (·.field), (keptOf (grp S)).map (·.frm)⟩) := Lib.hid (by rw [hS]; exact hml.out)
        have HS := Lib.hid hS
        have hkl : Hid ((cs.map (·.1)).length ≤ 1000000) := Lib.hid (by
          rw [M0.keys_len]
          have h2 := (grp_len S).1
          have h3 := hSl.out
          omega)
        obtain ⟨ta, tc, rfl, _, _⟩ := M0.tags.form
        obtain ⟨tn, htn⟩ : ∃ n, n = (cs.map (·.1)).length := ⟨_, rfl⟩
        rw [← htn] at M0 ⊢
        have hsort := Lib.hid (sortTags_spec M0.tags hkl)
        have HM0 := Lib.hid M0
        have HTN := Lib.hid htn
        clear hS M0 htn hm
        have hob : w.heap.size + 1 < w2.heap.size := by have := HQ.out.2.2.2.2.2; omega
        obtain ⟨ts, hts⟩ : ∃ ts, ts = sortTags (cs.map (·.1)) := ⟨_, rfl⟩
        rw [← hts] at hsort
        have HTS := Lib.hid hts
        have htl : Hid (ts.length = tn) := Lib.hid (by rw [hts, sortTags_length, HTN.out])
        have hts1 : Hid (ts.length ≤ 1000000) := Lib.hid (by rw [hts, sortTags_length]; exact hkl.out)
        clear hts
        have hvp2 : ¬ vs.length < vs.length := Nat.lt_irrefl _
        go_wp2_with (first
          | (go_at_call 16; refine hsort.out.mono ?_; rintro e w3 ⟨rfl, s1, s2⟩
             have HS3 := Lib.hid (And.intro s1 s2)
             have HF3 : Hid (Fit HH w3) := Lib.hid (fun q hq => HQ.out.2.1 q (by have h1 := HM0.out.below.size; have h2 := s2.size; omega))
             clear s1 s2)
          | (go_at_call 17; refine (policies_spec (H := HH) (w := w3) HF3.out).mono ?_; rintro e w4 ⟨ov, rfl, p1, p2⟩
             obtain ⟨oa, oc, hov, _, _⟩ := p2.form
             rw [show pols.length = 8 from rfl] at hov
             subst hov
             have hM3 : Hid (M3 HH w2 (w.heap.size + 1) vs[0].record.kind vs[0].record.level S ts (.slice ta tn tc) (.slice oa 8 oc) cs 0 [] [] (.slice none 0 0) (.slice none 0 0) w4) := Lib.hid (HM0.out.start HQ.out.2.1 hob HQ.out.2.2.2.2.1 HS3.out.1 HS3.out.2 p1 p2)
             clear p1 p2))
        go_loopw [90] (fun i w5 => ∃ q : Nat, q ≤ tn ∧ i = .int .i64 q ∧ Hid (∃ fv rv, M3 HH w2 (w.heap.size + 1) vs[0].record.kind vs[0].record.level S ts (.slice ta tn tc) (.slice oa 8 oc) cs q ((kept3 S ts q).map (·.field)) ((kept3 S ts q).map (·.frm)) fv rv w5)) (fun i _ => tn - (intOf i).toNat)
        case atStart => exact ⟨0, Nat.zero_le _, rfl, Lib.hid ⟨_, _, hM3.out⟩⟩
        case round =>
          clear hM3
          obtain ⟨q, hq, rfl, hm⟩ := hrel
          have htll := hts1.out
          rw [htl.out] at htll
          by_cases hql : q < tn
          · obtain ⟨fv, rv, M⟩ := hm.out
            have hqt : q < ts.length := by rw [htl.out]; exact hql
            obtain ⟨tg, rfl, htgl, htc⟩ := own_str_at M.tags q hqt
            obtain ⟨t, ht⟩ : ∃ t, t = ts[q] := ⟨_, rfl⟩
            rw [← ht] at htc
            obtain ⟨kk, hkk, hpx, hkeep, hent⟩ := keep_any t
            obtain ⟨og, rfl, hogl, hoc⟩ := own_pol_at M.pol kk hkk
            unfold vFn at hoc
            obtain ⟨fn, hfn⟩ : ∃ fn, fn = pols[kk].fn := ⟨_, rfl⟩
            rw [← hfn] at hoc hkeep hent
            have HFN := Lib.hid hfn
            have hmem : ∃ col, mget cs t = some col := by
              have h1 : t ∈ cs.map (·.1) := by
                have h2 : t ∈ ts := by rw [ht]; exact List.getElem_mem hqt
                rw [HTS.out] at h2
                exact mem_sortTags.1 h2
              cases hg : mget cs t with
              | some col => exact ⟨col, rfl⟩
              | none =>
                obtain ⟨p, hp, hpt⟩ := List.mem_map.1 h1
                exact absurd hpt (mget_none hg p hp)
            obtain ⟨col, hcol⟩ := hmem
            have HT := Lib.hid ht
            have HCOL := Lib.hid hcol
            have HKEEP := Lib.hid hkeep
            have hM1 := Lib.hid (M.later HQ.out.2.1 ((Below.refl _ wr).alloc (Nat.le_refl _) (.cells #[.string t] 9)))
            have hidx := Lib.hid (indexPol_spec t wr.heap.size hM1.out.pol (blk1 (blk_new wr (.cells #[.string t] 9))).1 (Lib.hid (by decide)))
            rw [hpx] at hidx
            simp only [ixVal] at hidx
            have HM := Lib.hid M
            clear hpx hfn hkeep ht M hm hcol
            go_wp2_with (first
              | (go_at_call 18; refine hidx.out.mono ?_; rintro e w6 ⟨rfl, g6⟩
                 have HB6 := Lib.hid (below_none g6)
                 clear g6))
            have hM6 := Lib.hid ((hM1.out.later HQ.out.2.1 HB6.out).later HQ.out.2.1 (Below.refl _ w6).drew)
            have hog6 : w6.cell? ⟨og, kk * 2 + 1, none⟩ = some (.func (.func fn) #[] #[]) := by
              have h1 : (wr.alloc (.cells #[.string t] 9)).cell? ⟨og, kk * 2 + 1, none⟩ = _ := (World.cell?_alloc_lt wr _ ⟨og, kk * 2 + 1, none⟩ hogl).trans hoc
              exact (HB6.out.cell (p := ⟨og, kk * 2 + 1, none⟩) (lt_of_cell h1)).trans h1
            have htb6 : w6.cell? ⟨wr.heap.size, 0, none⟩ = some (.string t) := by
              have h1 := (blk1 (blk_new wr (.cells #[.string t] 9))).1
              exact (HB6.out.cell (p := ⟨wr.heap.size, 0, none⟩) (lt_of_cell h1)).trans h1
            have hkk0 : (0 : Int) ≤ kk := by omega
            have hkk8 : (kk : Int) < 8 := by have : pols.length = 8 := rfl; omega
            obtain ⟨w7, hw7⟩ : ∃ w7, w7 = w6.drew := ⟨_, rfl⟩
            have hlk0 : ∀ wz : World, Mp Value.string wz w2.heap.size (mapV colPtr cs) → (Instr.lookup 53 (.map (some w2.heap.size)) (.string t) false).run Tryz.prog wz = .ok (.pointer (some ⟨col.cb, 0, none⟩)) wz := fun wz hz => by
              rw [hz.run_lookup (P := Tryz.prog) (keyString Tryz.underlying9) Tryz.underlying53 (zeroCol wz) t false, mget_mapV, HCOL.out]; rfl
            have HS7 : Hid ((w6.drew.cell? ⟨og, kk * 2 + 1, none⟩ = some (.func (.func fn) #[] #[]) ∧ w6.drew.cell? ⟨wr.heap.size, 0, none⟩ = some (.string t)) ∧ (Instr.lookup 53 (.map (some w2.heap.size)) (.string t) false).run Tryz.prog w6.drew = .ok (.pointer (some ⟨col.cb, 0, none⟩)) w6.drew) := Lib.hid ⟨⟨hog6, htb6⟩, hlk0 _ hM6.out.mp⟩
            have HS6 : Hid ((w6.cell? ⟨og, kk * 2 + 1, none⟩ = some (.func (.func fn) #[] #[]) ∧ w6.cell? ⟨wr.heap.size, 0, none⟩ = some (.string t)) ∧ (Instr.lookup 53 (.map (some w2.heap.size)) (.string t) false).run Tryz.prog w6 = .ok (.pointer (some ⟨col.cb, 0, none⟩)) w6) := Lib.hid ⟨⟨hog6, htb6⟩, hlk0 _ (hM1.out.later HQ.out.2.1 HB6.out).mp⟩
            have HLK0 := Lib.hid hlk0
            have hdata : Hid (mget (grp S) t = some col.xs) := Lib.hid (by rw [← HM.out.data, mget_mapV, HCOL.out]; rfl)
            have hcall : Hid (Calls Tryz.prog fn #[.pointer (some ⟨col.cb, 0, none⟩)] w6.drew (Ret fun v w' => ∃ cells', v = .slice (some ⟨col.g, 0, none⟩) (modeOf t col.xs).length col.cap ∧ OwnAt HH w' w2.heap.size col.g (modeOf t col.xs).length col.cap cells' ∧ Rels eSaid HH w' (modeOf t col.xs) cells' ∧ Chg col.g none w6.drew w' ∧ Fit HH w')) := Lib.hid (by
              have hin : t ∈ ts.drop q := by rw [HT.out, List.drop_eq_getElem_cons hqt]; exact List.mem_cons_self ..
              have hc := hM6.out.cols _ (mget_mem HCOL.out) hin
              have hl := hc.lt
              obtain ⟨c0, c1, c2, cells, c3, c4⟩ := hc
              have hgm := mget_mem hdata.out
              refine HKEEP.out HH w6.drew col.cb col.g col.cap w2.heap.size col.xs cells (fun b hb => HQ.out.2.1 b (Nat.le_trans hM6.out.loc.size hb)) c2 c3 c4 c0 (fun x hx => hSS.out x (grp_mem _ hgm x hx)) ?_ hl.2.2.2.1
              have h2 := (grp_len S).2 _ hgm
              have h3 := hSl.out
              simp only at h2
              omega)
            have htbb : Hid (w6.drew.heap[wr.heap.size]? = some (.cells #[.string t] 9 (0, 0))) := Lib.hid ((HB6.out.block _ (by simp)).trans (blk_new wr _))
            have HND : Hid ts.Nodup := Lib.hid (by rw [HTS.out]; exact nodup_sortTags HM0.out.cols.keys)
            have htne : Hid (wr.heap.size ≠ col.g) := Lib.hid (fun e => by
              have hin : t ∈ ts.drop q := by rw [HT.out, List.drop_eq_getElem_cons hqt]; exact List.mem_cons_self ..
              obtain ⟨cc, fr, hh⟩ := col_said (hM6.out.cols _ (mget_mem HCOL.out) hin)
              have h1 := htbb.out
              simp only at hh
              rw [e, hh] at h1
              cases h1)
            generalize hys : modeOf t col.xs = ys at hcall
            have HYS := Lib.hid hys
            clear hlk0 hw7 hog6 htb6 hys
            go_region_held3 (fun w' => (w'.cell? ⟨og, kk * 2 + 1, none⟩ = some (.func (.func fn) #[] #[]) ∧ w'.cell? ⟨wr.heap.size, 0, none⟩ = some (.string t)) ∧ (Instr.lookup 53 (.map (some w2.heap.size)) (.string t) false).run Tryz.prog w' = .ok (.pointer (some ⟨col.cb, 0, none⟩)) w')
              (first | exact HS7.out | exact HS6.out | exact HS8.out)
              (first
                | (go_at_fn fn; refine hcall.out.mono ?_; rintro e w8 ⟨v8, rfl, cells8, rfl, k1, k2, k3, k4⟩
                   have hM8 : Hid (M4 HH w2 (w.heap.size + 1) vs[0].record.kind vs[0].record.level S ts (.slice (some ⟨tg, 0, none⟩) tn tc) (.slice (some ⟨og, 0, none⟩) 8 oc) cs (q + 1) ((kept3 S ts q).map (·.field)) ((kept3 S ts q).map (·.frm)) fv rv col.g col.cap ys w8) := Lib.hid (hM6.out.kept HQ.out.2.1 HND.out hqt (by rw [← HT.out]; exact HCOL.out) k3 k1 k2)
                   have hyl : ys.length ≤ 9223372036854775807 := by
                     have hf := hM8.out.row
                     obtain ⟨cl, r1, _⟩ := hf
                     rcases Nat.eq_zero_or_pos ys.length with h0 | h0
                     · omega
                     · rcases r1.1.2 with ⟨hn, _⟩ | ⟨_, _, _, _, _, _, h2, h3, _⟩
                       · cases hn
                       · unfold maxLen at h3; omega
                   have HS8 : Hid ((w8.cell? ⟨og, kk * 2 + 1, none⟩ = some (.func (.func fn) #[] #[]) ∧ w8.cell? ⟨wr.heap.size, 0, none⟩ = some (.string t)) ∧ (Instr.lookup 53 (.map (some w2.heap.size)) (.string t) false).run Tryz.prog w8 = .ok (.pointer (some ⟨col.cb, 0, none⟩)) w8) := Lib.hid (by
                     refine ⟨⟨?_, (blk1 ((k3.block _ (lt_of_block htbb.out) htne.out (by simp)).trans htbb.out)).1⟩, HLK0.out _ hM8.out.m3.mp⟩
                     obtain ⟨og', e1, _, hc⟩ := own_pol_at hM8.out.m3.pol kk hkk
                     injection e1 with e1
                     injection e1 with e1 _ _
                     subst e1
                     rw [HFN.out]
                     exact hc)
                   clear k1 k2 k3 k4))
            clear HS6 HS7 HS8 hcall hidx HB6
            go_wp2_with fail
            go_loopw [107] (fun i w9 => ∃ j : Nat, j ≤ ys.length ∧ i = .int .i64 j ∧ Hid (∃ fv rv, M4 HH w2 (w.heap.size + 1) vs[0].record.kind vs[0].record.level S ts (.slice (some ⟨tg, 0, none⟩) tn tc) (.slice (some ⟨og, 0, none⟩) 8 oc) cs (q + 1) ((kept3 S ts q ++ ys.take j).map (·.field)) ((kept3 S ts q ++ ys.take j).map (·.frm)) fv rv col.g col.cap ys w9)) (fun i _ => ys.length - (intOf i).toNat)
            case atStart => exact ⟨0, Nat.zero_le _, rfl, Lib.hid ⟨_, _, by rw [List.take_zero, List.append_nil]; exact hM8.out⟩⟩
            case round =>
              clear hM8
              obtain ⟨j, hj, rfl, hm⟩ := hrel
              by_cases hjl : j < ys.length
              · obtain ⟨fv, rv, M⟩ := hm.out
                obtain ⟨cells, hrow, hrl⟩ := M.row
                obtain ⟨cx, hcx, hcc⟩ := hrl.get j hjl
                obtain ⟨x, hx⟩ : ∃ x, x = ys[j] := ⟨_, rfl⟩
                rw [← hx] at hcx
                obtain ⟨sv, rfl, hss⟩ := (hcx : ∃ v, _)
                obtain ⟨sa, sc, rfl, _, _⟩ := hss.form
                have hra4 : Hid (wr.rangeAt col.g (j * 6) [.string x.field.tag, .string x.field.ind, .string x.field.data, .slice sa x.field.subs.length sc, .int .i64 x.frm.src, .int .i64 x.frm.num]) := Lib.hid (fun o u hu => by
                  have ho : o < 6 := (List.getElem?_eq_some_iff.1 hu).1
                  rw [hrow.1.cellAt (j * 6 + o) (show j * 6 + o < ys.length * 6 by omega)]
                  exact (hcc o ho).trans hu)
                have hkl4 : Hid ((kept3 S ts q ++ ys.take j).length + 1 ≤ 16777216) := Lib.hid (by
                  have h1 := kept3_len (n := 2000) (fun p hp => Nat.le_trans ((grp_len S).2 p hp) hSl.out) ts q
                  have h2 : ys.length ≤ 2000 := by
                    rw [← HYS.out]
                    have h3 := modeOf_len t col.xs
                    have h4 := (grp_len S).2 _ (mget_mem hdata.out)
                    have h5 := hSl.out
                    simp only at h4
                    omega
                  have h6 : tn ≤ 2000 := by
                    rw [HTN.out, HM0.out.keys_len]
                    have h7 := (grp_len S).1
                    have h8 := hSl.out
                    omega
                  have h9 : q * 2000 ≤ 2000 * 2000 := Nat.mul_le_mul_right _ (by omega)
                  rw [List.length_append, List.length_take]
                  omega)
                have HX := Lib.hid hx
                obtain ⟨fs, hfs⟩ : ∃ fs, fs = (kept3 S ts q ++ ys.take j).map (·.field) := ⟨_, rfl⟩
                obtain ⟨rs, hrs⟩ : ∃ rs, rs = (kept3 S ts q ++ ys.take j).map (·.frm) := ⟨_, rfl⟩
                have hlf : Hid (fs.length + [x.field].length ≤ 16777216) := Lib.hid (by rw [hfs, List.length_map]; exact hkl4.out)
                have hlr : Hid (rs.length + [x.frm].length ≤ 16777216) := Lib.hid (by rw [hrs, List.length_map]; exact hkl4.out)
                rw [← hfs, ← hrs] at M
                have HFS := Lib.hid hfs
                have HRS := Lib.hid hrs
                clear hfs hrs
                have hM := Lib.hid M
                have hM2 := Lib.hid (fun o => M.later HQ.out.2.1 (((Below.refl _ wr).alloc (Nat.le_refl _) (.cells #[.string x.field.tag, .string x.field.ind, .string x.field.data, .slice sa x.field.subs.length sc, .int .i64 x.frm.src, .int .i64 x.frm.num] 60)).alloc (by simp) o))
                have hFit2 : Hid (∀ o, Fit HH ((wr.alloc (.cells #[.string x.field.tag, .string x.field.ind, .string x.field.data, .slice sa x.field.subs.length sc, .int .i64 x.frm.src, .int .i64 x.frm.num] 60)).alloc o)) := Lib.hid (fun o b hb => HQ.out.2.1 b (Nat.le_trans (hM2.out o).m3.loc.size hb))
                have hRel2 : Hid (∀ o, Rels eField HH ((wr.alloc (.cells #[.string x.field.tag, .string x.field.ind, .string x.field.data, .slice sa x.field.subs.length sc, .int .i64 x.frm.src, .int .i64 x.frm.num] 60)).alloc o) [x.field] [.string x.field.tag, .string x.field.ind, .string x.field.data, .slice sa x.field.subs.length sc]) := Lib.hid (fun o => Rels.single ⟨_, rfl, hss.evo (((Evo.refl HH wr).alloc _).alloc o)⟩)
                have hnw2 : Hid (∀ o, ((wr.alloc (.cells #[.string x.field.tag, .string x.field.ind, .string x.field.data, .slice sa x.field.subs.length sc, .int .i64 x.frm.src, .int .i64 x.frm.num] 60)).alloc o).heap[wr.heap.size + 1]? = some o) := Lib.hid (fun o => (blk_two wr _ o).2)
                have hxb2 : Hid (∀ o, ((wr.alloc (.cells #[.string x.field.tag, .string x.field.ind, .string x.field.data, .slice sa x.field.subs.length sc, .int .i64 x.frm.src, .int .i64 x.frm.num] 60)).alloc o).heap[wr.heap.size]? = some (.cells #[.string x.field.tag, .string x.field.ind, .string x.field.data, .slice sa x.field.subs.length sc, .int .i64 x.frm.src, .int .i64 x.frm.num] 60 (0, 0))) := Lib.hid (fun o => (blk_two wr _ o).1)
                have hzo : Hid (HH (w.heap.size + 1) = 0) := Lib.hid (by rw [← hHH]; simp [Hts.ge])
                have BO := blk4 (blk_old M.m3.out.1 (.cells #[.string x.field.tag, .string x.field.ind, .string x.field.data, .slice sa x.field.subs.length sc, .int .i64 x.frm.src, .int .i64 x.frm.num] 60))
                have BX := blk6 (blk_new wr (.cells #[.string x.field.tag, .string x.field.ind, .string x.field.data, .slice sa x.field.subs.length sc, .int .i64 x.frm.src, .int .i64 x.frm.num] 60))
                have hlow : w.heap.size + 1 < wr.heap.size := lt_of_block M.m3.out.1
                clear hcc hrl hrow M hx hss hm
                go_upto_region 32 with (first
                  | (refine wpList_load_mid rfl 60 (.tmp 109) rfl col.g (j * 6) rfl _ _ hra4.out Tryz.underlying60 rfl (by kernel_rfl) ?_)
                  | (at_builtin; refine append_law (H := HH) (E := eField) rfl (.tmp 113) (.tmp 116) _ rfl okField (hFit2.out _) (xs := fs) (ys := [x.field]) rfl (base := w2.heap.size) (hM2.out _).m3.out.2.1 rfl rfl (hRel2.out _) (World.news_of_block (hnw2.out _)) (by decide) hlf.out (hM2.out _).m3.loc.size ?_; intro g1 cap1 wb k1 k2 k3 k4 k5 k6 k7 k8
                     have BOw := blk4 ((hM2.out _).obF hob k4)
                     have hM5 := Lib.hid ((hM2.out _).field HQ.out.2.1 hzo.out hob k1 k4)
                     have hxbw := Lib.hid ((hM2.out _).boxF k4 (hxb2.out _))
                     clear k1 k2 k3 k4 k5 k6 k7 k8))
                obtain ⟨wd, hwd⟩ : ∃ wd, wd = wb.setCell ⟨w.heap.size + 1, 2, none⟩ (.slice (some ⟨g1, 0, none⟩) (fs.length + 1) cap1) := ⟨_, rfl⟩
                have hM6b := Lib.hid (show M4 HH w2 (w.heap.size + 1) vs[0].record.kind vs[0].record.level S ts (.slice (some ⟨tg, 0, none⟩) tn tc) (.slice (some ⟨og, 0, none⟩) 8 oc) cs (q + 1) (fs ++ [x.field]) rs (.slice (some ⟨g1, 0, none⟩) (fs.length + 1) cap1) rv col.g col.cap ys wd by rw [hwd]; exact hM5.out)
                have hxbd := Lib.hid (show wd.heap[wr.heap.size]? = some (.cells #[.string x.field.tag, .string x.field.ind, .string x.field.data, .slice sa x.field.subs.length sc, .int .i64 x.frm.src, .int .i64 x.frm.num] 60 (0, 0)) by rw [hwd]; exact (Below.heap_setCell wb ⟨w.heap.size + 1, 2, none⟩ _ _ (by simp; omega)).trans hxbw.out)
                have BXd := blk6 hxbd.out
                have BOd := blk4 hM6b.out.m3.out.1
                rw [← hwd]
                have hM7 := Lib.hid (fun o => hM6b.out.later HQ.out.2.1 ((Below.refl _ wd).alloc (Nat.le_refl _) o))
                have hFit7 : Hid (∀ o, Fit HH (wd.alloc o)) := Lib.hid (fun o b hb => HQ.out.2.1 b (Nat.le_trans (hM7.out o).m3.loc.size hb))
                have hsuc : Hid (fs ++ [x.field] = (kept3 S ts q ++ ys.take (j + 1)).map (·.field) ∧ rs ++ [x.frm] = (kept3 S ts q ++ ys.take (j + 1)).map (·.frm)) := Lib.hid (by
                  rw [List.take_succ_eq_append_getElem hjl, ← HX.out, HFS.out, HRS.out]
                  simp)
                clear hwd BOw BO BX hM5 hxbw hxb2 hnw2 hRel2 hFit2 hM2 hM
                go_wp2_with (first
                  | (at_builtin; refine append_law (H := HH) (E := eRec) rfl (.tmp 121) (.tmp 124) _ rfl okRec (hFit7.out _) (xs := rs) (ys := [x.frm]) rfl (base := w2.heap.size) (hM7.out _).m3.out.2.2 rfl rfl (Rels.single rfl) (World.news_of_block (blk_new wd _)) (by decide) hlr.out (hM7.out _).m3.loc.size ?_; intro g2 cap2 we k1 k2 k3 k4 k5 k6 k7 k8
                     have BOe := blk4 ((hM7.out _).obR hob k4)
                     have hM9 := Lib.hid ((hM7.out _).from HQ.out.2.1 hzo.out hob k1 k4)
                     clear k1 k2 k3 k4 k5 k6 k7 k8))
                go_roundw
                case rel => exact ⟨j + 1, by omega, by go_num, Lib.hid ⟨_, _, by rw [← hsuc.out.1, ← hsuc.out.2]; exact hM9.out⟩⟩
                case measure => simp [intOf]; omega
              · have hje : j = ys.length := by omega
                subst hje
                go_wp2
                go_roundw
                case rel =>
                  refine ⟨q + 1, by omega, by go_num, Lib.hid ?_⟩
                  obtain ⟨fv, rv, M⟩ := hm.out
                  rw [List.take_length] at M
                  refine ⟨fv, rv, ?_⟩
                  rw [kept3_succ hqt, ← HT.out, hdata.out, Option.getD_some, HYS.out]
                  exact M.m3
                case measure => simp [intOf]; omega
          · have hqe : q = tn := by omega
            subst hqe
            obtain ⟨fv, rv, M⟩ := hm.out
            have hkall : kept3 S ts q = keptOf (grp S) := by rw [← htl.out, HTS.out, HM0.out.keys_eq]; exact kept3_all S
            rw [hkall] at M
            obtain ⟨fs, hfs⟩ : ∃ fs, fs = (keptOf (grp S)).map (·.field) := ⟨_, rfl⟩
            obtain ⟨rs, hrs⟩ : ∃ rs, rs = (keptOf (grp S)).map (·.frm) := ⟨_, rfl⟩
            rw [← hfs, ← hrs] at M
            rw [← hfs, ← hrs] at hml2
            clear hfs hrs
            obtain ⟨fa, fc, rfl, _, _⟩ := M.out.2.1.form
            obtain ⟨ra, rc, rfl, _, _⟩ := M.out.2.2.form
            have BO := blk4 M.out.1
            have hres : wr.heap[w.heap.size]? = some (.cells #[.int .u8 0, .int .u8 0, .slice none 0 0, .slice none 0 0] 29 (0, 0)) := (M.loc.block _ (by omega) (by omega)).trans HQ.out.2.2.2.1
            have BR := blk4 hres
            have hM := Lib.hid M
            have hHH2 := Lib.hid hHH
            clear M hres hm hkall hHH
            go_wp2
            have hws : w.heap.size + 2 ≤ w2.heap.size := HQ.out.2.2.2.2.2
            have hzr : (H2.ge w.heap.size) w.heap.size = 0 := by have h1 := H2.ge_le w.heap.size w.heap.size; have h2 := hH2z.out; omega
            have hltp : w.heap.size < w2.heap.size := by omega
            have f0 := hM.out.out.2.1
            have r0 := hM.out.out.2.2
            rw [← hHH2.out] at f0 r0
            have f1 := ((((Own.lower f0 (B := w.heap.size) (by omega) hws).setCellLt (p := ⟨w.heap.size, 0, none⟩) hltp hzr (.int .u8 vs[0].record.kind)).setCellLt (p := ⟨w.heap.size, 1, none⟩) hltp hzr (.int .u8 vs[0].record.level)).setCellLt (p := ⟨w.heap.size, 2, none⟩) hltp hzr (.slice fa fs.length fc)).setCellLt (p := ⟨w.heap.size, 3, none⟩) hltp hzr (.slice ra rs.length rc) |>.low (base' := w.heap.size) (by omega)
            have r1 := ((((Own.lower r0 (B := w.heap.size) (by omega) hws).setCellLt (p := ⟨w.heap.size, 0, none⟩) hltp hzr (.int .u8 vs[0].record.kind)).setCellLt (p := ⟨w.heap.size, 1, none⟩) hltp hzr (.int .u8 vs[0].record.level)).setCellLt (p := ⟨w.heap.size, 2, none⟩) hltp hzr (.slice fa fs.length fc)).setCellLt (p := ⟨w.heap.size, 3, none⟩) hltp hzr (.slice ra rs.length rc) |>.low (base' := w.heap.size) (by omega)
            have e1 := ((((HQ.out.1.loc hM.out.loc (by omega)).setCell (p := ⟨w.heap.size, 0, none⟩) (Nat.le_refl _) (.int .u8 vs[0].record.kind)).setCell (p := ⟨w.heap.size, 1, none⟩) (Nat.le_refl _) (.int .u8 vs[0].record.level)).setCell (p := ⟨w.heap.size, 2, none⟩) (Nat.le_refl _) (.slice fa fs.length fc)).setCell (p := ⟨w.heap.size, 3, none⟩) (Nat.le_refl _) (.slice ra rs.length rc)
            obtain ⟨H3, e2, s1, s2⟩ := give_two f1 r1 (by decide) e1
            exact bodyPost_ret (v := .agg #[.int .u8 vs[0].record.kind, .int .u8 vs[0].record.level, .slice fa fs.length fc, .slice ra rs.length rc]) (by simp [results, Tryz.results6, go_sem, BR]) rfl (Ret.mk ⟨H3, e2, by rw [hml2.out]; exact ⟨_, _, rfl, s1, s2⟩⟩)
        --END tail
end Go.Proofs.YtnidmikcjkaegaaGreatDoor
