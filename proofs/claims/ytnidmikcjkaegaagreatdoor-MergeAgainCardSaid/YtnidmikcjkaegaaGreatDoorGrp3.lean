/-
  What is proved here: the last loops of merge.Merge: what they keep, and their steps, with no program in sight. No condition.
-/
import Derived.Test.YtnidmikcjkaegaaGreatDoorTags
namespace Go.Proofs.YtnidmikcjkaegaaGreatDoor
open Go Go.RowKit Go.ML

theorem okStr : EncOk Tryz.prog 54 eStr 16 := ⟨Tryz.underlying54, by kernel_rfl, by decide⟩
theorem okRec : EncOk Tryz.prog 27 eRec 16 := ⟨Tryz.underlying27, by kernel_rfl, by decide⟩

/-- What is given out so far: the block ob holds a merged record. -/
def OutIs (HH : Hts) (w : World) (base ob : Nat) (kind level : Int) (fs : List GField) (rs : List GRec) (fv rv : Value) : Prop :=
  w.heap[ob]? = some (.cells #[.int .u8 kind, .int .u8 level, fv, rv] 29 (0, 0)) ∧ ML.Own eField HH w base fs fv ∧ ML.Own eRec HH w base rs rv

theorem OutIs.keep {HH : Hts} {w w' : World} {base ob : Nat} {kind level : Int} {fs : List GField} {rs : List GRec} {fv rv : Value} (h : OutIs HH w base ob kind level fs rs fv rv) (ev : Evo HH w HH w') (hb : ∀ (k : Nat) (cs : Array Value) (t : TypeId) (fr : Nat × Nat), w.heap[k]? = some (Obj.cells cs t fr) → t ≠ 60 → w'.heap[k]? = w.heap[k]?) : OutIs HH w' base ob kind level fs rs fv rv := by
  obtain ⟨h1, h2, h3⟩ := h
  refine ⟨(hb _ _ _ _ h1 (by decide)).trans h1, h2.keep ev (fun b e => ?_) h2.zero, h3.keep ev (fun b e => ?_) h3.zero⟩
  · obtain ⟨c, fr, hh⟩ := own_blk h2 e
    exact hb _ _ _ _ hh (by decide)
  · obtain ⟨c, fr, hh⟩ := own_blk h3 e
    exact hb _ _ _ _ hh (by decide)

/-- Between two tags: those from k on are still to come. -/
structure M3 (HH : Hts) (w2 : World) (ob : Nat) (kind level : Int) (S : List GSaid) (ts : List ByteArray) (tv ov : Value) (cs : ColL) (k : Nat) (fs : List GField) (rs : List GRec) (fv rv : Value) (wr : World) : Prop where
  loc : MLoc ob (ob + 1) w2 wr
  mp : Mp Value.string wr w2.heap.size (mapV colPtr cs)
  tags : ML.Own eStr HH wr w2.heap.size ts tv
  pol : ML.Own ePol HH wr w2.heap.size pols ov
  cols : ∀ p ∈ cs, p.1 ∈ ts.drop k → ColOk HH wr w2.heap.size p.2
  keys : (cs.map (·.1)).Nodup
  dist : ∀ p ∈ cs, ∀ q ∈ cs, p.1 ≠ q.1 → p.2.cb ≠ q.2.cb ∧ p.2.g ≠ q.2.g
  data : mapV (·.xs) cs = grp S
  out : OutIs HH wr w2.heap.size ob kind level fs rs fv rv

/-- The same within a tag: its row holds ys. -/
structure M4 (HH : Hts) (w2 : World) (ob : Nat) (kind level : Int) (S : List GSaid) (ts : List ByteArray) (tv ov : Value) (cs : ColL) (k : Nat) (fs : List GField) (rs : List GRec) (fv rv : Value) (g cap : Nat) (ys : List GSaid) (wr : World) : Prop where
  m3 : M3 HH w2 ob kind level S ts tv ov cs k fs rs fv rv wr
  row : ∃ cells, OwnAt HH wr w2.heap.size g ys.length cap cells ∧ Rels eSaid HH wr ys cells

section
variable {HH : Hts} {w2 wr wr' : World} {ob : Nat} {kind level : Int} {S : List GSaid} {ts : List ByteArray} {tv ov : Value} {cs : ColL} {k : Nat} {fs : List GField} {rs : List GRec} {fv rv : Value}

theorem col_said {w : World} {base : Nat} {c : Col} (h : ColOk HH w base c) : ∃ (cc : Array Value) (fr : Nat × Nat), w.heap[c.g]? = some (Obj.cells cc 60 fr) := by
  obtain ⟨_, _, _, cl, j1, _⟩ := h
  rcases j1.1.2 with ⟨hn, _⟩ | ⟨g', _, cur, hv, _, hg', _⟩
  · cases hn
  · injection hv with e; injection e with e; injection e with e
    exact ⟨cur, (0, 0), by rw [e]; exact hg'⟩

/-- A step that leaves all old blocks alone. -/
theorem M3.later (h : M3 HH w2 ob kind level S ts tv ov cs k fs rs fv rv wr) (hf : Fit HH w2) (hb : Below wr.heap.size wr wr') : M3 HH w2 ob kind level S ts tv ov cs k fs rs fv rv wr' := by
  have hle := h.loc.size
  have ev : Evo HH wr HH wr' := later_evo hf (hb.mono hle)
  have hs : ∀ k, k < wr.heap.size → wr'.heap[k]? = wr.heap[k]? := fun k hk => hb.block k hk
  refine ⟨h.loc.trans ⟨hb.os, hb.tape, hb.output, hb.size, fun k hk _ => hs k hk⟩, h.mp.same (hs _ h.mp.lt), h.tags.keep ev (fun b e => hs b (h.tags.lt b e)) h.tags.zero, h.pol.keep ev (fun b e => hs b (h.pol.lt b e)) h.pol.zero,
    fun p hp hk => ?_, h.keys, h.dist, h.data, h.out.keep ev (fun k cs t fr hk _ => hs k (lt_of_block hk))⟩
  have hc := h.cols p hp hk
  exact hc.keep ev (hs _ hc.lt.1) (hs _ hc.lt.2.1)
theorem M4.later {g cap : Nat} {ys : List GSaid} (h : M4 HH w2 ob kind level S ts tv ov cs k fs rs fv rv g cap ys wr) (hf : Fit HH w2) (hb : Below wr.heap.size wr wr') : M4 HH w2 ob kind level S ts tv ov cs k fs rs fv rv g cap ys wr' := by
  refine ⟨h.m3.later hf hb, ?_⟩
  obtain ⟨cells, h1, h2⟩ := h.row
  have ev : Evo HH wr HH wr' := later_evo hf (hb.mono h.m3.loc.size)
  exact ⟨cells, ⟨ownsRow_same h1.1 (fun b hb' => hb.block b (h1.1.lt b hb').2), h1.2⟩, h2.evo ev⟩

/-- A tag's collector has been asked what it keeps. -/
theorem M3.kept (h : M3 HH w2 ob kind level S ts tv ov cs k fs rs fv rv wr) (hf : Fit HH w2) (hts : ts.Nodup) (hk : k < ts.length) {c : Col} (hg : mget cs ts[k] = some c) {ys : List GSaid} {cells : List Value}
    (hch : Chg c.g none wr wr') (h1 : OwnAt HH wr' w2.heap.size c.g ys.length c.cap cells) (h2 : Rels eSaid HH wr' ys cells) : M4 HH w2 ob kind level S ts tv ov cs (k + 1) fs rs fv rv c.g c.cap ys wr' := by
  have hm := mget_mem hg
  have hin : ts[k] ∈ ts.drop k := by rw [List.drop_eq_getElem_cons hk]; exact List.mem_cons_self ..
  have hc := h.cols _ hm hin
  have hl := hc.lt
  have hle := h.loc.size
  have hbelow : Below w2.heap.size wr wr' := ⟨hch.os, hch.tape, hch.output, hch.size, fun k hk => hch.block k (by omega) (by have := hl.2.2.1; simp only at this; omega) (by simp)⟩
  have ev : Evo HH wr HH wr' := later_evo hf hbelow
  have hsaid := col_said hc
  have hs : ∀ k, k < wr.heap.size → k ≠ c.g → wr'.heap[k]? = wr.heap[k]? := fun k hk hne => hch.block k hk hne (by simp)
  have hty : ∀ (k : Nat) (cs' : Array Value) (t : TypeId) (fr : Nat × Nat), wr.heap[k]? = some (Obj.cells cs' t fr) → t ≠ 60 → wr'.heap[k]? = wr.heap[k]? := fun k cs' t fr hk ht => hs k (lt_of_block hk) (fun e => by
    obtain ⟨cc, fr', hh⟩ := hsaid
    simp only at hh
    rw [e, hh] at hk
    injection hk with hk
    injection hk with _ hk _
    exact ht hk.symm)
  refine ⟨⟨⟨hch.os.trans h.loc.os, hch.tape.trans h.loc.tape, hch.output.trans h.loc.output, Nat.le_trans hle hch.size, fun j hj hjb => (hs j (Nat.lt_of_lt_of_le hj hle) (by have := hl.2.2.1; simp only at this; omega)).trans (h.loc.block j hj hjb)⟩, h.mp.same (hs _ h.mp.lt (fun e => ?_)), h.tags.keep ev (fun b e => ?_) h.tags.zero, h.pol.keep ev (fun b e => ?_) h.pol.zero, fun p hp hpk => ?_, h.keys, h.dist, h.data, h.out.keep ev hty⟩, cells, h1, h2⟩
  · obtain ⟨cc, fr', hh⟩ := hsaid
    exact h.mp.ne_blk hh e
  · obtain ⟨cc, fr, hh⟩ := own_blk h.tags e
    exact hty _ _ _ _ hh (by decide)
  · obtain ⟨cc, fr, hh⟩ := own_blk h.pol e
    exact hty _ _ _ _ hh (by decide)
  · have hin' : p.1 ∈ ts.drop k := by rw [List.drop_eq_getElem_cons hk]; exact List.mem_cons_of_mem _ hpk
    have hpc := h.cols p hp hin'
    have hne : p.1 ≠ ts[k] := fun e => by
      have hd := List.drop_eq_getElem_cons hk
      have hn : (ts.drop k).Nodup := hts.sublist (List.drop_sublist _ _)
      rw [hd] at hn
      exact (List.nodup_cons.1 hn).1 (e ▸ hpk)
    obtain ⟨d1, d2⟩ := h.dist p hp _ hm hne
    have hpl := hpc.lt
    refine hpc.keep ev (hs _ hpl.1 (fun e => ?_)) (hs _ hpl.2.1 d2)
    obtain ⟨cc, fr', hh⟩ := hsaid
    obtain ⟨_, _, k2, _⟩ := hpc
    simp only at hh
    rw [e, hh] at k2
    cases k2

/-- Something is given out: block ob is turned, and a row of fields or records. -/
theorem M4.turn {g cap : Nat} {ys : List GSaid} (h : M4 HH w2 ob kind level S ts tv ov cs k fs rs fv rv g cap ys wr) (hf : Fit HH w2) (ho : HH ob = 0) (hol : ob < w2.heap.size) {row : Option Nat} (hos : wr'.os = wr.os) (htp : wr'.tape = wr.tape) (hou : wr'.output = wr.output) (hsz : wr.heap.size ≤ wr'.heap.size)
    (hb : ∀ k, k < wr.heap.size → k ≠ ob → row ≠ some k → wr'.heap[k]? = wr.heap[k]?)
    (hrow : ∀ r, row = some r → w2.heap.size ≤ r ∧ ∃ (c : Array Value) (t : TypeId) (fr : Nat × Nat), wr.heap[r]? = some (Obj.cells c t fr) ∧ (t = 38 ∨ t = 34))
    {fs' : List GField} {rs' : List GRec} {fv' rv' : Value} (hout : OutIs HH wr' w2.heap.size ob kind level fs' rs' fv' rv') : M4 HH w2 ob kind level S ts tv ov cs k fs' rs' fv' rv' g cap ys wr' := by
  have hle := h.m3.loc.size
  have hlow : ∀ k, k < w2.heap.size → k ≠ ob → wr'.heap[k]? = wr.heap[k]? := fun k hk hne => hb k (by omega) hne (fun e => by have := (hrow k e).1; omega)
  have ev : Evo HH wr HH wr' := by
    have hlt : ∀ b, 0 < HH b → b < w2.heap.size ∧ b ≠ ob := fun b hp => ⟨by
      rcases Nat.lt_or_ge b w2.heap.size with h' | h'
      · exact h'
      · have := hf b h'; omega, fun e => by rw [e, ho] at hp; omega⟩
    refine ⟨fun b i v hi h => ?_, fun _ => Nat.le_refl _, fun b t hp h => ?_⟩
    · have := hlt b (by omega)
      rw [World.cell?_of_block (w := wr) (a := ⟨b, i, none⟩) (hlow b this.1 this.2)]; exact h
    · have := hlt b hp
      rw [tag_of_heap (hlow b this.1 this.2)]; exact h
  have hty : ∀ (k : Nat) (cs' : Array Value) (t : TypeId) (fr : Nat × Nat), wr.heap[k]? = some (Obj.cells cs' t fr) → w2.heap.size ≤ k → t ≠ 38 → t ≠ 34 → wr'.heap[k]? = wr.heap[k]? := fun k cs' t fr hk hk2 h1 h2 => hb k (lt_of_block hk) (by omega) (fun e => by
    obtain ⟨_, cc, t', fr', hh, ht'⟩ := hrow k e
    rw [hh] at hk
    injection hk with hk
    injection hk with _ hk _
    subst hk
    rcases ht' with ht' | ht'
    · exact h1 ht'
    · exact h2 ht')
  obtain ⟨⟨k1, k2, k3, k4, k5, k6, k7, k8, k9⟩, cells, r1, r2⟩ := h
  refine ⟨⟨⟨hos.trans k1.os, htp.trans k1.tape, hou.trans k1.output, Nat.le_trans hle hsz, fun j hj hjb => (hlow j hj (by omega)).trans (k1.block j hj hjb)⟩, k2.same (hb _ k2.lt (by omega) (fun e => ?_)), k3.keep ev (fun b e => ?_) k3.zero, k4.keep ev (fun b e => ?_) k4.zero, fun p hp hpk => ?_, k6, k7, k8, hout⟩, cells, ⟨ownsRow_same r1.1 (fun b e => ?_), r1.2⟩, r2.evo ev⟩
  · obtain ⟨_, cc, t', fr', hh, _⟩ := hrow _ e
    exact k2.ne_blk hh rfl
  · obtain ⟨cc, fr, hh⟩ := own_blk k3 e
    exact hty _ _ _ _ hh (k3.ge b e) (by decide) (by decide)
  · obtain ⟨cc, fr, hh⟩ := own_blk k4 e
    exact hty _ _ _ _ hh (k4.ge b e) (by decide) (by decide)
  · have hc := k5 p hp hpk
    have hl := hc.lt
    obtain ⟨cc, fr, hh⟩ := col_said hc
    obtain ⟨_, hge, hcb, _⟩ := id hc
    exact hc.keep ev (hty _ _ _ _ hcb hge (by decide) (by decide)) (hty _ _ _ _ hh hl.2.2.1 (by decide) (by decide))
  · simp [Value.ownBlock] at e
    subst e
    rcases r1.1.2 with ⟨hn, _⟩ | ⟨g', _, cur, hv, hbg, hg', _⟩
    · cases hn
    · injection hv with e; injection e with e; injection e with e
      subst e
      exact hty _ _ _ _ hg' hbg (by decide) (by decide)

theorem blk_store {w : World} {b i : Nat} {cs' : Array Value} {t : TypeId} (h : w.heap[b]? = some (.cells cs' t (0, 0))) (x : Value) : (w.setCell ⟨b, i, none⟩ x).heap[b]? = some (.cells (cs'.setIfInBounds i x) t (0, 0)) := by
  obtain ⟨hlt, hk⟩ := Array.getElem?_eq_some_iff.1 h
  show (w.heap.modify b _)[b]? = _
  rw [Array.getElem?_eq_getElem (by rw [Array.size_modify]; exact hlt), Array.getElem_modify_self, hk]
  rfl

theorem M4.obF {g cap : Nat} {ys : List GSaid} {wb : World} (h : M4 HH w2 ob kind level S ts tv ov cs k fs rs fv rv g cap ys wr) (hol : ob < w2.heap.size) (hg : wr.grownBy wb fv.ownBlock) : wb.heap[ob]? = some (.cells #[.int .u8 kind, .int .u8 level, fv, rv] 29 (0, 0)) := by
  obtain ⟨o1, o2, o3⟩ := h.m3.out
  exact (hg.block ob (lt_of_block o1) (fun e => by have := o2.ge _ e.symm; omega)).trans o1
theorem M4.obR {g cap : Nat} {ys : List GSaid} {wb : World} (h : M4 HH w2 ob kind level S ts tv ov cs k fs rs fv rv g cap ys wr) (hol : ob < w2.heap.size) (hg : wr.grownBy wb rv.ownBlock) : wb.heap[ob]? = some (.cells #[.int .u8 kind, .int .u8 level, fv, rv] 29 (0, 0)) := by
  obtain ⟨o1, o2, o3⟩ := h.m3.out
  exact (hg.block ob (lt_of_block o1) (fun e => by have := o3.ge _ e.symm; omega)).trans o1
theorem M4.boxF {g cap : Nat} {ys : List GSaid} {wb : World} (h : M4 HH w2 ob kind level S ts tv ov cs k fs rs fv rv g cap ys wr) (hg : wr.grownBy wb fv.ownBlock) {xb : Nat} {cc : Array Value} (hx : wr.heap[xb]? = some (.cells cc 60 (0, 0))) : wb.heap[xb]? = some (.cells cc 60 (0, 0)) := by
  obtain ⟨o1, o2, o3⟩ := h.m3.out
  exact (hg.block xb (lt_of_block hx) (fun e => o2.ne hx (by decide) e.symm)).trans hx

theorem M4.field {g cap : Nat} {ys : List GSaid} {wb : World} {f : GField} {v' : Value} (h : M4 HH w2 ob kind level S ts tv ov cs k fs rs fv rv g cap ys wr) (hf : Fit HH w2) (ho : HH ob = 0) (hol : ob < w2.heap.size)
    (how : ML.Own eField HH wb w2.heap.size (fs ++ [f]) v') (hg : wr.grownBy wb fv.ownBlock) : M4 HH w2 ob kind level S ts tv ov cs k (fs ++ [f]) rs v' rv g cap ys (wb.setCell ⟨ob, 2, none⟩ v') := by
  obtain ⟨o1, o2, o3⟩ := h.m3.out
  have hob : wb.heap[ob]? = some (.cells #[.int .u8 kind, .int .u8 level, fv, rv] 29 (0, 0)) := (hg.block ob (lt_of_block o1) (fun e => by have := o2.ge _ e.symm; omega)).trans o1
  have evs : Evo HH wb HH (wb.setCell ⟨ob, 2, none⟩ v') := (Evo.refl HH wb).setCell (p := ⟨ob, 2, none⟩) ho v'
  have ev0 : Evo HH wr HH wb := (Evo.refl HH wr).grown hg (fun k e => o2.zero k e)
  refine h.turn (wr' := wb.setCell ⟨ob, 2, none⟩ v') (row := fv.ownBlock) hf ho hol hg.os hg.tape hg.output (by simpa [World.setCell] using hg.size) (fun j hj hne hr => (Below.heap_setCell wb ⟨ob, 2, none⟩ v' j hne).trans (hg.block j hj (fun e => hr e.symm))) (fun r e => ?_) ⟨blk_store hob v', ?_, ?_⟩
  · obtain ⟨c, fr, hh⟩ := own_blk o2 e
    exact ⟨o2.ge r e, c, _, fr, hh, .inl rfl⟩
  · exact how.setCellLt (p := ⟨ob, 2, none⟩) hol ho v'
  · refine (o3.keep ev0 (fun b e => hg.block b (o3.lt b e) (fun e2 => ?_)) o3.zero).setCellLt (p := ⟨ob, 2, none⟩) hol ho v'
    obtain ⟨c, fr, hh⟩ := own_blk o3 e
    exact o2.ne hh (by decide) e2.symm

theorem M4.from {g cap : Nat} {ys : List GSaid} {wb : World} {f : GRec} {v' : Value} (h : M4 HH w2 ob kind level S ts tv ov cs k fs rs fv rv g cap ys wr) (hf : Fit HH w2) (ho : HH ob = 0) (hol : ob < w2.heap.size)
    (how : ML.Own eRec HH wb w2.heap.size (rs ++ [f]) v') (hg : wr.grownBy wb rv.ownBlock) : M4 HH w2 ob kind level S ts tv ov cs k fs (rs ++ [f]) fv v' g cap ys (wb.setCell ⟨ob, 3, none⟩ v') := by
  obtain ⟨o1, o2, o3⟩ := h.m3.out
  have hob : wb.heap[ob]? = some (.cells #[.int .u8 kind, .int .u8 level, fv, rv] 29 (0, 0)) := (hg.block ob (lt_of_block o1) (fun e => by have := o3.ge _ e.symm; omega)).trans o1
  have evs : Evo HH wb HH (wb.setCell ⟨ob, 3, none⟩ v') := (Evo.refl HH wb).setCell (p := ⟨ob, 3, none⟩) ho v'
  have ev0 : Evo HH wr HH wb := (Evo.refl HH wr).grown hg (fun k e => o3.zero k e)
  refine h.turn (wr' := wb.setCell ⟨ob, 3, none⟩ v') (row := rv.ownBlock) hf ho hol hg.os hg.tape hg.output (by simpa [World.setCell] using hg.size) (fun j hj hne hr => (Below.heap_setCell wb ⟨ob, 3, none⟩ v' j hne).trans (hg.block j hj (fun e => hr e.symm))) (fun r e => ?_) ⟨blk_store hob v', ?_, ?_⟩
  · obtain ⟨c, fr, hh⟩ := own_blk o3 e
    exact ⟨o3.ge r e, c, _, fr, hh, .inr rfl⟩
  · refine (o2.keep ev0 (fun b e => hg.block b (o2.lt b e) (fun e2 => ?_)) o2.zero).setCellLt (p := ⟨ob, 3, none⟩) hol ho v'
    obtain ⟨c, fr, hh⟩ := own_blk o2 e
    exact o3.ne hh (by decide) e2.symm
  · exact how.setCellLt (p := ⟨ob, 3, none⟩) hol ho v'

/-- Behind loop 1, the sort and the policies. -/
theorem M1.start {w3 w4 : World} {tv0 : Value} (h : M1 HH w2 S tv0 cs wr) (hf : Fit HH w2) (hol : ob < w2.heap.size) (hob : w2.heap[ob]? = some (.cells #[.int .u8 kind, .int .u8 level, .slice none 0 0, .slice none 0 0] 29 (0, 0)))
    (htg : ML.Own eStr HH w3 w2.heap.size ts tv0) (hg : wr.grownBy w3 tv0.ownBlock) (hx : Ext HH w3 HH w4) (hp : ML.Own ePol HH w4 w3.heap.size pols ov) : M3 HH w2 ob kind level S ts tv0 ov cs 0 [] [] (.slice none 0 0) (.slice none 0 0) w4 := by
  have hle := h.below.size
  have hb3 : Below w2.heap.size wr w3 := (Below.refl _ wr).grown hg hle (fun k e => h.tags.ge k e)
  have hb4 : Below w2.heap.size wr w4 := hb3.trans (hx.below.mono (Nat.le_trans hle hg.size))
  have ev3 : Evo HH wr HH w3 := later_evo hf hb3
  have ev4 : Evo HH w3 HH w4 := later_evo hf (hx.below.mono (Nat.le_trans hle hg.size))
  have hbb := h.below.trans hb4
  have hs : ∀ k, k < wr.heap.size → tv0.ownBlock ≠ some k → w4.heap[k]? = wr.heap[k]? := fun k hk hne => (hx.below.block k (Nat.lt_of_lt_of_le hk hg.size)).trans (hg.block k hk (fun e => hne e.symm))
  refine ⟨⟨hbb.os, hbb.tape, hbb.output, hbb.size, fun k hk _ => hbb.block k hk⟩, h.mp.same (hs _ h.mp.lt (h.mp.ne_own h.tags)), htg.keep ev4 (fun b e => hx.below.block b (htg.lt b e)) htg.zero, hp.low (Nat.le_trans hle hg.size), fun p hpm _ => ?_, h.cols.keys, h.cols.dist, h.data, ⟨(hbb.block ob hol).trans hob, ML.Own.nil _, ML.Own.nil _⟩⟩
  have hc := h.cols.ok p hpm
  have hl := hc.lt
  obtain ⟨cc, fr, hh⟩ := col_said hc
  obtain ⟨_, hge, hcb, _⟩ := id hc
  exact hc.keep (ev3.trans ev4) (hs _ hl.1 (h.tags.ne hcb (by decide))) (hs _ hl.2.1 (h.tags.ne hh (by decide)))
end

theorem M1.keys_len {HH : Hts} {w2 wr : World} {S : List GSaid} {tv : Value} {cs : ColL} (h : M1 HH w2 S tv cs wr) : (cs.map (·.1)).length = (grp S).length := by
  rw [← h.data]; simp [mapV]
theorem M1.keys_eq {HH : Hts} {w2 wr : World} {S : List GSaid} {tv : Value} {cs : ColL} (h : M1 HH w2 S tv cs wr) : cs.map (·.1) = (grp S).map (·.1) := by
  rw [← h.data, keys_mapV]

theorem keepF_len (del : List GSaid → GSaid → Bool) : ∀ (xs pre : List GSaid), (keepF del pre xs).length ≤ xs.length
  | [], _ => by simp [keepF]
  | x :: r, pre => by
    unfold keepF
    have := keepF_len del r (pre ++ [x])
    split
    · rw [List.length_cons]; omega
    · rw [List.length_cons, List.length_cons]; omega
theorem modeOf_len (t : ByteArray) (xs : List GSaid) : (modeOf t xs).length ≤ xs.length := by
  unfold modeOf
  split
  · split
    · split
      · exact Nat.le_refl _
      · split
        · unfold modeFirst
          split
          · exact Nat.le_refl _
          · exact keepF_len _ _ _
        · exact keepF_len _ _ _
    · simp
  · simp
/-- What is kept of the first q tags. -/
def kept3 (S : List GSaid) (ts : List ByteArray) (q : Nat) : List GSaid := (ts.take q).flatMap (fun t => modeOf t ((mget (grp S) t).getD []))
theorem kept3_succ {S : List GSaid} {ts : List ByteArray} {q : Nat} (h : q < ts.length) : kept3 S ts (q + 1) = kept3 S ts q ++ modeOf ts[q] ((mget (grp S) ts[q]).getD []) := by
  unfold kept3
  rw [List.take_succ_eq_append_getElem h, List.flatMap_append]
  simp
theorem kept3_all (S : List GSaid) : kept3 S (sortTags ((grp S).map (·.1))) (sortTags ((grp S).map (·.1))).length = keptOf (grp S) := by
  unfold kept3 keptOf
  rw [List.take_length]

theorem kept3_len {S : List GSaid} {n : Nat} (h : ∀ p ∈ grp S, p.2.length ≤ n) (ts : List ByteArray) : ∀ q, (kept3 S ts q).length ≤ q * n := by
  have key : ∀ l : List ByteArray, (l.flatMap (fun t => modeOf t ((mget (grp S) t).getD []))).length ≤ l.length * n := by
    intro l
    induction l with
    | nil => simp
    | cons t l ih =>
      rw [List.flatMap_cons, List.length_append, List.length_cons, Nat.succ_mul]
      have h1 := modeOf_len t ((mget (grp S) t).getD [])
      have h2 : ((mget (grp S) t).getD []).length ≤ n := by
        cases hg : mget (grp S) t with
        | none => simp
        | some ys => exact h _ (mget_mem hg)
      omega
  intro q
  unfold kept3
  have h1 := key (ts.take q)
  have h2 : (ts.take q).length * n ≤ q * n := Nat.mul_le_mul_right _ (by simp; omega)
  omega
theorem own_str_at {H : Hts} {w : World} {base n c : Nat} {xs : List ByteArray} {a : Option Addr} (h : ML.Own eStr H w base xs (.slice a n c)) (i : Nat) (hi : i < xs.length) :
    ∃ g, a = some ⟨g, 0, none⟩ ∧ g < w.heap.size ∧ w.cell? ⟨g, i, none⟩ = some (.string xs[i]) := by
  have hf := h.form
  obtain ⟨cells, hr, h1, h2⟩ := h
  obtain ⟨a', c', e, _, _⟩ := hf
  injection e with _ e2 _
  subst e2
  obtain ⟨g, cap, hv, _, hlt⟩ := hr.form (by omega)
  injection hv with e1 _ e3
  subst e1
  obtain ⟨cs, hcs, hc⟩ := h1.get i hi
  obtain rfl : cs = [.string xs[i]] := hcs
  have h3 := hr.cellAt (i * 1 + 0) (show i * 1 + 0 < xs.length * 1 by omega)
  have h4 := h3.trans (hc 0 (by decide))
  exact ⟨g, rfl, hlt, by simpa using h4⟩
theorem own_pol_at {H : Hts} {w : World} {base n c : Nat} {xs : List GPol} {a : Option Addr} (h : ML.Own ePol H w base xs (.slice a n c)) (i : Nat) (hi : i < xs.length) :
    ∃ g, a = some ⟨g, 0, none⟩ ∧ g < w.heap.size ∧ w.cell? ⟨g, i * 2 + 1, none⟩ = some (vFn xs[i].fn) := by
  have hf := h.form
  obtain ⟨cells, hr, h1, h2⟩ := h
  obtain ⟨a', c', e, _, _⟩ := hf
  injection e with _ e2 _
  subst e2
  obtain ⟨g, cap, hv, _, hlt⟩ := hr.form (by omega)
  injection hv with e1 _ e3
  subst e1
  obtain ⟨cs, hcs, hc⟩ := h1.get i hi
  obtain rfl : cs = [.string xs[i].begin_, vFn xs[i].fn] := hcs
  have h3 := hr.cellAt (i * 2 + 1) (show i * 2 + 1 < xs.length * 2 by omega)
  have h4 := hc 1 (by decide)
  exact ⟨g, rfl, hlt, h3.trans h4⟩

theorem mem_sortTags {t : ByteArray} {l : List ByteArray} : t ∈ sortTags l ↔ t ∈ l := by
  unfold sortTags
  rw [List.mem_map]
  constructor
  · rintro ⟨b, hb, rfl⟩
    rw [List.mem_mergeSort, List.mem_map] at hb
    obtain ⟨x, hx, rfl⟩ := hb
    rw [mk_bytes]; exact hx
  · intro h
    exact ⟨t.data.toList, by rw [List.mem_mergeSort, List.mem_map]; exact ⟨t, h, rfl⟩, mk_bytes t⟩
theorem nodup_sortTags {l : List ByteArray} (h : l.Nodup) : (sortTags l).Nodup := by
  have hp : (sortTags l).Perm l := by
    unfold sortTags
    have h1 := (List.mergeSort_perm (l.map (·.data.toList)) (fun x y => decide (x ≤ y))).map (fun b : List UInt8 => (⟨b.toArray⟩ : ByteArray))
    refine h1.trans ?_
    rw [List.map_map]
    have : ((fun b : List UInt8 => (⟨b.toArray⟩ : ByteArray)) ∘ fun x : ByteArray => x.data.toList) = id := by funext x; exact mk_bytes x
    rw [this, List.map_id]
  exact hp.symm.nodup h

theorem below_none {w w' : World} (h : w.grownBy w' none) : Below w.heap.size w w' := ⟨h.os, h.tape, h.output, h.size, fun k hk => h.block k hk (by simp)⟩

theorem grp_mem {S : List GSaid} : ∀ p ∈ grp S, ∀ x ∈ p.2, x ∈ S := by
  have key : ∀ (S : List GSaid) (G : Grp) (R : GSaid → Prop), (∀ p ∈ G, ∀ x ∈ p.2, R x) → (∀ x ∈ S, R x) → ∀ p ∈ S.foldl gput G, ∀ x ∈ p.2, R x := by
    intro S
    induction S with
    | nil => intro G R h1 _; exact h1
    | cons y S ih =>
      intro G R h1 h2
      refine ih (gput G y) R (fun p hp x hx => ?_) (fun x hx => h2 x (List.mem_cons_of_mem _ hx))
      unfold gput at hp
      rcases mem_mput hp with rfl | hp
      · simp only [List.mem_append, List.mem_singleton] at hx
        rcases hx with hx | rfl
        · cases hm : mget G y.field.tag with
          | none => rw [hm] at hx; simp at hx
          | some ys => rw [hm] at hx; exact h1 _ (mget_mem hm) x hx
        · exact h2 _ (List.mem_cons_self ..)
      · exact h1 p hp x hx
  exact key S [] (· ∈ S) (fun p hp => by cases hp) (fun x hx => hx)

theorem Own.lower {α : Type} {E : Enc α} {H : Hts} {w : World} {base B B' : Nat} {xs : List α} {v : Value} (h : ML.Own E (H.ge B') w base xs v) (h1 : B ≤ B') (h2 : B' ≤ base) : ML.Own E (H.ge B) w base xs v :=
  h.keep (Evo.ge2 H w h1) (fun _ _ => rfl) (fun b e => by
    have h3 := h.zero b e
    have h4 := h.ge b e
    unfold Hts.ge at *
    rw [if_neg (by omega)] at h3 ⊢
    exact h3)

/-- Two owned rows given out at once, where all lies in new blocks. -/
theorem give_two {α β : Type} {E1 : Enc α} {E2 : Enc β} {H H' : Hts} {w0 w' : World} {xs : List α} {ys : List β} {v u : Value} (h1 : ML.Own E1 (H'.ge w0.heap.size) w' w0.heap.size xs v) (h2 : ML.Own E2 (H'.ge w0.heap.size) w' w0.heap.size ys u) (hne : E1.ty ≠ E2.ty) (e : Ext H w0 H' w') :
    ∃ H'', Ext H w0 H'' w' ∧ Sl E1 (H''.ge w0.heap.size) w' xs v ∧ Sl E2 (H''.ge w0.heap.size) w' ys u := by
  obtain ⟨cells, k1, k2, k3⟩ := id h1
  rcases k1.2 with ⟨rfl, hn⟩ | ⟨g, cap, cur, rfl, hbg, hg, hn, hcap, hcur, htake⟩
  · have : xs = [] := List.length_eq_zero_iff.1 hn
    subst this
    obtain ⟨H'', e2, s2⟩ := h2.freshGe e
    exact ⟨H'', e2, Sl.nil, s2⟩
  · have hlt : g < w'.heap.size := lt_of_block hg
    have hz : H' g = 0 := by have := k3 g rfl; unfold Hts.ge at this; rw [if_neg (by omega)] at this; exact this
    have ev : Evo H' w' (H'.set g (xs.length * E1.sz)) w' := (Evo.refl H' w').pub hz _
    have evg := ev.geMono w0.heap.size
    have s1 : Sl E1 ((H'.set g (xs.length * E1.sz)).ge w0.heap.size) w' xs (.slice (some ⟨g, 0, none⟩) xs.length cap) := Sl.of_row k1 (k2.evo evg) (by
      unfold Hts.ge
      rw [if_neg (by omega), Hts.set_self]
      exact Nat.le_refl _)
    have h2' : ML.Own E2 ((H'.set g (xs.length * E1.sz)).ge w0.heap.size) w' w0.heap.size ys u := h2.keep evg (fun _ _ => rfl) (fun b hb => by
      have h0 := h2.zero b hb
      have hge := h2.ge b hb
      have hbg : b ≠ g := fun e => by
        subst e
        exact h2.ne hg hne hb
      unfold Hts.ge at *
      rw [if_neg (by omega)] at h0 ⊢
      rw [Hts.set_other hbg]; exact h0)
    have e2 := e.pub hbg hlt (xs.length * E1.sz)
    obtain ⟨cells', j1, j2, j3⟩ := id h2'
    rcases j1.2 with ⟨rfl, hn'⟩ | ⟨g', cap', cur', rfl, hbg', hg', hn', hcap', hcur', htake'⟩
    · have : ys = [] := List.length_eq_zero_iff.1 hn'
      subst this
      exact ⟨_, e2, s1, Sl.nil⟩
    · have hlt' : g' < w'.heap.size := lt_of_block hg'
      have hz' : (H'.set g (xs.length * E1.sz)) g' = 0 := by have := j3 g' rfl; unfold Hts.ge at this; rw [if_neg (by omega)] at this; exact this
      have ev' : Evo (H'.set g (xs.length * E1.sz)) w' ((H'.set g (xs.length * E1.sz)).set g' (ys.length * E2.sz)) w' := (Evo.refl _ w').pub hz' _
      have evg' := ev'.geMono w0.heap.size
      refine ⟨_, e2.pub hbg' hlt' (ys.length * E2.sz), s1.evo evg', Sl.of_row j1 (j2.evo evg') ?_⟩
      unfold Hts.ge
      rw [if_neg (by omega), Hts.set_self]
      exact Nat.le_refl _

/-! ### The tag's policy -/
theorem polIx_some (tag : ByteArray) : ∃ k, k < 8 ∧ polIx tag pols 0 = some k := by
  have hlast : holdsB ⟨#[]⟩ tag = true := by simp [holdsB, Lib.hasPrefix, ByteArray.size]
  have h : ∀ (l : List GPol) (i : Nat), (∃ p ∈ l, holdsB p.begin_ tag = true) → ∃ k, k < i + l.length ∧ polIx tag l i = some k := by
    intro l
    induction l with
    | nil => rintro i ⟨p, hp, _⟩; cases hp
    | cons p r ih =>
      intro i hex
      unfold polIx
      cases hp : holdsB p.begin_ tag with
      | true => exact ⟨i, by simp, by simp⟩
      | false =>
        obtain ⟨q, hq, hqt⟩ := hex
        have : ∃ p ∈ r, holdsB p.begin_ tag = true := by
          cases hq with
          | head => rw [hp] at hqt; cases hqt
          | tail _ hq => exact ⟨q, hq, hqt⟩
        obtain ⟨k, hk, e⟩ := ih (i + 1) this
        exact ⟨k, by rw [List.length_cons]; omega, by simpa using e⟩
  obtain ⟨k, hk, e⟩ := h pols 0 ⟨⟨⟨#[]⟩, 33⟩, by simp [pols], hlast⟩
  exact ⟨k, by have : pols.length = 8 := rfl; omega, e⟩

theorem keep_any (tag : ByteArray) : ∃ k, ∃ hk : k < pols.length, polIx tag pols 0 = some k ∧ KeepOk pols[k].fn (modeOf tag) ∧ (∀ args w, (callFunc pols[k].fn args).run Tryz.prog w = .ok (.enter pols[k].fn args) w) := by
  obtain ⟨k, hk, e⟩ := polIx_some tag
  have hl : pols.length = 8 := rfl
  have e1 := enters_of Tryz.func31 (by kernel_rfl) rfl
  have e2 := enters_of Tryz.func32 (by kernel_rfl) rfl
  have e3 := enters_of Tryz.func33 (by kernel_rfl) rfl
  refine ⟨k, by omega, e, ?_⟩
  have hm : modeOf tag = fun xs => match pols[k]? with
    | some p => if p.fn = 31 then xs else if p.fn = 32 then modeFirst xs else modeAll xs
    | none => [] := by
    funext xs
    unfold modeOf
    rw [e]
    rfl
  rw [hm]
  match k, hk with
  | 0, _ => exact ⟨local_ok, e1⟩
  | 1, _ => exact ⟨first_ok, e2⟩
  | 2, _ => exact ⟨first_ok, e2⟩
  | 3, _ => exact ⟨first_ok, e2⟩
  | 4, _ => exact ⟨first_ok, e2⟩
  | 5, _ => exact ⟨first_ok, e2⟩
  | 6, _ => exact ⟨first_ok, e2⟩
  | 7, _ => exact ⟨all_ok, e3⟩
end Go.Proofs.YtnidmikcjkaegaaGreatDoor
