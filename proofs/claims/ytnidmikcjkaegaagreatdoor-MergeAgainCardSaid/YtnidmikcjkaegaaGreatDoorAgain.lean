/-
  What is proved here: the law MergeAgain answers true and writes nothing that was there. No condition.
-/
import Derived.Test.YtnidmikcjkaegaaGreatDoorPlain
import Derived.Test.YtnidmikcjkaegaaGreatDoorVers
import Derived.Test.YtnidmikcjkaegaaGreatDoorSane2
namespace Go.Proofs.YtnidmikcjkaegaaGreatDoor
open Go Go.RowKit Go.ML

theorem getD_small {l : List ByteArray} {n : Nat} (h : ∀ t ∈ l, t.size ≤ n) (i : Nat) : (l.getD i ⟨#[]⟩).size ≤ n := by
  rw [List.getD_eq_getElem?_getD]
  cases e : l[i]? with
  | none => exact Nat.zero_le _
  | some t => exact h t (List.mem_of_getElem? e)
theorem textP_small (n : Int) : (textP n).size ≤ 90 := getD_small (by decide) _
theorem codeP_small (n : Int) : 0 ≤ codeP n ∧ codeP n ≤ 255 := by
  unfold codeP
  generalize (⟨#[97, 98, 99, 48, 97, 118, 120, 113]⟩ : ByteArray)[(n % 8).toNat]'(code_lt n) = u
  have := u.toNat_lt
  omega
theorem nSubs_le (x : GQuad) : nSubs x ≤ 3 := by
  unfold nSubs
  have h1 := Int.emod_lt_of_pos x.c (show (0 : Int) < 3 by omega)
  have h2 := Int.emod_nonneg x.c (show (3 : Int) ≠ 0 by omega)
  omega
theorem madeF_small (x : GQuad) : SmallF (madeF x) := by
  unfold madeF
  split
  · exact ⟨by have := textP_small x.d; show (textP x.d).size < 100; omega, by show 0 ≤ 1000; omega, fun s hs => by cases hs⟩
  · refine ⟨by show (0 : Nat) < 100; omega, ?_, ?_⟩
    · have := nSubs_le x
      simp only [List.length_map, List.length_range]
      omega
    · intro s hs
      obtain ⟨j, _, rfl⟩ := List.mem_map.1 hs
      refine ⟨?_, codeP_small _⟩
      show (textP _).size ≤ 1000
      exact Nat.le_trans (textP_small _) (by omega)
def SixX (x : GVersion) : Prop := x.record.fields.length ≤ 6 ∧ ∀ f ∈ x.record.fields, SmallF f
theorem SixX.x {x : GVersion} (h : SixX x) : SmallX x := ⟨by have := h.1; omega, h.2⟩
theorem versP_len (l : List GIn) : (versP l).length ≤ 10 := by
  unfold versP; rw [List.length_map]; exact List.length_take_le ..
theorem versP_six (l : List GIn) : ∀ x ∈ versP l, SixX x := by
  intro x hx
  obtain ⟨y, _, rfl⟩ := List.mem_map.1 hx
  refine ⟨?_, ?_⟩
  · show ((y.fields.take 6).map madeF).length ≤ 6
    rw [List.length_map]; exact List.length_take_le ..
  · intro f hf
    obtain ⟨q, _, rfl⟩ := List.mem_map.1 hf
    exact madeF_small q

theorem len_filter {α : Type} (p : α → Bool) : ∀ S : List α, (S.filter p).length + (S.filter (fun x => !p x)).length = S.length
  | [] => rfl
  | x :: S => by
    have := len_filter p S
    rw [List.filter_cons, List.filter_cons]
    cases p x <;> simp <;> omega
theorem filters_len : ∀ (ts : List ByteArray), ts.Nodup → ∀ S : List GSaid, (ts.flatMap (fun t => S.filter (fun x => decide (x.field.tag = t)))).length ≤ S.length
  | [], _, S => Nat.zero_le _
  | t :: ts, hn, S => by
    obtain ⟨h1, h2⟩ := List.nodup_cons.1 hn
    have ih := filters_len ts h2 (S.filter (fun x => !decide (x.field.tag = t)))
    have e : ts.flatMap (fun u => S.filter (fun x => decide (x.field.tag = u))) = ts.flatMap (fun u => (S.filter (fun x => !decide (x.field.tag = t))).filter (fun x => decide (x.field.tag = u))) := by
      refine flatMap_same _ (fun u hu => ?_)
      rw [List.filter_filter]
      refine List.filter_congr (fun x _ => ?_)
      by_cases hx : x.field.tag = u
      · have hne : x.field.tag ≠ t := fun e => h1 (e ▸ hx ▸ hu)
        simp [hx, hx ▸ hne]
      · simp [hx]
    rw [List.flatMap_cons, List.length_append, e]
    have h3 := len_filter (fun x => decide (x.field.tag = t)) S
    omega
theorem flat_le {f g : ByteArray → List GSaid} : ∀ (ts : List ByteArray), (∀ t, (f t).length ≤ (g t).length) → (ts.flatMap f).length ≤ (ts.flatMap g).length
  | [], _ => Nat.le_refl _
  | t :: ts, h => by
    rw [List.flatMap_cons, List.flatMap_cons, List.length_append, List.length_append]
    have := h t
    have := flat_le ts h
    omega
theorem kept_len (S : List GSaid) : (keptOf (grp S)).length ≤ S.length := by
  unfold keptOf
  refine Nat.le_trans (flat_le (g := fun t => S.filter (fun x => decide (x.field.tag = t))) _ (fun t => ?_)) (filters_len _ (nodup_sortTags (grp_nodup S)) S)
  rw [grp_getD]
  exact modeOf_len t _
theorem kept_mem (S : List GSaid) : ∀ x ∈ keptOf (grp S), x ∈ S := by
  intro x hx
  unfold keptOf at hx
  obtain ⟨t, _, h⟩ := List.mem_flatMap.1 hx
  rw [grp_getD] at h
  exact (List.mem_filter.1 (modeOf_mem h)).1
theorem saids_len6 {vs : List GVersion} (h : ∀ x ∈ vs, x.record.fields.length ≤ 6) : (vs.flatMap saidsOf).length ≤ vs.length * 6 := by
  induction vs with
  | nil => simp
  | cons v r ih =>
    have h1 := h v (List.mem_cons_self ..)
    have h2 := ih (fun x hx => h x (List.mem_cons_of_mem _ hx))
    rw [List.flatMap_cons, List.length_append, List.length_cons, Nat.succ_mul]
    have : (saidsOf v).length = v.record.fields.length := by simp [saidsOf]
    omega
theorem latest_len (xs : List GVersion) : (latest xs).length ≤ xs.length := by
  have h1 := (latest_perm xs).length_eq
  have h2 := best_length xs xs.length
  have h3 : (vers xs (best xs xs.length)).length ≤ (best xs xs.length).length := List.length_filterMap_le ..
  omega
theorem latest_mem (xs : List GVersion) : ∀ x ∈ latest xs, x ∈ xs := by
  intro x h
  have h1 := (latest_perm xs).mem_iff.1 h
  obtain ⟨p, _, hp⟩ := List.mem_filterMap.1 h1
  exact List.mem_of_getElem? hp
theorem merge_small {xs : List GVersion} (hn : xs.length ≤ 10) (hx : ∀ x ∈ xs, SixX x) : (mergeP xs).fields.length ≤ 60 ∧ (∀ f ∈ (mergeP xs).fields, SmallF f) ∧ (mergeP xs).frm.length = (mergeP xs).fields.length := by
  have hl := latest_len xs
  have hm := latest_mem xs
  unfold mergeP
  cases e : latest xs with
  | nil => exact ⟨by simp, fun f hf => by simp at hf, rfl⟩
  | cons v r =>
    rw [e] at hl hm
    have h6 := saids_len6 (vs := v :: r) (fun x h => (hx x (hm x h)).1)
    have hk := kept_len ((v :: r).flatMap saidsOf)
    refine ⟨?_, ?_, by simp⟩
    · simp only [List.length_map]; omega
    · intro f hf
      obtain ⟨s, hs, rfl⟩ := List.mem_map.1 hf
      obtain ⟨x, hxx, hsx⟩ := List.mem_flatMap.1 (kept_mem _ s hs)
      obtain ⟨g, hg, rfl⟩ := List.mem_map.1 hsx
      exact (hx x (hm x hxx)).2 g hg
end Go.Proofs.YtnidmikcjkaegaaGreatDoor
namespace Go.Proofs.YtnidmikcjkaegaaGreatDoor
open Go Go.RowKit Go.ML

def one9 (m : GMerged) : GVersion := ⟨⟨9, 9⟩, -4, ⟨m.kind, m.level, m.fields⟩⟩

/-- The world of the first loop: the merged record's box, the box of from, the map of counts. -/
structure A1 (w w2 : World) (k lv : Int) (fv rv : Value) (wr : World) : Prop where
  b0 : Below w.heap.size w wr
  b2 : Below w2.heap.size w2 wr
  m : wr.heap[w2.heap.size]? = some (.cells #[.int .u8 k, .int .u8 lv, fv, rv] 29 (0, 0))
  r : wr.heap[w2.heap.size + 1]? = some (.cells #[.int .i64 9, .int .i64 9] 34 (0, 0))
  mp : ∃ T : List (ByteArray × Int), Mp Value.string wr (w2.heap.size + 1 + 1) (mapV (Value.int .i64) T)

theorem again_is {H : Hts} {w : World} {m : GMerged} {v : Value} {n : Nat} (hn : n = m.fields.length) (hag : mergeP [one9 m] = ⟨m.kind, m.level, m.fields, m.fields.map (fun _ => ⟨9, 9⟩)⟩) (h : MergedIs H w (mergeP [one9 m]) v) :
    ∃ fa fc ra rc, v = .agg #[.int .u8 m.kind, .int .u8 m.level, .slice fa n fc, .slice ra n rc] ∧ Sl eField H w m.fields (.slice fa n fc) ∧ Sl eRec H w (m.fields.map (fun _ => (⟨9, 9⟩ : GRec))) (.slice ra n rc) := by
  rw [hag] at h
  obtain ⟨fv, rv, rfl, q1, q2⟩ := h
  obtain ⟨fa, fc, rfl, _, _⟩ := q1.form
  obtain ⟨ra, rc, rfl, _, _⟩ := q2.form
  simp only [List.length_map, ← hn] at q1 q2
  refine ⟨fa, fc, ra, rc, ?_, q1, q2⟩
  simp only [List.length_map, ← hn]

theorem A1.turn {w w2 wr wr' : World} {k lv : Int} {fv rv : Value} (h : A1 w w2 k lv fv rv wr) (hs : w.heap.size ≤ w2.heap.size) (hg : wr.grownBy wr' (some (w2.heap.size + 1 + 1))) {T : List (ByteArray × Int)} (hm : Mp Value.string wr' (w2.heap.size + 1 + 1) (mapV (Value.int .i64) T)) : A1 w w2 k lv fv rv wr' where
  b0 := ⟨hg.os.trans h.b0.os, hg.tape.trans h.b0.tape, hg.output.trans h.b0.output, Nat.le_trans h.b0.size hg.size, fun j hj => (hg.block j (Nat.lt_of_lt_of_le hj h.b0.size) (fun e => by injection e with e; omega)).trans (h.b0.block j hj)⟩
  b2 := ⟨hg.os.trans h.b2.os, hg.tape.trans h.b2.tape, hg.output.trans h.b2.output, Nat.le_trans h.b2.size hg.size, fun j hj => (hg.block j (Nat.lt_of_lt_of_le hj h.b2.size) (fun e => by injection e with e; omega)).trans (h.b2.block j hj)⟩
  m := (hg.block _ (lt_of_block h.m) (fun e => by injection e with e; omega)).trans h.m
  r := (hg.block _ (lt_of_block h.r) (fun e => by injection e with e; omega)).trans h.r
  mp := ⟨T, hm⟩
theorem A1.below {w w2 wr wr' : World} {k lv : Int} {fv rv : Value} (h : A1 w w2 k lv fv rv wr) (hb : Below wr.heap.size wr wr') : A1 w w2 k lv fv rv wr' where
  b0 := h.b0.trans (hb.mono h.b0.size)
  b2 := h.b2.trans (hb.mono h.b2.size)
  m := (hb.block _ (lt_of_block h.m)).trans h.m
  r := (hb.block _ (lt_of_block h.r)).trans h.r
  mp := by
    obtain ⟨T, hT⟩ := h.mp
    exact ⟨T, hT.same (hb.block _ hT.lt)⟩

set_option linter.unusedSimpArgs false in
set_option maxRecDepth 10000 in
set_option maxHeartbeats 2000000 in
theorem again_spec {H : Hts} {w : World} {l : List GIn} {v : Value} (hf : Fit H w) (h : Si eIn H w l v) :
    Calls Tryz.prog 3 #[v] w fun e w' => e = .returned (.bool true) ∧ Below w.heap.size w w' := by
  obtain ⟨a, c, rfl, _, _⟩ := h.form
  have HF := Lib.hid hf
  have HS := Lib.hid h
  clear h hf
  have D1 : Hid ((versP l).length ≤ 20) := Lib.hid (by have := versP_len l; omega)
  have D2 : Hid (∀ x ∈ versP l, SmallX x) := Lib.hid (fun x hx => (versP_six l x hx).x)
  obtain ⟨m, hm⟩ : ∃ m, m = mergeP (versP l) := ⟨_, rfl⟩
  have HM := Lib.hid hm
  have hsm := merge_small (versP_len l) (versP_six l)
  rw [← hm] at hsm
  have HSM := Lib.hid hsm
  have hag := merge_again (versP l) ⟨9, 9⟩ (-4)
  rw [← hm] at hag
  have HAG : Hid (mergeP [one9 m] = ⟨m.kind, m.level, m.fields, m.fields.map (fun _ => ⟨9, 9⟩)⟩) := Lib.hid hag
  have D3 : Hid ([one9 m].length ≤ 20 ∧ ∀ x ∈ [one9 m], SmallX x) := Lib.hid ⟨by show 1 ≤ 20; omega, fun x hx => by
    obtain rfl := List.mem_singleton.1 hx
    exact ⟨by have := HSM.out.1; show m.fields.length ≤ 100; omega, HSM.out.2.1⟩⟩
  clear hm hsm hag
  go_enter Tryz.func3, Tryz.ntmps3
  go_upto_region 3 with (first
    | (go_at_call 5
       with_reducible refine (sanity_spec HF.out).mono ?_
       rintro e w0 ⟨rfl, hb0⟩
       have E0 := Lib.hid (Ext.of_below HF.out hb0)
       clear hb0)
    | (go_at_call 7
       with_reducible refine (versions_spec E0.out.fit (HS.out.evo (E0.out.evo HF.out))).mono ?_
       rintro e w1 ⟨v1, rfl, H1, e1, s1⟩
       have E1 := Lib.hid (E0.out.trans e1)
       have S1 := Lib.hid s1.un
       clear e1 s1 E0)
    | (go_at_call 6
       with_reducible refine (merge_spec E1.out.fit S1.out D1 D2).mono ?_
       rintro e w2 ⟨v2, rfl, H2, e2, fv, rv, rfl, q1, q2⟩
       rw [← HM.out] at q1 q2 ⊢
       obtain ⟨fa, fc, rfl, _, _⟩ := q1.form
       obtain ⟨ra, rc, rfl, _, _⟩ := q2.form
       have E2 := Lib.hid (E1.out.trans e2)
       have Q1 := Lib.hid q1.un
       clear e2 q1 q2 S1 E1))
  have hml : Hid (m.frm.length = m.fields.length) := Lib.hid HSM.out.2.2
  rw [hml.out]
  obtain ⟨n, hn⟩ : ∃ n, n = m.fields.length := ⟨_, rfl⟩
  have HN := Lib.hid hn
  rw [← hn] at Q1 ⊢
  have hn60 : n ≤ 60 := by rw [hn]; exact HSM.out.1
  clear hn
  have hmm := @run_makeMap Tryz.prog
  go_upto_region 5 with fail
  clear hmm
  have h0 : Hid (A1 w w2 m.kind m.level (.slice fa n fc) (.slice ra n rc) (((w2.alloc (.cells #[.int .u8 m.kind, .int .u8 m.level, .slice fa n fc, .slice ra n rc] 29)).alloc (.cells #[.int .i64 9, .int .i64 9] 34)).alloc (.map #[] 0))) := Lib.hid (by
    have b2 := (((Below.refl w2.heap.size w2).alloc (Nat.le_refl _) (.cells #[.int .u8 m.kind, .int .u8 m.level, .slice fa n fc, .slice ra n rc] 29)).alloc (by simp) (.cells #[.int .i64 9, .int .i64 9] 34)).alloc (by simp; omega) (.map #[] 0)
    have e3 := blk_two w2 (.cells #[.int .u8 m.kind, .int .u8 m.level, .slice fa n fc, .slice ra n rc] 29) (.cells #[.int .i64 9, .int .i64 9] 34)
    refine ⟨E2.out.below.trans (b2.mono E2.out.below.size), b2, blk_old e3.1 _, blk_old e3.2 _, [], ?_⟩
    have := Mp.made (ek := Value.string) ((w2.alloc (.cells #[.int .u8 m.kind, .int .u8 m.level, .slice fa n fc, .slice ra n rc] 29)).alloc (.cells #[.int .i64 9, .int .i64 9] 34))
    simp only [World.size_alloc] at this
    exact this)
  obtain ⟨wz, hwz⟩ : ∃ wz, wz = (((w2.alloc (.cells #[.int .u8 m.kind, .int .u8 m.level, .slice fa n fc, .slice ra n rc] 29)).alloc (.cells #[.int .i64 9, .int .i64 9] 34)).alloc (.map #[] 0)) := ⟨_, rfl⟩
  rw [← hwz] at h0 ⊢
  clear hwz
  have B0 := blk4 h0.out.m
  have hs2 : Hid (w.heap.size ≤ w2.heap.size) := Lib.hid E2.out.below.size
  go_wp2_with fail
  go_loopw [22] (fun i wr => ∃ k : Nat, k ≤ n ∧ i = .int .i64 k ∧ Hid (A1 w w2 m.kind m.level (.slice fa n fc) (.slice ra n rc) wr)) (fun i _ => n - (intOf i).toNat)
  case atStart => exact ⟨0, Nat.zero_le _, rfl, h0⟩
  case round =>
    clear h0 B0
    obtain ⟨k, hk, rfl, hm⟩ := hrel
    by_cases hlt : k < n
    · have hfl : k < m.fields.length := by rw [← HN.out]; exact hlt
      obtain ⟨fb, fo, _, d1, e1, _, _, r1, g1⟩ := Q1.out.range k hfl
      injection e1 with e11 e12 e13
      subst e11 e13
      clear e12
      obtain ⟨v4, hcs, hs4⟩ := r1
      subst hcs
      obtain ⟨x, hx⟩ : ∃ x, x = m.fields[k] := ⟨_, rfl⟩
      rw [← hx] at g1 hs4
      obtain ⟨a4, c4, rfl, _, _⟩ := hs4.form
      have hra := Lib.hid (g1 _ _ ((Ext.of_below E2.out.fit hm.out.b2).evo E2.out.fit))
      obtain ⟨T, hT⟩ := hm.out.mp
      have hmp := Lib.hid (hT.alloc (.cells #[.string x.tag, .string x.ind, .string x.data, .slice a4 x.subs.length c4] 38))
      have hma := Lib.hid (hm.out.below ((Below.refl _ wr).alloc (Nat.le_refl _) (.cells #[.string x.tag, .string x.ind, .string x.data, .slice a4 x.subs.length c4] 38)))
      obtain ⟨z, hz⟩ : ∃ z, lookVal false (.int .i64 0) (mget (mapV (Value.int .i64) T) x.tag) = .int .i64 z := by
        rw [mget_mapV]
        cases mget T x.tag with
        | none => exact ⟨0, rfl⟩
        | some u => exact ⟨u, rfl⟩
      have HZ := Lib.hid hz
      have hB := blk4 (blk_new wr (.cells #[.string x.tag, .string x.ind, .string x.data, .slice a4 x.subs.length c4] 38))
      clear g1 hs4 hT hz hx hm
      go_wp2_with (first
        | (refine wpList_load_mid rfl 38 (.tmp 24) rfl fb (fo + k * 4) rfl _ _ hra.out Tryz.underlying38 rfl (by kernel_rfl) ?_)
        | (at_lookup; refine lookup_law rfl _ _ false rfl (keyString Tryz.underlying9) Tryz.underlying35 zeroInt rfl hmp.out x.tag rfl ?_; rw [HZ.out])
        | (at_mapUpdate; refine update_law rfl _ _ _ rfl (keyString Tryz.underlying9) Tryz.underlying35 rfl hmp.out x.tag rfl (.int .i64 (wrap64 (z + 1))) rfl ?_; intro w3 k1 k2 k3
           have hfin := Lib.hid (hma.out.turn hs2.out k2 (T := mput T x.tag (wrap64 (z + 1))) (by rw [← mput_mapV]; exact k1))
           clear k1 k2 k3 hB hra hmp hma))
      go_roundw
      case rel => exact ⟨k + 1, by omega, by go_num, hfin⟩
      case measure => simp [intOf]; omega
    · have : n = k := by omega
      subst this
      clear hk hlt
      have B0 := blk4 hm.out.m
      have BR := blk2 hm.out.r
      have HE := Lib.hid (Ext.of_below E2.out.fit hm.out.b2)
      have Fr : Hid (Fit H2 wr) := Lib.hid HE.out.fit
      have R9 : Hid (eVersion.rel H2 wr (one9 m) [.int .i64 9, .int .i64 9, .int .i64 (-4), .int .u8 m.kind, .int .u8 m.level, .slice fa n fc]) := Lib.hid ⟨_, rfl, Q1.out.evo (HE.out.evo E2.out.fit)⟩
      go_upto_region 11 with (first
        | (go_at_call 6
           with_reducible refine (merge_lit' (xs := [one9 m]) Fr.out (Rels.single R9.out) D3 ?_ ?_ ?_).mono ?_
           · simp
           · rfl
           · rfl
           rintro e w4 ⟨v4, rfl, H4, e4, m4⟩
           obtain ⟨ga, gc, sa, sc, rfl, q1, q2⟩ := again_is HN.out HAG.out m4
           have E4 := Lib.hid e4
           have Q3 := Lib.hid q1
           have Q4 := Lib.hid q2
           clear e4 q1 q2 m4 B0 BR R9))
      have hcell : Hid ((w4.alloc (.cells #[.int .u8 m.kind, .int .u8 m.level, .slice ga n gc, .slice sa n sc] 29)).heap[w4.heap.size]? = some (.cells #[.int .u8 m.kind, .int .u8 m.level, .slice ga n gc, .slice sa n sc] 29 (0, 0))) := Lib.hid (blk_new w4 _)
      have E5 := Lib.hid (E4.out.alloc (.cells #[.int .u8 m.kind, .int .u8 m.level, .slice ga n gc, .slice sa n sc] 29))
      have ev5 := (Evo.refl H4 w4).alloc (.cells #[.int .u8 m.kind, .int .u8 m.level, .slice ga n gc, .slice sa n sc] 29)
      have Q5 := Lib.hid (Q3.out.evo ev5)
      have Q6 := Lib.hid (Q4.out.evo ev5)
      have Q7 := Lib.hid ((Q1.out.evo (HE.out.evo E2.out.fit)).evo (E5.out.evo Fr.out))
      have hm5 := Lib.hid (hm.out.below E5.out.below)
      clear ev5 Q3 Q4 E4 hm
      generalize w4.alloc (.cells #[.int .u8 m.kind, .int .u8 m.level, .slice ga n gc, .slice sa n sc] 29) = wn at *
      generalize w4.heap.size = nb at *
      have B0 := blk4 hcell.out
      have h1 : Hid (Below wn.heap.size wn wn) := Lib.hid (Below.refl _ _)
      have hq := run_neqRec 9 9 9 9
      go_wp2_with fail
      go_loopw [41] (fun i wr => ∃ k : Nat, k ≤ n ∧ i = .int .i64 k ∧ Hid (Below wn.heap.size wn wr)) (fun i _ => n - (intOf i).toNat)
      case atStart => exact ⟨0, Nat.zero_le _, rfl, h1⟩
      case round =>
        clear h1 B0
        obtain ⟨k, hk, rfl, hb⟩ := hrel
        by_cases hlt : k < n
        · have hfl : k < (m.fields.map (fun _ => (⟨9, 9⟩ : GRec))).length := by rw [List.length_map, ← HN.out]; exact hlt
          obtain ⟨rb, ro, _, d1, e1, _, _, r1, g1⟩ := Q6.out.range k hfl
          injection e1 with e11 e12 e13
          subst e11 e13
          clear e12
          rw [List.getElem_map] at r1
          obtain rfl : d1 = [.int .i64 9, .int .i64 9] := r1
          have hra := Lib.hid (g1 _ _ ((Ext.of_below E5.out.fit hb.out).evo E5.out.fit))
          have hb2 := Lib.hid (hb.out.alloc hb.out.size (.cells #[.int .i64 9, .int .i64 9] 34))
          have C1 := blk2 (blk_new wr (.cells #[.int .i64 9, .int .i64 9] 34))
          have C2 := blk2 (hm5.out.below hb.out |>.r |> fun h => blk_old h (.cells #[.int .i64 9, .int .i64 9] 34))
          clear g1
          go_wp2_with (refine wpList_load_mid rfl 34 (.tmp 43) rfl rb (ro + k * 2) rfl _ _ hra.out Tryz.underlying34 rfl (by kernel_rfl) ?_)
          go_roundw
          case rel => exact ⟨k + 1, by omega, by go_num, hb2⟩
          case measure => simp [intOf]; omega
        · have : n = k := by omega
          subst this
          clear hk hlt
          have C1 := blk4 (hm5.out.below hb.out).m
          have C2 := blk4 ((hb.out.block _ (lt_of_block hcell.out)).trans hcell.out)
          have X6 := Lib.hid (Ext.of_below E5.out.fit hb.out)
          have X7 := Lib.hid (Q5.out.evo (X6.out.evo E5.out.fit))
          have X8 := Lib.hid (Q7.out.evo (X6.out.evo E5.out.fit))
          have hz := Lib.hid (hm5.out.below hb.out).b0
          have L1 : Hid (m.fields.length ≤ 1000000) := Lib.hid (by have := HSM.out.1; omega)
          have L2 : Hid (∀ f ∈ m.fields, f.subs.length ≤ 1000000) := Lib.hid (fun f hf => by have := (HSM.out.2.1 f hf).2.1; omega)
          go_wp2_with (first
            | (go_at_call 8
               with_reducible refine (sameRecord_spec X6.out.fit X7.out X8.out L1 L2).mono ?_
               rintro e wx ⟨rfl, hbx⟩
               have hend := Lib.hid (hz.out.trans (hbx.mono hz.out.size))
               clear hbx C1 C2))
          go_ret
          exact ⟨rfl, hend.out⟩
end Go.Proofs.YtnidmikcjkaegaaGreatDoor
