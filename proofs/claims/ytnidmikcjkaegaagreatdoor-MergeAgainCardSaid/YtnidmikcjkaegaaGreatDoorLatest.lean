/-
  What is proved here: the contract of merge.Latest. Conditions: the lists' lengths are bounded.
-/
import Derived.Test.YtnidmikcjkaegaaGreatDoorLatPlain
import Derived.Test.YtnidmikcjkaegaaGreatDoorOwn
import Derived.Test.YtnidmikcjkaegaaGreatDoorSortV
import Derived.Deep.QuietTactic
import Derived.BigQuiet
import Derived.Carry
namespace Go.Proofs.YtnidmikcjkaegaaGreatDoor
open Go Go.RowKit Go.ML

def SmallV (x : GVersion) : Prop := x.record.fields.length ≤ 1000000 ∧ ∀ f ∈ x.record.fields, f.subs.length ≤ 1000000

theorem okVersion : EncOk Tryz.prog 31 eVersion 56 := ⟨Tryz.underlying31, by kernel_rfl, by decide⟩

theorem zeroInt (w : World) : (zeroValue 3).run Tryz.prog w = .ok (.int .i64 0) w := by kernel_rfl

theorem rel_version {H : Hts} {w : World} {x : GVersion} {cs : List Value} (h : eVersion.rel H w x cs) : ∃ v, cs = [.int .i64 x.frm.src, .int .i64 x.frm.num, .int .i64 x.number, .int .u8 x.record.kind, .int .u8 x.record.level, v] ∧ Sl eField H w x.record.fields v := h

/-- The first loop of Latest. -/
def Lat1 (H : Hts) (w : World) (xs : List GVersion) (k : Nat) (wr : World) : Prop :=
  Ext H w H wr ∧ Mp vRec wr w.heap.size (mapV (fun n : Nat => Value.int .i64 n) (best xs k))

theorem Lat1.start {H : Hts} {w : World} (hf : Fit H w) (xs : List GVersion) : Lat1 H w xs 0 (w.alloc (.map #[] 0)) :=
  ⟨(Ext.refl hf).alloc _, Mp.made w⟩

/-- The second loop of Latest. -/
def Lat2 (H : Hts) (w : World) (xs : List GVersion) (r : Nat) (v : Value) (wr : World) : Prop :=
  ∃ Hk zs tdn, Ext H w Hk wr ∧ It vRec wr w.heap.size r (mapV (fun n : Nat => Value.int .i64 n) (best xs xs.length)) (mapV (fun n : Nat => Value.int .i64 n) tdn) ∧ Own eVersion (Hk.ge w.heap.size) wr w.heap.size zs v ∧
    (zs ++ vers xs tdn).Perm (vers xs (best xs xs.length)) ∧ (∀ p ∈ tdn, p.2 < xs.length)

theorem vers_cons {xs : List GVersion} {s1 s2 : List (GRec × Nat)} {q : GRec × Nat} (hq : q.2 < xs.length) {zs : List GVersion} : ((zs ++ [xs[q.2]]) ++ vers xs (s1 ++ s2)).Perm (zs ++ vers xs (s1 ++ q :: s2)) := by
  unfold vers
  rw [List.filterMap_append, List.filterMap_append, List.filterMap_cons, List.getElem?_eq_getElem hq, List.append_assoc]
  refine List.Perm.append_left _ ?_
  simp only [List.singleton_append]
  exact List.perm_middle.symm

theorem Lat2.len {xs zs : List GVersion} {tdn : List (GRec × Nat)} (h : (zs ++ vers xs tdn).Perm (vers xs (best xs xs.length))) : zs.length ≤ xs.length := by
  have h1 := h.length_eq
  have h2 : (vers xs (best xs xs.length)).length ≤ (best xs xs.length).length := List.length_filterMap_le _ _
  have h3 := best_length xs xs.length
  rw [List.length_append] at h1
  omega

set_option maxRecDepth 10000 in
set_option maxHeartbeats 1000000 in
theorem latest_spec {H : Hts} {w : World} {xs : List GVersion} {v : Value} (hf : Fit H w) (h : Sl eVersion H w xs v) (hn : Hid (xs.length ≤ 1000000)) (hm : Hid (∀ x ∈ xs, SmallV x)) :
    Calls Tryz.prog 10 #[v] w (Ret fun v' w' => ∃ H', Ext H w H' w' ∧ Own eVersion (H'.ge w.heap.size) w' w.heap.size (latest xs) v') := by
  obtain ⟨a, c, rfl, h1, h2⟩ := h.form
  have hmm := @run_makeMap Tryz.prog
  have hst := Lib.hid (Lat1.start hf xs)
  have HF := Lib.hid hf
  have HS := Lib.hid h
  clear hf h h1 h2
  go_enter Tryz.func10, Tryz.ntmps10
  go_wp2_with fail
  go_loopw [14] (fun i wr => ∃ k : Nat, k ≤ xs.length ∧ i = .int .i64 k ∧ Hid (Lat1 H w xs k wr)) (fun i _ => xs.length - (intOf i).toNat)
  case atStart => exact ⟨0, Nat.zero_le _, rfl, hst⟩
  case round =>
    clear hst hmm
    obtain ⟨k, hk, rfl, hm2⟩ := hrel
    have hnn := hn.out
    by_cases hlt : k < xs.length
    · obtain ⟨b, o, c', cs, hv, _, _, hrl, hra⟩ := HS.out.range k hlt
      injection hv with e1 _ e3
      subst e1
      subst e3
      obtain ⟨v2, rfl, hs2⟩ := rel_version hrl
      obtain ⟨a2, c2, rfl, _, _⟩ := hs2.form
      have hra1 := Lib.hid (hra _ _ (hm2.out.1.evo HF.out))
      clear hra hrl hs2
      have hxk : xs[k]? = some xs[k] := List.getElem?_eq_getElem hlt
      cases hmg : mget (best xs k) xs[k].frm with
      | none =>
        have hstep : best xs (k + 1) = mput (best xs k) xs[k].frm k := by simp only [best, bestStep, hxk, hmg]
        have hlk := Lib.hid (show lookVal true (.int .i64 0) (mget (mapV (fun n : Nat => Value.int .i64 n) (best xs k)) xs[k].frm) = .tuple #[.int .i64 0, .bool false] by rw [mget_mapV, hmg]; rfl)
        have HST := Lib.hid hstep
        clear hstep hmg hxk
        go_wp2_with (first | (refine wpList_load_mid rfl 40 (.tmp 17) rfl b (o + k * 6) rfl _ _ hra1.out Tryz.underlying40 rfl (by kernel_rfl) ?_) | (at_lookup; refine lookup_law rfl _ _ true rfl keyRec Tryz.underlying76 zeroInt rfl (hm2.out.2.alloc _) xs[k].frm rfl ?_; rw [hlk.out]))
        go_quiet (fail)
        go_wp2_with (at_mapUpdate; refine update_law rfl _ _ _ rfl keyRec Tryz.underlying76 rfl ((hm2.out.2.alloc _).drewN _) xs[k].frm rfl (.int .i64 k) rfl ?_; intro w' h1 h2 h3)
        go_roundw
        case rel =>
          refine ⟨k + 1, by omega, by go_num, Lib.hid ⟨((hm2.out.1.alloc _).drewN _).grown h2 (fun q e => by injection e with e; omega), ?_⟩⟩
          rw [HST.out, ← mput_mapV]; exact h1
        case measure => simp [intOf]; omega
      | some j =>
        have hj := (best_lt xs k hk _ (mget_mem hmg)).1
        have hxj : xs[j]? = some xs[j] := List.getElem?_eq_getElem (by omega)
        obtain ⟨b', o', c'', cs', hv', _, _, hrl', hra'⟩ := HS.out.range j (by omega)
        injection hv' with e1 _ e3
        injection e1 with e1
        injection e1 with e1 e2 _
        subst e1
        subst e2
        clear e3
        obtain ⟨v3, rfl, hs3⟩ := rel_version hrl'
        have hcj : ∀ A n, ((wr.alloc A).drewN n).cell? ⟨b, o + j * 6 + 2, none⟩ = some (.int .i64 xs[j].number) := fun A n => hra' _ _ (((hm2.out.1.evo HF.out).alloc A).drewN n) 2 _ rfl
        clear hra' hrl' hs3
        have hlk := Lib.hid (show lookVal true (.int .i64 0) (mget (mapV (fun n : Nat => Value.int .i64 n) (best xs k)) xs[k].frm) = .tuple #[.int .i64 j, .bool true] by rw [mget_mapV, hmg]; rfl)
        by_cases hgt : xs[j].number < xs[k].number
        · have hstep : best xs (k + 1) = mput (best xs k) xs[k].frm k := by simp only [best, bestStep, hxk, hmg, hxj, if_pos hgt]
          have HST := Lib.hid hstep
          clear hstep hmg hxk hxj
          go_wp2_with (first | (refine wpList_load_mid rfl 40 (.tmp 17) rfl b (o + k * 6) rfl _ _ hra1.out Tryz.underlying40 rfl (by kernel_rfl) ?_) | (at_lookup; refine lookup_law rfl _ _ true rfl keyRec Tryz.underlying76 zeroInt rfl (hm2.out.2.alloc _) xs[k].frm rfl ?_; rw [hlk.out]))
          go_quiet (fail)
          go_wp2_with (at_mapUpdate; refine update_law rfl _ _ _ rfl keyRec Tryz.underlying76 rfl ((hm2.out.2.alloc _).drewN _) xs[k].frm rfl (.int .i64 k) rfl ?_; intro w' h1 h2 h3)
          go_roundw
          case rel =>
            refine ⟨k + 1, by omega, by go_num, Lib.hid ⟨((hm2.out.1.alloc _).drewN _).grown h2 (fun q e => by injection e with e; omega), ?_⟩⟩
            rw [HST.out, ← mput_mapV]; exact h1
          case measure => simp [intOf]; omega
        · have hstep : best xs (k + 1) = best xs k := by simp only [best, bestStep, hxk, hmg, hxj, if_neg hgt]
          have HST := Lib.hid hstep
          clear hstep hmg hxk hxj
          go_wp2_with (first | (refine wpList_load_mid rfl 40 (.tmp 17) rfl b (o + k * 6) rfl _ _ hra1.out Tryz.underlying40 rfl (by kernel_rfl) ?_) | (at_lookup; refine lookup_law rfl _ _ true rfl keyRec Tryz.underlying76 zeroInt rfl (hm2.out.2.alloc _) xs[k].frm rfl ?_; rw [hlk.out]))
          go_quiet (fail)
          go_wp2
          go_roundw
          case rel =>
            refine ⟨k + 1, by omega, by go_num, Lib.hid ⟨(hm2.out.1.alloc _).drewN _, ?_⟩⟩
            rw [HST.out]; exact (hm2.out.2.alloc _).drewN _
          case measure => simp [intOf]; omega
    · have : k = xs.length := by omega
      subst this
      go_wp2_with (refine range_law rfl (.tmp 43) rfl Tryz.underlying76 rfl hm2.out.2 ?_; intro w1 hit hg1 hs1)
      have h0 : Hid (Lat2 H w xs wr.heap.size (.slice none 0 0) w1) :=
        ⟨H, [], best xs xs.length, hm2.out.1.grown hg1 (fun _ e => by cases e), hit, Own.nil _, by simp, fun p hp => (best_lt xs xs.length (Nat.le_refl _) p hp).1⟩
      have hrge : w.heap.size ≤ wr.heap.size := hm2.out.1.below.size
      clear hm2 hit hg1 hk hnn hlt
      clear hs1
      go_frame
      generalize wr.heap.size = r at *
      go_loopw [8] (fun v wr' => Hid (Lat2 H w xs r v wr')) (fun _ wr' => wr'.rangeLeft w.heap.size r)
      case atStart => exact h0
      case round =>
        clear h0
        obtain ⟨Hk, zs, tdn, e1, hit, hown, hperm, hin⟩ := hrel.out
        have hleft := Lib.hid hit.left
        have HR := Lib.hid (And.intro e1 (And.intro hown (And.intro hperm hin)))
        clear e1 hown hperm hin hrel
        go_wp2_with (refine next_law rfl (.tmp 44) rfl rfl hit ?_ ?_)
        · intro hd
          have hd' : tdn = [] := by
            cases tdn with
            | nil => rfl
            | cons p r => simp [mapV] at hd
          subst hd'
          obtain ⟨e1, hown, hperm, _⟩ := HR.out
          have hlen := Lat2.len hperm
          rw [show vers xs [] = [] from rfl, List.append_nil] at hperm
          have hzero := hown.zero
          obtain ⟨a', c', rfl, _, _⟩ := hown.form
          rcases Nat.eq_zero_or_pos zs.length with h0 | h0
          · have := List.length_eq_zero_iff.1 h0
            subst this
            have hlat : latest xs = [] := (latest_of hperm (by simp)).symm
            have HR2 := Lib.hid (And.intro e1 (And.intro hown hlat))
            clear HR e1 hown hperm hlat hit hd hleft hzero hlen
            go_wp2_with fail
            refine (sortV_none _ _ _ _).mono ?_
            rintro e w3 ⟨rfl, rfl⟩
            go_wp2
            go_ret
            obtain ⟨e1, hown, hlat⟩ := HR2.out
            exact Ret.mk ⟨Hk, e1, by rw [hlat]; exact hown⟩
          · have hO := hown
            obtain ⟨cells, row, hr, hz⟩ := hown
            obtain ⟨g, cap, hv, hbg, hlt⟩ := row.form h0
            injection hv with e2 _ e3
            subst e2
            subst e3
            have HR2 := Lib.hid (And.intro e1 (And.intro hperm hO))
            clear HR e1 hperm hit hd hleft row hr hz hzero hO
            go_wp2_with fail
            refine (sortV_spec HR2.out.2.2 (by have := hn.out; omega)).mono ?_
            rintro e w3 ⟨rfl, ys, hp, hs, ho, hg⟩
            have HO := Lib.hid (And.intro hp (And.intro hs (And.intro ho hg)))
            clear hp hs ho hg
            go_wp2
            go_ret
            obtain ⟨hp, hs, ho, hg⟩ := HO.out
            obtain ⟨e1, hperm, hown⟩ := HR2.out
            refine Ret.mk ⟨Hk, e1.grown hg (fun q hq => by injection hq with hq; omega), ?_⟩
            have hl := latest_of (hp.trans hperm) (hs.imp (fun h => by omega))
            have hln := hp.length_eq
            rw [← hl]
            exact ho
        · intro t1 pk pv t2 w2 ht hit2 hg2 hs2 hen
          obtain ⟨s1, q, s2, rfl, rfl, e2, rfl⟩ := mapV_split ht
          injection e2 with e3 e4
          subst e3
          subst e4
          clear ht
          obtain ⟨e1, hown, hperm, hin⟩ := HR.out
          have hq : q.2 < xs.length := hin q (by simp)
          obtain ⟨b, o, c', cs, hv, _, _, hrl, hra⟩ := HS.out.range q.2 hq
          injection hv with f1 _ f3
          subst f1
          subst f3
          have ev2 : Evo H w Hk w2 := (e1.evo HF.out).grownObj hg2 hit.nocells
          obtain ⟨v2, rfl, hs4⟩ := rel_version hrl
          obtain ⟨a2, c2, rfl, _, _⟩ := hs4.form
          have hra1 := Lib.hid (hra _ _ ev2)
          have e2 : Ext H w Hk w2 := e1.grown hg2 (fun k e => by injection e with e; omega)
          have HX := Lib.hid (And.intro e2 (And.intro (hit.keepOwn hown hg2) (And.intro hit2 (hs4.evo ev2))))
          have HY := Lib.hid (And.intro hperm (hm.out xs[q.2] (List.getElem_mem hq)))
          have hle := Lat2.len hperm
          have hin2 := Lib.hid hin
          clear hra hrl hs4 ev2 e2 hit2 hit hg2 e1 hown hperm HR hin
          go_wp2_with (refine wpList_load_mid rfl 40 (.tmp 52) rfl b (o + q.2 * 6) rfl _ _ hra1.out Tryz.underlying40 rfl (by kernel_rfl) ?_)
          refine (own_spec HX.out.1.fit (x := xs[q.2]) ⟨_, rfl, HX.out.2.2.2⟩ (Lib.hid HY.out.2.1) (Lib.hid HY.out.2.2)).mono ?_
          rintro e w3 ⟨v3, rfl, H3, cs', rfl, hext, hrel⟩
          obtain ⟨v4, rfl, hs5⟩ := rel_version hrel
          obtain ⟨a4, c4, rfl, _, _⟩ := hs5.form
          have ho3 := HX.out.2.1.extGe HX.out.1.fit hext
          have hr3 : eVersion.rel (H3.ge w.heap.size) w3 xs[q.2] _ := eVersion.evo (Evo.ge2 H3 w3 HX.out.1.below.size) ⟨_, rfl, hs5⟩
          have HZ := Lib.hid (And.intro hext (And.intro ho3 hr3))
          have hsz : w.heap.size ≤ w3.heap.size := Nat.le_trans HX.out.1.below.size hext.below.size
          clear hext ho3 hr3 hs5 hrel hra1 hen
          go_wp2_with (at_builtin; refine append_law (H := H3.ge w.heap.size) (E := eVersion) rfl _ _ _ rfl okVersion ((HZ.out.1.fit.ge _).alloc _) (xs := zs) (ys := [xs[q.2]]) rfl (base := w.heap.size) (HZ.out.2.1.alloc _) rfl rfl (Rels.single (eVersion.evo ((Evo.refl _ _).alloc _) HZ.out.2.2)) (World.news_of_block (blk_new w3 _)) (by decide) (by have := hn.out; simp; omega) (by simp; omega) ?_; intro g cap w5 k1 k2 k3 k4 k5 k6 k7 k8)
          obtain ⟨e2, ho2, hit2, _⟩ := HX.out
          obtain ⟨hext, ho3, hr3⟩ := HZ.out
          have hit5 : It vRec w5 w.heap.size r (mapV (fun n : Nat => Value.int .i64 n) (best xs xs.length)) (mapV (fun n : Nat => Value.int .i64 n) (s1 ++ s2)) := by
            have := ((hit2.ext hext).alloc (.cells #[.int .i64 xs[q.2].frm.src, .int .i64 xs[q.2].frm.num, .int .i64 xs[q.2].number, .int .u8 xs[q.2].record.kind, .int .u8 xs[q.2].record.level, .slice a4 xs[q.2].record.fields.length c4] 40)).grown k4 (fun e => (hit2.ext hext).mp.ne_own ho3 e.symm) (fun e => (hit2.ext hext).ne_own ho3 e.symm)
            simpa [mapV] using this
          have hm5 := hit5.left
          go_roundw
          case rel => exact Lib.hid ⟨H3, zs ++ [xs[q.2]], s1 ++ s2, ((e2.trans hext).alloc _).grown k4 (fun k e => ho3.ge k e), hit5, by simpa using k1, (vers_cons hq).trans HY.out.1, fun p hp => hin2.out p (by simp at hp ⊢; rcases hp with hp | hp <;> simp [hp])⟩
          case measure =>
            rw [hm5, hleft.out]
            simp [mapV]
end Go.Proofs.YtnidmikcjkaegaaGreatDoor
