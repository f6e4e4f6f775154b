/-
  What is proved here, in plain Lean: merging a merged record alone yields its fields again. No condition.
-/
import Derived.Test.YtnidmikcjkaegaaGreatDoorGrp3
namespace Go.Proofs.YtnidmikcjkaegaaGreatDoor
open Go Go.RowKit Go.ML

/-! ### groups -/
theorem mget_mput {κ β : Type} [DecidableEq κ] (l : List (κ × β)) (x y : κ) (v : β) : mget (mput l x v) y = if y = x then some v else mget l y := by
  unfold mput
  cases e : findIx x l 0 with
  | none =>
    have hn : ∀ p ∈ l, p.1 ≠ x := findIx_none e
    have key : ∀ (l : List (κ × β)) (i : Nat), (∀ p ∈ l, p.1 ≠ x) → (findIx y (l ++ [(x, v)]) i).map (·.2) = if y = x then some v else (findIx y l i).map (·.2) := by
      intro l
      induction l with
      | nil =>
        intro i _
        simp only [List.nil_append, findIx]
        split <;> simp
      | cons p r ih =>
        intro i h
        simp only [List.cons_append, findIx]
        by_cases hp : y = p.1
        · have : y ≠ x := fun h2 => h p (List.mem_cons_self ..) (hp.symm.trans h2)
          simp [hp]
          intro h3
          exact absurd (hp.trans h3) this
        · simp only [hp, if_false]
          exact ih (i + 1) (fun q hq => h q (List.mem_cons_of_mem _ hq))
    exact key l 0 hn
  | some p =>
    obtain ⟨i, u⟩ := p
    have hi := (findIx_some e).2
    simp only [Nat.sub_zero] at hi
    have key : ∀ (l : List (κ × β)) (i j : Nat) (u : β), findIx x l j = some (i, u) → (findIx y (l.set (i - j) (x, v)) j).map (·.2) = if y = x then some v else (findIx y l j).map (·.2) := by
      intro l
      induction l with
      | nil => intro i j u h; cases h
      | cons p r ih =>
        intro i j u h
        unfold findIx at h
        split at h
        · rename_i hp
          injection h with h
          injection h with h1 h2
          subst h1
          subst hp
          simp only [Nat.sub_self, List.set_cons_zero, findIx]
          by_cases hy : y = p.1
          · simp [hy]
          · simp [hy]
        · rename_i hp
          have hle := (findIx_some h).1
          rw [show i - j = (i - (j + 1)) + 1 by omega, List.set_cons_succ]
          simp only [findIx]
          by_cases hy : y = p.1
          · have : y ≠ x := fun h2 => hp (h2.symm.trans hy)
            simp only [hy, if_true, Option.map_some]
            rw [if_neg (fun h3 => hp h3.symm)]
          · simp only [hy, if_false]
            exact ih i (j + 1) u h
    simpa [mget] using key l i 0 u e

theorem grp_get (S : List GSaid) (t : ByteArray) : mget (grp S) t = if (S.filter (fun x => decide (x.field.tag = t))) = [] then none else some (S.filter (fun x => decide (x.field.tag = t))) := by
  have key : ∀ (S : List GSaid) (G : Grp) (f : ByteArray → List GSaid), (∀ t, mget G t = if f t = [] then none else some (f t)) →
      ∀ t, mget (S.foldl gput G) t = if f t ++ S.filter (fun x => decide (x.field.tag = t)) = [] then none else some (f t ++ S.filter (fun x => decide (x.field.tag = t))) := by
    intro S
    induction S with
    | nil => intro G f h t; simpa using h t
    | cons x S ih =>
      intro G f h t
      have h2 := ih (gput G x) (fun t => f t ++ (if x.field.tag = t then [x] else [])) (fun t => by
        unfold gput
        rw [mget_mput, h x.field.tag]
        by_cases ht : t = x.field.tag
        · subst ht
          simp only [if_true]
          by_cases hf : f x.field.tag = [] <;> simp [hf]
        · have hx : ¬ x.field.tag = t := fun e => ht e.symm
          simp only [ht, hx, if_false, List.append_nil]
          exact h t) t
      rw [List.foldl_cons, h2]
      by_cases ht : x.field.tag = t
      · simp [ht]
      · simp [ht]
  have := key S [] (fun _ => []) (fun t => rfl) t
  simpa [grp] using this

theorem grp_getD (S : List GSaid) (t : ByteArray) : (mget (grp S) t).getD [] = S.filter (fun x => decide (x.field.tag = t)) := by
  rw [grp_get]
  split
  · rename_i h; rw [h]; rfl
  · rfl

theorem grp_nodup (S : List GSaid) : ((grp S).map (·.1)).Nodup := by
  have key : ∀ (S : List GSaid) (G : Grp), (G.map (·.1)).Nodup → ((S.foldl gput G).map (·.1)).Nodup := by
    intro S
    induction S with
    | nil => intro G h; exact h
    | cons x S ih => intro G h; exact ih _ (nodup_mput h)
  exact key S [] (by simp)

theorem grp_keys (S : List GSaid) (t : ByteArray) : t ∈ (grp S).map (·.1) ↔ ∃ x ∈ S, x.field.tag = t := by
  have h1 := grp_get S t
  constructor
  · intro h
    obtain ⟨p, hp, rfl⟩ := List.mem_map.1 h
    have h2 := mget_of_mem (grp_nodup S) hp
    rw [h2] at h1
    split at h1
    · cases h1
    · rename_i hne
      obtain ⟨x, hx⟩ := List.exists_mem_of_ne_nil _ hne
      rw [List.mem_filter] at hx
      exact ⟨x, hx.1, of_decide_eq_true hx.2⟩
  · rintro ⟨x, hx, ht⟩
    have hm : x ∈ S.filter (fun x => decide (x.field.tag = t)) := List.mem_filter.2 ⟨hx, by simpa using ht⟩
    rw [if_neg (fun e => by rw [e] at hm; cases hm)] at h1
    exact List.mem_map.2 ⟨_, mget_mem h1, rfl⟩

/-! ### sorting -/
theorem le_total_bytes (x y : List UInt8) : x ≤ y ∨ y ≤ x := Std.le_total
theorem sorted_unique {l s : List ByteArray} (hp : s.Perm l) (hs : s.Pairwise (fun x y => x.data.toList ≤ y.data.toList)) : sortTags l = s := by
  have h1 : ((l.map (·.data.toList)).mergeSort (fun x y => decide (x ≤ y))) = s.map (·.data.toList) := by
    have hp2 : ((l.map (·.data.toList)).mergeSort (fun x y => decide (x ≤ y))).Perm (s.map (·.data.toList)) := (List.mergeSort_perm _ _).trans (hp.symm.map _)
    have hsort : ((l.map (·.data.toList)).mergeSort (fun x y => decide (x ≤ y))).Pairwise (fun x y => x ≤ y) := by
      have := List.pairwise_mergeSort (le := fun x y : List UInt8 => decide (x ≤ y)) (fun a b c h1 h2 => by simp only [decide_eq_true_eq] at *; exact Std.le_trans h1 h2) (fun a b => by simp only [Bool.or_eq_true, decide_eq_true_eq]; exact le_total_bytes a b) (l.map (·.data.toList))
      exact this.imp (fun h => by simpa using h)
    exact hp2.eq_of_pairwise (fun a b _ _ h1 h2 => Std.le_antisymm h1 h2) hsort (List.pairwise_map.2 hs)
  unfold sortTags
  rw [h1, List.map_map]
  have : ((fun b : List UInt8 => (⟨b.toArray⟩ : ByteArray)) ∘ fun x : ByteArray => x.data.toList) = id := by funext x; exact mk_bytes x
  rw [this, List.map_id]
theorem sortTags_perm (l : List ByteArray) : (sortTags l).Perm l := by
  unfold sortTags
  have h1 := (List.mergeSort_perm (l.map (·.data.toList)) (fun x y => decide (x ≤ y))).map (fun b : List UInt8 => (⟨b.toArray⟩ : ByteArray))
  refine h1.trans ?_
  rw [List.map_map]
  have : ((fun b : List UInt8 => (⟨b.toArray⟩ : ByteArray)) ∘ fun x : ByteArray => x.data.toList) = id := by funext x; exact mk_bytes x
  rw [this, List.map_id]
theorem sortTags_sorted (l : List ByteArray) : (sortTags l).Pairwise (fun x y => x.data.toList ≤ y.data.toList) := by
  unfold sortTags
  have := List.pairwise_mergeSort (le := fun x y : List UInt8 => decide (x ≤ y)) (fun a b c h1 h2 => by simp only [decide_eq_true_eq] at *; exact Std.le_trans h1 h2) (fun a b => by simp only [Bool.or_eq_true, decide_eq_true_eq]; exact le_total_bytes a b) (l.map (·.data.toList))
  rw [List.pairwise_map]
  exact this.imp (fun h => by simpa using h)
theorem sortTags_same {l l' : List ByteArray} (h : l.Perm l') : sortTags l = sortTags l' :=
  sorted_unique ((sortTags_perm l').trans h.symm) (sortTags_sorted l')

/-! ### what is kept, is kept again -/
def setFrm (r : GRec) (x : GSaid) : GSaid := ⟨x.field, r⟩
theorem keepF_all {del : List GSaid → GSaid → Bool} : ∀ (xs pre : List GSaid), (∀ p s x, xs = p ++ x :: s → del (pre ++ p) x = false) → keepF del pre xs = xs
  | [], _, _ => rfl
  | x :: r, pre, h => by
    unfold keepF
    have h0 := h [] r x rfl
    rw [List.append_nil] at h0
    rw [h0]
    simp only [Bool.false_eq_true, if_false]
    rw [keepF_all r (pre ++ [x]) (fun p s y e => by
      have := h (x :: p) s y (by rw [e]; rfl)
      rwa [List.append_assoc])]
theorem keepF_mem {del : List GSaid → GSaid → Bool} {x : GSaid} : ∀ (xs pre : List GSaid), x ∈ keepF del pre xs → x ∈ xs
  | [], _, h => by simp [keepF] at h
  | y :: r, pre, h => by
    unfold keepF at h
    split at h
    · exact List.mem_cons_of_mem _ (keepF_mem r _ h)
    · cases h with
      | head => exact List.mem_cons_self ..
      | tail _ h => exact List.mem_cons_of_mem _ (keepF_mem r _ h)

theorem seen_mem (pre : List GSaid) (k : ByteArray × ByteArray) : (mget (seenT pre) k).isSome = true ↔ k ∈ pre.map pk := by
  have key : ∀ (pre : List GSaid) (T : Seen), (mget (pre.foldl seenStep T) k).isSome = true ↔ ((mget T k).isSome = true ∨ k ∈ pre.map pk) := by
    intro pre
    induction pre with
    | nil => intro T; simp
    | cons x pre ih =>
      intro T
      rw [List.foldl_cons, ih]
      unfold seenStep
      split
      · rename_i h
        simp only [List.map_cons, List.mem_cons]
        constructor
        · rintro (h1 | h1)
          · exact .inl h1
          · exact .inr (.inr h1)
        · rintro (h1 | h1 | h1)
          · exact .inl h1
          · subst h1; exact .inl h
          · exact .inr h1
      · rename_i h
        rw [mget_mput]
        simp only [List.map_cons, List.mem_cons]
        by_cases hk : k = pk x
        · simp [hk]
        · simp [hk]
  have := key pre []
  simpa [seenT, mget, findIx] using this

theorem keepF_pk : ∀ (xs pre : List GSaid), ((keepF delAll pre xs).map pk).Nodup ∧ ∀ x ∈ keepF delAll pre xs, pk x ∉ pre.map pk
  | [], _ => by simp [keepF]
  | x :: r, pre => by
    obtain ⟨h1, h2⟩ := keepF_pk r (pre ++ [x])
    unfold keepF
    split
    · exact ⟨h1, fun y hy hm => h2 y hy (by rw [List.map_append]; exact List.mem_append_left _ hm)⟩
    · rename_i hd
      have hd2 : pk x ∉ pre.map pk := fun hm => hd ((seen_mem pre (pk x)).2 hm)
      refine ⟨?_, fun y hy => ?_⟩
      · rw [List.map_cons, List.nodup_cons]
        refine ⟨fun hm => ?_, h1⟩
        obtain ⟨y, hy, he⟩ := List.mem_map.1 hm
        exact h2 y hy (by rw [List.map_append, he]; simp)
      · cases hy with
        | head => exact hd2
        | tail _ hy => exact fun hm => h2 y hy (by rw [List.map_append]; exact List.mem_append_left _ hm)

theorem modeAll_again (r : GRec) (xs : List GSaid) : modeAll ((modeAll xs).map (setFrm r)) = (modeAll xs).map (setFrm r) := by
  have hn := (keepF_pk xs []).1
  change ((modeAll xs).map pk).Nodup at hn
  generalize modeAll xs = ys at hn
  refine keepF_all _ _ (fun p s x e => ?_)
  rw [List.nil_append]
  cases hd : delAll p x with
  | false => rfl
  | true =>
    exfalso
    have hm := (seen_mem p (pk x)).1 hd
    have hn2 : ((ys.map (setFrm r)).map pk).Nodup := by
      rw [List.map_map]
      exact hn
    rw [e, List.map_append, List.map_cons, List.nodup_append] at hn2
    exact hn2.2.2 _ hm _ (List.mem_cons_self ..) rfl
theorem modeFirst_again (r : GRec) (ys : List GSaid) : modeFirst (ys.map (setFrm r)) = ys.map (setFrm r) := by
  cases ys with
  | nil => rfl
  | cons y ys =>
    show keepF (delFirst (setFrm r y)) [] ((y :: ys).map (setFrm r)) = _
    refine keepF_all _ _ (fun p s x e => ?_)
    have hx : x ∈ (y :: ys).map (setFrm r) := by rw [e]; simp
    obtain ⟨z, _, rfl⟩ := List.mem_map.1 hx
    simp [delFirst, setFrm]

theorem modeOf_again (t : ByteArray) (r : GRec) (xs : List GSaid) : modeOf t ((modeOf t xs).map (setFrm r)) = (modeOf t xs).map (setFrm r) := by
  unfold modeOf
  cases polIx t pols 0 with
  | none => rfl
  | some k =>
    simp only []
    cases pols[k]? with
    | none => rfl
    | some p =>
      simp only []
      split
      · rfl
      · split
        · exact modeFirst_again r _
        · exact modeAll_again r _
theorem modeOf_mem {t : ByteArray} {xs : List GSaid} {x : GSaid} (h : x ∈ modeOf t xs) : x ∈ xs := by
  unfold modeOf at h
  split at h
  · split at h
    · split at h
      · exact h
      · split at h
        · unfold modeFirst at h
          split at h
          · exact h
          · exact keepF_mem _ _ h
        · exact keepF_mem _ _ h
    · cases h
  · cases h
theorem modeOf_ne {t : ByteArray} {xs : List GSaid} (h : xs ≠ []) : modeOf t xs ≠ [] := by
  obtain ⟨k, hk, e⟩ := polIx_some t
  have hl : pols.length = 8 := rfl
  obtain ⟨x, r, rfl⟩ : ∃ x r, xs = x :: r := by cases xs with | nil => exact absurd rfl h | cons x r => exact ⟨x, r, rfl⟩
  unfold modeOf
  rw [e]
  simp only []
  rw [List.getElem?_eq_getElem (by omega)]
  simp only []
  split
  · simp
  · split
    · show keepF (delFirst x) [] (x :: r) ≠ []
      unfold keepF
      have : delFirst x [] x = false := by simp [delFirst]
      rw [this]; simp
    · show keepF delAll [] (x :: r) ≠ []
      unfold keepF
      have : delAll [] x = false := rfl
      rw [this]; simp

theorem flatMap_same {α β : Type} {f g : α → List β} : ∀ (l : List α), (∀ x ∈ l, f x = g x) → l.flatMap f = l.flatMap g
  | [], _ => rfl
  | x :: r, h => by rw [List.flatMap_cons, List.flatMap_cons, h x (List.mem_cons_self ..), flatMap_same r (fun y hy => h y (List.mem_cons_of_mem _ hy))]

theorem filter_flat (M : ByteArray → List GSaid) (hM : ∀ t, ∀ x ∈ M t, x.field.tag = t) : ∀ (ts : List ByteArray), ts.Nodup → ∀ t ∈ ts, (ts.flatMap M).filter (fun x => decide (x.field.tag = t)) = M t
  | [], _, t, h => by cases h
  | s :: ts, hn, t, h => by
    obtain ⟨h1, h2⟩ := List.nodup_cons.1 hn
    rw [List.flatMap_cons, List.filter_append]
    by_cases hst : t = s
    · subst hst
      have e1 : (M t).filter (fun x => decide (x.field.tag = t)) = M t := List.filter_eq_self.2 (fun x hx => by simpa using hM t x hx)
      have e2 : (ts.flatMap M).filter (fun x => decide (x.field.tag = t)) = [] := List.filter_eq_nil_iff.2 (fun x hx => by
        obtain ⟨u, hu, hxu⟩ := List.mem_flatMap.1 hx
        have := hM u x hxu
        simp only [decide_eq_true_eq]
        rintro rfl
        exact h1 (this ▸ hu))
      rw [e1, e2, List.append_nil]
    · have e1 : (M s).filter (fun x => decide (x.field.tag = t)) = [] := List.filter_eq_nil_iff.2 (fun x hx => by
        have := hM s x hx
        simp only [decide_eq_true_eq]
        exact fun e => hst (e.symm.trans this))
      rw [e1, List.nil_append]
      have h3 : t ∈ ts := by
        cases h with
        | head => exact absurd rfl hst
        | tail _ h => exact h
      exact filter_flat M hM ts h2 t h3

theorem kept_again (S : List GSaid) (r : GRec) : keptOf (grp ((keptOf (grp S)).map (setFrm r))) = (keptOf (grp S)).map (setFrm r) := by
  have hK : (keptOf (grp S)).map (setFrm r) = (sortTags ((grp S).map (·.1))).flatMap (fun t => (modeOf t (S.filter (fun x => decide (x.field.tag = t)))).map (setFrm r)) := by
    unfold keptOf
    rw [List.map_flatMap]
    congr 1
    funext t
    rw [grp_getD]
  rw [hK]
  have hM : ∀ t, ∀ x ∈ (modeOf t (S.filter (fun x => decide (x.field.tag = t)))).map (setFrm r), x.field.tag = t := by
    intro t x hx
    obtain ⟨y, hy, rfl⟩ := List.mem_map.1 hx
    have := List.mem_filter.1 (modeOf_mem hy)
    exact of_decide_eq_true this.2
  have hnd := nodup_sortTags (grp_nodup S)
  have hkeys : sortTags ((grp ((sortTags ((grp S).map (·.1))).flatMap (fun t => (modeOf t (S.filter (fun x => decide (x.field.tag = t)))).map (setFrm r)))).map (·.1)) = sortTags ((grp S).map (·.1)) := by
    refine sorted_unique ?_ (sortTags_sorted _)
    refine (List.perm_ext_iff_of_nodup hnd (grp_nodup _)).2 (fun t => ?_)
    rw [mem_sortTags]
    constructor
    · intro ht
      refine (grp_keys _ t).2 ?_
      obtain ⟨x, hx, hxt⟩ := (grp_keys S t).1 ht
      have hne : modeOf t (S.filter (fun x => decide (x.field.tag = t))) ≠ [] := modeOf_ne (List.ne_nil_of_mem (List.mem_filter.2 ⟨hx, by simpa using hxt⟩))
      obtain ⟨y, hy⟩ := List.exists_mem_of_ne_nil _ hne
      exact ⟨setFrm r y, List.mem_flatMap.2 ⟨t, mem_sortTags.2 ht, List.mem_map.2 ⟨y, hy, rfl⟩⟩, hM t _ (List.mem_map.2 ⟨y, hy, rfl⟩)⟩
    · intro ht
      obtain ⟨x, hx, hxt⟩ := (grp_keys _ t).1 ht
      obtain ⟨u, hu, hxu⟩ := List.mem_flatMap.1 hx
      have := hM u x hxu
      rw [mem_sortTags] at hu
      rw [← hxt, this]
      exact hu
  unfold keptOf at *
  rw [hkeys]
  refine flatMap_same _ (fun t ht => ?_)
  rw [grp_getD, filter_flat _ hM _ hnd t ht]
  exact modeOf_again t r _

/-- The saids of a record that is given as a version of one record. -/
theorem saids_again (K : List GSaid) (r : GRec) (n k l : Int) : saidsOf ⟨r, n, ⟨k, l, K.map (·.field)⟩⟩ = K.map (setFrm r) := by
  unfold saidsOf setFrm
  simp [List.map_map, Function.comp_def]

theorem latest_one (x : GVersion) : latest [x] = [x] := by
  refine (latest_of ?_ (by simp)).symm
  have : vers [x] (best [x] [x].length) = [x] := by
    simp [best, bestStep, vers, mget, findIx, mput]
  rw [this]

/-- P7.4: merging a merged record alone. -/
theorem merge_again (xs : List GVersion) (r : GRec) (n : Int) : mergeP [⟨r, n, ⟨(mergeP xs).kind, (mergeP xs).level, (mergeP xs).fields⟩⟩] = ⟨(mergeP xs).kind, (mergeP xs).level, (mergeP xs).fields, (mergeP xs).fields.map (fun _ => r)⟩ := by
  have key : ∀ (K : List GSaid) (k l : Int), keptOf (grp (K.map (setFrm r))) = K.map (setFrm r) → mergeP [⟨r, n, ⟨k, l, K.map (·.field)⟩⟩] = ⟨k, l, K.map (·.field), (K.map (·.field)).map (fun _ => r)⟩ := by
    intro K k l hk
    unfold mergeP
    rw [latest_one]
    simp only [List.flatMap_cons, List.flatMap_nil, List.append_nil]
    rw [saids_again, hk]
    simp [List.map_map, Function.comp_def, setFrm]
  cases h : latest xs with
  | nil =>
    have e : mergeP xs = ⟨0, 0, [], []⟩ := by unfold mergeP; rw [h]
    rw [e]
    exact key [] 0 0 (by simp [keptOf, grp, sortTags])
  | cons v rest =>
    have e : mergeP xs = ⟨v.record.kind, v.record.level, (keptOf (grp ((v :: rest).flatMap saidsOf))).map (·.field), (keptOf (grp ((v :: rest).flatMap saidsOf))).map (·.frm)⟩ := by unfold mergeP; rw [h]
    rw [e]
    exact key _ _ _ (kept_again _ r)
end Go.Proofs.YtnidmikcjkaegaaGreatDoor
