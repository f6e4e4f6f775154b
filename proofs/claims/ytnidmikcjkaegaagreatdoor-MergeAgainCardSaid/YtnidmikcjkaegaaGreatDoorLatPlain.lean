/-
  What is proved here: plain facts on the versions that count. No statement of the program; no condition.
-/
import Derived.Test.YtnidmikcjkaegaaGreatDoorKeys
import Derived.Test.YtnidmikcjkaegaaGreatDoorCmp
namespace Go.Proofs.YtnidmikcjkaegaaGreatDoor
open Go Go.RowKit Go.ML

def bestStep (xs : List GVersion) (m : List (GRec × Nat)) (k : Nat) : List (GRec × Nat) :=
  match xs[k]? with
  | none => m
  | some x =>
    match mget m x.frm with
    | none => mput m x.frm k
    | some j =>
      match xs[j]? with
      | none => m
      | some y => if y.number < x.number then mput m x.frm k else m
def best (xs : List GVersion) : Nat → List (GRec × Nat)
  | 0 => []
  | k + 1 => bestStep xs (best xs k) k

theorem best_lt (xs : List GVersion) : ∀ (k : Nat), k ≤ xs.length → ∀ p ∈ best xs k, p.2 < k ∧ (xs[p.2]?).map (·.frm) = some p.1
  | 0, _, p, hp => by cases hp
  | k + 1, hk, p, hp => by
    have hx : xs[k]? = some xs[k] := List.getElem?_eq_getElem hk
    have old : p ∈ best xs k → p.2 < k + 1 ∧ (xs[p.2]?).map (·.frm) = some p.1 := fun h => by
      obtain ⟨h1, h2⟩ := best_lt xs k (by omega) p h
      exact ⟨by omega, h2⟩
    have new : p ∈ mput (best xs k) xs[k].frm k → p.2 < k + 1 ∧ (xs[p.2]?).map (·.frm) = some p.1 := fun h => by
      rcases mem_mput h with rfl | h
      · exact ⟨by simp, by simp [hx]⟩
      · exact old h
    simp only [best, bestStep, hx] at hp
    split at hp
    · exact new hp
    · split at hp
      · exact old hp
      · split at hp
        · exact new hp
        · exact old hp

theorem keys_mput {β : Type} {l : List (GRec × β)} {x : GRec} {v : β} (h : (l.map (·.1)).Nodup) : ((mput l x v).map (·.1)).Nodup := by
  unfold mput
  cases e : findIx x l 0 with
  | none =>
    simp only [List.map_append, List.map_cons, List.map_nil]
    refine List.nodup_append.2 ⟨h, by simp, fun a ha q hq => ?_⟩
    simp only [List.mem_singleton] at hq
    subst hq
    obtain ⟨p, hp, rfl⟩ := List.mem_map.1 ha
    exact findIx_none e p hp
  | some p =>
    obtain ⟨i, u⟩ := p
    have hi := (findIx_some e).2
    simp only [Nat.sub_zero] at hi
    have hl : i < l.length := (List.getElem?_eq_some_iff.1 hi).1
    have : (l.set i (x, v)).map (·.1) = l.map (·.1) := by
      apply List.ext_getElem?
      intro j
      simp only [List.getElem?_map, List.getElem?_set]
      by_cases e : i = j
      · subst e; simp [hl, (List.getElem?_eq_some_iff.1 hi).2]
      · rw [if_neg e]
    simp only
    rw [this]; exact h

theorem best_nodup (xs : List GVersion) : ∀ k, ((best xs k).map (·.1)).Nodup
  | 0 => by simp [best]
  | k + 1 => by
    have ih := best_nodup xs k
    simp only [best, bestStep]
    split
    · exact ih
    · split
      · exact keys_mput ih
      · split
        · exact ih
        · split
          · exact keys_mput ih
          · exact ih

theorem length_mput {β : Type} (l : List (GRec × β)) (x : GRec) (v : β) : (mput l x v).length ≤ l.length + 1 := by
  unfold mput
  cases findIx x l 0 <;> simp
theorem best_length (xs : List GVersion) : ∀ k, (best xs k).length ≤ k
  | 0 => by simp [best]
  | k + 1 => by
    have ih := best_length xs k
    have hp := fun x => length_mput (best xs k) x k
    simp only [best, bestStep]
    split
    · omega
    · split
      · exact Nat.le_trans (hp _) (by omega)
      · split
        · omega
        · split
          · exact Nat.le_trans (hp _) (by omega)
          · omega

theorem mapV_split {β γ : Type} {f : β → γ} {l : List (GRec × β)} {t1 t2 : List (GRec × γ)} {p : GRec × γ} (h : mapV f l = t1 ++ p :: t2) : ∃ s1 q s2, l = s1 ++ q :: s2 ∧ t1 = mapV f s1 ∧ p = (q.1, f q.2) ∧ t2 = mapV f s2 := by
  unfold mapV at h
  obtain ⟨s1, r, h1, h2, h3⟩ := List.map_eq_append_iff.1 h
  obtain ⟨q, s2, h4, h5, h6⟩ := List.map_eq_cons_iff.1 h3
  exact ⟨s1, q, s2, by rw [h1, h4], h2.symm, h5.symm, h6.symm⟩

def vers (xs : List GVersion) (l : List (GRec × Nat)) : List GVersion := l.filterMap (fun p => xs[p.2]?)

/-- The versions that count, in order. -/
def latest (xs : List GVersion) : List GVersion := (vers xs (best xs xs.length)).mergeSort (fun a b => !decide (cmpRec b.frm a.frm < 0))

theorem vers_keys (xs : List GVersion) {l : List (GRec × Nat)} (h : ∀ p ∈ l, (xs[p.2]?).map (·.frm) = some p.1) : (vers xs l).map (·.frm) = l.map (·.1) := by
  induction l with
  | nil => rfl
  | cons p l ih =>
    have hp := h p (by simp)
    cases e : xs[p.2]? with
    | none => rw [e] at hp; cases hp
    | some x =>
      rw [e] at hp
      have : x.frm = p.1 := by simpa using hp
      unfold vers
      rw [List.filterMap_cons, e]
      simp only [List.map_cons, this]
      rw [← ih (fun q hq => h q (by simp [hq]))]
      rfl

theorem cmpRec_lt' (a b : GRec) : cmpRec a b < 0 ↔ a.src < b.src ∨ (a.src = b.src ∧ a.num < b.num) := by
  unfold cmpRec cmpI
  split <;> split at * <;> (try split at *) <;> omega

theorem cmpRec_eq {a b : GRec} (h1 : ¬ cmpRec a b < 0) (h2 : ¬ cmpRec b a < 0) : a = b := by
  rw [cmpRec_lt'] at h1 h2
  obtain ⟨a1, a2⟩ := a
  obtain ⟨b1, b2⟩ := b
  simp only [GRec.mk.injEq]
  simp at h1 h2
  omega

theorem perm_sorted_eq {xs ys : List GVersion} (hp : xs.Perm ys) (hn : (xs.map (·.frm)).Nodup) (h1 : xs.Pairwise (fun a b => ¬ cmpRec b.frm a.frm < 0)) (h2 : ys.Pairwise (fun a b => ¬ cmpRec b.frm a.frm < 0)) : xs = ys := by
  induction xs generalizing ys with
  | nil => exact (List.Perm.nil_eq hp)
  | cons x xs ih =>
    cases ys with
    | nil => exact absurd hp.length_eq (by simp)
    | cons y ys =>
      have hxy : x = y := by
        have hx : x ∈ y :: ys := hp.mem_iff.1 (by simp)
        have hy : y ∈ x :: xs := hp.mem_iff.2 (by simp)
        rcases List.mem_cons.1 hx with e | hx
        · exact e
        · rcases List.mem_cons.1 hy with e | hy
          · exact e.symm
          · have a1 := (List.pairwise_cons.1 h1).1 y hy
            have a2 := (List.pairwise_cons.1 h2).1 x hx
            have e : y.frm = x.frm := cmpRec_eq a1 a2
            exact absurd (List.mem_map_of_mem (f := (·.frm)) hy) (by rw [e]; exact (List.nodup_cons.1 hn).1)
      subst hxy
      rw [ih (hp.cons_inv) (List.nodup_cons.1 hn).2 (List.pairwise_cons.1 h1).2 (List.pairwise_cons.1 h2).2]

theorem latest_perm (xs : List GVersion) : (latest xs).Perm (vers xs (best xs xs.length)) := List.mergeSort_perm _ _
theorem latest_nodup (xs : List GVersion) : ((latest xs).map (·.frm)).Nodup := by
  have h1 : ((vers xs (best xs xs.length)).map (·.frm)).Nodup := by
    rw [vers_keys xs (fun p hp => (best_lt xs xs.length (Nat.le_refl _) p hp).2)]
    exact best_nodup xs _
  exact ((latest_perm xs).map _).symm.nodup h1
theorem latest_sorted (xs : List GVersion) : (latest xs).Pairwise (fun a b => ¬ cmpRec b.frm a.frm < 0) := by
  have := List.pairwise_mergeSort (le := fun a b : GVersion => !decide (cmpRec b.frm a.frm < 0)) (fun a b c h1 h2 => by
    simp only [Bool.not_eq_true', decide_eq_false_iff_not, cmpRec_lt'] at *; omega) (fun a b => by
    simp only [Bool.or_eq_true, Bool.not_eq_true', decide_eq_false_iff_not, cmpRec_lt']; omega) (vers xs (best xs xs.length))
  exact this.imp (fun h => by simpa using h)
theorem latest_of {xs ys : List GVersion} (hp : ys.Perm (vers xs (best xs xs.length))) (h : ys.Pairwise (fun a b => ¬ cmpRec b.frm a.frm < 0)) : ys = latest xs :=
  (perm_sorted_eq ((latest_perm xs).trans hp.symm) (latest_nodup xs) (latest_sorted xs) h).symm
end Go.Proofs.YtnidmikcjkaegaaGreatDoor
