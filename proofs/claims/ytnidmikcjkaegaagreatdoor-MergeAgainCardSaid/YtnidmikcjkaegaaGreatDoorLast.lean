/-
  What is proved here: a region that draws its order and ends with a store: the store may be taken off, and walked behind the rest. No statement of the program; no condition.
-/
import Derived.OrdersHeld
import Derived.Deep.RegionHeld
namespace Go.ML
open Go

/-- What is asked ahead of the last operation. -/
def LastPost (P : Program) (o : Oper) (Q : Exit → Act → World → Prop) : Exit → Act → World → Prop
  | .normal, a, w => Oper.wp P o a w (fun a w => Q .normal a w) Q
  | e, a, w => Q e a w

theorem LastPost.intro {P : Program} {o : Oper} {Q : Exit → Act → World → Prop} {a : Act} {w : World} (h : Oper.wp P o a w (fun a w => Q .normal a w) Q) : LastPost P o Q .normal a w := h

def dummy (o : Oper) : Oper := ⟨o.dst, .move (.const undef), o.type, o.pos, o.after, o.guard⟩

def setLast : List Oper → List Oper
  | [] => []
  | [o] => [dummy o]
  | a :: b :: r => a :: setLast (b :: r)
def lastOf : List Oper → Oper
  | [] => default
  | [o] => o
  | _ :: b :: r => lastOf (b :: r)

/-- The last operation waits for all others; each waits for earlier ones alone. -/
def lastB (l : List Oper) : Bool :=
  (lastOf l).guard.isNone && (lastOf l).dst.isNone && (List.range (l.length - 1)).all (fun j => (lastOf l).after.any (fun e => Region.binds .any e && (e.on == j || (match l[e.on]? with | some o => o.after.any (fun e2 => Region.binds .any e2 && e2.on == j) | none => false)))) &&
  (List.range l.length).all (fun j => match l[j]? with | some o => o.after.all (fun e => decide (e.on < j)) | none => true)

section
variable {P : Program} {Q : Exit → Act → World → Prop}

theorem lets_last {o : Oper} (h : LetsOut (LastPost P o Q)) : LetsOut Q := h

theorem wp_turn {o o' : Oper} {a : Act} {w : World} {K K' : Act → World → Prop} (h : ∀ a w, K a w → K' a w) (hh : o'.wp P a w K (LastPost P o Q)) : o'.wp P a w K' Q := by
  unfold Oper.wp at *
  generalize (execOp a.eval o').run P w = r at *
  cases r with
  | ok n w' =>
    cases n <;> simp only [Oper.upon] at hh ⊢ <;>
      first
        | exact h _ _ hh
        | exact Calls.mono hh (fun e w'' he => by cases e <;> first | exact h _ _ he | exact he)
        | exact Rows.mono hh (fun _ _ he => h _ _ he)
  | halt x w' => cases x <;> simp only [Oper.upon] at hh ⊢ <;> exact hh

theorem setLast_get : ∀ (l : List Oper) (i : Nat), i + 1 ≠ l.length → (setLast l)[i]? = l[i]?
  | [], _, _ => rfl
  | [o], i, h => by
    match i with
    | 0 => simp at h
    | i + 1 => simp [setLast]
  | a :: b :: r, i, h => by
    match i with
    | 0 => rfl
    | i + 1 =>
      simp only [setLast, List.getElem?_cons_succ]
      exact setLast_get (b :: r) i (by simp only [List.length_cons] at *; omega)
theorem setLast_last : ∀ (l : List Oper), l ≠ [] → (setLast l)[l.length - 1]? = some (dummy (lastOf l)) ∧ l[l.length - 1]? = some (lastOf l)
  | [], h => absurd rfl h
  | [o], _ => ⟨rfl, rfl⟩
  | a :: b :: r, _ => by
    have := setLast_last (b :: r) (by simp)
    simpa [setLast, lastOf] using this
theorem setLast_length : ∀ (l : List Oper), (setLast l).length = l.length
  | [] => rfl
  | [o] => rfl
  | a :: b :: r => by
    have := setLast_length (b :: r)
    simp only [setLast, List.length_cons] at *
    omega

theorem setLast_map {α : Type} (f : Oper → α) (hf : ∀ o, f (dummy o) = f o) (l : List Oper) (i : Nat) : ((setLast l)[i]?).map f = (l[i]?).map f := by
  by_cases h : i + 1 = l.length
  · have hl : l ≠ [] := by rintro rfl; simp at h
    have := setLast_last l hl
    rw [show i = l.length - 1 by omega, this.1, this.2]
    simp [hf]
  · rw [setLast_get l i h]

theorem ready_setLast (md : Region.Mode) (l : List Oper) (listed : Array Bool) : Region.ready md (setLast l).toArray listed = Region.ready md l.toArray listed := by
  unfold Region.ready
  simp only [List.size_toArray, setLast_length]
  congr 1
  funext i
  congr 1
  have := setLast_map (fun o => o.after.all fun e => !Region.binds md e || listed.getD e.on false) (fun _ => rfl) l i
  simp only [List.getElem?_toArray]
  rw [this]

theorem yielded_setLast (l : List Oper) (tmps : Array Value) (j : Nat) : yielded (setLast l).toArray tmps j = yielded l.toArray tmps j := by
  unfold yielded
  have := setLast_map (fun o => o.dst) (fun _ => rfl) l j
  simp only [List.getElem?_toArray]
  have e : ((setLast l)[j]?).bind (·.dst) = (l[j]?).bind (·.dst) := by
    cases h1 : (setLast l)[j]? <;> cases h2 : l[j]? <;> rw [h1, h2] at this <;> simp_all
  rw [e]

theorem ready_nil {md : Region.Mode} {l : List Oper} (h1 : ∀ (j : Nat) (oj : Oper), l[j]? = some oj → ∀ e ∈ oj.after, e.on < j) {listed : Array Bool} (hs : listed.size = l.length) (hr : Region.ready md l.toArray listed = []) : ∀ j, listed.getD j true = true := by
  intro j
  induction j using Nat.strongRecOn with
  | _ j ih =>
    cases hj : listed.getD j true with
    | true => rfl
    | false =>
      exfalso
      have hlt : j < listed.size := by
        rcases Nat.lt_or_ge j listed.size with h | h
        · exact h
        · simp [Array.getElem?_eq_none h] at hj
      have hlt2 : j < l.length := by omega
      have : j ∈ Region.ready md l.toArray listed := mem_ready.2 ⟨hj, l[j], by simp [hlt2], fun e he _ => by
        have h2 := h1 j l[j] (by simp [hlt2]) e he
        have h3 := ih e.on h2
        have h4 : e.on < listed.size := by omega
        simp [h4] at h3 ⊢
        exact h3⟩
      rw [hr] at this
      cases this

/-- What is listed waits for nothing that is not. -/
def Closed (md : Region.Mode) (l : List Oper) (listed : Array Bool) : Prop := ∀ (j : Nat) (oj : Oper), l[j]? = some oj → listed.getD j false = true → ∀ e ∈ oj.after, Region.binds md e = true → listed.getD e.on false = true
theorem getD_set_true {listed : Array Bool} {i j : Nat} (h : listed.getD j false = true) : (listed.setIfInBounds i true).getD j false = true := by
  by_cases e : i = j
  · subst e
    have : i < listed.size := by
      rcases Nat.lt_or_ge i listed.size with h' | h'
      · exact h'
      · simp [Array.getElem?_eq_none h'] at h
    simp [this]
  · rw [getD_set_ne false e]; exact h
theorem Closed.step {md : Region.Mode} {l : List Oper} {listed : Array Bool} (h : Closed md l listed) {i : Nat} (hi : i ∈ Region.ready md l.toArray listed) : Closed md l (listed.setIfInBounds i true) := by
  intro j oj hoj hj e he hb
  by_cases hij : i = j
  · subst hij
    obtain ⟨_, o, ho, hr⟩ := mem_ready.1 hi
    simp only [List.getElem?_toArray, hoj] at ho
    injection ho with ho
    subst ho
    exact getD_set_true (hr e he hb)
  · rw [getD_set_ne false hij] at hj
    exact getD_set_true (h j oj hoj hj e he hb)

theorem wpAny_last {md : Region.Mode} {l : List Oper} (h1 : ∀ (j : Nat) (oj : Oper), l[j]? = some oj → ∀ e ∈ oj.after, e.on < j) (hne : l ≠ []) (hg : (lastOf l).guard = none) (hd : (lastOf l).dst = none)
    (hall : ∀ j, j < l.length - 1 → ∃ e ∈ (lastOf l).after, Region.binds md e = true ∧ (e.on = j ∨ ∃ oi, l[e.on]? = some oi ∧ ∃ e2 ∈ oi.after, Region.binds md e2 = true ∧ e2.on = j)) :
    ∀ (fuel : Nat) (listed : Array Bool) (a : Act) (w : World), listed.size = l.length → listed.getD (l.length - 1) true = false → Closed md l listed →
      wpAny P md (setLast l).toArray (LastPost P (lastOf l) Q) fuel listed a w → wpAny P md l.toArray Q fuel listed a w := by
  have hlen : 0 < l.length := List.length_pos_iff.2 hne
  intro fuel
  induction fuel with
  | zero =>
    intro listed a w hs hun _ h
    have h0 := h.1
    rw [ready_setLast] at h0
    have := ready_nil h1 hs h0 (l.length - 1)
    rw [hun] at this; cases this
  | succ fuel ih =>
    intro listed a w hs hun hcl h
    refine ⟨fun h0 => ?_, fun i hi => ?_⟩
    · have := ready_nil h1 hs h0 (l.length - 1)
      rw [hun] at this; cases this
    · have h2 := h.2 i (by rw [ready_setLast]; exact hi)
      by_cases hin : i = l.length - 1
      · subst hin
        obtain ⟨hl1, hl2⟩ := setLast_last l hne
        obtain ⟨_, oj, hoj, hrd⟩ := mem_ready.1 hi
        have hoj' : oj = lastOf l := by
          simp only [List.getElem?_toArray, hl2] at hoj
          exact (Option.some.inj hoj).symm
        subst hoj'
        have hfull : ∀ j, (listed.setIfInBounds (l.length - 1) true).getD j true = true := by
          intro j
          by_cases hj : j = l.length - 1
          · subst hj
            simp [show l.length - 1 < listed.size by omega]
          · rcases Nat.lt_or_ge j (l.length - 1) with hlt | hge
            · obtain ⟨e, he, hb, heq⟩ := hall j hlt
              have h3 : listed.getD j false = true := by
                have h3 := hrd e he hb
                rcases heq with rfl | ⟨oi, hoi, e2, he2, hb2, rfl⟩
                · exact h3
                · exact hcl _ oi hoi h3 e2 he2 hb2
              rw [getD_set_ne true (fun e => hj e.symm)]
              have h4 : j < listed.size := by omega
              simp [h4] at h3 ⊢
              exact h3
            · have : listed.size ≤ j := by omega
              simp [this]
        have hrn : Region.ready md l.toArray (listed.setIfInBounds (l.length - 1) true) = [] := by
          cases hr : Region.ready md l.toArray (listed.setIfInBounds (l.length - 1) true) with
          | nil => rfl
          | cons x xs =>
            have hx : x ∈ Region.ready md l.toArray (listed.setIfInBounds (l.length - 1) true) := by rw [hr]; exact List.mem_cons_self ..
            have := (mem_ready.1 hx).1
            rw [hfull x] at this; cases this
        have hq : LastPost P (lastOf l) Q .normal a w := by
          unfold wpOp at h2
          simp only [List.getElem?_toArray, hl1] at h2
          have hwd : Region.wanted (dummy (lastOf l)) (yielded (setLast l).toArray a.tmps) = true := by
            unfold Region.wanted dummy
            simp only [hg]
          rw [if_pos hwd] at h2
          have hput : ∀ v, a.put (dummy (lastOf l)).dst v = a := fun v => by
            show a.put (lastOf l).dst v = a
            rw [hd]; rfl
          have hrun : (execOp a.eval (dummy (lastOf l))).run P w = .ok (.value undef) w := by
            simp [execOp, dummy, Act.eval]
          have key : wpAny P md (setLast l).toArray (LastPost P (lastOf l) Q) fuel (listed.setIfInBounds (l.length - 1) true) a w := by
            rcases h2 with h2 | ⟨h2, _⟩
            · unfold Oper.wp at h2
              rw [hrun] at h2
              simp only [Oper.upon] at h2
              rw [hput] at h2
              exact h2
            · exfalso
              unfold Oper.asks at h2
              have h5 := h2.1
              simp [execOp, dummy] at h5
              have h6 : noRoomEvent ∈ (#[] : Array Event) := h5
              simp at h6
          cases fuel with
          | zero => exact key.2
          | succ f => exact key.1 (by rw [ready_setLast]; exact hrn)
        unfold wpOp
        simp only [List.getElem?_toArray, hl2]
        have hwd : Region.wanted (lastOf l) (yielded l.toArray a.tmps) = true := by
          unfold Region.wanted
          simp only [hg]
        rw [if_pos hwd]
        refine .inl (Oper.wp_mono (fun a' w' hqn => ?_) hq)
        cases fuel with
        | zero => exact ⟨hrn, hqn⟩
        | succ f => exact ⟨fun _ => hqn, by rw [hrn]; simp⟩
      · have hget : (setLast l).toArray[i]? = l.toArray[i]? := by
          simp only [List.getElem?_toArray]
          exact setLast_get l i (by omega)
        unfold wpOp at h2 ⊢
        rw [hget] at h2
        have hk : ∀ a' w', wpAny P md (setLast l).toArray (LastPost P (lastOf l) Q) fuel (listed.setIfInBounds i true) a' w' → wpAny P md l.toArray Q fuel (listed.setIfInBounds i true) a' w' :=
          fun a' w' h' => ih _ a' w' (by simpa using hs) (by rw [getD_set_ne true hin]; exact hun) (hcl.step hi) h'
        cases hoi : l.toArray[i]? with
        | none => rw [hoi] at h2; exact hk _ _ h2
        | some oi =>
          rw [hoi] at h2
          simp only [] at h2 ⊢
          have hwd : Region.wanted oi (yielded (setLast l).toArray a.tmps) = Region.wanted oi (yielded l.toArray a.tmps) := by
            congr 1
            funext j
            exact yielded_setLast l a.tmps j
          rw [hwd] at h2
          split
          · rename_i hw
            rw [if_pos hw] at h2
            rcases h2 with h2 | ⟨h2, h3⟩
            · exact .inl (wp_turn hk h2)
            · exact .inr ⟨h2, lets_last h3⟩
          · rename_i hw
            rw [if_neg hw] at h2
            exact hk _ _ h2

theorem lastB_spec {l : List Oper} (hB : lastB l = true) : (lastOf l).guard = none ∧ (lastOf l).dst = none ∧ (∀ j, j < l.length - 1 → ∃ e ∈ (lastOf l).after, Region.binds .any e = true ∧ (e.on = j ∨ ∃ oi, l[e.on]? = some oi ∧ ∃ e2 ∈ oi.after, Region.binds .any e2 = true ∧ e2.on = j)) ∧ (∀ (j : Nat) (oj : Oper), l[j]? = some oj → ∀ e ∈ oj.after, e.on < j) := by
  unfold lastB at hB
  simp only [Bool.and_eq_true, List.all_eq_true, List.mem_range, Option.isNone_iff_eq_none] at hB
  obtain ⟨⟨⟨h1, h2⟩, h3⟩, h4⟩ := hB
  refine ⟨h1, h2, fun j hj => ?_, fun j oj hoj e he => ?_⟩
  · have := h3 j hj
    obtain ⟨i, hi, hb⟩ := Array.any_eq_true.1 this
    have he := Array.getElem_mem hi
    generalize (lastOf l).after[i] = e at *
    simp only [Bool.and_eq_true, Bool.or_eq_true, beq_iff_eq] at hb
    refine ⟨e, he, hb.1, ?_⟩
    rcases hb.2 with hb2 | hb2
    · exact .inl hb2
    · right
      cases hoe : l[e.on]? with
      | none => rw [hoe] at hb2; cases hb2
      | some oi =>
        rw [hoe] at hb2
        simp only [] at hb2
        obtain ⟨i2, hi2, hb3⟩ := Array.any_eq_true.1 hb2
        simp only [Bool.and_eq_true, beq_iff_eq] at hb3
        exact ⟨oi, rfl, _, Array.getElem_mem hi2, hb3.1, hb3.2⟩
  · have := h4 j (List.getElem?_eq_some_iff.1 hoj).1
    rw [hoj] at this
    simp only [] at this
    rw [Array.all_eq_true_iff_forall_mem] at this
    exact of_decide_eq_true (this e he)

theorem wp_region_last {S : World → Prop} {id : Nat} {l : List Oper} {a : Act} {w : World} (hm : P.follows .mixedOrders = true) (hne : l ≠ []) (hB : lastB l = true) (hS : S w.drew)
    (h : S w.drew → wpAnyH P .any (setLast l).toArray (LastPost P (lastOf l) Q) S l.length (Array.replicate l.length false) a w.drew) : (Code.region id l.toArray true).wp P Q a w := by
  obtain ⟨h1, h2, h3, h4⟩ := lastB_spec hB
  have hlen : 0 < l.length := List.length_pos_iff.2 hne
  refine wp_region_any hm ?_
  have := wpAny_of_held _ _ _ _ (h hS)
  have h5 := wpAny_last (P := P) (Q := Q) h4 hne h1 h2 h3 l.length (Array.replicate l.length false) a w.drew (by simp) (by simp [show l.length - 1 < l.length by omega]) (fun j oj _ hj => by exfalso; by_cases h : j < l.length <;> simp [h] at hj) this
  simpa using h5
end
end Go.ML
