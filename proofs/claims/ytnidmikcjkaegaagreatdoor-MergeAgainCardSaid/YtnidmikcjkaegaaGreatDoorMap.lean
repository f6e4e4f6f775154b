/-
  What is proved here: laws on maps in memory that read as lists of keys and values: lookup, store, len, range. No statement of the program; no condition.
-/
import Derived.Test.YtnidmikcjkaegaaGreatDoorLib
import Derived.MapKept
import Derived.Maps.RangeRun
import Derived.Maps.OwnSet
import Derived.Maps.RangeWalk
namespace Go.ML
open Go Go.RowKit
open Go.ChangeMaps (setBlock)

section
variable {κ : Type}

def findIx {β : Type} [DecidableEq κ] (x : κ) : List (κ × β) → Nat → Option (Nat × β)
  | [], _ => none
  | p :: r, i => if x = p.1 then some (i, p.2) else findIx x r (i + 1)

def mget {β : Type} [DecidableEq κ] (l : List (κ × β)) (x : κ) : Option β := (findIx x l 0).map (·.2)
def mput {β : Type} [DecidableEq κ] (l : List (κ × β)) (x : κ) (v : β) : List (κ × β) :=
  match findIx x l 0 with
  | some (i, _) => l.set i (x, v)
  | none => l ++ [(x, v)]
def mapV {β γ : Type} (f : β → γ) (l : List (κ × β)) : List (κ × γ) := l.map (fun p => (p.1, f p.2))

theorem findIx_some {β : Type} [DecidableEq κ] {x : κ} : ∀ {l : List (κ × β)} {i j : Nat} {v : β}, findIx x l i = some (j, v) → i ≤ j ∧ l[j - i]? = some (x, v)
  | [], _, _, _, h => by cases h
  | p :: r, i, j, v, h => by
    unfold findIx at h
    split at h
    · rename_i e
      injection h with h
      injection h with h1 h2
      subst h1; subst h2; subst e
      simp
    · obtain ⟨h1, h2⟩ := findIx_some h
      refine ⟨by omega, ?_⟩
      rw [show j - i = (j - (i + 1)) + 1 by omega]
      simpa using h2
theorem findIx_none {β : Type} [DecidableEq κ] {x : κ} : ∀ {l : List (κ × β)} {i : Nat}, findIx x l i = none → ∀ p ∈ l, p.1 ≠ x
  | [], _, _, _, hp => by cases hp
  | p :: r, i, h, q, hq => by
    unfold findIx at h
    split at h
    · cases h
    · rename_i e
      cases hq with
      | head => exact fun he => e he.symm
      | tail _ hq => exact findIx_none h q hq
theorem findIx_mapV {β γ : Type} [DecidableEq κ] (f : β → γ) (x : κ) : ∀ (l : List (κ × β)) (i : Nat), findIx x (mapV f l) i = (findIx x l i).map (fun p => (p.1, f p.2))
  | [], _ => rfl
  | p :: r, i => by
    unfold mapV findIx
    simp only [List.map_cons]
    split
    · rfl
    · exact findIx_mapV f x r (i + 1)
theorem mget_mapV {β γ : Type} [DecidableEq κ] (f : β → γ) (x : κ) (l : List (κ × β)) : mget (mapV f l) x = (mget l x).map f := by
  unfold mget; rw [findIx_mapV]; cases findIx x l 0 <;> rfl
theorem mput_mapV {β γ : Type} [DecidableEq κ] (f : β → γ) (x : κ) (v : β) (l : List (κ × β)) : mput (mapV f l) x (f v) = mapV f (mput l x v) := by
  unfold mput; rw [findIx_mapV]
  cases findIx x l 0 with
  | none => simp [mapV]
  | some p => simp [mapV, List.map_set]
theorem keys_mapV {β γ : Type} (f : β → γ) (l : List (κ × β)) : (mapV f l).map (·.1) = l.map (·.1) := by simp [mapV]
theorem mget_mem {β : Type} [DecidableEq κ] {l : List (κ × β)} {x : κ} {v : β} (h : mget l x = some v) : (x, v) ∈ l := by
  unfold mget at h
  cases e : findIx x l 0 with
  | none => rw [e] at h; cases h
  | some p =>
    rw [e] at h
    have h : p.2 = v := by simpa using h
    have := (findIx_some e).2
    rw [h] at this
    exact List.mem_of_getElem? this
theorem mget_none {β : Type} [DecidableEq κ] {l : List (κ × β)} {x : κ} (h : mget l x = none) : ∀ p ∈ l, p.1 ≠ x := by
  unfold mget at h
  cases e : findIx x l 0 with
  | none => exact findIx_none e
  | some p => rw [e] at h; cases h
theorem mem_mput {β : Type} [DecidableEq κ] {l : List (κ × β)} {x : κ} {v : β} {p : κ × β} (h : p ∈ mput l x v) : p = (x, v) ∨ p ∈ l := by
  unfold mput at h
  cases e : findIx x l 0 with
  | none => rw [e] at h; simp at h; exact h.symm
  | some q =>
    rw [e] at h
    rcases List.mem_or_eq_of_mem_set h with h | h
    · exact .inr h
    · exact .inl h

structure KeyOk [DecidableEq κ] (P : Program) (kt : TypeId) (ek : κ → Value) : Prop where
  chk : ∀ e x w, (Instr.checkKey e 10000 kt (ek x)).run P w = .ok () w
  find : ∀ (x : κ) (l : List (κ × Value)) (es : List MapEntry) w, es.map (fun e => (e.key, e.val)) = l.map (fun p => (ek p.1, p.2)) → (Instr.findKey kt (ek x) es).run P w = .ok (findIx x l 0) w
  bits : ∀ x, Instr.sameBits 10000 (ek x) (ek x) = true

/-- Block b is a map that reads as l. -/
def Mp (ek : κ → Value) (w : World) (b : Nat) (l : List (κ × Value)) : Prop :=
  ∃ es clock, w.heap[b]? = some (.map es clock) ∧ es.toList.map (fun e => (e.key, e.val)) = l.map (fun p => (ek p.1, p.2)) ∧ (l.map (·.1)).Nodup ∧ (∀ e ∈ es.toList, e.born < clock) ∧ (es.toList.map (·.born)).Nodup

variable {ek : κ → Value} {w w' : World} {b : Nat} {l : List (κ × Value)}

theorem Mp.made (w : World) : Mp ek (w.alloc (.map #[] 0)) w.heap.size [] := ⟨#[], 0, heap_alloc_new w _, rfl, by simp, by simp, by simp⟩
theorem Mp.same (h : Mp ek w b l) (hb : w'.heap[b]? = w.heap[b]?) : Mp ek w' b l := by
  obtain ⟨es, c, h1, r⟩ := h
  exact ⟨es, c, hb.trans h1, r⟩
theorem Mp.lt (h : Mp ek w b l) : b < w.heap.size := by
  obtain ⟨es, c, h1, r⟩ := h
  exact lt_of_block h1
theorem Mp.nodup (h : Mp ek w b l) : (l.map (·.1)).Nodup := by
  obtain ⟨es, c, h1, h2, h3, _⟩ := h
  exact h3
theorem Mp.alloc (h : Mp ek w b l) (o : Obj) : Mp ek (w.alloc o) b l := h.same (Below.heap_alloc _ _ _ h.lt)
theorem Mp.drew (h : Mp ek w b l) : Mp ek w.drew b l := h
theorem Mp.drewN (h : Mp ek w b l) (n : Nat) : Mp ek (w.drewN n) b l := h
theorem Mp.setCell (h : Mp ek w b l) (p : Addr) (u : Value) : Mp ek (w.setCell p u) b l := by
  obtain ⟨es, c, h1, r⟩ := h
  refine ⟨es, c, ?_, r⟩
  by_cases e : b = p.block
  · subst e
    show (w.heap.modify p.block _)[p.block]? = _
    simp [Array.getElem?_modify, h1]
  · rw [Below.heap_setCell _ _ _ _ e]; exact h1
theorem Mp.grown {row : Option Nat} (h : Mp ek w b l) (hg : w.grownBy w' row) (hne : some b ≠ row) : Mp ek w' b l := h.same (hg.block b h.lt hne)
theorem Mp.ext {H H' : Hts} (h : Mp ek w b l) (e : Ext H w H' w') : Mp ek w' b l := h.same (e.below.block b h.lt)
/-- A map's block is no row. -/
theorem Mp.ne_own {α : Type} {E : Enc α} {H : Hts} {base : Nat} {xs : List α} {v : Value} (h : Mp ek w b l) (ho : Own E H w base xs v) : v.ownBlock ≠ some b := by
  obtain ⟨es, c, h1, _⟩ := h
  obtain ⟨cells, h2, _, _⟩ := ho
  rcases h2.2 with ⟨rfl, _⟩ | ⟨g, cap, cur, rfl, _, hg, _⟩
  · simp [Value.ownBlock]
  · intro e
    simp [Value.ownBlock] at e
    subst e
    rw [hg] at h1; cases h1
theorem Mp.ne_blk (h : Mp ek w b l) {g : Nat} {cs : Array Value} {t : TypeId} {fr : Nat × Nat} (hg : w.heap[g]? = some (.cells cs t fr)) : b ≠ g := by
  rintro rfl
  obtain ⟨es, c, h1, _⟩ := h
  rw [hg] at h1; cases h1

def lookVal (ok : Bool) (z : Value) : Option Value → Value
  | some v => if ok then .tuple #[v, .bool true] else v
  | none => if ok then .tuple #[z, .bool false] else z


/-- An iterator at block r over the map at block b: what is still to come. -/
def It (ek : κ → Value) (w : World) (b r : Nat) (l todo : List (κ × Value)) : Prop :=
  ∃ es clock seen, w.heap[b]? = some (.map es clock) ∧ es.toList.map (fun e => (e.key, e.val)) = l.map (fun p => (ek p.1, p.2)) ∧ (l.map (·.1)).Nodup ∧ (∀ e ∈ es.toList, e.born < clock) ∧ (es.toList.map (·.born)).Nodup ∧
    w.heap[r]? = some (.mapIter (some b) clock seen clock) ∧ (leftOf es seen).toList.map (fun e => (e.key, e.val)) = todo.map (fun p => (ek p.1, p.2))

theorem It.mp {r : Nat} {todo : List (κ × Value)} (h : It ek w b r l todo) : Mp ek w b l := by
  obtain ⟨es, c, seen, h1, h2, h3, h4, h5, _⟩ := h
  exact ⟨es, c, h1, h2, h3, h4, h5⟩
theorem It.left {r : Nat} {todo : List (κ × Value)} (h : It ek w b r l todo) : w.rangeLeft b r = todo.length := by
  obtain ⟨es, c, seen, h1, h2, h3, h4, h5, h6, h7⟩ := h
  have := congrArg List.length h7
  simp only [List.length_map, Array.length_toList] at this
  simp [World.rangeLeft, h1, h6, this]
theorem It.same {r : Nat} {todo : List (κ × Value)} (h : It ek w b r l todo) (hb : w'.heap[b]? = w.heap[b]?) (hr : w'.heap[r]? = w.heap[r]?) : It ek w' b r l todo := by
  obtain ⟨es, c, seen, h1, h2, h3, h4, h5, h6, h7⟩ := h
  exact ⟨es, c, seen, hb.trans h1, h2, h3, h4, h5, hr.trans h6, h7⟩
theorem It.ltr {r : Nat} {todo : List (κ × Value)} (h : It ek w b r l todo) : r < w.heap.size := by
  obtain ⟨es, c, seen, h1, h2, h3, h4, h5, h6, h7⟩ := h
  exact lt_of_block h6
theorem It.ext {r : Nat} {todo : List (κ × Value)} {H H' : Hts} (h : It ek w b r l todo) (e : Ext H w H' w') : It ek w' b r l todo :=
  h.same (e.below.block b h.mp.lt) (e.below.block r h.ltr)
theorem It.alloc {r : Nat} {todo : List (κ × Value)} (h : It ek w b r l todo) (o : Obj) : It ek (w.alloc o) b r l todo :=
  h.same (Below.heap_alloc _ _ _ h.mp.lt) (Below.heap_alloc _ _ _ h.ltr)
theorem It.grown {r : Nat} {todo : List (κ × Value)} {row : Option Nat} (h : It ek w b r l todo) (hg : w.grownBy w' row) (hb : some b ≠ row) (hr : some r ≠ row) : It ek w' b r l todo :=
  h.same (hg.block b h.mp.lt hb) (hg.block r h.ltr hr)
theorem It.ne_own {α : Type} {E : Enc α} {H : Hts} {base : Nat} {xs : List α} {v : Value} {r : Nat} {todo : List (κ × Value)} (h : It ek w b r l todo) (ho : Own E H w base xs v) : v.ownBlock ≠ some r := by
  obtain ⟨es, c, seen, h1, h2, h3, h4, h5, h6, h7⟩ := h
  obtain ⟨cells, k2, _, _⟩ := ho
  rcases k2.2 with ⟨rfl, _⟩ | ⟨g, cap, cur, rfl, _, hg, _⟩
  · simp [Value.ownBlock]
  · intro e
    simp [Value.ownBlock] at e
    subst e
    rw [hg] at h6; cases h6

theorem It.nocells {r : Nat} {todo : List (κ × Value)} (h : It ek w b r l todo) : ∀ c t f, w.heap[r]? ≠ some (.cells c t f) := fun c t f e => by
  obtain ⟨es, c', seen, h1, h2, h3, h4, h5, h6, h7⟩ := h
  rw [e] at h6; cases h6
theorem Mp.nocells (h : Mp ek w b l) : ∀ c t f, w.heap[b]? ≠ some (.cells c t f) := fun c t f e => by
  obtain ⟨es, c', h1, _⟩ := h
  rw [e] at h1; cases h1
theorem Mp.keepOwn {α : Type} {E : Enc α} {H : Hts} {base : Nat} {xs : List α} {v : Value} (h : Mp ek w b l) (ho : Own E H w base xs v) (hg : w.grownBy w' (some b)) : Own E H w' base xs v :=
  ho.keep ((Evo.refl H w).grownObj hg h.nocells) (fun k hk => hg.block k (ho.lt k hk) (fun e => h.ne_own ho (by rw [hk, e]))) ho.zero
theorem It.keepOwn {α : Type} {E : Enc α} {H : Hts} {base : Nat} {xs : List α} {v : Value} {r : Nat} {todo : List (κ × Value)} (h : It ek w b r l todo) (ho : Own E H w base xs v) (hg : w.grownBy w' (some r)) : Own E H w' base xs v :=
  ho.keep ((Evo.refl H w).grownObj hg h.nocells) (fun k hk => hg.block k (ho.lt k hk) (fun e => h.ne_own ho (by rw [hk, e]))) ho.zero

variable {P : Program} {t kt et : TypeId}

theorem It.start (h : Mp ek w b l) (ht : P.underlying t = some (.map kt et)) :
    (Instr.range t (.map (some b))).run P w = .ok (.pointer (some ⟨w.heap.size, 0, none⟩)) (w.alloc (.mapIter (some b) (match w.heap[b]? with | some (.map _ c) => c | _ => 0) #[] (match w.heap[b]? with | some (.map _ c) => c | _ => 0))) ∧
      It ek (w.alloc (.mapIter (some b) (match w.heap[b]? with | some (.map _ c) => c | _ => 0) #[] (match w.heap[b]? with | some (.map _ c) => c | _ => 0))) b w.heap.size l l := by
  have hlt := h.lt
  obtain ⟨es, c, h1, h2, h3, h4, h5⟩ := h
  simp only [h1]
  refine ⟨by simp [Instr.range, run_underlying ht, MapKept.run_getObj_map h1, Result.andThen], es, c, #[], blk_old h1 _, h2, h3, h4, h5, blk_new w _, ?_⟩
  have : leftOf es #[] = es := by unfold leftOf; simp
  rw [this]; exact h2

theorem It.next {r : Nat} {todo : List (κ × Value)} (h : It ek w b r l todo) (ty : TypeId) :
    (todo = [] ∧ (Instr.next (.pointer (some ⟨r, 0, none⟩)) false ty).run P w = .ok (.tuple #[.bool false]) w) ∨
    ∃ t1 p t2 w', todo = t1 ++ p :: t2 ∧ (Instr.next (.pointer (some ⟨r, 0, none⟩)) false ty).run P w = .ok (.tuple #[.bool true, ek p.1, p.2]) w' ∧ It ek w' b r l (t1 ++ t2) ∧ w.grownBy w' (some r) ∧ w'.heap.size = w.heap.size ∧
      (Instr.entry (.pointer (some ⟨r, 0, none⟩))).run P w' = .ok (.tuple #[ek p.1, p.2]) w' := by
  have hr := h.ltr
  obtain ⟨es, c, seen, h1, h2, h3, h4, h5, h6, h7⟩ := h
  have hbr : b ≠ r := by rintro rfl; rw [h1] at h6; cases h6
  rcases run_next_at (P := P) w ty r b c c seen es c h6 h1 h4 (Nat.le_refl _) with ⟨h0, hrun⟩ | ⟨e, he, w1, hw1, hrun⟩
  · left
    refine ⟨?_, hrun⟩
    have := congrArg List.length h7
    simp only [List.length_map, Array.length_toList] at this
    exact List.length_eq_zero_iff.1 (by omega)
  · right
    obtain ⟨s1, s2, hs⟩ := List.append_of_mem he
    have h7' := h7
    rw [hs, List.map_append, List.map_cons] at h7'
    obtain ⟨t1, t2', ht1, ht2, ht3⟩ := List.append_eq_map_iff.1 h7'
    cases t2' with
    | nil => simp at ht3
    | cons p t2 =>
      simp only [List.map_cons, List.cons.injEq, Prod.mk.injEq] at ht3
      obtain ⟨⟨e1, e2⟩, e3⟩ := ht3
      have hm : e ∈ es.toList := by
        have := he
        unfold leftOf at this
        simp only [Array.toList_filter] at this
        exact (List.mem_filter.1 this).1
      have hw1h : w1.heap = w.heap := by rcases hw1 with rfl | rfl <;> rfl
      have hb' : (setBlock w1 r (.mapIter (some b) c (seen.push e.born) c)).heap[b]? = some (.map es c) := by
        show (w1.heap.setIfInBounds r _)[b]? = _
        rw [hw1h, Array.getElem?_setIfInBounds_ne (by omega)]; exact h1
      have hr' : (setBlock w1 r (.mapIter (some b) c (seen.push e.born) c)).heap[r]? = some (.mapIter (some b) c (seen.push e.born) c) := by
        show (w1.heap.setIfInBounds r _)[r]? = _
        rw [hw1h]; simp [hr]
      refine ⟨t1, p, t2, _, ht1, by rw [hrun, e1, e2], ⟨es, c, seen.push e.born, hb', h2, h3, h4, h5, hr', ?_⟩, ?_, ?_, ?_⟩
      · have hfil : (leftOf es (seen.push e.born)).toList = (leftOf es seen).toList.filter (fun x => !(x.born == e.born)) := by
          unfold leftOf
          simp only [Array.toList_filter, List.filter_filter]
          congr 1
          funext x
          simp only [Array.contains_eq_mem, Array.mem_push, Bool.decide_or, Bool.not_or]
          rw [Bool.and_comm]
          congr 1
        rw [hfil, hs]
        have hn : ((leftOf es seen).toList.map (·.born)).Nodup := by
          have : (leftOf es seen).toList.Sublist es.toList := by unfold leftOf; simp only [Array.toList_filter]; exact List.filter_sublist
          exact (this.map _).nodup h5
        rw [hs, List.map_append, List.map_cons, List.nodup_append] at hn
        obtain ⟨n1, n2, n3⟩ := hn
        have n2' := (List.nodup_cons.1 n2).1
        rw [List.filter_append, List.filter_cons]
        have f1 : s1.filter (fun x => !(x.born == e.born)) = s1 := List.filter_eq_self.2 (fun x hx => by
          simp only [Bool.not_eq_true', beq_eq_false_iff_ne]
          exact n3 x.born (List.mem_map_of_mem hx) e.born (by simp))
        have f2 : s2.filter (fun x => !(x.born == e.born)) = s2 := List.filter_eq_self.2 (fun x hx => by
          simp only [Bool.not_eq_true', beq_eq_false_iff_ne]
          intro he'
          exact n2' (by rw [← he']; exact List.mem_map_of_mem hx))
        rw [f1, f2]
        simp only [beq_self_eq_true, Bool.not_true, Bool.false_eq_true, if_false, List.map_append]
        rw [ht2, e3]
      · refine ⟨?_, ?_, ?_, by simp [setBlock, hw1h], fun k hk hne => ?_⟩
        · rcases hw1 with rfl | rfl <;> rfl
        · rcases hw1 with rfl | rfl <;> rfl
        · rcases hw1 with rfl | rfl <;> rfl
        · show (w1.heap.setIfInBounds r _)[k]? = _
          rw [hw1h, Array.getElem?_setIfInBounds_ne (fun e => hne (by rw [e]))]
      · simp [setBlock, hw1h]
      · rw [e1, e2]
        exact run_entry_at _ r b c seen es c e hr' hb' hm h5

variable [DecidableEq κ]

theorem Mp.run_lookup (h : Mp ek w b l) (K : KeyOk P kt ek) (ht : P.underlying t = some (.map kt et)) {z : Value} (hz : (zeroValue et).run P w = .ok z w) (x : κ) (ok : Bool) :
    (Instr.lookup t (.map (some b)) (ek x) ok).run P w = .ok (lookVal ok z (mget l x)) w := by
  obtain ⟨es, c, h1, h2, h3, _⟩ := h
  have hf := K.find x l es.toList w h2
  unfold mget
  cases hx : findIx x l 0 with
  | none =>
    rw [hx] at hf
    cases ok <;> simp [Instr.lookup, run_underlying ht, MapKept.run_getObj_map h1, K.chk, hf, hz, Result.andThen, lookVal]
  | some p =>
    rw [hx] at hf
    obtain ⟨i, v⟩ := p
    cases ok <;> simp [Instr.lookup, run_underlying ht, MapKept.run_getObj_map h1, K.chk, hf, Result.andThen, lookVal]

theorem run_lookup_nil (K : KeyOk P kt ek) (ht : P.underlying t = some (.map kt et)) {z : Value} (hz : (zeroValue et).run P w = .ok z w) (x : κ) (ok : Bool) :
    (Instr.lookup t (.map none) (ek x) ok).run P w = .ok (lookVal ok z none) w := by
  have hf := K.find x [] [] w rfl
  cases ok <;> simp [Instr.lookup, run_underlying ht, K.chk, hf, findIx, hz, Result.andThen, lookVal]

theorem run_update (h : Mp ek w b l) (K : KeyOk P kt ek) (ht : P.underlying t = some (.map kt et)) (x : κ) (v : Value) :
    ∃ w', (Instr.mapUpdate t (.map (some b)) (ek x) v).run P w = .ok () w' ∧ Mp ek w' b (mput l x v) ∧ w.grownBy w' (some b) ∧ w'.heap.size = w.heap.size := by
  have hlt := h.lt
  obtain ⟨es, c, h1, h2, h3, h4, h5⟩ := h
  have hf := K.find x l es.toList w h2
  have hgr : ∀ o : Obj, w.grownBy (setBlock w b o) (some b) := fun o => ⟨rfl, rfl, rfl, by simp [setBlock], fun k _ hne => by
    show (w.heap.setIfInBounds b _)[k]? = _
    rw [Array.getElem?_setIfInBounds_ne (fun e => hne (by rw [e]))]⟩
  have hset : ∀ o : Obj, (setBlock w b o).heap[b]? = some o := fun o => by
    show (w.heap.setIfInBounds b _)[b]? = _
    simp [hlt]
  have hlen : es.toList.length = l.length := by have := congrArg List.length h2; simpa using this
  cases hx : findIx x l 0 with
  | none =>
    rw [hx] at hf
    refine ⟨setBlock w b (.map (es.push { key := ek x, val := v, born := c }) (c + 1)), ?_, ⟨_, _, hset _, ?_, ?_, ?_, ?_⟩, hgr _, by simp [setBlock]⟩
    · simp only [Instr.mapUpdate, Sem.run_bind, run_underlying ht, Result.andThen, MapKept.run_getObj_map h1, K.chk, hf, MapKept.run_setObj_map _ h1]
      rfl
    · unfold mput; rw [hx]; simp [h2]
    · unfold mput; rw [hx]
      simp only [List.map_append, List.map_cons, List.map_nil]
      refine List.nodup_append.2 ⟨h3, by simp, fun a ha q hq => ?_⟩
      simp only [List.mem_singleton] at hq
      subst hq
      obtain ⟨p, hp, rfl⟩ := List.mem_map.1 ha
      exact findIx_none hx p hp
    · intro e he
      simp only [Array.toList_push, List.mem_append, List.mem_singleton] at he
      rcases he with he | rfl
      · have := h4 e he; omega
      · exact Nat.lt_succ_self c
    · simp only [Array.toList_push, List.map_append, List.map_cons, List.map_nil]
      refine List.nodup_append.2 ⟨h5, by simp, fun a ha q hq => ?_⟩
      simp only [List.mem_singleton] at hq
      subst hq
      obtain ⟨p, hp, rfl⟩ := List.mem_map.1 ha
      have := h4 p hp; omega
  | some p =>
    rw [hx] at hf
    obtain ⟨i, u⟩ := p
    have hi := (findIx_some hx).2
    simp only [Nat.sub_zero] at hi
    have hil : i < l.length := (List.getElem?_eq_some_iff.1 hi).1
    have hie : i < es.size := by rw [← Array.length_toList]; omega
    have hk0 : es[i].key = ek x := by
      have e1 : (es.toList.map (fun e => (e.key, e.val)))[i]? = some (es[i].key, es[i].val) := by simp [hie]
      rw [h2, List.getElem?_map, hi] at e1
      simp only [Option.map_some, Option.some.injEq, Prod.mk.injEq] at e1
      exact e1.1.symm
    have hstay : (Instr.keyThatStays (((es[i]?).map (·.key)).getD (ek x)) (ek x)).run P w = .ok (ek x) w := by
      rw [Array.getElem?_eq_getElem hie]
      simp only [Option.map_some, Option.getD_some, hk0]
      unfold Instr.keyThatStays
      rw [if_pos (K.bits x)]
      rfl
    refine ⟨setBlock w b (.map (es.modify i fun e => { e with key := ek x, val := v }) c), ?_, ⟨_, _, hset _, ?_, ?_, ?_, ?_⟩, hgr _, by simp [setBlock]⟩
    · simp only [Instr.mapUpdate, Sem.run_bind, run_underlying ht, Result.andThen, MapKept.run_getObj_map h1, K.chk, hf, hstay, MapKept.run_setObj_map _ h1]
      rfl
    · unfold mput; rw [hx]
      apply List.ext_getElem?
      intro j
      have h2j := congrArg (fun q => q[j]?) h2
      simp only [List.getElem?_map, List.getElem?_set, Array.getElem?_toList, Array.getElem?_modify] at h2j ⊢
      by_cases e : i = j
      · subst e
        simp [hil, hie]
      · rw [if_neg e, if_neg e]; exact h2j
    · unfold mput; rw [hx]
      simp only
      have : (l.set i (x, v)).map (·.1) = l.map (·.1) := by
        apply List.ext_getElem?
        intro j
        simp only [List.getElem?_map, List.getElem?_set]
        by_cases e : i = j
        · subst e; simp [hil, (List.getElem?_eq_some_iff.1 hi).2]
        · rw [if_neg e]
      rw [this]; exact h3
    · intro e he
      obtain ⟨j, hj⟩ := List.mem_iff_getElem?.1 he
      simp only [Array.getElem?_toList, Array.getElem?_modify] at hj
      split at hj
      · cases hq : es[j]? with
        | none => rw [hq] at hj; cases hj
        | some e0 =>
          rw [hq] at hj
          injection hj with hj
          subst hj
          exact h4 e0 (List.mem_iff_getElem?.2 ⟨j, by simpa using hq⟩)
      · exact h4 e (List.mem_iff_getElem?.2 ⟨j, by simpa using hj⟩)
    · have : (es.modify i fun e => { e with key := ek x, val := v }).toList.map (·.born) = es.toList.map (·.born) := by
        apply List.ext_getElem?
        intro j
        simp only [List.getElem?_map, Array.getElem?_toList, Array.getElem?_modify]
        split
        · cases es[j]? <;> rfl
        · rfl
      rw [this]; exact h5

theorem lookup_law {ops : Array Oper} {rest : List Oper} {o : Oper} {a : Act} {Q : Exit → Act → World → Prop} (hg : o.guard = none) (m x : Operand) (ok : Bool) (hop : o.op = Op.lookup t m x ok) (K : KeyOk P kt ek) (ht : P.underlying t = some (.map kt et)) {z : Value} (hz : ∀ w, (zeroValue et).run P w = .ok z w)
    (hm : a.eval m = .map (some b)) (hmp : Mp ek w b l) (x0 : κ) (hx : a.eval x = ek x0) (h : wpList P ops Q rest (a.put o.dst (lookVal ok z (mget l x0))) w) : wpList P ops Q (o :: rest) a w := by
  refine wpList_plain hg fun K' hK' => ?_
  have hrun := hmp.run_lookup K ht (hz w) x0 ok
  unfold Oper.wp
  simp [execOp, hop, hm, hx, hrun, Result.andThen]
  exact hK' _ _ h

theorem lookup_law_nil {ops : Array Oper} {rest : List Oper} {o : Oper} {a : Act} {Q : Exit → Act → World → Prop} (hg : o.guard = none) (m x : Operand) (ok : Bool) (hop : o.op = Op.lookup t m x ok) (K : KeyOk P kt ek) (ht : P.underlying t = some (.map kt et)) {z : Value} (hz : ∀ w, (zeroValue et).run P w = .ok z w)
    (hm : a.eval m = .map none) (x0 : κ) (hx : a.eval x = ek x0) (h : wpList P ops Q rest (a.put o.dst (lookVal ok z none)) w) : wpList P ops Q (o :: rest) a w := by
  refine wpList_plain hg fun K' hK' => ?_
  have hrun := run_lookup_nil (w := w) K ht (hz w) x0 ok
  unfold Oper.wp
  simp [execOp, hop, hm, hx, hrun, Result.andThen]
  exact hK' _ _ h

theorem update_law {ops : Array Oper} {rest : List Oper} {o : Oper} {a : Act} {Q : Exit → Act → World → Prop} (hg : o.guard = none) (m x y : Operand) (hop : o.op = Op.mapUpdate t m x y) (K : KeyOk P kt ek) (ht : P.underlying t = some (.map kt et))
    (hm : a.eval m = .map (some b)) (hmp : Mp ek w b l) (x0 : κ) (hx : a.eval x = ek x0) (v : Value) (hv : a.eval y = v)
    (h : ∀ w', Mp ek w' b (mput l x0 v) → w.grownBy w' (some b) → w'.heap.size = w.heap.size → wpList P ops Q rest (a.put o.dst undef) w') : wpList P ops Q (o :: rest) a w := by
  refine wpList_plain hg fun K' hK' => ?_
  obtain ⟨w', hrun, h1, h2, h3⟩ := run_update hmp K ht x0 v
  unfold Oper.wp
  simp [execOp, hop, hm, hx, hv, hrun, Result.andThen]
  exact hK' _ _ (h w' h1 h2 h3)

omit [DecidableEq κ] in
theorem range_law {ops : Array Oper} {rest : List Oper} {o : Oper} {a : Act} {Q : Exit → Act → World → Prop} (hg : o.guard = none) (m : Operand) (hop : o.op = Op.range t m) (ht : P.underlying t = some (.map kt et))
    (hm : a.eval m = .map (some b)) (hmp : Mp ek w b l)
    (h : ∀ w', It ek w' b w.heap.size l l → w.grownBy w' none → w'.heap.size = w.heap.size + 1 → wpList P ops Q rest (a.put o.dst (.pointer (some ⟨w.heap.size, 0, none⟩))) w') : wpList P ops Q (o :: rest) a w := by
  refine wpList_plain hg fun K' hK' => ?_
  obtain ⟨hrun, h1⟩ := It.start (P := P) hmp ht
  unfold Oper.wp
  simp [execOp, hop, hm, hrun, Result.andThen]
  exact hK' _ _ (h _ h1 (World.grownBy_alloc w _ none) (by simp))

omit [DecidableEq κ] in
theorem next_law {ops : Array Oper} {rest : List Oper} {o : Oper} {a : Act} {Q : Exit → Act → World → Prop} (hg : o.guard = none) (it : Operand) (hop : o.op = Op.next it false) {r : Nat} {todo : List (κ × Value)} (hit : a.eval it = .pointer (some ⟨r, 0, none⟩)) (h : It ek w b r l todo)
    (hDone : todo = [] → wpList P ops Q rest (a.put o.dst (.tuple #[.bool false])) w)
    (hMore : ∀ t1 p t2 w', todo = t1 ++ p :: t2 → It ek w' b r l (t1 ++ t2) → w.grownBy w' (some r) → w'.heap.size = w.heap.size → (Instr.entry (.pointer (some ⟨r, 0, none⟩))).run P w' = .ok (.tuple #[ek p.1, p.2]) w' →
      wpList P ops Q rest (a.put o.dst (.tuple #[.bool true, ek p.1, p.2])) w') : wpList P ops Q (o :: rest) a w := by
  refine wpList_plain hg fun K' hK' => ?_
  unfold Oper.wp
  rcases h.next (P := P) o.type with ⟨h0, hrun⟩ | ⟨t1, p, t2, w', e1, hrun, h2, h3, h4, h5⟩
  · simp [execOp, hop, hit, hrun, Result.andThen]
    exact hK' _ _ (hDone h0)
  · simp [execOp, hop, hit, hrun, Result.andThen]
    exact hK' _ _ (hMore t1 p t2 w' e1 h2 h3 h4 h5)
end

/-! ## kinds of keys -/
theorem findNow_map {κ : Type} [DecidableEq κ] {ek : κ → Value} {d : TypeDesc} (hs : ∀ x y, Instr.sameNow d (ek x) (ek y) = some (decide (x = y))) (x : κ) : ∀ (l : List (κ × Value)) (es : List MapEntry) (i : Nat), es.map (fun e => (e.key, e.val)) = l.map (fun p => (ek p.1, p.2)) →
    Instr.findNow d (ek x) es i = some (findIx x l i)
  | [], [], _, _ => rfl
  | [], _ :: _, _, h => by simp at h
  | _ :: _, [], _, h => by simp at h
  | p :: l, e :: es, i, h => by
    simp only [List.map_cons, List.cons.injEq, Prod.mk.injEq] at h
    obtain ⟨⟨h1, h2⟩, h3⟩ := h
    unfold Instr.findNow findIx
    rw [h1, hs]
    by_cases e : x = p.1
    · simp [e, h2]
    · simp only [e, decide_false, if_false]
      exact findNow_map hs x l es (i + 1) h3

theorem findAsking_map {κ : Type} [DecidableEq κ] {P : Program} {kt : TypeId} {ek : κ → Value} (w : World) (hs : ∀ x y, (Go.Op.equal kt (ek x) (ek y)).run P w = .ok (decide (x = y)) w) (x : κ) : ∀ (l : List (κ × Value)) (es : List MapEntry) (i : Nat), es.map (fun e => (e.key, e.val)) = l.map (fun p => (ek p.1, p.2)) →
    (Instr.findAsking kt (ek x) es i).run P w = .ok (findIx x l i) w
  | [], [], _, _ => by simp [Instr.findAsking, findIx]
  | [], _ :: _, _, h => by simp at h
  | _ :: _, [], _, h => by simp at h
  | p :: l, e :: es, i, h => by
    simp only [List.map_cons, List.cons.injEq, Prod.mk.injEq] at h
    obtain ⟨⟨h1, h2⟩, h3⟩ := h
    unfold Instr.findAsking findIx
    rw [h1]
    simp only [Sem.run_bind, hs, Result.andThen]
    by_cases e : x = p.1
    · simp [e, h2]
    · simp only [e, decide_false, if_false, Bool.false_eq_true]
      exact findAsking_map w hs x l es (i + 1) h3

theorem keyInt {P : Program} {kt : TypeId} {k : IntKind} (hu : P.underlying kt = some (.int k)) : KeyOk P kt (Value.int k) where
  chk e x w := MapKept.run_checkKey (n := 9999) hu (by simp [MapKept.IsKey]) e
  find x l es w h := MapKept.run_findKey hu (findNow_map (fun x y => by simp [Instr.sameNow]; rfl) x l es 0 h)
  bits x := by simp [Instr.sameBits]

theorem keyString {P : Program} {kt : TypeId} (hu : P.underlying kt = some .string) : KeyOk P kt Value.string where
  chk e x w := MapKept.run_checkKey (n := 9999) hu (by simp [MapKept.IsKey]) e
  find x l es w h := MapKept.run_findKey hu (findNow_map (fun x y => by simp only [Instr.sameNow]; congr 1; rw [Bool.eq_iff_iff, MapKept.bytes_beq]; simp) x l es 0 h)
  bits x := by
    have := (MapKept.bytes_beq x x).2 rfl
    simp [Instr.sameBits, this]

theorem keyAsk {κ : Type} [DecidableEq κ] {P : Program} {kt : TypeId} {ek : κ → Value} {d : TypeDesc} (hd : P.underlying kt = some d) (hns : ∀ x y, Instr.sameNow d (ek x) (ek y) = none)
    (hc : ∀ e x w, (Instr.checkKey e 10000 kt (ek x)).run P w = .ok () w) (he : ∀ x y w, (Go.Op.equal kt (ek x) (ek y)).run P w = .ok (decide (x = y)) w) (hb : ∀ x, Instr.sameBits 10000 (ek x) (ek x) = true) : KeyOk P kt ek where
  chk := hc
  bits := hb
  find x l es w h := by
    have ha := findAsking_map w (fun x y => he x y w) x l es 0 h
    match l, es, h with
    | [], [], _ => simp [Instr.findKey, run_underlying hd, Result.andThen, Instr.findNow, findIx]
    | p :: l, e :: es, h =>
      simp only [List.map_cons, List.cons.injEq, Prod.mk.injEq] at h
      have hn : Instr.findNow d (ek x) (e :: es) 0 = none := by unfold Instr.findNow; rw [h.1.1, hns]
      simp only [Instr.findKey, Sem.run_bind, run_underlying hd, Result.andThen_ok, hn]
      exact ha
end Go.ML
