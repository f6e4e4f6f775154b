/-
  What is proved here: lemmas on reading slices of structs in memory, on blocks that are written no more up to a height, and on appending to a slice that the call itself owns. No statement of the program; no condition.
-/
import Derived.WalkKit
import Derived.KernelRfl
import Derived.Deep.Draws
import Derived.Deep.AppendLies
import Derived.Laws.ResultCell
import Derived.Laws.CopyOwn
import Derived.WalkSmall
import Derived.Lib.Hide
import Derived.Deep.MidRow
namespace Go.ML
open Go Go.RowKit

/-- Up to which cell each block is written no more. -/
abbrev Hts := Nat → Nat

/-- The type of a block of cells of which none is frozen. -/
def tag (w : World) (b : Nat) : Option TypeId :=
  match w.heap[b]? with
  | some (.cells _ t (0, 0)) => some t
  | _ => none

theorem tag_of_heap {w w' : World} {b : Nat} (h : w'.heap[b]? = w.heap[b]?) : tag w' b = tag w b := by unfold tag; rw [h]

theorem tag_cells {w : World} {b : Nat} {cs : Array Value} {t : TypeId} (h : w.heap[b]? = some (.cells cs t (0, 0))) : tag w b = some t := by unfold tag; rw [h]; rfl

def Fit (H : Hts) (w : World) : Prop := ∀ b, w.heap.size ≤ b → H b = 0

/-- Heights below B forgotten: what reads so lies in blocks from B on. -/
def Hts.ge (H : Hts) (B : Nat) : Hts := fun b => if b < B then 0 else H b
theorem Hts.ge_le (H : Hts) (B b : Nat) : H.ge B b ≤ H b := by unfold Hts.ge; split <;> omega

structure Evo (H : Hts) (w : World) (H' : Hts) (w' : World) : Prop where
  cell : ∀ b i v, i < H b → w.cell? ⟨b, i, none⟩ = some v → w'.cell? ⟨b, i, none⟩ = some v
  hts : ∀ b, H b ≤ H' b
  tg : ∀ b t, 0 < H b → tag w b = some t → tag w' b = some t

theorem Evo.refl (H : Hts) (w : World) : Evo H w H w := ⟨fun _ _ _ _ h => h, fun _ => Nat.le_refl _, fun _ _ _ h => h⟩
theorem Evo.trans {H H1 H2 : Hts} {w w1 w2 : World} (a : Evo H w H1 w1) (b : Evo H1 w1 H2 w2) : Evo H w H2 w2 :=
  ⟨fun p i v hi h => b.cell p i v (Nat.lt_of_lt_of_le hi (a.hts p)) (a.cell p i v hi h), fun p => Nat.le_trans (a.hts p) (b.hts p),
    fun p t hp h => b.tg p t (Nat.lt_of_lt_of_le hp (a.hts p)) (a.tg p t hp h)⟩

/-- What a call does: nothing that lay there has turned; new blocks have heights of their own. -/
structure Ext (H : Hts) (w : World) (H' : Hts) (w' : World) : Prop where
  below : Below w.heap.size w w'
  fit : Fit H' w'
  same : ∀ b, b < w.heap.size → H' b = H b

theorem lt_of_cell {w : World} {b i : Nat} {v : Value} (h : w.cell? ⟨b, i, none⟩ = some v) : b < w.heap.size := World.block_lt_of_cell? w _ h

theorem lt_of_tag {w : World} {b : Nat} {t : TypeId} (h : tag w b = some t) : b < w.heap.size := by
  rcases Nat.lt_or_ge b w.heap.size with h' | h'
  · exact h'
  · simp [tag, Array.getElem?_eq_none h'] at h

theorem Ext.evo {H H' : Hts} {w w' : World} (hf : Fit H w) (e : Ext H w H' w') : Evo H w H' w' :=
  ⟨fun b i v _ h => (e.below.cell (p := ⟨b, i, none⟩) (lt_of_cell h)).trans h,
    fun b => by
      rcases Nat.lt_or_ge b w.heap.size with h | h
      · exact Nat.le_of_eq (e.same b h).symm
      · rw [hf b h]; exact Nat.zero_le _,
    fun b t _ h => (tag_of_heap (e.below.block b (lt_of_tag h))).trans h⟩

theorem Ext.refl {H : Hts} {w : World} (hf : Fit H w) : Ext H w H w := ⟨Below.refl _ _, hf, fun _ _ => rfl⟩
theorem Ext.trans {H H1 H2 : Hts} {w w1 w2 : World} (a : Ext H w H1 w1) (b : Ext H1 w1 H2 w2) : Ext H w H2 w2 :=
  ⟨a.below.trans (b.below.mono a.below.size), b.fit, fun p hp => (b.same p (Nat.lt_of_lt_of_le hp a.below.size)).trans (a.same p hp)⟩
theorem Ext.drew {H H' : Hts} {w w' : World} (a : Ext H w H' w') : Ext H w H' w'.drew := ⟨a.below.drew, a.fit, a.same⟩
theorem Ext.drewN {H H' : Hts} {w w' : World} (a : Ext H w H' w') (n : Nat) : Ext H w H' (w'.drewN n) := ⟨below_drewN a.below n, a.fit, a.same⟩
theorem Ext.alloc {H H' : Hts} {w w' : World} (a : Ext H w H' w') (o : Obj) : Ext H w H' (w'.alloc o) :=
  ⟨a.below.alloc a.below.size o, fun b hb => a.fit b (by simp at hb; omega), a.same⟩
theorem Ext.setCell {H H' : Hts} {w w' : World} (a : Ext H w H' w') {p : Addr} (hp : w.heap.size ≤ p.block) (u : Value) : Ext H w H' (w'.setCell p u) :=
  ⟨a.below.setCell hp u, fun b hb => a.fit b (by simpa [World.setCell] using hb), a.same⟩
theorem Ext.grown {H H' : Hts} {w w' w'' : World} {row : Option Nat} (a : Ext H w H' w') (hg : w'.grownBy w'' row) (hr : ∀ k, row = some k → w.heap.size ≤ k) : Ext H w H' w'' :=
  ⟨a.below.grown hg a.below.size hr, fun b hb => a.fit b (Nat.le_trans hg.size hb), a.same⟩
/-- Heights of blocks of the call's own may be set anew. -/
theorem Ext.hts {H H' H'' : Hts} {w w' : World} (a : Ext H w H' w') (hf : Fit H'' w') (hs : ∀ b, b < w.heap.size → H'' b = H' b) : Ext H w H'' w' :=
  ⟨a.below, hf, fun b hb => (hs b hb).trans (a.same b hb)⟩
theorem Ext.of_below {H : Hts} {w w' : World} (hf : Fit H w) (hb : Below w.heap.size w w') : Ext H w H w' :=
  ⟨hb, fun b h => hf b (Nat.le_trans hb.size h), fun _ _ => rfl⟩

/-! ## steps of a world -/
theorem Fit.alloc {H : Hts} {w : World} (h : Fit H w) (o : Obj) : Fit H (w.alloc o) := fun b hb => h b (by simp at hb; omega)
theorem Fit.drew {H : Hts} {w : World} (h : Fit H w) : Fit H w.drew := h
theorem Fit.drewN {H : Hts} {w : World} (h : Fit H w) (n : Nat) : Fit H (w.drewN n) := h
theorem Fit.setCell {H : Hts} {w : World} (h : Fit H w) (p : Addr) (u : Value) : Fit H (w.setCell p u) := fun b hb => h b (by simpa [World.setCell] using hb)
theorem Fit.grown {H : Hts} {w w' : World} {row : Option Nat} (h : Fit H w) (hg : w.grownBy w' row) : Fit H w' := fun b hb => h b (Nat.le_trans hg.size hb)

theorem Evo.alloc {H H' : Hts} {w w' : World} (e : Evo H w H' w') (o : Obj) : Evo H w H' (w'.alloc o) :=
  ⟨fun b i v hi h => by
      have h1 := e.cell b i v hi h
      rw [World.cell?_alloc_lt w' o ⟨b, i, none⟩ (lt_of_cell h1)]; exact h1,
    e.hts, fun b t hp h => by
      have h1 := e.tg b t hp h
      rw [tag_of_heap (Below.heap_alloc w' o b (lt_of_tag h1))]; exact h1⟩
theorem Evo.drew {H H' : Hts} {w w' : World} (e : Evo H w H' w') : Evo H w H' w'.drew := ⟨e.cell, e.hts, e.tg⟩
theorem Evo.drewN {H H' : Hts} {w w' : World} (e : Evo H w H' w') (n : Nat) : Evo H w H' (w'.drewN n) := ⟨e.cell, e.hts, e.tg⟩
theorem tag_setCell (w : World) (p : Addr) (u : Value) (b : Nat) : tag (w.setCell p u) b = tag w b := by
  by_cases e : b = p.block
  · subst e
    unfold tag World.setCell
    simp only [Array.getElem?_modify, if_true]
    cases h : w.heap[p.block]? with
    | none => rfl
    | some o =>
      cases o with
      | cells c e f =>
        obtain ⟨x, y⟩ := f
        cases x <;> cases y <;> rfl
      | _ => rfl
  · exact tag_of_heap (Below.heap_setCell _ _ _ _ e)
theorem Evo.setCell {H H' : Hts} {w w' : World} (e : Evo H w H' w') {p : Addr} (hp : H p.block = 0) (u : Value) : Evo H w H' (w'.setCell p u) :=
  ⟨fun b i v hi h => by
      have h1 := e.cell b i v hi h
      rw [World.cell?_setCell_other w' p ⟨b, i, none⟩ u (fun q => by rw [q] at hp; simp at hp; omega)]; exact h1,
    e.hts, fun b t hb h => by rw [tag_setCell]; exact e.tg b t hb h⟩
theorem Evo.grown {H H' : Hts} {w w' w'' : World} {row : Option Nat} (e : Evo H w H' w') (hg : w'.grownBy w'' row) (hr : ∀ k, row = some k → H k = 0) : Evo H w H' w'' :=
  ⟨fun b i v hi h => by
      have h1 := e.cell b i v hi h
      exact hg.cell h1 (fun q => by have := hr b q.symm; omega),
    e.hts, fun b t hb h => by
      have h1 := e.tg b t hb h
      rw [tag_of_heap (hg.block b (lt_of_tag h1) (fun q => by have := hr b q.symm; omega))]; exact h1⟩
/-- A step that turns a block that is no cells (a map, an iterator). -/
theorem Evo.grownObj {H H' : Hts} {w w' w'' : World} {r : Nat} (e : Evo H w H' w') (hg : w'.grownBy w'' (some r)) (hno : ∀ c t f, w'.heap[r]? ≠ some (.cells c t f)) : Evo H w H' w'' := by
  refine ⟨fun b i v hi h => ?_, e.hts, fun b t hb h => ?_⟩
  · have h1 := e.cell b i v hi h
    refine hg.cell h1 (fun q => ?_)
    injection q with q
    have hh := h1
    unfold World.cell? at hh
    split at hh
    · rename_i c t f he
      rw [show (⟨b, i, none⟩ : Addr).block = b from rfl] at he q
      exact hno _ _ _ (q ▸ he)
    · cases hh
  · have h1 := e.tg b t hb h
    have hne : b ≠ r := fun q => by
      have hh := h1
      unfold tag at hh
      split at hh
      · rename_i c t he
        exact hno _ _ _ (q ▸ he)
      · cases hh
    rw [tag_of_heap (hg.block b (lt_of_tag h1) (fun q => by injection q with q; exact hne q))]; exact h1
/-- Heights raised. -/
theorem Evo.raise {H H' H'' : Hts} {w w' : World} (e : Evo H w H' w') (h : ∀ b, H' b ≤ H'' b) : Evo H w H'' w' := ⟨e.cell, fun b => Nat.le_trans (e.hts b) (h b), e.tg⟩

/-! ## readings -/
structure Enc (α : Type) where
  ty : TypeId
  sz : Nat
  pos : 0 < sz
  rel : Hts → World → α → List Value → Prop
  len : ∀ {H w x cs}, rel H w x cs → cs.length = sz
  evo : ∀ {H w H' w' x cs}, Evo H w H' w' → rel H w x cs → rel H' w' x cs
  one : ∀ {H w x cs}, rel H w x cs → ∀ u ∈ cs, u.oneCell' = true

/-- The cells of a list's elements, one behind the other. -/
def Rels {α : Type} (E : Enc α) (H : Hts) (w : World) : List α → List Value → Prop
  | [], cs => cs = []
  | x :: xs, cs => ∃ c r, cs = c ++ r ∧ E.rel H w x c ∧ Rels E H w xs r

section
variable {α : Type} {E : Enc α} {H H' : Hts} {w w' : World}

theorem Rels.length : ∀ {xs : List α} {cs : List Value}, Rels E H w xs cs → cs.length = xs.length * E.sz
  | [], cs, h => by rw [show cs = [] from h]; simp
  | x :: xs, cs, h => by
    obtain ⟨c, r, rfl, hc, hr⟩ := h
    rw [List.length_append, E.len hc, hr.length, List.length_cons, Nat.succ_mul, Nat.add_comm]

theorem Rels.evo (e : Evo H w H' w') : ∀ {xs : List α} {cs : List Value}, Rels E H w xs cs → Rels E H' w' xs cs
  | [], _, h => h
  | _ :: _, _, h => by
    obtain ⟨c, r, hcs, hc, hr⟩ := h
    exact ⟨c, r, hcs, E.evo e hc, hr.evo e⟩

theorem Rels.append : ∀ {xs ys : List α} {cs ds : List Value}, Rels E H w xs cs → Rels E H w ys ds → Rels E H w (xs ++ ys) (cs ++ ds)
  | [], _, _, _, h, k => by rw [show _ = [] from h]; exact k
  | _ :: _, _, _, _, h, k => by
    obtain ⟨c, r, rfl, hc, hr⟩ := h
    exact ⟨c, r ++ _, by rw [List.append_assoc], hc, hr.append k⟩

theorem Rels.single {x : α} {cs : List Value} (h : E.rel H w x cs) : Rels E H w [x] cs := ⟨cs, [], by simp, h, rfl⟩

theorem Rels.get : ∀ {xs : List α} {cs : List Value}, Rels E H w xs cs → ∀ (i : Nat) (hi : i < xs.length),
    ∃ c, E.rel H w xs[i] c ∧ ∀ j, j < E.sz → cs[i * E.sz + j]? = c[j]?
  | [], _, _, i, hi => by simp at hi
  | x :: xs, cs, h, i, hi => by
    obtain ⟨c, r, rfl, hc, hr⟩ := h
    have hl := E.len hc
    match i with
    | 0 => exact ⟨c, hc, fun j hj => by simp; rw [List.getElem?_append_left (by omega)]⟩
    | i + 1 =>
      obtain ⟨c', hc', h'⟩ := hr.get i (by simpa using hi)
      refine ⟨c', by simpa using hc', fun j hj => ?_⟩
      rw [← h' j hj, List.getElem?_append_right (by rw [hl, Nat.succ_mul]; omega)]
      congr 1
      rw [hl, Nat.succ_mul]; omega

theorem Rels.take : ∀ {xs : List α} {cs : List Value}, Rels E H w xs cs → ∀ (n : Nat), Rels E H w (xs.take n) (cs.take (n * E.sz))
  | [], cs, h, n => by rw [show cs = [] from h]; simp [Rels]
  | x :: xs, cs, h, n => by
    obtain ⟨c, r, rfl, hc, hr⟩ := h
    have hl := E.len hc
    match n with
    | 0 => simp [Rels]
    | n + 1 =>
      refine ⟨c, r.take (n * E.sz), ?_, hc, hr.take n⟩
      rw [List.take_append, Nat.succ_mul, hl, List.take_of_length_le (by rw [hl]; omega)]
      congr 2; omega

theorem Rels.drop : ∀ {xs : List α} {cs : List Value}, Rels E H w xs cs → ∀ (n : Nat), Rels E H w (xs.drop n) (cs.drop (n * E.sz))
  | [], cs, h, n => by rw [show cs = [] from h]; simp [Rels]
  | x :: xs, cs, h, n => by
    have h0 := h
    obtain ⟨c, r, rfl, hc, hr⟩ := h
    have hl := E.len hc
    match n with
    | 0 => simpa using h0
    | n + 1 =>
      have := hr.drop n
      have e : (c ++ r).drop ((n + 1) * E.sz) = r.drop (n * E.sz) := by
        rw [List.drop_append, Nat.succ_mul, hl, List.drop_eq_nil_of_le (by rw [hl]; omega)]
        simp
      rw [e]
      simpa using this

theorem Rels.one : ∀ {xs : List α} {cs : List Value}, Rels E H w xs cs → ∀ u ∈ cs, u.oneCell' = true
  | [], cs, h, u, hu => by rw [show cs = [] from h] at hu; simp at hu
  | x :: xs, cs, h, u, hu => by
    obtain ⟨c, r, rfl, hc, hr⟩ := h
    rcases List.mem_append.1 hu with hu | hu
    · exact E.one hc u hu
    · exact hr.one u hu

/-- A slice reads as a list. -/
def Sl (E : Enc α) (H : Hts) (w : World) (xs : List α) (v : Value) : Prop :=
  ∃ a c cells, v = .slice a xs.length c ∧ xs.length ≤ c ∧ c ≤ maxLen ∧ Rels E H w xs cells ∧
    (0 < xs.length → ∃ b o, a = some ⟨b, o, none⟩ ∧ tag w b = some E.ty ∧ o + xs.length * E.sz ≤ H b ∧ ∀ j, j < xs.length * E.sz → w.cell? ⟨b, o + j, none⟩ = cells[j]?)

theorem Sl.evo {xs : List α} {v : Value} (e : Evo H w H' w') (h : Sl E H w xs v) : Sl E H' w' xs v := by
  obtain ⟨a, c, cells, hv, h1, h2, hr, hc⟩ := h
  refine ⟨a, c, cells, hv, h1, h2, hr.evo e, fun hn => ?_⟩
  obtain ⟨b, o, ha, ht, hh, hj⟩ := hc hn
  have := E.pos
  have hpos : 0 < xs.length * E.sz := Nat.mul_pos hn E.pos
  refine ⟨b, o, ha, e.tg b _ (by omega) ht, Nat.le_trans hh (e.hts b), fun j hlt => ?_⟩
  have hl := hr.length
  rw [List.getElem?_eq_getElem (by omega)]
  exact e.cell b _ _ (by omega) ((hj j hlt).trans (List.getElem?_eq_getElem (by omega)))

theorem Sl.nil : Sl E H w [] (.slice none 0 0) := ⟨none, 0, [], rfl, Nat.le_refl _, by simp [maxLen], rfl, fun h => by simp at h⟩

theorem Sl.form {xs : List α} {v : Value} (h : Sl E H w xs v) : ∃ a c, v = .slice a xs.length c ∧ xs.length ≤ c ∧ c ≤ maxLen := by
  obtain ⟨a, c, cells, hv, h1, h2, _⟩ := h
  exact ⟨a, c, hv, h1, h2⟩

theorem Sl.le {xs : List α} {a : Option Addr} {n c : Nat} (h : Sl E H w xs (.slice a n c)) : n = xs.length ∧ xs.length ≤ c ∧ c ≤ maxLen := by
  obtain ⟨a, c, cells, hv, h1, h2, _⟩ := h
  injection hv with e1 e2 e3
  subst e3
  exact ⟨e2, h1, h2⟩

theorem Sl.at_ {xs : List α} {v : Value} (h : Sl E H w xs v) (i : Nat) (hi : i < xs.length) :
    ∃ b o c cs, v = .slice (some ⟨b, o, none⟩) xs.length c ∧ xs.length ≤ c ∧ c ≤ maxLen ∧ E.rel H w xs[i] cs ∧ (o + xs.length * E.sz ≤ H b) ∧ tag w b = some E.ty ∧
      ∀ j, j < E.sz → w.cell? ⟨b, o + i * E.sz + j, none⟩ = cs[j]? := by
  obtain ⟨a, c, cells, hv, h1, h2, hr, hc⟩ := h
  obtain ⟨b, o, rfl, ht, hh, hj⟩ := hc (by omega)
  obtain ⟨cs, hcs, hg⟩ := hr.get i hi
  refine ⟨b, o, c, cs, hv, h1, h2, hcs, hh, ht, fun j hlt => ?_⟩
  have : i * E.sz + j < xs.length * E.sz := by
    have : (i + 1) * E.sz ≤ xs.length * E.sz := Nat.mul_le_mul_right _ hi
    rw [Nat.succ_mul] at this; omega
  rw [Nat.add_assoc, hj _ this, hg j hlt]

/-- A slice that the call itself owns: its block is written by it alone. -/
def Own (E : Enc α) (H : Hts) (w : World) (base : Nat) (xs : List α) (v : Value) : Prop :=
  ∃ cells, w.ownsRow base E.ty E.sz v xs.length cells ∧ Rels E H w xs cells ∧ ∀ b, v.ownBlock = some b → H b = 0

theorem Own.nil (base : Nat) : Own E H w base [] (.slice none 0 0) := ⟨[], World.ownsRow_nil _ _ _ _, rfl, fun b h => by simp [Value.ownBlock] at h⟩

theorem Own.zero {base : Nat} {xs : List α} {v : Value} (h : Own E H w base xs v) : ∀ b, v.ownBlock = some b → H b = 0 := by
  obtain ⟨_, _, _, h⟩ := h; exact h
theorem Own.ge {base : Nat} {xs : List α} {v : Value} (h : Own E H w base xs v) : ∀ b, v.ownBlock = some b → base ≤ b := by
  obtain ⟨_, h, _, _⟩ := h; exact fun b hb => (h.lt b hb).1
theorem Own.lt {base : Nat} {xs : List α} {v : Value} (h : Own E H w base xs v) : ∀ b, v.ownBlock = some b → b < w.heap.size := by
  obtain ⟨_, h, _, _⟩ := h; exact fun b hb => (h.lt b hb).2

theorem Own.form {base : Nat} {xs : List α} {v : Value} (h : Own E H w base xs v) : ∃ a c, v = .slice a xs.length c ∧ xs.length ≤ c ∧ c ≤ maxLen := by
  obtain ⟨cells, h1, _, _⟩ := h
  rcases h1.2 with ⟨rfl, h0⟩ | ⟨g, cap, cur, rfl, _, _, k1, k2, _⟩
  · exact ⟨none, 0, by rw [h0], by omega, by simp [maxLen]⟩
  · exact ⟨_, cap, rfl, k1, k2⟩

/-- Kept over a step that leaves the row alone. -/
theorem Own.keep {base : Nat} {xs : List α} {v : Value} (h : Own E H w base xs v) (e : Evo H w H' w') (hb : ∀ b, v.ownBlock = some b → w'.heap[b]? = w.heap[b]?) (hz : ∀ b, v.ownBlock = some b → H' b = 0) : Own E H' w' base xs v := by
  obtain ⟨cells, h1, h2, h3⟩ := h
  refine ⟨cells, ⟨h1.1, ?_⟩, h2.evo e, hz⟩
  rcases h1.2 with hn | ⟨g, cap, cur, rfl, hbg, hg, rest⟩
  · exact .inl hn
  · exact .inr ⟨g, cap, cur, rfl, hbg, (hb g rfl).trans hg, rest⟩

theorem Own.ext {base : Nat} {xs : List α} {v : Value} (h : Own E H w base xs v) (hf : Fit H w) (e : Ext H w H' w') : Own E H' w' base xs v :=
  h.keep (e.evo hf) (fun b hb => e.below.block b (h.lt b hb)) (fun b hb => (e.same b (h.lt b hb)).trans (h.zero b hb))
theorem Own.alloc {base : Nat} {xs : List α} {v : Value} (h : Own E H w base xs v) (o : Obj) : Own E H (w.alloc o) base xs v :=
  h.keep ((Evo.refl H w).alloc o) (fun b hb => Below.heap_alloc _ _ _ (h.lt b hb)) h.zero
theorem Own.drew {base : Nat} {xs : List α} {v : Value} (h : Own E H w base xs v) : Own E H w.drew base xs v := h.keep (Evo.refl H w).drew (fun _ _ => rfl) h.zero
theorem Own.drewN {base : Nat} {xs : List α} {v : Value} (h : Own E H w base xs v) (n : Nat) : Own E H (w.drewN n) base xs v := h.keep ((Evo.refl H w).drewN n) (fun _ _ => rfl) h.zero
theorem Own.setCell {base : Nat} {xs : List α} {v : Value} (h : Own E H w base xs v) {p : Addr} (hp : H p.block = 0) (hne : v.ownBlock ≠ some p.block) (u : Value) : Own E H (w.setCell p u) base xs v :=
  h.keep ((Evo.refl H w).setCell hp u) (fun b hb => Below.heap_setCell _ _ _ _ (fun e => hne (by rw [hb, e]))) h.zero

theorem Own.setCellLt {base : Nat} {xs : List α} {v : Value} (h : Own E H w base xs v) {p : Addr} (hp : p.block < base) (hz : H p.block = 0) (u : Value) : Own E H (w.setCell p u) base xs v :=
  h.setCell hz (fun e => by have := h.ge _ e; omega) u
theorem Own.geOf {base : Nat} {xs : List α} {v : Value} {B : Nat} (h : Own E H w base xs v) (hE : ∀ x c, E.rel H w x c → E.rel (H.ge B) w x c) : Own E (H.ge B) w base xs v := by
  obtain ⟨cells, h1, h2, h3⟩ := h
  refine ⟨cells, h1, ?_, fun b hb => by have := H.ge_le B b; have := h3 b hb; omega⟩
  clear h1
  induction xs generalizing cells with
  | nil => exact h2
  | cons x xs ih =>
    obtain ⟨c, r, rfl, hc, hr⟩ := h2
    exact ⟨c, r, rfl, hE _ _ hc, ih _ hr⟩
theorem Own.low {base base' : Nat} {xs : List α} {v : Value} (h : Own E H w base xs v) (hb : base' ≤ base) : Own E H w base' xs v := by
  obtain ⟨cells, h1, h2, h3⟩ := h
  refine ⟨cells, ⟨h1.1, ?_⟩, h2, h3⟩
  rcases h1.2 with hn | ⟨g, cap, cur, hv, hbg, rest⟩
  · exact .inl hn
  · exact .inr ⟨g, cap, cur, hv, Nat.le_trans hb hbg, rest⟩

/-- A row of another element type lies elsewhere. -/
theorem Own.ne {base : Nat} {xs : List α} {v : Value} (h : Own E H w base xs v) {g : Nat} {cs : Array Value} {t : TypeId} {fr : Nat × Nat} (hg : w.heap[g]? = some (.cells cs t fr)) (ht : t ≠ E.ty) : v.ownBlock ≠ some g := by
  obtain ⟨cells, h1, _, _⟩ := h
  rcases h1.2 with ⟨rfl, _⟩ | ⟨g', cap, cur, rfl, _, hg', _⟩
  · simp [Value.ownBlock]
  · intro e
    simp [Value.ownBlock] at e
    subst e
    rw [hg'] at hg
    injection hg with hg
    injection hg with _ e2 _
    exact ht e2.symm

/-- Behind an append. -/
theorem Own.appended {base : Nat} {xs ys : List α} {v v' : Value} {news : List Value} {cells : List Value} (_h1 : w.ownsRow base E.ty E.sz v xs.length cells) (h2 : Rels E H w xs cells) (h3 : ∀ b, v.ownBlock = some b → H b = 0)
    (hf : Fit H w) (hy : Rels E H w ys news) {g : Nat} (hv' : v'.ownBlock = some g)
    (hown : w'.ownsRow base E.ty E.sz v' (xs.length + ys.length) (cells ++ news)) (hgrow : w.grownBy w' v.ownBlock) (hat : v.ownBlock = some g ∨ g = w.heap.size) :
    Own E H w' base (xs ++ ys) v' ∧ Evo H w H w' ∧ Fit H w' := by
  have e : Evo H w H w' := (Evo.refl H w).grown hgrow h3
  refine ⟨⟨cells ++ news, by rw [List.length_append]; exact hown, (h2.append hy).evo e, fun b hb => ?_⟩, e, hf.grown hgrow⟩
  rw [hv'] at hb
  injection hb with hb
  subst hb
  rcases hat with hat | rfl
  · exact h3 g hat
  · exact hf _ (Nat.le_refl _)

/-- The heights with block g's set. -/
def Hts.set (H : Hts) (g n : Nat) : Hts := fun b => if b = g then n else H b
theorem Hts.set_other {H : Hts} {g n b : Nat} (h : b ≠ g) : H.set g n b = H b := by simp [Hts.set, h]
theorem Hts.set_self {H : Hts} {g n : Nat} : H.set g n g = n := by simp [Hts.set]

theorem Evo.pub {H H' : Hts} {w w' : World} (e : Evo H w H' w') {g : Nat} (hz : H' g = 0) (n : Nat) : Evo H w (H'.set g n) w' :=
  e.raise fun b => by
    by_cases hb : b = g
    · subst hb; rw [hz]; exact Nat.zero_le _
    · rw [Hts.set_other hb]; exact Nat.le_refl _
theorem Fit.pub {H : Hts} {w : World} (h : Fit H w) {g : Nat} (hg : g < w.heap.size) (n : Nat) : Fit (H.set g n) w := fun b hb => by
  rw [Hts.set_other (by omega)]; exact h b hb
theorem Ext.pub {H H' : Hts} {w w' : World} (a : Ext H w H' w') {g : Nat} (h0 : w.heap.size ≤ g) (hg : g < w'.heap.size) (n : Nat) : Ext H w (H'.set g n) w' :=
  a.hts (a.fit.pub hg n) fun b hb => Hts.set_other (by omega)

/-- What is owned may be given out: it is written no more. -/
theorem Own.give {base : Nat} {xs : List α} {v : Value} (h : Own E H w base xs v) (hf : Fit H w) :
    ∃ H', Evo H w H' w ∧ Fit H' w ∧ (∀ b, b < base → H' b = H b) ∧ Sl E H' w xs v := by
  obtain ⟨cells, h1, h2, h3⟩ := h
  rcases h1.2 with ⟨rfl, hn⟩ | ⟨g, cap, cur, rfl, hbg, hg, hn, hcap, hcur, htake⟩
  · have : xs = [] := List.length_eq_zero_iff.1 hn
    subst this
    exact ⟨H, Evo.refl _ _, hf, fun _ _ => rfl, Sl.nil⟩
  · have hlt : g < w.heap.size := lt_of_block hg
    have e : Evo H w (H.set g (xs.length * E.sz)) w := (Evo.refl H w).pub (h3 g rfl) _
    refine ⟨H.set g (xs.length * E.sz), e, hf.pub hlt _, fun b hb => Hts.set_other (by omega), ?_⟩
    refine ⟨some ⟨g, 0, none⟩, cap, cells, rfl, hn, hcap, h2.evo e, fun _ => ⟨g, 0, rfl, tag_cells hg, by rw [Hts.set_self]; omega, fun j hj => ?_⟩⟩
    rw [Nat.zero_add, cell_of_row w g j cur E.ty (0, 0) hg, ← htake, List.getElem?_take, if_pos hj]
    simp

/-- The cells of a slice that holds something, as the append laws ask them. -/
theorem Sl.news {xs : List α} {v : Value} (h : Sl E H w xs v) (hn : 0 < xs.length) :
    ∃ b o c cells, v = .slice (some ⟨b, o, none⟩) xs.length c ∧ xs.length ≤ c ∧ c ≤ maxLen ∧ cells.length = xs.length * E.sz ∧ Rels E H w xs cells ∧ (∀ u ∈ cells, u.oneCell' = true) ∧ b < w.heap.size ∧
      ∀ w1, Evo H w H w1 → ∀ j u, cells[j]? = some u → w1.cell? ((⟨b, o, none⟩ : Addr).add j) = some u := by
  obtain ⟨a, c, cells, hv, h1, h2, hr, hc⟩ := h
  obtain ⟨b, o, rfl, ht, hh, hj⟩ := hc hn
  refine ⟨b, o, c, cells, hv, h1, h2, hr.length, hr, hr.one, lt_of_tag ht, fun w1 ev j u hu => ?_⟩
  have hlt : j < xs.length * E.sz := by
    have := (List.getElem?_eq_some_iff.1 hu).1
    rw [hr.length] at this; exact this
  have hadd : (⟨b, o, none⟩ : Addr).add j = ⟨b, o + j, none⟩ := by unfold Addr.add; split <;> simp_all
  rw [hadd]
  exact ev.cell b _ _ (by omega) ((hj j hlt).trans hu)

theorem Evo.ge (H : Hts) (w : World) (B : Nat) : Evo (H.ge B) w H w :=
  ⟨fun _ _ _ _ h => h, fun b => H.ge_le B b, fun _ _ _ h => h⟩
theorem Sl.un {xs : List α} {v : Value} {B : Nat} (h : Sl E (H.ge B) w xs v) : Sl E H w xs v := h.evo (Evo.ge H w B)

/-- A row that has just been made, given out: it reads from new blocks alone, as far as its elements do. -/
theorem Sl.of_row {base : Nat} {xs : List α} {cells : List Value} {g cap : Nat} (h1 : w.ownsRow base E.ty E.sz (.slice (some ⟨g, 0, none⟩) xs.length cap) xs.length cells) (h2 : Rels E H w xs cells) (hh : xs.length * E.sz ≤ H g) :
    Sl E H w xs (.slice (some ⟨g, 0, none⟩) xs.length cap) := by
  rcases h1.2 with ⟨hn, _⟩ | ⟨g', cap', cur, hv, hbg, hg, hn, hcap, hcur, htake⟩
  · cases hn
  · injection hv with e1 e2 e3
    injection e1 with e1
    injection e1 with e1 _ _
    subst e1
    subst e3
    refine ⟨some ⟨g, 0, none⟩, cap, cells, rfl, hn, hcap, h2, fun _ => ⟨g, 0, rfl, tag_cells hg, by omega, fun j hj => ?_⟩⟩
    rw [Nat.zero_add, cell_of_row w g j cur E.ty (0, 0) hg, ← htake, List.getElem?_take, if_pos hj]
    simp

theorem Evo.ge2 (H : Hts) (w : World) {B B' : Nat} (h : B ≤ B') : Evo (H.ge B') w (H.ge B) w :=
  ⟨fun _ _ _ _ h => h, fun b => by unfold Hts.ge; split <;> split <;> omega, fun _ _ _ h => h⟩
theorem Evo.geMono (e : Evo H w H' w') (B : Nat) : Evo (H.ge B) w (H'.ge B) w' :=
  ⟨fun b i v hi h => e.cell b i v (Nat.lt_of_lt_of_le hi (H.ge_le B b)) h,
    fun b => by unfold Hts.ge; split; exact Nat.le_refl _; exact e.hts b,
    fun b t hp h => e.tg b t (Nat.lt_of_lt_of_le hp (H.ge_le B b)) h⟩
theorem Fit.ge (h : Fit H w) (B : Nat) : Fit (H.ge B) w := fun b hb => by have := H.ge_le B b; rw [h b hb] at this; omega

theorem Own.extGe {base : Nat} {xs : List α} {v : Value} {B : Nat} (h : Own E (H.ge B) w base xs v) (hf : Fit H w) (e : Ext H w H' w') : Own E (H'.ge B) w' base xs v :=
  h.keep ((e.evo hf).geMono B) (fun b hb => e.below.block b (h.lt b hb)) (fun b hb => by
    have h0 := h.zero b hb
    have h1 := e.same b (h.lt b hb)
    unfold Hts.ge at *
    split
    · rfl
    · rename_i hge
      rw [if_neg hge] at h0
      rw [h1]; exact h0)

/-- What the type table says of a slice type whose elements are told by E. -/
structure EncOk (P : Program) (t : TypeId) (E : Enc α) (bytes : Nat) : Prop where
  u : P.underlying t = some (.slice E.ty)
  i : (P.info? E.ty).map (fun i => (i.zero.map (fun z => z.cells.size), i.size, i.bytes)) = some (some E.sz, E.sz, bytes)
  small : bytes ≤ 4096

theorem EncOk.parts {P : Program} {t : TypeId} {bytes : Nat} (h : EncOk P t E bytes) :
    ∃ i z, P.info? E.ty = some i ∧ i.zero = some z ∧ i.size = E.sz ∧ i.bytes = bytes ∧ z.cells.size = E.sz := by
  have hi := h.i
  cases e : P.info? E.ty with
  | none => rw [e] at hi; simp at hi
  | some i =>
    rw [e] at hi
    simp only [Option.map_some, Option.some.injEq, Prod.mk.injEq, Option.map_eq_some_iff] at hi
    obtain ⟨⟨z, hz, hzs⟩, h2, h3⟩ := hi
    exact ⟨i, z, rfl, hz, h2, h3, hzs⟩

/-- append onto a slice of the call's own: at the list of a plain region's operations. -/
theorem append_law {P : Program} {ops : Array Oper} {rest : List Oper} {o : Oper} {a : Act} {Q : Exit → Act → World → Prop} (hgd : o.guard = none) (s x : Operand) (t : TypeId)
    (ho : o.op = .call { callee := .builtin .append, args := #[s, x], argTypes := #[t, t] }) {bytes : Nat} (ok : EncOk P t E bytes) (hf : Fit H w) {base : Nat} {xs ys : List α} {v : Value} (hs : a.eval s = v) (hown : Own E H w base xs v)
    {ad : Addr} {m c : Nat} {news : List Value} (hx : a.eval x = .slice (some ad) m c) (hm : m = ys.length) (hy : Rels E H w ys news) (hnews : ∀ j u, news[j]? = some u → w.cell? (ad.add j) = some u)
    (hpos : 0 < m) (hlen : xs.length + ys.length ≤ 16777216) (hb : base ≤ w.heap.size)
    (h : ∀ g cap w', Own E H w' base (xs ++ ys) (.slice (some ⟨g, 0, none⟩) (xs.length + m) cap) → Evo H w H w' → Fit H w' → w.grownBy w' v.ownBlock → (v.ownBlock = some g ∨ g = w.heap.size) → base ≤ g → g < w'.heap.size → (∀ H0 w0, w0.heap.size ≤ base → Ext H0 w0 H w → Ext H0 w0 H w') →
      wpList P ops Q rest (a.put o.dst (.slice (some ⟨g, 0, none⟩) (xs.length + m) cap)) w') : wpList P ops Q (o :: rest) a w := by
  obtain ⟨i, z, hi, hz, h1, h2, h3⟩ := ok.parts
  obtain ⟨cells, hr, hc, hzero⟩ := hown
  subst hm
  have hbd : (xs.length + ys.length) * bytes ≤ 140737488355328 := by
    have := Nat.mul_le_mul hlen ok.small
    omega
  refine wpList_append_lies w hgd s x t ho base E.ty i z E.sz bytes ok.u hi hz h1 h2 h3 E.pos v xs.length cells hs hr ad ys.length c news hx hy.length hnews hy.one hpos (by simp only [maxLen]; omega) hbd hb _ rfl ?_
  intro g cap w' hown' hgrow hat hlt
  obtain ⟨k1, k2, k3⟩ := Own.appended (v' := .slice (some ⟨g, 0, none⟩) (xs.length + ys.length) cap) hr hc hzero hf hy rfl hown' hgrow hat
  exact h g cap w' k1 k2 k3 hgrow hat (hown'.lt g rfl).1 hlt fun H0 w0 hb0 e0 => e0.grown hgrow fun k e => Nat.le_trans hb0 (hr.lt k e).1

/-- An empty row that has just been made. -/
theorem Own.made (hf : Fit H w) {base cap : Nat} (hb : base ≤ w.heap.size) {cs : Array Value} (hm : cap ≤ maxLen) (hs : cs.size = cap * E.sz) :
    Own E H (w.alloc (.cells cs E.ty)) base [] (.slice (some ⟨w.heap.size, 0, none⟩) 0 cap) :=
  ⟨[], World.ownsRow_made w cs cap hb hm hs, rfl, fun b h => by
    simp [Value.ownBlock] at h
    subst h
    exact hf _ (Nat.le_refl _)⟩

theorem Own.fresh {w0 : World} {xs : List α} {v : Value} (h : Own E H' w' w0.heap.size xs v) (e : Ext H w0 H' w') : ∃ H'', Ext H w0 H'' w' ∧ Sl E H'' w' xs v := by
  obtain ⟨H'', k1, k2, k3, k4⟩ := h.give e.fit
  exact ⟨H'', e.hts k2 k3, k4⟩

/-- The same, where all lies in new blocks. -/
theorem Own.freshGe {w0 : World} {xs : List α} {v : Value} (h : Own E (H'.ge w0.heap.size) w' w0.heap.size xs v) (e : Ext H w0 H' w') : ∃ H'', Ext H w0 H'' w' ∧ Sl E (H''.ge w0.heap.size) w' xs v := by
  obtain ⟨cells, h1, h2, h3⟩ := h
  rcases h1.2 with ⟨rfl, hn⟩ | ⟨g, cap, cur, rfl, hbg, hg, hn, hcap, hcur, htake⟩
  · have : xs = [] := List.length_eq_zero_iff.1 hn
    subst this
    exact ⟨H', e, Sl.nil⟩
  · have hlt : g < w'.heap.size := lt_of_block hg
    have hz : H' g = 0 := by have := h3 g rfl; unfold Hts.ge at this; rw [if_neg (by omega)] at this; exact this
    have e2 : Evo H' w' (H'.set g (xs.length * E.sz)) w' := (Evo.refl H' w').pub hz _
    refine ⟨H'.set g (xs.length * E.sz), e.pub hbg hlt _, Sl.of_row h1 (h2.evo (e2.geMono _)) ?_⟩
    unfold Hts.ge
    rw [if_neg (by omega), Hts.set_self]
    exact Nat.le_refl _

theorem setCells_block (b : Nat) {t : TypeId} {fr : Nat × Nat} : ∀ (vs : List Value) (o : Nat) (w : World) (cur : Array Value), w.heap[b]? = some (.cells cur t fr) → o + vs.length ≤ cur.size →
    ∃ cur', (w.setCells b o vs).heap[b]? = some (.cells cur' t fr) ∧ cur'.toList = cur.toList.take o ++ vs ++ cur.toList.drop (o + vs.length)
  | [], o, w, cur, h, hl => ⟨cur, h, by simp⟩
  | v :: r, o, w, cur, h, hl => by
    have hb : b < w.heap.size := lt_of_block h
    have h1 : (w.setCell ⟨b, o, none⟩ v).heap[b]? = some (.cells (cur.setIfInBounds o v) t fr) := by
      have h' : w.heap[b] = .cells cur t fr := by simpa [Array.getElem?_eq_getElem hb] using h
      show (w.heap.modify b _)[b]? = _
      rw [Array.getElem?_eq_getElem (by simpa using hb), Array.getElem_modify_self, h']
      rfl
    obtain ⟨cur', h2, h3⟩ := setCells_block b r (o + 1) _ _ h1 (by simp at hl ⊢; omega)
    refine ⟨cur', h2, ?_⟩
    simp only [List.length_cons] at hl ⊢
    rw [h3, Array.toList_setIfInBounds, List.drop_set, if_pos (by omega), List.take_set]
    have e1 : (cur.toList.take (o + 1)).set o v = cur.toList.take o ++ [v] := by
      apply List.ext_getElem?
      intro i
      simp only [List.getElem?_set, List.getElem?_take, List.getElem?_append, List.length_take, Array.length_toList]
      by_cases e : o = i
      · subst e; simp; rw [if_pos (by omega), if_neg (by omega)]; simp [show o - min o cur.size = 0 by omega]
      · rw [if_neg e]
        by_cases e2 : i < o
        · rw [if_pos (by omega), if_pos (by omega), if_pos e2]
        · rw [if_neg (by omega), if_neg (by omega), List.getElem?_eq_none (by simp; omega)]
    rw [e1]
    simp [show o + 1 + r.length = o + (r.length + 1) by omega]

theorem heap_setCells_ne (b : Nat) : ∀ (vs : List Value) (o : Nat) (w : World) (k : Nat), k ≠ b → (w.setCells b o vs).heap[k]? = w.heap[k]?
  | [], _, _, _, _ => rfl
  | v :: r, o, w, k, h => by
    rw [World.setCells, heap_setCells_ne b r (o + 1) _ k h, Below.heap_setCell _ _ _ _ h]

theorem size_setCells' (b : Nat) : ∀ (vs : List Value) (o : Nat) (w : World), (w.setCells b o vs).heap.size = w.heap.size
  | [], _, _ => rfl
  | v :: r, o, w => by rw [World.setCells, size_setCells' b r]; simp [World.setCell]

theorem grownBy_setCells (b : Nat) : ∀ (vs : List Value) (o : Nat) (w : World), w.grownBy (w.setCells b o vs) (some b)
  | [], _, w => World.grownBy.refl _ _
  | v :: r, o, w => by
    have h1 := grownBy_setCells b r (o + 1) (w.setCell ⟨b, o, none⟩ v)
    exact ⟨h1.os, h1.tape, h1.output, by rw [size_setCells']; exact Nat.le_refl _, fun k hk hne => heap_setCells_ne b _ _ _ _ (fun e => hne (by rw [e]))⟩

/-- A store of a whole element into an owned row. -/
theorem row_store {P : Program} {ops : Array Oper} {rest : List Oper} {op : Oper} {a : Act} {w : World} {Q : Exit → Act → World → Prop} (hgd : op.guard = none) (ty : TypeId) (x y : Operand) (ho : op.op = .store ty x y)
    {base g n cap sz e k o : Nat} {cells cs : List Value} (hown : w.ownsRow base e sz (.slice (some ⟨g, 0, none⟩) n cap) n cells) (hk : k < n) (hsz : 0 < sz)
    (hx : a.eval x = .pointer (some ⟨g, o, none⟩)) (hko : o = k * sz) (hy : a.eval y = .agg cs.toArray) (hcs : cs.length = sz) (hi : (P.info? ty).map (·.size) = some sz) (h1 : ∀ u ∈ cs, u.oneCell' = true)
    (h : ∀ w', w'.ownsRow base e sz (.slice (some ⟨g, 0, none⟩) n cap) n (cells.take (k * sz) ++ cs ++ cells.drop (k * sz + sz)) → w.grownBy w' (some g) → w'.heap.size = w.heap.size → wpList P ops Q rest (a.put op.dst undef) w') : wpList P ops Q (op :: rest) a w := by
  subst hko
  rcases hown.2 with ⟨hn, _⟩ | ⟨g', cap', cur, hv, hbg, hg, hn, hcap, hcur, htake⟩
  · cases hn
  injection hv with e1 e2 e3
  injection e1 with e1
  injection e1 with e1 _ _
  subst e1
  subst e3
  have hks : k * sz + sz ≤ n * sz := by
    have : (k + 1) * sz ≤ n * sz := Nat.mul_le_mul_right _ hk
    rw [Nat.succ_mul] at this; exact this
  have hnc : n * sz ≤ cur.size := by rw [hcur]; exact Nat.mul_le_mul_right _ hn
  obtain ⟨cur', h2, h3⟩ := setCells_block g (t := e) (fr := (0, 0)) cs (k * sz) w cur hg (by omega)
  refine wpList_store_mid hgd ty x y ho g (k * sz) cs.toArray hx hy ?_ (by simpa [hcs] using hi) (all_oneCell_toArray h1) ?_
  · intro j hj
    simp only [List.size_toArray] at hj
    exact ⟨by rw [cell_of_row w g _ cur e (0, 0) hg]; simp; omega, frozen_of_row w g _ cur e hg⟩
  · refine h _ ⟨?_, .inr ⟨g, cap, cur', rfl, hbg, h2, hn, hcap, ?_, ?_⟩⟩ (grownBy_setCells g _ _ _) (size_setCells' _ _ _ _)
    · have := hown.1
      simp only [List.length_append, List.length_take, List.length_drop]
      omega
    · rw [← Array.length_toList, h3, List.length_append, List.length_append, List.length_take, List.length_drop, Array.length_toList]
      omega
    · rw [h3, ← htake]
      simp only [List.take_append, List.length_append, List.length_take, Array.length_toList, List.take_take, List.drop_take]
      rw [show min (k * sz) cur.size = k * sz by omega]
      have a1 : min (n * sz) (k * sz) = k * sz := by omega
      have a2 : min (k * sz) (n * sz) = k * sz := by omega
      rw [a1, a2, List.take_of_length_le (l := cs) (i := n * sz - k * sz) (by omega)]
      rw [show k * sz + cs.length = k * sz + sz by omega]
end

/-- Behind a call: all that lay there reads as it did. -/
theorem Ext.cells {H H' : Hts} {W w1 : World} (e : Ext H W H' w1) :
    (∀ b o, b < W.heap.size → w1.cell? ⟨b, o, none⟩ = W.cell? ⟨b, o, none⟩) ∧ (∀ b o, b < W.heap.size → w1.frozen? ⟨b, o, none⟩ = W.frozen? ⟨b, o, none⟩) :=
  ⟨fun b o h => e.below.cell (p := ⟨b, o, none⟩) h, fun b o h => e.below.frozen (p := ⟨b, o, none⟩) h⟩

theorem Ext.blk {H H' : Hts} {W w1 : World} (e : Ext H W H' w1) {g : Nat} {o : Obj} (h : W.heap[g]? = some o) : w1.heap[g]? = some o :=
  (e.below.block g (lt_of_block h)).trans h
theorem blk_new (w : World) (o : Obj) : (w.alloc o).heap[w.heap.size]? = some o := heap_alloc_new w o
theorem blk_old {w : World} {g : Nat} {o : Obj} (h : w.heap[g]? = some o) (o' : Obj) : (w.alloc o').heap[g]? = some o := by rw [Below.heap_alloc w o' g (lt_of_block h)]; exact h
theorem blk_two (w : World) (o o' : Obj) : ((w.alloc o).alloc o').heap[w.heap.size]? = some o ∧ ((w.alloc o).alloc o').heap[w.heap.size + 1]? = some o' :=
  ⟨blk_old (blk_new w o) o', by have := blk_new (w.alloc o) o'; simpa using this⟩
theorem blk_three (w : World) (o o' o'' : Obj) : (((w.alloc o).alloc o').alloc o'').heap[w.heap.size]? = some o ∧ (((w.alloc o).alloc o').alloc o'').heap[w.heap.size + 1]? = some o' ∧ (((w.alloc o).alloc o').alloc o'').heap[w.heap.size + 1 + 1]? = some o'' :=
  ⟨blk_old (blk_two w o o').1 o'', blk_old (blk_two w o o').2 o'', by have := blk_new ((w.alloc o).alloc o') o''; simpa using this⟩
theorem blk_cell {w : World} {g : Nat} {cs : Array Value} {t : TypeId} (h : w.heap[g]? = some (.cells cs t (0, 0))) {j : Nat} {v : Value} (hj : cs[j]? = some v) : w.cell? ⟨g, j, none⟩ = some v ∧ w.frozen? ⟨g, j, none⟩ = false :=
  ⟨by rw [cell_of_row w g j cs t (0, 0) h]; exact hj, frozen_of_row w g j cs t h⟩
theorem blk1 {w : World} {g : Nat} {a : Value} {t : TypeId} (h : w.heap[g]? = some (.cells #[a] t (0, 0))) : (w.cell? ⟨g, 0, none⟩ = some a ∧ w.frozen? ⟨g, 0, none⟩ = false) := blk_cell h rfl
theorem blk2 {w : World} {g : Nat} {a b : Value} {t : TypeId} (h : w.heap[g]? = some (.cells #[a, b] t (0, 0))) : (w.cell? ⟨g, 0, none⟩ = some a ∧ w.frozen? ⟨g, 0, none⟩ = false) ∧ (w.cell? ⟨g, 1, none⟩ = some b ∧ w.frozen? ⟨g, 1, none⟩ = false) := ⟨blk_cell h rfl, blk_cell h rfl⟩
theorem blk3 {w : World} {g : Nat} {a b c : Value} {t : TypeId} (h : w.heap[g]? = some (.cells #[a, b, c] t (0, 0))) : (w.cell? ⟨g, 0, none⟩ = some a ∧ w.frozen? ⟨g, 0, none⟩ = false) ∧ (w.cell? ⟨g, 1, none⟩ = some b ∧ w.frozen? ⟨g, 1, none⟩ = false) ∧ (w.cell? ⟨g, 2, none⟩ = some c ∧ w.frozen? ⟨g, 2, none⟩ = false) := ⟨blk_cell h rfl, blk_cell h rfl, blk_cell h rfl⟩
theorem blk4 {w : World} {g : Nat} {a b c d : Value} {t : TypeId} (h : w.heap[g]? = some (.cells #[a, b, c, d] t (0, 0))) : (w.cell? ⟨g, 0, none⟩ = some a ∧ w.frozen? ⟨g, 0, none⟩ = false) ∧ (w.cell? ⟨g, 1, none⟩ = some b ∧ w.frozen? ⟨g, 1, none⟩ = false) ∧ (w.cell? ⟨g, 2, none⟩ = some c ∧ w.frozen? ⟨g, 2, none⟩ = false) ∧ (w.cell? ⟨g, 3, none⟩ = some d ∧ w.frozen? ⟨g, 3, none⟩ = false) := ⟨blk_cell h rfl, blk_cell h rfl, blk_cell h rfl, blk_cell h rfl⟩
theorem blk6 {w : World} {g : Nat} {a b c d x y : Value} {t : TypeId} (h : w.heap[g]? = some (.cells #[a, b, c, d, x, y] t (0, 0))) : (w.cell? ⟨g, 0, none⟩ = some a ∧ w.frozen? ⟨g, 0, none⟩ = false) ∧ (w.cell? ⟨g, 1, none⟩ = some b ∧ w.frozen? ⟨g, 1, none⟩ = false) ∧ (w.cell? ⟨g, 2, none⟩ = some c ∧ w.frozen? ⟨g, 2, none⟩ = false) ∧ (w.cell? ⟨g, 3, none⟩ = some d ∧ w.frozen? ⟨g, 3, none⟩ = false) ∧ (w.cell? ⟨g, 4, none⟩ = some x ∧ w.frozen? ⟨g, 4, none⟩ = false) ∧ (w.cell? ⟨g, 5, none⟩ = some y ∧ w.frozen? ⟨g, 5, none⟩ = false) := ⟨blk_cell h rfl, blk_cell h rfl, blk_cell h rfl, blk_cell h rfl, blk_cell h rfl, blk_cell h rfl⟩

/-- Between block numbers B and C the world may have turned, and new blocks may lie there; all else is as it was. -/
structure MLoc (B C : Nat) (w w' : World) : Prop where
  os : w'.os = w.os
  tape : w'.tape = w.tape
  output : w'.output = w.output
  size : w.heap.size ≤ w'.heap.size
  block : ∀ k, k < w.heap.size → (k < B ∨ C ≤ k) → w'.heap[k]? = w.heap[k]?

theorem MLoc.refl (B C : Nat) (w : World) : MLoc B C w w := ⟨rfl, rfl, rfl, Nat.le_refl _, fun _ _ _ => rfl⟩
theorem MLoc.alloc {B C : Nat} {w w' : World} (h : MLoc B C w w') (o : Obj) : MLoc B C w (w'.alloc o) :=
  ⟨h.os, h.tape, h.output, by simp; exact Nat.le_succ_of_le h.size, fun k hk hb => (Below.heap_alloc w' o k (Nat.lt_of_lt_of_le hk h.size)).trans (h.block k hk hb)⟩
theorem MLoc.drew {B C : Nat} {w w' : World} (h : MLoc B C w w') : MLoc B C w w'.drew := ⟨h.os, h.tape, h.output, h.size, h.block⟩
theorem MLoc.drewN {B C : Nat} {w w' : World} (h : MLoc B C w w') (n : Nat) : MLoc B C w (w'.drewN n) := ⟨h.os, h.tape, h.output, h.size, h.block⟩
theorem MLoc.setCell {B C : Nat} {w w' : World} (h : MLoc B C w w') {p : Addr} (h1 : B ≤ p.block) (h2 : p.block < C) (u : Value) : MLoc B C w (w'.setCell p u) :=
  ⟨h.os, h.tape, h.output, by simp [World.setCell]; exact h.size, fun k hk hb => (Below.heap_setCell w' p u k (by omega)).trans (h.block k hk hb)⟩
theorem MLoc.trans {B C : Nat} {a b c : World} (h : MLoc B C a b) (k : MLoc B C b c) : MLoc B C a c :=
  ⟨k.os.trans h.os, k.tape.trans h.tape, k.output.trans h.output, Nat.le_trans h.size k.size, fun i hi hb => (k.block i (Nat.lt_of_lt_of_le hi h.size) hb).trans (h.block i hi hb)⟩

theorem Ext.loc {H H' : Hts} {w0 w w' : World} (a : Ext H w0 H' w) {B C : Nat} (l : MLoc B C w w') (hB : w0.heap.size ≤ B) : Ext H w0 H' w' :=
  ⟨a.below.trans ⟨l.os, l.tape, l.output, l.size, fun k hk => by
      rcases Nat.lt_or_ge k w.heap.size with h | h
      · exact l.block k h (.inl (by omega))
      · have := a.below.size; omega⟩, fun b hb => a.fit b (Nat.le_trans l.size hb), a.same⟩
theorem Fit.loc {H : Hts} {w w' : World} (h : Fit H w) {B C : Nat} (l : MLoc B C w w') : Fit H w' := fun b hb => h b (Nat.le_trans l.size hb)
theorem Evo.loc {H H' : Hts} {w0 w w' : World} (e : Evo H w0 H' w) {B C : Nat} (l : MLoc B C w w') (hz : ∀ b, B ≤ b → b < C → H b = 0) : Evo H w0 H' w' :=
  ⟨fun b i v hi h => by
      have h1 := e.cell b i v hi h
      rw [World.cell?_of_block (w := w) (a := ⟨b, i, none⟩) (l.block b (lt_of_cell h1) (by
        rcases Nat.lt_or_ge b B with k | k
        · exact .inl k
        · rcases Nat.lt_or_ge b C with k2 | k2
          · rw [hz b k k2] at hi; omega
          · exact .inr k2))]; exact h1,
    e.hts, fun b t hb h => by
      have h1 := e.tg b t hb h
      rw [tag_of_heap (l.block b (lt_of_tag h1) (by
        rcases Nat.lt_or_ge b B with k | k
        · exact .inl k
        · rcases Nat.lt_or_ge b C with k2 | k2
          · rw [hz b k k2] at hb; omega
          · exact .inr k2))]; exact h1⟩
theorem Own.loc {α : Type} {E : Enc α} {H : Hts} {w w' : World} {base : Nat} {xs : List α} {v : Value} (h : Own E H w base xs v) {B C : Nat} (l : MLoc B C w w') (hz : ∀ b, B ≤ b → b < C → H b = 0) (hC : C ≤ base) : Own E H w' base xs v :=
  h.keep ((Evo.refl H w).loc l hz) (fun b hb => l.block b (h.lt b hb) (.inr (Nat.le_trans hC (h.ge b hb)))) h.zero
theorem MLoc.blk {B C : Nat} {w w' : World} (l : MLoc B C w w') {g : Nat} {o : Obj} (h : w.heap[g]? = some o) (hg : g < B ∨ C ≤ g) : w'.heap[g]? = some o := (l.block g (lt_of_block h) hg).trans h
theorem Fit.zero {H : Hts} {w : World} (h : Fit H w) {B C : Nat} (hB : w.heap.size ≤ B) : ∀ b, B ≤ b → b < C → H b = 0 := fun b hb _ => h b (Nat.le_trans hB hb)

theorem ownsRow_same {w w' : World} {base e size n : Nat} {v : Value} {xs : List Value} (h : w.ownsRow base e size v n xs) (hb : ∀ b, v.ownBlock = some b → w'.heap[b]? = w.heap[b]?) : w'.ownsRow base e size v n xs := by
  refine ⟨h.1, ?_⟩
  rcases h.2 with hn | ⟨g, cap, cur, rfl, hbg, hg, rest⟩
  · exact .inl hn
  · exact .inr ⟨g, cap, cur, rfl, hbg, (hb g rfl).trans hg, rest⟩

theorem Rels.head {α : Type} {E : Enc α} {H : Hts} {w : World} {xs : List α} {cs : List Value} {k : Nat} (h : Rels E H w (xs.drop k) cs) (hk : k < xs.length) :
    ∃ c r, cs = c ++ r ∧ E.rel H w xs[k] c ∧ Rels E H w (xs.drop (k + 1)) r := by
  rw [List.drop_eq_getElem_cons hk] at h
  exact h

theorem Rels.snoc {α : Type} {E : Enc α} {H : Hts} {w : World} {xs : List α} {cs c : List Value} {k : Nat} (h : Rels E H w (xs.take k) cs) (hk : k < xs.length) (hc : E.rel H w xs[k] c) :
    Rels E H w (xs.take (k + 1)) (cs ++ c) := by
  rw [List.take_succ_eq_append_getElem hk]
  exact h.append (Rels.single hc)

/-- An element of a slice, as loads ask it, in every later world. -/
theorem Sl.range {α : Type} {E : Enc α} {H : Hts} {w : World} {xs : List α} {v : Value} (h : Sl E H w xs v) (i : Nat) (hi : i < xs.length) :
    ∃ b o c cs, v = .slice (some ⟨b, o, none⟩) xs.length c ∧ xs.length ≤ c ∧ c ≤ maxLen ∧ E.rel H w xs[i] cs ∧ ∀ H1 w1, Evo H w H1 w1 → w1.rangeAt b (o + i * E.sz) cs := by
  obtain ⟨b, o, c, cs, hv, h1, h2, hr, hh, _, hc⟩ := h.at_ i hi
  refine ⟨b, o, c, cs, hv, h1, h2, hr, fun H1 w1 ev j u hu => ?_⟩
  have hj : j < E.sz := by have := (List.getElem?_eq_some_iff.1 hu).1; rw [E.len hr] at this; exact this
  have hlt : o + i * E.sz + j < H b := by
    have : (i + 1) * E.sz ≤ xs.length * E.sz := Nat.mul_le_mul_right _ hi
    rw [Nat.succ_mul] at this; omega
  exact ev.cell b _ u hlt ((hc j hj).trans hu)

/-- A slice over a block that is known whole. -/
theorem Sl.of_block {α : Type} {E : Enc α} {H : Hts} {w : World} {g cap : Nat} {cs : Array Value} {xs : List α} (hb : w.heap[g]? = some (.cells cs E.ty (0, 0))) (hr : Rels E H w xs cs.toList) (hH : xs.length * E.sz ≤ H g) (hc : xs.length ≤ cap) (hm : cap ≤ maxLen) :
    Sl E H w xs (.slice (some ⟨g, 0, none⟩) xs.length cap) := by
  refine ⟨some ⟨g, 0, none⟩, cap, cs.toList, rfl, hc, hm, hr, fun _ => ⟨g, 0, rfl, tag_cells hb, by omega, fun j hj => ?_⟩⟩
  rw [Nat.zero_add, cell_of_row w g j cs E.ty (0, 0) hb, Array.getElem?_toList]

/-- A block that bears a tag, whole. -/
theorem tag_block {w : World} {b : Nat} {t : TypeId} (h : tag w b = some t) : ∃ cs, w.heap[b]? = some (.cells cs t (0, 0)) := by
  unfold tag at h
  split at h
  · rename_i c t' he
    injection h with h
    subst h
    exact ⟨c, he⟩
  · cases h

/-- A slice reads as a list; of its block's type nothing is said. -/
def Si {α : Type} (E : Enc α) (H : Hts) (w : World) (xs : List α) (v : Value) : Prop :=
  ∃ a c cells, v = .slice a xs.length c ∧ xs.length ≤ c ∧ c ≤ maxLen ∧ Rels E H w xs cells ∧
    (0 < xs.length → ∃ b o, a = some ⟨b, o, none⟩ ∧ o + xs.length * E.sz ≤ H b ∧ ∀ j, j < xs.length * E.sz → w.cell? ⟨b, o + j, none⟩ = cells[j]?)
section
variable {α : Type} {E : Enc α} {H H' : Hts} {w w' : World}
theorem Sl.si {xs : List α} {v : Value} (h : Sl E H w xs v) : Si E H w xs v := by
  obtain ⟨a, c, cells, hv, h1, h2, hr, hc⟩ := h
  exact ⟨a, c, cells, hv, h1, h2, hr, fun hn => by obtain ⟨b, o, ha, _, hh, hj⟩ := hc hn; exact ⟨b, o, ha, hh, hj⟩⟩
theorem Si.form {xs : List α} {v : Value} (h : Si E H w xs v) : ∃ a c, v = .slice a xs.length c ∧ xs.length ≤ c ∧ c ≤ maxLen := by
  obtain ⟨a, c, cells, hv, h1, h2, _⟩ := h
  exact ⟨a, c, hv, h1, h2⟩
theorem Si.evo {xs : List α} {v : Value} (e : Evo H w H' w') (h : Si E H w xs v) : Si E H' w' xs v := by
  obtain ⟨a, c, cells, hv, h1, h2, hr, hc⟩ := h
  refine ⟨a, c, cells, hv, h1, h2, hr.evo e, fun hn => ?_⟩
  obtain ⟨b, o, ha, hh, hj⟩ := hc hn
  refine ⟨b, o, ha, Nat.le_trans hh (e.hts b), fun j hlt => ?_⟩
  have hl := hr.length
  rw [List.getElem?_eq_getElem (by omega)]
  exact e.cell b _ _ (by omega) ((hj j hlt).trans (List.getElem?_eq_getElem (by omega)))
theorem Si.range {xs : List α} {v : Value} (h : Si E H w xs v) (i : Nat) (hi : i < xs.length) :
    ∃ b o c cs, v = .slice (some ⟨b, o, none⟩) xs.length c ∧ xs.length ≤ c ∧ c ≤ maxLen ∧ E.rel H w xs[i] cs ∧ ∀ H1 w1, Evo H w H1 w1 → w1.rangeAt b (o + i * E.sz) cs := by
  obtain ⟨a, c, cells, hv, h1, h2, hr, hc⟩ := h
  obtain ⟨b, o, rfl, hh, hj⟩ := hc (by omega)
  obtain ⟨cs, hcs, hg⟩ := hr.get i hi
  refine ⟨b, o, c, cs, hv, h1, h2, hcs, fun H1 w1 ev j u hu => ?_⟩
  have hjs : j < E.sz := by have := (List.getElem?_eq_some_iff.1 hu).1; rw [E.len hcs] at this; exact this
  have hle : (i + 1) * E.sz ≤ xs.length * E.sz := Nat.mul_le_mul_right _ hi
  rw [Nat.succ_mul] at hle
  refine ev.cell b _ u (by omega) ?_
  rw [Nat.add_assoc, hj _ (by omega), hg j hjs]
  exact hu
theorem Si.take {xs : List α} {a : Option Addr} {n c : Nat} (h : Si E H w xs (.slice a n c)) (k : Nat) (hk : k ≤ xs.length) : Si E H w (xs.take k) (.slice a k c) := by
  obtain ⟨a', c', cells, hv, h1, h2, hr, hc⟩ := h
  injection hv with e1 e2 e3
  subst e1 e2 e3
  have hl : (xs.take k).length = k := by simp; omega
  refine ⟨a, c, cells.take (k * E.sz), by rw [hl], by omega, h2, hr.take k, fun hn => ?_⟩
  rw [hl] at hn
  obtain ⟨b, o, ha, hh, hj⟩ := hc (by omega)
  have hle : k * E.sz ≤ xs.length * E.sz := Nat.mul_le_mul_right _ hk
  refine ⟨b, o, ha, by rw [hl]; omega, fun j hlt => ?_⟩
  rw [hl] at hlt
  rw [hj j (by omega), List.getElem?_take_of_lt hlt]
end

/-- What a function hands back. -/
def Ret (R : Value → World → Prop) (e : Ending) (w : World) : Prop := ∃ v, e = .returned v ∧ R v w
theorem Ret.mk {R : Value → World → Prop} {v : Value} {w : World} (h : R v w) : Ret R (.returned v) w := ⟨v, rfl, h⟩

end Go.ML
