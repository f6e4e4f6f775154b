/-
  What is proved here: what keys.words gives, in plain Lean; what a step of the iterator keeps of the loop's state, and what a round keeps of the iterator's. No condition.
-/
import Derived.Test.YtnidmikcjkaegaaGreatDoorLetters
import Derived.Test.YtnidmikcjkaegaaGreatDoorBuilderK
import Derived.RangeFuncNested
import Derived.RangeFuncBound
import Derived.RangeFuncCalls
import Derived.RangeFuncLeaves
import Derived.RangeFuncGives
import Derived.Shelf.Abstract
import Derived.Shelf.RegionOpen
import Derived.OwnWalkIn
import Derived.TacticsInMore
import Derived.LoopNIn
import Derived.LoopIn
namespace Go.Proofs.YtnidmikcjkaegaaGreatDoor
open Go Go.RowKit Go.ML

/-- The words of folded runes, the current word being cur. -/
def wordsI : List Int → List UInt8 → List ByteArray
  | [], cur => if cur = [] then [] else [⟨cur.toArray⟩]
  | c :: cs, cur =>
    if foldR tabL c = blank then (if cur = [] then wordsI cs [] else ⟨cur.toArray⟩ :: wordsI cs [])
    else wordsI cs (cur ++ (foldR tabL c).data.toList)

def wordsOf (s : ByteArray) : List ByteArray := wordsI (runesOf s) []
def foldText (s : ByteArray) : ByteArray := ⟨(Lib.join ((wordsOf s).map (·.data.toList)) [32]).toArray⟩

theorem encode_size (c : Int) : (Utf8.encode c).size ≤ 4 := by
  unfold Utf8.encode
  simp only []
  repeat' split
  all_goals simp [ByteArray.size]

set_option maxRecDepth 100000 in
theorem tabL_small : tabL.all (fun p => decide (p.2.size ≤ 4)) = true := by decide +kernel

theorem foldR_size (c : Int) : (foldR tabL c).size ≤ 4 := by
  unfold foldR
  have hb : blank.size ≤ 4 := by decide
  have hs : sigma.size ≤ 4 := by decide
  split
  · exact encode_size _
  · split
    · exact encode_size _
    · split
      · exact hb
      · split
        · exact Nat.zero_le 4
        · cases hm : mget tabL c with
          | some x =>
            have := of_decide_eq_true (List.all_eq_true.1 tabL_small _ (mget_mem hm))
            exact this
          | none =>
            simp only []
            split
            · exact hs
            · split
              · exact encode_size _
              · split
                · exact encode_size _
                · exact hb

theorem wordsI_len : ∀ (cs : List Int) (cur : List UInt8), (wordsI cs cur).length ≤ cs.length + 1
  | [], cur => by unfold wordsI; split <;> simp
  | c :: cs, cur => by
    have h1 := wordsI_len cs []
    have h2 := wordsI_len cs (cur ++ (foldR tabL c).data.toList)
    unfold wordsI
    split
    · split <;> simp <;> omega
    · simp; omega

theorem wordsI_small : ∀ (cs : List Int) (cur : List UInt8), ∀ x ∈ wordsI cs cur, x.size ≤ cur.length + 4 * cs.length
  | [], cur => by
    unfold wordsI
    intro x hx
    split at hx
    · simp at hx
    · simp at hx; subst hx; simp [ByteArray.size]
  | c :: cs, cur => by
    intro x hx
    have hf := foldR_size c
    unfold wordsI at hx
    split at hx
    · split at hx
      · have := wordsI_small cs [] x hx; simp at this ⊢; omega
      · rcases List.mem_cons.1 hx with rfl | hx
        · simp [ByteArray.size]
        · have := wordsI_small cs [] x hx; simp at this ⊢; omega
    · have := wordsI_small cs _ x hx
      have e : (foldR tabL c).data.toList.length = (foldR tabL c).size := Array.length_toList
      rw [List.length_append, e] at this
      rw [List.length_cons]
      omega

theorem runesOf_len (s : ByteArray) : (runesOf s).length ≤ s.size := runesI_length s _ _

/-! ### What the iterator's steps keep; what a round keeps -/
def kpObj : Obj → Bool
  | .loop _ => true
  | .deferred _ => true
  | .cells _ t _ => t == 54 || t == 9
  | _ => false
def rkObj : Obj → Bool
  | .loop _ => false
  | .deferred _ => false
  | .cells _ t _ => !(t == 54 || t == 9)
  | _ => true

structure Kp (B : Nat) (W W' : World) : Prop where
  below : Below B W W'
  same : ∀ (k : Nat) (o : Obj), W.heap[k]? = some o → kpObj o = true → W'.heap[k]? = some o
def Rk (W W' : World) : Prop := W.heap.size ≤ W'.heap.size ∧ ∀ (k : Nat) (o : Obj), W.heap[k]? = some o → rkObj o = true → W'.heap[k]? = some o

theorem Rk.refl (W : World) : Rk W W := ⟨Nat.le_refl _, fun _ _ h _ => h⟩
theorem Rk.trans {a b c : World} (h : Rk a b) (k : Rk b c) : Rk a c := ⟨Nat.le_trans h.1 k.1, fun i o hi ho => k.2 i o (h.2 i o hi ho) ho⟩
theorem Kp.refl (B : Nat) (W : World) : Kp B W W := ⟨Below.refl _ _, fun _ _ h _ => h⟩
theorem Kp.trans {B : Nat} {a b c : World} (h : Kp B a b) (k : Kp B b c) : Kp B a c := ⟨h.below.trans k.below, fun i o hi ho => k.same i o (h.same i o hi ho) ho⟩
theorem Kp.of_ext {H H' : Hts} {W W' : World} {B : Nat} (hB : B ≤ W.heap.size) (e : Ext H W H' W') : Kp B W W' :=
  ⟨e.below.mono hB, fun k _ hk _ => (e.below.block k (lt_of_block hk)).trans hk⟩
theorem Kp.alloc {B : Nat} {a b : World} (h : Kp B a b) (hB : B ≤ b.heap.size) (o : Obj) : Kp B a (b.alloc o) :=
  h.trans ⟨(Below.refl _ b).alloc hB _, fun k _ hk _ => (Below.heap_alloc b o k (lt_of_block hk)).trans hk⟩
theorem Kp.drew {B : Nat} {a b : World} (h : Kp B a b) : Kp B a b.drew := ⟨h.below.drew, h.same⟩
theorem Kp.drewN {B : Nat} {a b : World} (h : Kp B a b) (n : Nat) : Kp B a (b.drewN n) := ⟨below_drewN h.below n, h.same⟩
theorem Kp.grownIt {B r : Nat} {a b c : World} {s : ByteArray} {todo : List Int} (h : Kp B a b) (hs : SIt b r s todo) (hg : b.grownBy c (some r)) (hb : Below B a c) : Kp B a c :=
  ⟨hb, fun k o hk ho => by
    have h1 := h.same k o hk ho
    refine (hg.block k (lt_of_block h1) ?_).trans h1
    intro e
    injection e with e
    subst e
    obtain ⟨p, n, hh, _⟩ := hs
    rw [hh] at h1
    cases h1
    cases ho⟩
theorem Kp.others {B b : Nat} {a w w' : World} (h : Kp B a w) (hk : Lib.OthersKept 5 (some b) w w') (hb : Below B w w') {cs : Array Value} {fr : Nat × Nat} (hbk : w.heap[b]? = some (.cells cs 127 fr)) : Kp B a w' :=
  h.trans ⟨hb, fun k o hko ho => hk k o hko (fun e => by
      injection e with e
      subst e
      rw [hbk] at hko
      cases hko
      revert ho
      simp [kpObj]) (fun c fz e => by subst e; revert ho; simp [kpObj])⟩

theorem isB_blk {B b : Nat} {bs : List Value} {w : World} (h : Lib.IsBuilderF 127 5 B b bs w) : ∃ cs fr, w.heap[b]? = some (.cells cs 127 fr) := by
  rcases h with ⟨_, v, hbk, _⟩ | ⟨_, v, hbk, _⟩
  · exact ⟨_, _, hbk⟩
  · exact ⟨_, _, hbk⟩
theorem bAt_kept {B b : Nat} {p : Value} {bs : List Value} {w w' : World} (h : Lib.BuilderAtF 127 5 B b p bs w) (hk : ∀ (k : Nat) (o : Obj), w.heap[k]? = some o → rkObj o = true → w'.heap[k]? = some o) : Lib.BuilderAtF 127 5 B b p bs w' := by
  obtain ⟨hB, v, hb, hown, hne⟩ := h
  refine ⟨hB, v, hk _ _ hb rfl, ⟨hown.1, ?_⟩, hne⟩
  rcases hown.2 with hn | ⟨g, cap, cur, fz, hv, hbg, hg, rest⟩
  · exact .inl hn
  · exact .inr ⟨g, cap, cur, fz, hv, hbg, hk _ _ hg rfl, rest⟩
theorem isB_rk {B b : Nat} {bs : List Value} {w w' : World} (h : Lib.IsBuilderF 127 5 B b bs w) (hk : Rk w w') : Lib.IsBuilderF 127 5 B b bs w' :=
  h.elim (fun x => .inl (bAt_kept x hk.2)) (fun x => .inr (bAt_kept x hk.2))
theorem Mp_rk {κ : Type} {ek : κ → Value} {w w' : World} {b : Nat} {l : List (κ × Value)} (h : Mp ek w b l) (hk : Rk w w') : Mp ek w' b l := by
  have h0 := h
  obtain ⟨es, cl, hh, _⟩ := h
  exact h0.same ((hk.2 _ _ hh rfl).trans hh.symm)
theorem SIt_rk {w w' : World} {r : Nat} {s : ByteArray} {todo : List Int} (h : SIt w r s todo) (hk : Rk w w') : SIt w' r s todo ∧ w'.iterPos r = w.iterPos r := by
  have h0 := h
  obtain ⟨p, n, hh, _⟩ := h
  have e := (hk.2 _ _ hh rfl).trans hh.symm
  exact ⟨h0.same e, iterPos_same e⟩
theorem Mp_others {κ : Type} {ek : κ → Value} {w w' : World} {b g : Nat} {l : List (κ × Value)} (h : Mp ek w g l) (hk : Lib.OthersKept 5 (some b) w w') {cs : Array Value} {fr : Nat × Nat} (hbk : w.heap[b]? = some (.cells cs 127 fr)) : Mp ek w' g l := by
  have h0 := h
  obtain ⟨es, cl, hh, _⟩ := h
  exact h0.same ((hk _ _ hh (fun e => by injection e with e; subst e; rw [hbk] at hh; cases hh) (fun _ _ e => by cases e)).trans hh.symm)
theorem SIt_others {w w' : World} {r b : Nat} {s : ByteArray} {todo : List Int} (h : SIt w r s todo) (hk : Lib.OthersKept 5 (some b) w w') {cs : Array Value} {fr : Nat × Nat} (hbk : w.heap[b]? = some (.cells cs 127 fr)) : SIt w' r s todo ∧ w'.iterPos r = w.iterPos r := by
  have h0 := h
  obtain ⟨p, n, hh, _⟩ := h
  have e := (hk _ _ hh (fun e => by injection e with e; subst e; rw [hbk] at hh; cases hh) (fun _ _ e => by cases e)).trans hh.symm
  exact ⟨h0.same e, iterPos_same e⟩
theorem isB_grownIt {B b r : Nat} {bs : List Value} {w w' : World} {s : ByteArray} {todo : List Int} (h : Lib.IsBuilderF 127 5 B b bs w) (hs : SIt w r s todo) (hg : w.grownBy w' (some r)) : Lib.IsBuilderF 127 5 B b bs w' := by
  have hh : ∀ (k : Nat) (c : Array Value) (t : TypeId) (f : Nat × Nat), w.heap[k]? = some (.cells c t f) → w'.heap[k]? = some (.cells c t f) := fun k c t f hk => by
    refine (hg.block k (lt_of_block hk) ?_).trans hk
    intro e; injection e with e; subst e
    exact hs.nocells _ _ _ hk
  have key : ∀ p, Lib.BuilderAtF 127 5 B b p bs w → Lib.BuilderAtF 127 5 B b p bs w' := by
    rintro p ⟨hB, v, hb, hown, hne⟩
    refine ⟨hB, v, hh _ _ _ _ hb, ⟨hown.1, ?_⟩, hne⟩
    rcases hown.2 with hn | ⟨g, cap, cur, fz, hv, hbg, hgg, rest⟩
    · exact .inl hn
    · exact .inr ⟨g, cap, cur, fz, hv, hbg, hh _ _ _ _ hgg, rest⟩
  exact h.elim (fun x => .inl (key _ x)) (fun x => .inr (key _ x))

theorem snext_lawIn {F : Fence} {n : Nat} {P : Program} {r : Nat} {w : World} {s : ByteArray} {todo : List Int} {ops : Array Oper} {rest : List Oper} {o : Oper} {a : Act} {Q : Exit → Act → World → Prop} (hg : o.guard = none) (it : Operand) (hop : o.op = Op.next it true) (hit : a.eval it = .pointer (some ⟨r, 0, none⟩)) (h : SIt w r s todo)
    (hDone : todo = [] → wpListIn F n P ops Q rest (a.put o.dst (.tuple #[.bool false])) w)
    (hMore : ∀ c tl v w', todo = c :: tl → 0 ≤ c → c ≤ 2147483647 → SIt w' r s tl → w.grownBy w' (some r) → w'.heap.size = w.heap.size → s.size - w'.iterPos r < s.size - w.iterPos r →
      wpListIn F n P ops Q rest (a.put o.dst (.tuple #[.bool true, v, .int .i32 c])) w') : wpListIn F n P ops Q (o :: rest) a w := by
  refine wpListIn_plain hg fun K' hK' => ?_
  obtain ⟨pos, n, h1, h2, h3⟩ := h
  unfold Oper.wpIn
  refine ⟨by simp [Oper.about, hop], ?_⟩
  rw [Oper.semAt_plain F _ _ (by rw [hop]; intro c hc'; cases hc')]
  by_cases hp : pos < s.size
  · have hrun := Lib.run_next_any_at (P := P) w r s pos o.type h1 hp
    simp [execOp, hop, hit, hrun, Result.andThen]
    obtain ⟨m, rfl⟩ : ∃ m, n = m + 1 := ⟨n - 1, by omega⟩
    have hw := width_pos s pos hp
    have hh := Lib.iterAt_heap w r s pos (pos + (Utf8.decode s pos).2) h1
    refine hK' _ _ (hMore _ (runesI s m (pos + (Utf8.decode s pos).2)) _ _ ?_ ?_ ?_ ⟨_, m, hh, by omega, rfl⟩ (grownBy_iterAt w r s _) (Lib.iterAt_size w r s _) ?_)
    · rw [h3]; simp [runesI, hp]
    · omega
    · have := decode_le s pos; omega
    · simp only [World.iterPos, hh, h1]; omega
  · have hrun := Lib.run_next_end_at (P := P) w r s pos o.type h1 hp
    simp [execOp, hop, hit, hrun, Result.andThen]
    exact hK' _ _ (hDone (by rw [h3]; exact runesI_end s n pos hp))
end Go.Proofs.YtnidmikcjkaegaaGreatDoor
