/-
  What is proved here: the contract of merge.key. Conditions: the field is small.
-/
import Derived.Test.YtnidmikcjkaegaaGreatDoorSeq2
import Derived.Test.YtnidmikcjkaegaaGreatDoorEnc
import Derived.StillTailTactics
import Derived.Outline
namespace Go.Proofs.YtnidmikcjkaegaaGreatDoor
open Go Go.RowKit Go.ML

def SmallS (s : GSub) : Prop := s.text.size ≤ 1000 ∧ 0 ≤ s.code ∧ s.code ≤ 255
def SmallF (x : GField) : Prop := x.data.size < 100 ∧ x.subs.length ≤ 1000 ∧ ∀ s ∈ x.subs, SmallS s

def keyHead (x : GField) : List UInt8 := Lib.decDigits x.data.size ++ [32] ++ x.data.data.toList
def keySub (s : GSub) : List UInt8 := [0, UInt8.ofNat s.code.toNat] ++ (foldText s.text).data.toList
def keyPre (x : GField) (k : Nat) : List UInt8 := keyHead x ++ (x.subs.take k).flatMap keySub
def keyText (x : GField) : ByteArray := ⟨(keyHead x ++ x.subs.flatMap keySub).toArray⟩

theorem foldText_small (s : ByteArray) (hs : s.size ≤ 1000) : (foldText s).size ≤ 5000000 := by
  have h1 := wordsI_len (runesOf s) []
  have h2 := wordsI_small (runesOf s) []
  have h3 := runesOf_len s
  change (wordsOf s).length ≤ _ at h1
  change ∀ x ∈ wordsOf s, _ at h2
  unfold foldText
  generalize wordsOf s = l at h1 h2
  show (Lib.join (l.map (·.data.toList)) [32]).toArray.size ≤ _
  rw [List.size_toArray]
  cases l with
  | nil => simp [Lib.join, List.intercalate]
  | cons x r =>
    have hx := h2 x (List.mem_cons_self ..)
    have hl := lens_le 4000 (r.map (·.data.toList)) (fun y hy => by
      obtain ⟨z, hz, rfl⟩ := List.mem_map.1 hy
      have := h2 z (List.mem_cons_of_mem _ hz)
      have e : z.data.toList.length = z.size := Array.length_toList
      rw [e]; simp at this; omega)
    have e : x.data.toList.length = x.size := Array.length_toList
    rw [List.map_cons, Lib.join_cons, List.length_append, Lib.joinTail_length, e]
    simp only [List.length_map, List.length_cons, List.length_nil] at *
    omega

theorem keySub_len {s : GSub} (h : SmallS s) : (keySub s).length ≤ 5000002 := by
  have := foldText_small s.text h.1
  have e : (foldText s.text).data.toList.length = (foldText s.text).size := Array.length_toList
  unfold keySub
  simp only [List.length_append, List.length_cons, List.length_nil, e]
  omega
theorem keySubs_len : ∀ (l : List GSub), (∀ s ∈ l, SmallS s) → (l.flatMap keySub).length ≤ l.length * 5000002
  | [], _ => by simp
  | s :: l, h => by
    have h1 := keySub_len (h s (List.mem_cons_self ..))
    have h2 := keySubs_len l (fun t ht => h t (List.mem_cons_of_mem _ ht))
    rw [List.flatMap_cons, List.length_append, List.length_cons, Nat.succ_mul]
    omega
theorem decDigits_small (n : Nat) (h : n < 100) : (Lib.decDigits n).length ≤ 2 := by
  have : ∀ m : Fin 100, (Lib.decDigits m.val).length ≤ 2 := by decide +kernel
  exact this ⟨n, h⟩
theorem keyHead_len {x : GField} (h : SmallF x) : (keyHead x).length ≤ 200 := by
  have h1 := decDigits_small _ h.1
  have e : x.data.data.toList.length = x.data.size := Array.length_toList
  have h2 := h.1
  unfold keyHead
  simp only [List.length_append, List.length_cons, List.length_nil, e]
  omega
theorem keyPre_len {x : GField} (h : SmallF x) (k : Nat) (hk : k ≤ x.subs.length) : (keyPre x k).length ≤ 200 + 1000 * 5000002 := by
  have h1 := keyHead_len h
  have h2 := keySubs_len (x.subs.take k) (fun s hs => h.2.2 s (List.mem_of_mem_take hs))
  have h3 : (x.subs.take k).length ≤ 1000 := by rw [List.length_take]; have := h.2.1; omega
  unfold keyPre
  rw [List.length_append]
  have : (x.subs.take k).length * 5000002 ≤ 1000 * 5000002 := Nat.mul_le_mul_right _ h3
  omega
theorem keyPre_succ {x : GField} {k : Nat} (hk : k < x.subs.length) : keyPre x (k + 1) = ((keyPre x k ++ [0]) ++ [UInt8.ofNat x.subs[k].code.toNat]) ++ (foldText x.subs[k].text).data.toList := by
  unfold keyPre
  rw [List.take_succ_eq_append_getElem hk, List.flatMap_append]
  simp [keySub]

/-! ### A builder that the call itself owns, kept by what turns nothing old -/
theorem bAt_same {B b : Nat} {p : Value} {bs : List Value} {w w' : World} (h : Lib.BuilderAtF 127 5 B b p bs w) (hs : ∀ k, k < w.heap.size → w'.heap[k]? = w.heap[k]?) : Lib.BuilderAtF 127 5 B b p bs w' := by
  obtain ⟨hB, v, hb, hown, hne⟩ := h
  refine ⟨hB, v, (hs _ (lt_of_block hb)).trans hb, ⟨hown.1, ?_⟩, hne⟩
  rcases hown.2 with hn | ⟨g, cap, cur, fz, hv, hbg, hg, rest⟩
  · exact .inl hn
  · exact .inr ⟨g, cap, cur, fz, hv, hbg, (hs _ (lt_of_block hg)).trans hg, rest⟩
theorem isBd_same {B b : Nat} {bs : List Value} {w w' : World} (h : Lib.IsBuilderF 127 5 B b bs w) (hs : ∀ k, k < w.heap.size → w'.heap[k]? = w.heap[k]?) : Lib.IsBuilderF 127 5 B b bs w' :=
  h.elim (fun x => .inl (bAt_same x hs)) (fun x => .inr (bAt_same x hs))

/-- Between two writes of merge.key. -/
structure KeyAt (w : World) (x : GField) (v : Value) (bs : List UInt8) (wr : World) : Prop where
  below : Below w.heap.size w wr
  bd : Lib.IsBuilderF 127 5 (w.heap.size + 1) (w.heap.size + 1) (Lib.byteCells bs) wr
  lt : w.heap.size + 1 < wr.heap.size
  box : wr.heap[w.heap.size]? = some (.cells #[.string x.tag, .string x.ind, .string x.data, v] 38 (0, 0))

theorem KeyAt.wrote {w : World} {x : GField} {v : Value} {bs bs' : List UInt8} {wr wr' : World} (h : KeyAt w x v bs wr) (hb : Below (w.heap.size + 1) wr wr') (h' : Lib.IsBuilderF 127 5 (w.heap.size + 1) (w.heap.size + 1) (Lib.byteCells bs') wr') : KeyAt w x v bs' wr' :=
  ⟨h.below.trans (hb.mono (by omega)), h', Nat.lt_of_lt_of_le h.lt hb.size, (hb.block _ (by omega)).trans h.box⟩
theorem KeyAt.later {w : World} {x : GField} {v : Value} {bs : List UInt8} {wr wr' : World} (h : KeyAt w x v bs wr) (hb : Below wr.heap.size wr wr') : KeyAt w x v bs wr' :=
  ⟨h.below.trans (hb.mono h.below.size), isBd_same h.bd (fun k hk => hb.block k hk), Nat.lt_of_lt_of_le h.lt hb.size, (hb.block _ (by have := h.lt; omega)).trans h.box⟩
theorem KeyAt.start (w : World) (x : GField) (v : Value) : KeyAt w x v [] ((w.alloc (.cells #[.string x.tag, .string x.ind, .string x.data, v] 38)).alloc (.cells #[.pointer none, .slice none 0 0] 127)) :=
  ⟨((Below.refl _ w).alloc (Nat.le_refl _) _).alloc (by simp) _, .inl ⟨Nat.le_refl _, _, (blk_two _ _ _).2, ⟨rfl, .inl ⟨rfl, rfl⟩⟩, by simp [Value.ownBlock]⟩, by simp, (blk_two _ _ _).1⟩
theorem KeyAt.drew {w : World} {x : GField} {v : Value} {bs : List UInt8} {wr : World} (h : KeyAt w x v bs wr) : KeyAt w x v bs wr.drew := h.later ((Below.refl _ wr).drew)
theorem KeyAt.alloc {w : World} {x : GField} {v : Value} {bs : List UInt8} {wr : World} (h : KeyAt w x v bs wr) (o : Obj) : KeyAt w x v bs (wr.alloc o) := h.later ((Below.refl _ wr).alloc (Nat.le_refl _) o)

theorem byteCells_append (a b : List UInt8) : Lib.byteCells a ++ Lib.byteCells b = Lib.byteCells (a ++ b) := by simp [Lib.byteCells]

theorem key_ws {w : World} {x : GField} {v : Value} {bs : List UInt8} {wr : World} (s : ByteArray) (h : KeyAt w x v bs wr) (hl : bs.length + s.size ≤ 100000000000) :
    Calls Tryz.prog 75 #[.pointer (some ⟨w.heap.size + 1, 0, none⟩), .string s] wr fun e w' => e = .returned (.tuple #[.int .i64 s.size, .nilIface]) ∧ KeyAt w x v (bs ++ s.data.toList) w' ∧ Lib.OthersKept 5 (some (w.heap.size + 1)) wr w' := by
  refine (bd_string_k (w.heap.size + 1) (w.heap.size + 1) (Lib.byteCells bs) s wr h.bd (Lib.hid (by rw [Lib.byteCells_length]; omega)) (Nat.le_of_lt h.lt)).mono ?_
  rintro e w' ⟨rfl, h1, h2, h3⟩
  refine ⟨rfl, h.wrote h2 ?_, h3⟩
  rw [← byteCells_append]; exact h1
theorem key_wb {w : World} {x : GField} {v : Value} {bs : List UInt8} {wr : World} (c : Int) (h : KeyAt w x v bs wr) (hl : bs.length ≤ 100000000000) (h0 : 0 ≤ c) (h1 : c ≤ 255) :
    Calls Tryz.prog 77 #[.pointer (some ⟨w.heap.size + 1, 0, none⟩), .int .u8 c] wr fun e w' => e = .returned .nilIface ∧ KeyAt w x v (bs ++ [UInt8.ofNat c.toNat]) w' ∧ Lib.OthersKept 5 (some (w.heap.size + 1)) wr w' := by
  refine (bd_byte_k (w.heap.size + 1) (w.heap.size + 1) (Lib.byteCells bs) c wr h.bd (Lib.hid (by rw [Lib.byteCells_length]; omega)) (Nat.le_of_lt h.lt)).mono ?_
  rintro e w' ⟨rfl, k1, k2, k3⟩
  refine ⟨rfl, h.wrote k2 ?_, k3⟩
  have e : [Value.int .u8 c] = Lib.byteCells [UInt8.ofNat c.toNat] := by
    have e1 : ((UInt8.ofNat c.toNat).toNat : Int) = c := by rw [UInt8.toNat_ofNat']; omega
    simp only [Lib.byteCells, List.map_cons, List.map_nil, e1]
  rw [← byteCells_append, ← e]; exact k1
theorem key_str {w : World} {x : GField} {v : Value} {bs : List UInt8} {wr : World} (h : KeyAt w x v bs wr) :
    Calls Tryz.prog 79 #[.pointer (some ⟨w.heap.size + 1, 0, none⟩)] wr fun e w' => e = .returned (.string ⟨bs.toArray⟩) ∧ Below w.heap.size w w' := by
  refine (Tryz.Builder_String_any_k (w.heap.size + 1) (w.heap.size + 1) bs wr h.bd (Nat.le_of_lt h.lt)).mono ?_
  rintro e w' ⟨rfl, _, k2, _⟩
  exact ⟨rfl, h.below.trans (k2.mono (by omega))⟩
theorem kept_blk {w w' : World} {g n : Nat} {cs : Array Value} (h : Lib.OthersKept 5 (some g) w w') (hb : w.heap[n]? = some (.cells cs 44 (0, 0))) (hn : n ≠ g) : w'.heap[n]? = some (.cells cs 44 (0, 0)) :=
  h n _ hb (fun e => hn (Option.some.inj e)) (fun _ _ e => by cases e)

theorem itoa_q (n : Nat) (h : n < 100) (w : World) : Calls Tryz.prog 76 #[.int .i64 n] w fun e w' => e = .returned (.string ⟨(Lib.decDigits n).toArray⟩) ∧ w' = w := Tryz.strconv_Itoa_small n h w

set_option maxRecDepth 10000 in
set_option maxHeartbeats 2000000 in
theorem key_spec {H : Hts} {w : World} {x : GField} {cs : List Value} (hf : Fit H w) (h : eField.rel H w x cs) (hx : Hid (SmallF x)) :
    Calls Tryz.prog 56 #[.agg cs.toArray] w fun e w' => e = .returned (.string (keyText x)) ∧ Ext H w H w' := by
  obtain ⟨v, rfl, hs⟩ := h
  obtain ⟨a, c, rfl, _, _⟩ := hs.form
  have HF := Lib.hid hf
  have HS := Lib.hid hs
  have hd := hx.out.1
  clear hf hs
  have K0 := KeyAt.start w x (.slice a x.subs.length c)
  go_enter Tryz.func56, Tryz.ntmps56
  go_wp2_with fail
  obtain ⟨W, hW⟩ : ∃ W, W = (w.alloc (.cells #[.string x.tag, .string x.ind, .string x.data, .slice a x.subs.length c] 38)).alloc (.cells #[.pointer none, .slice none 0 0] 127) := ⟨_, rfl⟩
  rw [← hW] at K0 ⊢
  have B1 := blk4 K0.box
  have HK := Lib.hid K0
  clear hW K0
  refine wp_region_still_tail 8 (by kernel_rfl) (by kernel_rfl) ?_
  simp only [List.take_succ_cons, List.take_zero, List.drop_succ_cons, List.drop_zero]
  change wpStill _ _ W.drew _ _ _
  iterate 3 still_step
  still_call (itoa_q _ hd _)
  have hd2 := decDigits_small _ hd
  have q1 : ¬ 9223372036854775807 < (Lib.decDigits x.data.size).length + 1 := by omega
  have q2 : ¬ 9223372036854775807 < (Lib.decDigits x.data.size).length + 1 + x.data.size := by omega
  iterate 4 still_step
  refine wpStill_nil ?_
  clear q1 q2
  obtain ⟨g, hg⟩ : ∃ g, g = ({ data := (Lib.decDigits x.data.size).toArray } ++ { data := #[32] } ++ x.data : ByteArray) := ⟨_, rfl⟩
  rw [← hg]
  have HG : Hid (g.data.toList = keyPre x 0 ∧ g.size ≤ 200) := by
    have e : g.data.toList = keyHead x := by rw [hg]; simp [keyHead]
    have e2 : g.data.toList.length = g.size := Array.length_toList
    refine Lib.hid ⟨by rw [e]; simp [keyPre], ?_⟩
    rw [← e2, e]; exact keyHead_len hx.out
  clear hg
  have hK2 := Lib.hid HK.out.drew
  have hwr := Lib.hid (key_ws g hK2.out (by have := HG.out.2; simp; omega))
  clear HK hK2 B1
  go_wp2_with (go_at_call 75; refine hwr.out.mono ?_; rintro e w1 ⟨rfl, k1, _⟩; have B2 := blk4 k1.box; rw [List.nil_append, HG.out.1] at k1; have HK1 := Lib.hid k1; clear k1)
  clear HG hwr B2
  go_loopw [18] (fun i wr => ∃ k : Nat, k ≤ x.subs.length ∧ i = .int .i64 k ∧ Hid (KeyAt w x (.slice a x.subs.length c) (keyPre x k) wr)) (fun i _ => x.subs.length - (intOf i).toNat)
  case atStart => exact ⟨0, Nat.zero_le _, rfl, HK1⟩
  case round =>
    clear HK1
    obtain ⟨k, hk, rfl, hm⟩ := hrel
    have hnn := hx.out.2.1
    by_cases hlt : k < x.subs.length
    · obtain ⟨b, o, c', cs, hv, _, _, hrl, hra⟩ := HS.out.range k hlt
      injection hv with e1 _ e3
      subst e1
      subst e3
      obtain rfl : cs = [.int .u8 x.subs[k].code, .string x.subs[k].text] := hrl
      have hra1 := Lib.hid (hra _ _ ((Ext.of_below HF.out hm.out.below).evo HF.out))
      have hsm := Lib.hid (hx.out.2.2 _ (List.getElem_mem hlt))
      have hpl := Lib.hid (keyPre_len hx.out k hk)
      have hnext := Lib.hid (keyPre_succ hlt)
      clear hra
      have hgk : Hid (wr.heap.size ≠ w.heap.size + 1) := Lib.hid (by have := hm.out.lt; omega)
      have k1 := hm.out.alloc (.cells #[.int .u8 x.subs[k].code, .string x.subs[k].text] 44)
      have hc1 := Lib.hid (key_ws ⟨#[0]⟩ k1 (by have := hpl.out; show _ + 1 ≤ _; omega))
      have hb0 := Lib.hid (blk_new wr (.cells #[.int .u8 x.subs[k].code, .string x.subs[k].text] 44))
      clear k1
      go_wp2_with (first
        | (refine wpList_load_mid rfl 44 (.tmp 20) rfl b (o + k * 2) rfl _ _ hra1.out Tryz.underlying44 rfl (by kernel_rfl) ?_)
        | (go_at_call 75
           refine hc1.out.mono ?_
           rintro e w1 ⟨rfl, k1, o1⟩
           have b1 := kept_blk o1 hb0.out hgk.out
           have c1 := blk2 b1
           have hc2 := Lib.hid (key_wb x.subs[k].code k1 (by rw [List.length_append]; have := hpl.out; show _ + 1 ≤ _; omega) hsm.out.2.1 hsm.out.2.2)
           have hb1 := Lib.hid b1
           clear hc1 o1 b1 k1)
        | (go_at_call 77
           refine hc2.out.mono ?_
           rintro e w2 ⟨rfl, k2, o2⟩
           have b2 := kept_blk o2 hb1.out hgk.out
           have c2 := blk2 b2
           have hf2 := Lib.hid (foldCall_spec x.subs[k].text w2 (H := fun _ => 0) (fun _ _ => rfl) (Lib.hid (by have := hsm.out.1; omega)))
           have hk2 := Lib.hid k2
           clear hc2 o2 b2 k2 c1)
        | (go_at_call 78
           refine hf2.out.mono ?_
           rintro e w3 ⟨rfl, e3⟩
           have k3 := hk2.out.later e3.below
           have hc3 := Lib.hid (key_ws (foldText x.subs[k].text) k3 (by
             have h1 := foldText_small _ hsm.out.1
             have h2 := hpl.out
             simp only [List.length_append, List.length_cons, List.length_nil] at *
             show _ + 1 + 1 + _ ≤ _
             omega))
           clear e3 k3 hf2 c2)
        | (go_at_call 75
           refine hc3.out.mono ?_
           rintro e w4 ⟨rfl, k4, _⟩
           have k5 : KeyAt w x (.slice (some ⟨b, o, none⟩) x.subs.length c) (keyPre x (k + 1)) w4 := by rw [hnext.out]; exact k4
           have hk5 := Lib.hid k5
           clear k4 k5 hc3))
      go_roundw
      case rel => exact ⟨k + 1, by omega, by go_num, hk5⟩
      case measure => simp [intOf]; omega
    · have : k = x.subs.length := by omega
      subst this
      have hend := Lib.hid (key_str hm.out)
      go_wp2_with (go_at_call 79; refine hend.out.mono ?_; rintro e w1 ⟨rfl, hb⟩)
      go_ret
      refine ⟨?_, Ext.of_below HF.out hb⟩
      unfold keyText keyPre
      rw [List.take_length]
      rfl
end Go.Proofs.YtnidmikcjkaegaaGreatDoor
