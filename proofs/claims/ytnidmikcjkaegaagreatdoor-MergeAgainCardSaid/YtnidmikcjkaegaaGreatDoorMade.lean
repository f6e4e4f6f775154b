/-
  What is proved here: the contract of the reference's Made. Conditions: 6 fields at most.
-/
import Derived.Test.YtnidmikcjkaegaaGreatDoorMod
import Derived.Test.YtnidmikcjkaegaaGreatDoorMerge
import Derived.Test.YtnidmikcjkaegaaGreatDoorLast
import Derived.Deep.RegionHeld3
import Derived.Deep.RegionLaw
import Derived.Deep.DeepCutAuto
namespace Go.Proofs.YtnidmikcjkaegaaGreatDoor
open Go Go.RowKit Go.ML

structure GQuad where
  a : Int
  b : Int
  c : Int
  d : Int
structure GIn where
  src : Int
  num : Int
  ver : Int
  fields : List GQuad

def eQuad : Enc GQuad where
  ty := 88
  sz := 4
  pos := by decide
  rel _ _ x cs := cs = [.int .i64 x.a, .int .i64 x.b, .int .i64 x.c, .int .i64 x.d]
  len h := by subst h; rfl
  evo _ h := h
  one h := by subst h; simp [Value.oneCell']

def eIn : Enc GIn where
  ty := 72
  sz := 4
  pos := by decide
  rel H w x cs := ∃ v, cs = [.int .i64 x.src, .int .i64 x.num, .int .i64 x.ver, v] ∧ Si eQuad H w x.fields v
  len h := by obtain ⟨v, rfl, _⟩ := h; rfl
  evo e h := by obtain ⟨v, hc, hs⟩ := h; exact ⟨v, hc, hs.evo e⟩
  one h := by
    obtain ⟨v, rfl, hs⟩ := h
    obtain ⟨a, c, rfl, _⟩ := hs.form
    simp [Value.oneCell']

/-! ### What Made makes -/
def inds : List ByteArray := [⟨#[49, 48]⟩, ⟨#[32, 32]⟩, ⟨#[49, 32]⟩, ⟨#[48, 48]⟩, ⟨#[48, 32]⟩, ⟨#[32, 48]⟩, ⟨#[51, 32]⟩, ⟨#[49, 50]⟩]
def indP (n : Int) : ByteArray := inds.getD (n % 8).toNat ⟨#[]⟩
theorem code_lt (n : Int) : (n % 8).toNat < (⟨#[97, 98, 99, 48, 97, 118, 120, 113]⟩ : ByteArray).size := by
  have h1 := Int.emod_lt_of_pos n (show (0 : Int) < 8 by omega)
  have h2 := Int.emod_nonneg n (show (8 : Int) ≠ 0 by omega)
  show _ < 8
  omega
def codeP (n : Int) : Int := (((⟨#[97, 98, 99, 48, 97, 118, 120, 113]⟩ : ByteArray)[(n % 8).toNat]'(code_lt n)).toNat : Int)
def subP (x : GQuad) (j : Nat) : GSub := ⟨codeP (IntKind.i64.wrap (IntKind.i64.wrap (x.c.tdiv 3) + IntKind.i64.wrap ((j : Int) * IntKind.i64.wrap (1 + x.b % 3)))), textP (IntKind.i64.wrap (x.d + IntKind.i64.wrap (3 * (j : Int))))⟩
def isCtl (t : ByteArray) : Bool := decide (1 < t.size) && ((t.extract 0 2).toList == [48, 48])
def nSubs (x : GQuad) : Nat := (1 + x.c % 3).toNat
def madeF (x : GQuad) : GField := if isCtl (tagP x.a) then ⟨tagP x.a, ⟨#[]⟩, textP x.d, []⟩ else ⟨tagP x.a, indP x.b, ⟨#[]⟩, (List.range (nSubs x)).map (subP x)⟩
def madeP (l : List GQuad) : GRecord := ⟨97, 109, l.map madeF⟩

theorem blk_store' {w : World} {b i : Nat} {cs' : Array Value} {t : TypeId} (h : w.heap[b]? = some (.cells cs' t (0, 0))) (x : Value) : (w.setCell ⟨b, i, none⟩ x).heap[b]? = some (.cells (cs'.setIfInBounds i x) t (0, 0)) := by
  obtain ⟨hlt, hk⟩ := Array.getElem?_eq_some_iff.1 h
  show (w.heap.modify b _)[b]? = _
  rw [Array.getElem?_eq_getElem (by rw [Array.size_modify]; exact hlt), Array.getElem_modify_self, hk]
  rfl
theorem blk_new_set (w : World) (p : Addr) (v : Value) (o : Obj) : ((w.setCell p v).alloc o).heap[w.heap.size]? = some o := by
  have := blk_new (w.setCell p v) o
  rwa [show (w.setCell p v).heap.size = w.heap.size by simp [World.setCell]] at this
theorem own_blk' {α : Type} {E : Enc α} {H : Hts} {w : World} {base : Nat} {xs : List α} {v : Value} (h : ML.Own E H w base xs v) {k : Nat} (hk : v.ownBlock = some k) : ∃ c fr, w.heap[k]? = some (.cells c E.ty fr) := by
  obtain ⟨cells, hr, _⟩ := h
  rcases hr.2 with ⟨rfl, _⟩ | ⟨g, cap, cur, rfl, _, hg, _⟩
  · simp [Value.ownBlock] at hk
  · simp [Value.ownBlock] at hk
    subst hk
    exact ⟨_, _, hg⟩

/-- A row given out: what else lies there. -/
theorem Own.freshGe2 {α : Type} {E : Enc α} {H' : Hts} {w0 w' : World} {xs : List α} {v : Value} (h : ML.Own E (H'.ge w0.heap.size) w' w0.heap.size xs v) {H : Hts} (e : Ext H w0 H' w') :
    ∃ H'', Ext H w0 H'' w' ∧ Sl E (H''.ge w0.heap.size) w' xs v ∧ Evo H' w' H'' w' ∧ ∀ b, v.ownBlock ≠ some b → H'' b = H' b := by
  obtain ⟨cells, h1, h2, h3⟩ := h
  rcases h1.2 with ⟨rfl, hn⟩ | ⟨g, cap, cur, rfl, hbg, hg, hn, hcap, hcur, htake⟩
  · have : xs = [] := List.length_eq_zero_iff.1 hn
    subst this
    exact ⟨H', e, Sl.nil, Evo.refl _ _, fun _ _ => rfl⟩
  · have hlt : g < w'.heap.size := lt_of_block hg
    have hz : H' g = 0 := by have := h3 g rfl; unfold Hts.ge at this; rw [if_neg (by omega)] at this; exact this
    have e2 : Evo H' w' (H'.set g (xs.length * E.sz)) w' := (Evo.refl H' w').pub hz _
    refine ⟨H'.set g (xs.length * E.sz), e.pub hbg hlt _, Sl.of_row h1 (h2.evo (e2.geMono _)) ?_, e2, fun b hb => Hts.set_other (fun q => hb (by rw [q]; rfl))⟩
    unfold Hts.ge
    rw [if_neg (by omega), Hts.set_self]
    exact Nat.le_refl _

theorem inds_at (w : World) (k : Nat) (hk : k < 8) : (w.alloc (.cells #[.string ⟨#[49, 48]⟩, .string ⟨#[32, 32]⟩, .string ⟨#[49, 32]⟩, .string ⟨#[48, 48]⟩, .string ⟨#[48, 32]⟩, .string ⟨#[32, 48]⟩, .string ⟨#[51, 32]⟩, .string ⟨#[49, 50]⟩] 9)).cell? ⟨w.heap.size, k, none⟩ = some (.string (inds.getD k ⟨#[]⟩)) := by
  rw [cell_of_row _ _ _ _ _ _ (blk_new w _), ← Array.getElem?_toList]
  show (inds.map Value.string)[k]? = _
  have hl : inds.length = 8 := rfl
  rw [List.getElem?_map, List.getD_eq_getElem?_getD, List.getElem?_eq_getElem (show k < inds.length by omega)]
  rfl

/-- What is made so far. -/
structure MadeAt (H : Hts) (w : World) (l : List GQuad) (k : Nat) (Hk : Hts) (fv : Value) (wr : World) : Prop where
  ext : Ext H w Hk wr
  rec_ : wr.heap[w.heap.size + 1]? = some (.cells #[.int .u8 97, .int .u8 109, fv] 26 (0, 0))
  own : ML.Own eField (Hk.ge w.heap.size) wr w.heap.size ((l.take k).map madeF) fv
  z : Hk (w.heap.size + 1) = 0
  res : wr.heap[w.heap.size]? = some (.cells #[.int .u8 0, .int .u8 0, .slice none 0 0] 26 (0, 0))
  z0 : Hk w.heap.size = 0

structure MadeIn (H : Hts) (w : World) (l : List GQuad) (k : Nat) (Hk : Hts) (fv : Value) (q f : Nat) (x : GQuad) (t i d : ByteArray) (j : Nat) (sv : Value) (wr : World) : Prop where
  at_ : MadeAt H w l k Hk fv wr
  sub : ML.Own eSub (Hk.ge w.heap.size) wr w.heap.size ((List.range j).map (subP x)) sv
  qb : wr.heap[q]? = some (.cells #[.int .i64 x.a, .int .i64 x.b, .int .i64 x.c, .int .i64 x.d] 88 (0, 0))
  fb : wr.heap[f]? = some (.cells #[.string t, .string i, .string d, sv] 38 (0, 0))
  ge : w.heap.size + 1 < f
  zf : Hk f = 0
  ne : fv.ownBlock ≠ some f

section
variable {H Hk : Hts} {w wr wr' : World} {l : List GQuad} {k : Nat} {fv : Value} {q f : Nat} {x : GQuad} {t i d : ByteArray} {j : Nat} {sv : Value}

theorem MadeAt.below (h : MadeAt H w l k Hk fv wr) (hb : Below wr.heap.size wr wr') : MadeAt H w l k Hk fv wr' := by
  have e := Ext.of_below h.ext.fit hb
  exact ⟨h.ext.trans e, (e.blk h.rec_), h.own.extGe h.ext.fit e, h.z, e.blk h.res, h.z0⟩
theorem MadeIn.below (h : MadeIn H w l k Hk fv q f x t i d j sv wr) (hb : Below wr.heap.size wr wr') : MadeIn H w l k Hk fv q f x t i d j sv wr' := by
  have e := Ext.of_below h.at_.ext.fit hb
  exact ⟨h.at_.below hb, h.sub.extGe h.at_.ext.fit e, e.blk h.qb, e.blk h.fb, h.ge, h.zf, h.ne⟩
theorem ge_zero {B b : Nat} (h : Hk b = 0) : Hk.ge B b = 0 := by have := Hk.ge_le B b; omega
theorem MadeAt.setCell (h : MadeAt H w l k Hk fv wr) (hf : w.heap.size + 1 < f) (hz : Hk f = 0) (hne : fv.ownBlock ≠ some f) (o : Nat) (v : Value) : MadeAt H w l k Hk fv (wr.setCell ⟨f, o, none⟩ v) :=
  ⟨h.ext.setCell (p := ⟨f, o, none⟩) (by simp; omega) v, (Below.heap_setCell wr ⟨f, o, none⟩ v _ (by simp; omega)).trans h.rec_, h.own.setCell (p := ⟨f, o, none⟩) (ge_zero hz) hne v, h.z, (Below.heap_setCell wr ⟨f, o, none⟩ v _ (by simp; omega)).trans h.res, h.z0⟩
theorem MadeAt.recG {wb : World} (h : MadeAt H w l k Hk fv wr) (hg : wr.grownBy wb fv.ownBlock) : wb.heap[w.heap.size + 1]? = some (.cells #[.int .u8 97, .int .u8 109, fv] 26 (0, 0)) :=
  (hg.block _ (lt_of_block h.rec_) (fun e => h.own.ne h.rec_ (by decide) e.symm)).trans h.rec_
theorem MadeAt.push {wb : World} {v' : Value} (h : MadeAt H w l k Hk fv wr) (hk : k < l.length) (how : ML.Own eField (Hk.ge w.heap.size) wb w.heap.size ((l.take k).map madeF ++ [madeF l[k]]) v') (hg : wr.grownBy wb fv.ownBlock) :
    MadeAt H w l (k + 1) Hk v' (wb.setCell ⟨w.heap.size + 1, 2, none⟩ v') := by
  have hrec : wb.heap[w.heap.size + 1]? = some (.cells #[.int .u8 97, .int .u8 109, fv] 26 (0, 0)) := (hg.block _ (lt_of_block h.rec_) (fun e => h.own.ne h.rec_ (by decide) e.symm)).trans h.rec_
  refine ⟨(h.ext.grown hg (fun k e => h.own.ge k e)).setCell (p := ⟨w.heap.size + 1, 2, none⟩) (by simp) v', blk_store' hrec v', ?_, h.z, (Below.heap_setCell wb ⟨w.heap.size + 1, 2, none⟩ v' _ (by simp)).trans ((hg.block _ (lt_of_block h.res) (fun e => h.own.ne h.res (by decide) e.symm)).trans h.res), h.z0⟩
  rw [List.take_succ_eq_append_getElem hk, List.map_append]
  exact how.setCell (p := ⟨w.heap.size + 1, 2, none⟩) (ge_zero h.z) (how.ne hrec (by decide)) v'
theorem MadeIn.set (h : MadeIn H w l k Hk fv q f x t i d j sv wr) (hq : q ≠ f) {o : Nat} {v : Value} {t' i' d' : ByteArray} (e : (#[Value.string t, .string i, .string d, sv] : Array Value).setIfInBounds o v = #[.string t', .string i', .string d', sv]) : MadeIn H w l k Hk fv q f x t' i' d' j sv (wr.setCell ⟨f, o, none⟩ v) := by
  refine ⟨h.at_.setCell h.ge h.zf h.ne o v, h.sub.setCell (p := ⟨f, o, none⟩) (ge_zero h.zf) (h.sub.ne h.fb (by decide)) v, (Below.heap_setCell wr ⟨f, o, none⟩ v q hq).trans h.qb, ?_, h.ge, h.zf, h.ne⟩
  rw [← e]; exact blk_store' h.fb v
theorem MadeIn.boxes {wb : World} (h : MadeIn H w l k Hk fv q f x t i d j sv wr) (hg : wr.grownBy wb sv.ownBlock) : wb.heap[q]? = some (.cells #[.int .i64 x.a, .int .i64 x.b, .int .i64 x.c, .int .i64 x.d] 88 (0, 0)) ∧ wb.heap[f]? = some (.cells #[.string t, .string i, .string d, sv] 38 (0, 0)) :=
  ⟨(hg.block _ (lt_of_block h.qb) (fun e => h.sub.ne h.qb (by decide) e.symm)).trans h.qb, (hg.block _ (lt_of_block h.fb) (fun e => h.sub.ne h.fb (by decide) e.symm)).trans h.fb⟩
theorem MadeIn.push {wb : World} {v' : Value} (h : MadeIn H w l k Hk fv q f x t i d j sv wr) (how : ML.Own eSub (Hk.ge w.heap.size) wb w.heap.size ((List.range j).map (subP x) ++ [subP x j]) v') (hg : wr.grownBy wb sv.ownBlock) :
    MadeIn H w l k Hk fv q f x t i d (j + 1) v' (wb.setCell ⟨f, 3, none⟩ v') := by
  have hfb : wb.heap[f]? = _ := (hg.block _ (lt_of_block h.fb) (fun e => h.sub.ne h.fb (by decide) e.symm)).trans h.fb
  have hqb : wb.heap[q]? = _ := (hg.block _ (lt_of_block h.qb) (fun e => h.sub.ne h.qb (by decide) e.symm)).trans h.qb
  have hqf : q ≠ f := fun e => by have h1 := h.qb; rw [e, h.fb] at h1; cases h1
  have hat : MadeAt H w l k Hk fv wb := by
    have ev : Evo (Hk.ge w.heap.size) wr (Hk.ge w.heap.size) wb := (Evo.refl _ wr).grown hg (fun k e => h.sub.zero k e)
    refine ⟨h.at_.ext.grown hg (fun k e => h.sub.ge k e), (hg.block _ (lt_of_block h.at_.rec_) (fun e => h.sub.ne h.at_.rec_ (by decide) e.symm)).trans h.at_.rec_, h.at_.own.keep ev (fun b e => hg.block b (h.at_.own.lt b e) (fun e2 => ?_)) h.at_.own.zero, h.at_.z, (hg.block _ (lt_of_block h.at_.res) (fun e => h.sub.ne h.at_.res (by decide) e.symm)).trans h.at_.res, h.at_.z0⟩
    obtain ⟨c, fr, hh⟩ := own_blk' h.at_.own e
    exact h.sub.ne hh (by decide) e2.symm
  refine ⟨hat.setCell h.ge h.zf h.ne 3 v', ?_, (Below.heap_setCell wb ⟨f, 3, none⟩ v' q hqf).trans hqb, blk_store' hfb v', h.ge, h.zf, h.ne⟩
  rw [List.range_succ, List.map_append]
  exact how.setCell (p := ⟨f, 3, none⟩) (ge_zero h.zf) (how.ne hfb (by decide)) v'
theorem MadeIn.give (h : MadeIn H w l k Hk fv q f x t i d j sv wr) : ∃ Hk', MadeAt H w l k Hk' fv wr ∧ Sl eSub (Hk'.ge w.heap.size) wr ((List.range j).map (subP x)) sv ∧ Hk' f = 0 := by
  obtain ⟨Hk', e1, s1, ev, hs⟩ := Own.freshGe2 h.sub h.at_.ext
  refine ⟨Hk', ⟨e1, h.at_.rec_, h.at_.own.keep (ev.geMono _) (fun _ _ => rfl) (fun b e => ?_), (hs _ (h.sub.ne h.at_.rec_ (by decide))).trans h.at_.z, h.at_.res, (hs _ (h.sub.ne h.at_.res (by decide))).trans h.at_.z0⟩, s1, (hs _ (h.sub.ne h.fb (by decide))).trans h.zf⟩
  obtain ⟨c, fr, hh⟩ := own_blk' h.at_.own e
  have h1 := hs b (h.sub.ne hh (by decide))
  have h2 := h.at_.own.zero b e
  unfold Hts.ge at *
  split
  · rfl
  · rename_i hge
    rw [if_neg hge] at h2
    rw [h1]; exact h2
end

set_option linter.unusedSimpArgs false in
set_option maxRecDepth 10000 in
set_option maxHeartbeats 4000000 in
theorem made_spec {H : Hts} {w : World} {l : List GQuad} {v : Value} (hf : Fit H w) (h : Si eQuad H w l v) (hn : Hid (l.length ≤ 6)) :
    Calls Tryz.prog 21 #[v] w (Ret fun v' w' => ∃ H' rv, Ext H w H' w' ∧ v' = .agg #[.int .u8 97, .int .u8 109, rv] ∧ Sl eField (H'.ge w.heap.size) w' (madeP l).fields rv) := by
  obtain ⟨a, c, rfl, _, _⟩ := h.form
  have HF := Lib.hid hf
  have HS := Lib.hid h
  clear h hf
  have h0 : Hid (∃ Hk fv, MadeAt H w l 0 Hk fv ((w.alloc (.cells #[.int .u8 0, .int .u8 0, .slice none 0 0] 26)).alloc (.cells #[.int .u8 97, .int .u8 109, .slice none 0 0] 26))) :=
    Lib.hid ⟨H, .slice none 0 0, ((Ext.refl HF.out).alloc _).alloc _, (blk_two w _ _).2, ML.Own.nil _, HF.out _ (by omega), (blk_two w _ _).1, HF.out _ (Nat.le_refl _)⟩
  go_enter Tryz.func21, Tryz.ntmps21
  go_wp2_with fail
  go_loopw [4] (fun i wr => ∃ k : Nat, k ≤ l.length ∧ i = .int .i64 k ∧ Hid (∃ Hk fv, MadeAt H w l k Hk fv wr)) (fun i _ => l.length - (intOf i).toNat)
  case atStart => exact ⟨0, Nat.zero_le _, rfl, h0⟩
  case round =>
    clear h0
    obtain ⟨k, hk, rfl, hm⟩ := hrel
    have hnn := hn.out
    by_cases hlt : k < l.length
    · obtain ⟨Hk, fv, M⟩ := hm.out
      obtain ⟨b, o, c', cs, hv, _, _, hrl, hra⟩ := HS.out.range k hlt
      injection hv with e3 _ e5
      subst e3
      subst e5
      obtain ⟨x, hx⟩ : ∃ x, x = l[k] := ⟨_, rfl⟩
      rw [← hx] at hrl
      obtain rfl : cs = [.int .i64 x.a, .int .i64 x.b, .int .i64 x.c, .int .i64 x.d] := hrl
      have hra1 := Lib.hid (hra _ _ (M.ext.evo HF.out))
      have HM := Lib.hid M
      have HX := Lib.hid hx
      have hk20 : (k : Int) < 20 := by omega
      have hwr : w.heap.size + 1 < wr.heap.size := lt_of_block M.rec_
      have hQ := blk4 (blk_new wr (.cells #[.int .i64 x.a, .int .i64 x.b, .int .i64 x.c, .int .i64 x.d] 88))
      have hQ2 := Lib.hid (blk_new wr (.cells #[.int .i64 x.a, .int .i64 x.b, .int .i64 x.c, .int .i64 x.d] 88))
      clear hra M hm hx
      cases hc : isCtl (tagP x.a) with
      | true =>
        have HC := Lib.hid hc
        have hc2 := hc
        unfold isCtl at hc2
        simp only [Bool.and_eq_true, decide_eq_true_eq] at hc2
        obtain ⟨hc3, hc4⟩ := hc2
        clear hc
        have hfx : Hid (madeF x = ⟨tagP x.a, ⟨#[]⟩, textP x.d, []⟩) := Lib.hid (by unfold madeF; rw [HC.out]; rfl)
        have hc5 : (1 : Int) < ((tagP x.a).size : Int) := by omega
        clear hc3
        --BEGIN ctl
        go_wp2_with (first
          | (refine wpList_load_mid rfl 88 (.tmp 22) rfl b (o + k * 4) rfl _ _ hra1.out Tryz.underlying88 rfl (by kernel_rfl) ?_)
          | (go_at_call 35; refine (tag_spec _ _).mono ?_; rintro e w1 ⟨rfl, hb1⟩
             have hQ1 := blk4 ((Ext.of_below (H := fun _ => 0) (fun _ _ => rfl) hb1).blk hQ2.out)
             have hz1 : wr.heap.size < w1.heap.size := by have := hb1.size; simp at this; omega
             have HB1 := Lib.hid hb1
             clear hb1)
          | (go_at_call 36; refine (text_spec _ _).mono ?_; rintro e w2 ⟨rfl, hb2⟩
             have hQ2 := blk4 ((Ext.of_below (H := fun _ => 0) (fun _ _ => rfl) hb2).blk (blk_new w1 _))
             have hz2 : w1.heap.size < w2.heap.size := by have := hb2.size; simp at this; omega
             have M4 := Lib.hid (fun o => ((((HM.out.below ((Below.refl _ wr).alloc (Nat.le_refl _) _)).below HB1.out).below ((Below.refl _ w1).alloc (Nat.le_refl _) _) |>.below hb2).setCell (f := w1.heap.size) (by omega) (HM.out.ext.fit _ (Nat.le_of_lt hz1)) (fun e => by have := HM.out.own.lt _ e; omega) 2 (.string (textP x.d))).below ((Below.refl _ _).alloc (Nat.le_refl _) o))
             have hR2 := blk3 (((HM.out.below ((Below.refl _ wr).alloc (Nat.le_refl _) _)).below HB1.out).below ((Below.refl _ w1).alloc (Nat.le_refl _) _) |>.below hb2).rec_
             have hrel3 : Hid (∀ o, Rels eField (Hk.ge w.heap.size) ((w2.setCell ⟨w1.heap.size, 2, none⟩ (.string (textP x.d))).alloc o) [madeF x] [.string (tagP x.a), .string ⟨#[]⟩, .string (textP x.d), .slice none 0 0]) := Lib.hid fun o => Rels.single (by rw [hfx.out]; exact ⟨_, rfl, Sl.nil⟩)
             have hlen3 : Hid (((l.take k).map madeF).length = k) := Lib.hid (by simp; omega)
             have hlen4 : Hid (((l.take k).map madeF).length + [madeF x].length ≤ 16777216) := Lib.hid (by simp; omega)
             clear hb2)
          | (at_builtin; refine append_law (H := Hk.ge w.heap.size) (E := eField) rfl _ _ _ rfl okField ((M4.out _).ext.fit.ge _) (xs := (l.take k).map madeF) (ys := [madeF x]) rfl (base := w.heap.size) (M4.out _).own rfl rfl (hrel3.out _) (World.news_of_block (blk_new_set w2 _ _ _)) (by decide) hlen4.out (M4.out _).ext.below.size ?_; intro gt capt wc k1 k2 k3 k4 k5 k6 k7 k8
             have HR := blk3 ((M4.out _).recG k4)
             rw [hlen3.out] at k1
             have HP := Lib.hid ((M4.out _).push hlt (by rw [← HX.out]; exact k1) k4)
             clear k1 k2 k3 k4 k5 k6 k7 k8))
        exact ⟨⟨k + 1, by omega, by go_num, Lib.hid ⟨_, _, HP.out⟩⟩, by simp [intOf]; omega⟩
        --END ctl
      | false =>
        have HC := Lib.hid hc
        have hfx : Hid (madeF x = ⟨tagP x.a, indP x.b, ⟨#[]⟩, (List.range (nSubs x)).map (subP x)⟩) := Lib.hid (by unfold madeF; rw [HC.out]; rfl)
        obtain ⟨n3, hn3⟩ : ∃ n : Nat, x.c % 3 = n := ⟨(x.c % 3).toNat, by have := Int.emod_nonneg x.c (show (3 : Int) ≠ 0 by omega); omega⟩
        obtain ⟨n8, hn8⟩ : ∃ n : Nat, x.b % 8 = n := ⟨(x.b % 8).toNat, by have := Int.emod_nonneg x.b (show (8 : Int) ≠ 0 by omega); omega⟩
        have hn3lt : n3 < 3 := by have := Int.emod_lt_of_pos x.c (show (0 : Int) < 3 by omega); omega
        have hn8lt : n8 < 8 := by have := Int.emod_lt_of_pos x.b (show (0 : Int) < 8 by omega); omega
        have HN3 := Lib.hid hn3
        have HN8 := Lib.hid hn8
        have hnS : Hid (nSubs x = 1 + n3) := Lib.hid (by unfold nSubs; rw [hn3]; omega)
        have hiP : Hid (indP x.b = inds.getD n8 ⟨#[]⟩) := Lib.hid (by unfold indP; rw [hn8]; rfl)
        have h81 : (n8 : Int) < 8 := by omega
        have h82 : (0 : Int) ≤ n8 := by omega
        clear hn3 hn8
        have hq : Hid ((1 < (tagP x.a).size ∧ (((tagP x.a).extract 0 2).toList == [48, 48]) = false) ∨ (tagP x.a).size ≤ 1) := Lib.hid (by
          unfold isCtl at hc
          rcases Nat.lt_or_ge 1 (tagP x.a).size with h1 | h1
          · left; refine ⟨h1, ?_⟩; simpa [h1] using hc
          · right; exact h1)
        clear hc
        rcases hq.out with ⟨hc3, hc4⟩ | hc3
        all_goals (
          first
            | have hc5 : (1 : Int) < ((tagP x.a).size : Int) := by omega
            | have hc5 : ((tagP x.a).size : Int) ≤ 1 := by omega
          clear hc3
          go_wp2_with (first
            | (refine wpList_load_mid rfl 88 (.tmp 22) rfl b (o + k * 4) rfl _ _ hra1.out Tryz.underlying88 rfl (by kernel_rfl) ?_)
            | (go_at_call 35; refine (tag_spec _ _).mono ?_; rintro e w1 ⟨rfl, hb1⟩
               have hQ1 := blk4 ((Ext.of_below (H := fun _ => 0) (fun _ _ => rfl) hb1).blk hQ2.out)
               have hQ1b := Lib.hid ((Ext.of_below (H := fun _ => 0) (fun _ _ => rfl) hb1).blk hQ2.out)
               have hz1 : wr.heap.size < w1.heap.size := by have := hb1.size; simp at this; omega
               have HB1 := Lib.hid hb1
               have hii := inds_at (w1.alloc (.cells #[.string (tagP x.a), .string ⟨#[]⟩, .string ⟨#[]⟩, .slice none 0 0] 38)) n8 hn8lt
               simp only [World.size_alloc] at hii
               have hia : inds.getD n8 ⟨#[]⟩ = indP x.b := hiP.out.symm
               rw [hia] at hii
               clear hb1 hia)
            | (go_at_call 22; (with_reducible refine (mod_spec x.b 8 _ (by decide) (by decide)).mono ?_); rintro e w' ⟨rfl, rfl⟩; rw [HN8.out])
            | (go_at_call 22; (with_reducible refine (mod_spec x.c 3 _ (by decide) (by decide)).mono ?_); rintro e w' ⟨rfl, rfl⟩; rw [HN3.out]))
          have hI0 := Lib.hid ((⟨((HM.out.below ((Below.refl _ wr).alloc (Nat.le_refl _) _)).below HB1.out).below ((Below.refl _ w1).alloc (Nat.le_refl _) _), ML.Own.nil _, blk_old hQ1b.out _, blk_new w1 _, by omega, HM.out.ext.fit _ (Nat.le_of_lt hz1), fun e => by have := HM.out.own.lt _ e; omega⟩ : MadeIn H w l k Hk fv wr.heap.size w1.heap.size x (tagP x.a) (indP x.b) ⟨#[]⟩ 0 (.slice none 0 0) (w1.alloc (.cells #[.string (tagP x.a), .string (indP x.b), .string ⟨#[]⟩, .slice none 0 0] 38))).below ((Below.refl _ _).alloc (Nat.le_refl _) (.cells #[.string ⟨#[49, 48]⟩, .string ⟨#[32, 32]⟩, .string ⟨#[49, 32]⟩, .string ⟨#[48, 48]⟩, .string ⟨#[48, 32]⟩, .string ⟨#[32, 48]⟩, .string ⟨#[51, 32]⟩, .string ⟨#[49, 50]⟩] 9)))
          have hqf : wr.heap.size ≠ w1.heap.size := by omega
          have hzh := Lib.hid hz1
          clear hz1
          generalize wr.heap.size = qb at *
          generalize w1.heap.size = fb at *
          clear hii hQ1 hQ1b HB1 hQ hQ2
          go_loopw [8] (fun i wi => ∃ j : Nat, j ≤ 1 + n3 ∧ i = .int .i64 j ∧ Hid (∃ sv, MadeIn H w l k Hk fv qb fb x (tagP x.a) (indP x.b) ⟨#[]⟩ j sv wi)) (fun i _ => 1 + n3 - (intOf i).toNat)
          case atStart => exact ⟨0, Nat.zero_le _, rfl, Lib.hid ⟨_, hI0.out⟩⟩
          case round =>
            clear hI0
            obtain ⟨j, hj, rfl, hm⟩ := hrel
            by_cases hjl : j < 1 + n3
            · obtain ⟨sv, I⟩ := hm.out
              have BQ := blk4 I.qb
              have BF := blk4 I.fb
              have HI := Lib.hid I
              clear I hm
              go_upto_region 15 with fail
              have HSo : Hid (∀ w', Below wr.heap.size wr w' → ((w'.cell? ⟨fb, 3, none⟩ = some sv) ∧ w'.cell? ⟨qb, 1, none⟩ = some (.int .i64 x.b) ∧ w'.cell? ⟨qb, 2, none⟩ = some (.int .i64 x.c) ∧ w'.cell? ⟨qb, 3, none⟩ = some (.int .i64 x.d))) := Lib.hid (fun w' hb => by
                have I' := HI.out.below hb
                have B1 := blk4 I'.qb
                have B2 := blk4 I'.fb
                exact ⟨B2.2.2.2.1, B1.2.1.1, B1.2.2.1.1, B1.2.2.2.1⟩)
              obtain ⟨ss, hss⟩ : ∃ ss, ss = (List.range j).map (subP x) := ⟨_, rfl⟩
              have hls : Hid (ss.length + [subP x j].length ≤ 16777216) := Lib.hid (by rw [hss]; simp; omega)
              have HSS := Lib.hid hss
              clear hss
              have h8a : ∀ n : Int, 0 ≤ n % 8 := fun n => Int.emod_nonneg n (by decide)
              have h8b : ∀ n : Int, n % 8 < 8 := fun n => Int.emod_lt_of_pos n (by decide)
              have HB0 : Hid (Below wr.heap.size wr wr.drew) := Lib.hid (Below.refl _ wr).drew
              refine wp_region_noPanic ?_
              refine wp_region_last (S := fun w' => (w'.cell? ⟨fb, 3, none⟩ = some sv) ∧ w'.cell? ⟨qb, 1, none⟩ = some (.int .i64 x.b) ∧ w'.cell? ⟨qb, 2, none⟩ = some (.int .i64 x.c) ∧ w'.cell? ⟨qb, 3, none⟩ = some (.int .i64 x.d)) (by kernel_rfl) (by simp) (by kernel_rfl) (HSo.out _ HB0.out) (fun hHeld => ?_)
              simp only [setLast, lastOf, dummy]
              refine wpAnyH_take (i := 0) (v := ?_) rfl (by kernel_rfl) (by kernel_rfl) (by kernel_rfl) (fun _ _ _ h => h) (Or.inl ⟨by rfl, ?_⟩) (by assumption) ?_
              rotate_left 1
              · (intro w hSw; (try dsimp only at hSw); go_simp; (try with_reducible rfl))
              try simp only [Act.put, List.setIfInBounds_toArray, List.set_cons_zero, List.set_cons_succ]
              refine wpAnyH_take (i := 1) (v := ?_) rfl (by kernel_rfl) (by kernel_rfl) (by kernel_rfl) (fun _ _ _ h => h) (Or.inl ⟨by rfl, ?_⟩) (by assumption) ?_
              rotate_left 1
              · (intro w hSw; (try dsimp only at hSw); go_simp; (try with_reducible rfl))
              try simp only [Act.put, List.setIfInBounds_toArray, List.set_cons_zero, List.set_cons_succ]
              refine wpAnyH_take (i := 2) (v := ?_) rfl (by kernel_rfl) (by kernel_rfl) (by kernel_rfl) (fun _ _ _ h => h) (Or.inl ⟨by rfl, ?_⟩) (by assumption) ?_
              rotate_left 1
              · (intro w hSw; (try dsimp only at hSw); go_simp; (try with_reducible rfl))
              try simp only [Act.put, List.setIfInBounds_toArray, List.set_cons_zero, List.set_cons_succ]
              refine wpAnyH_take (i := 3) (v := ?_) rfl (by kernel_rfl) (by kernel_rfl) (by kernel_rfl) (fun _ _ _ h => h) (Or.inl ⟨by rfl, ?_⟩) (by assumption) ?_
              rotate_left 1
              · (intro w hSw; (try dsimp only at hSw); go_simp; (try with_reducible rfl))
              try simp only [Act.put, List.setIfInBounds_toArray, List.set_cons_zero, List.set_cons_succ]
              refine wpAnyH_take (i := 4) (v := ?_) rfl (by kernel_rfl) (by kernel_rfl) (by kernel_rfl) (fun _ _ _ h => h) (Or.inl ⟨by rfl, ?_⟩) (by assumption) ?_
              rotate_left 1
              · (intro w hSw; (try dsimp only at hSw); go_simp; (try with_reducible rfl))
              try simp only [Act.put, List.setIfInBounds_toArray, List.set_cons_zero, List.set_cons_succ]
              refine wpAnyH_take (i := 5) (v := ?_) rfl (by kernel_rfl) (by kernel_rfl) (by kernel_rfl) (fun _ _ _ h => h) (Or.inl ⟨by rfl, ?_⟩) (by assumption) ?_
              rotate_left 1
              · (intro w hSw; (try dsimp only at hSw); go_simp; (try with_reducible rfl))
              try simp only [Act.put, List.setIfInBounds_toArray, List.set_cons_zero, List.set_cons_succ]
              refine wpAnyH_take (i := 6) (v := ?_) rfl (by kernel_rfl) (by kernel_rfl) (by kernel_rfl) (fun _ _ _ h => h) (Or.inl ⟨by rfl, ?_⟩) (by assumption) ?_
              rotate_left 1
              · (intro w hSw; (try dsimp only at hSw); go_simp; (try with_reducible rfl))
              try simp only [Act.put, List.setIfInBounds_toArray, List.set_cons_zero, List.set_cons_succ]
              refine wpAnyH_take (i := 7) (v := ?_) rfl (by kernel_rfl) (by kernel_rfl) (by kernel_rfl) (fun _ _ _ h => h) (Or.inl ⟨by rfl, ?_⟩) (by assumption) ?_
              rotate_left 1
              · (intro w hSw; (try dsimp only at hSw); go_simp; (try with_reducible rfl))
              try simp only [Act.put, List.setIfInBounds_toArray, List.set_cons_zero, List.set_cons_succ]
              refine wpAnyH_take (i := 14) (v := ?_) rfl (by kernel_rfl) (by kernel_rfl) (by kernel_rfl) (fun _ _ _ h => h) (Or.inl ⟨by rfl, ?_⟩) (by assumption) ?_
              rotate_left 1
              · (intro w hSw; (try dsimp only at hSw); go_simp; (try with_reducible rfl))
              try simp only [Act.put, List.setIfInBounds_toArray, List.set_cons_zero, List.set_cons_succ]
              refine wpAnyH_take (i := 15) (v := ?_) rfl (by kernel_rfl) (by kernel_rfl) (by kernel_rfl) (fun _ _ _ h => h) (Or.inl ⟨by rfl, ?_⟩) (by assumption) ?_
              rotate_left 1
              · (intro w hSw; (try dsimp only at hSw); go_simp; (try with_reducible rfl))
              try simp only [Act.put, List.setIfInBounds_toArray, List.set_cons_zero, List.set_cons_succ]
              refine wpAnyH_take (i := 16) (v := ?_) rfl (by kernel_rfl) (by kernel_rfl) (by kernel_rfl) (fun _ _ _ h => h) (Or.inl ⟨by rfl, ?_⟩) (by assumption) ?_
              rotate_left 1
              · (intro w hSw; (try dsimp only at hSw); go_simp; (try with_reducible rfl))
              try simp only [Act.put, List.setIfInBounds_toArray, List.set_cons_zero, List.set_cons_succ]
              refine wpAnyH_take (i := 17) (v := ?_) rfl (by kernel_rfl) (by kernel_rfl) (by kernel_rfl) (fun _ _ _ h => h) (Or.inl ⟨by rfl, ?_⟩) (by assumption) ?_
              rotate_left 1
              · (intro w hSw; (try dsimp only at hSw); go_simp; (try with_reducible rfl))
              try simp only [Act.put, List.setIfInBounds_toArray, List.set_cons_zero, List.set_cons_succ]
              refine wpAnyH_take (i := 18) (v := ?_) rfl (by kernel_rfl) (by kernel_rfl) (by kernel_rfl) (fun _ _ _ h => h) (Or.inl ⟨by rfl, ?_⟩) (by assumption) ?_
              rotate_left 1
              · (intro w hSw; (try dsimp only at hSw); go_simp; (try with_reducible rfl))
              try simp only [Act.put, List.setIfInBounds_toArray, List.set_cons_zero, List.set_cons_succ]
              refine wpAnyH_ready (rs := [8]) (by kernel_rfl) (by simp) ?_
              refine AllReadyH.cons rfl (fun K hK => ?_) AllReadyH.nil
              go_simp
              go_at_call 22
              (with_reducible refine (mod_spec _ 3 _ (by decide) (by decide)).mono ?_)
              rintro e w' ⟨rfl, rfl⟩
              refine hK.out _ _ (HSo.out _ HB0.out) (fun hHeld => ?_)
              clear hK K
              try simp only [Act.put, List.setIfInBounds_toArray, List.set_cons_zero, List.set_cons_succ]
              refine wpAnyH_take (i := 9) (v := ?_) rfl (by kernel_rfl) (by kernel_rfl) (by kernel_rfl) (fun _ _ _ h => h) (Or.inl ⟨by rfl, ?_⟩) (by assumption) ?_
              rotate_left 1
              · (intro w hSw; (try dsimp only at hSw); go_simp; (try with_reducible rfl))
              try simp only [Act.put, List.setIfInBounds_toArray, List.set_cons_zero, List.set_cons_succ]
              refine wpAnyH_take (i := 10) (v := ?_) rfl (by kernel_rfl) (by kernel_rfl) (by kernel_rfl) (fun _ _ _ h => h) (Or.inl ⟨by rfl, ?_⟩) (by assumption) ?_
              rotate_left 1
              · (intro w hSw; (try dsimp only at hSw); go_simp; (try with_reducible rfl))
              try simp only [Act.put, List.setIfInBounds_toArray, List.set_cons_zero, List.set_cons_succ]
              refine wpAnyH_take (i := 11) (v := ?_) rfl (by kernel_rfl) (by kernel_rfl) (by kernel_rfl) (fun _ _ _ h => h) (Or.inl ⟨by rfl, ?_⟩) (by assumption) ?_
              rotate_left 1
              · (intro w hSw; (try dsimp only at hSw); go_simp; (try with_reducible rfl))
              try simp only [Act.put, List.setIfInBounds_toArray, List.set_cons_zero, List.set_cons_succ]
              refine wpAnyH_ready (rs := [12]) (by kernel_rfl) (by simp) ?_
              refine AllReadyH.cons rfl (fun K hK => ?_) AllReadyH.nil
              go_simp
              go_at_call 22
              (with_reducible refine (mod_spec _ 8 _ (by decide) (by decide)).mono ?_)
              rintro e w' ⟨rfl, rfl⟩
              refine hK.out _ _ (HSo.out _ HB0.out) (fun hHeld => ?_)
              clear hK K
              try simp only [Act.put, List.setIfInBounds_toArray, List.set_cons_zero, List.set_cons_succ]
              refine wpAnyH_take (i := 13) (v := ?_) rfl (by kernel_rfl) (by kernel_rfl) (by kernel_rfl) (fun _ _ _ h => h) (Or.inl ⟨by rfl, ?_⟩) (by assumption) ?_
              rotate_left 1
              · (intro w hSw; (try dsimp only at hSw); go_simp; (try with_reducible rfl))
              try simp only [Act.put, List.setIfInBounds_toArray, List.set_cons_zero, List.set_cons_succ]
              refine wpAnyH_ready (rs := [19]) (by kernel_rfl) (by simp) ?_
              refine AllReadyH.cons rfl (fun K hK => ?_) AllReadyH.nil
              go_simp
              go_at_call 36
              (with_reducible refine (text_spec _ _).mono ?_)
              rintro e wt ⟨rfl, hbt⟩
              have HBt := Lib.hid (show Below wr.heap.size wr wt from (Below.refl wr.heap.size wr).drew.trans hbt)
              have hA : Hid (∀ o, Fit (Hk.ge w.heap.size) (wt.alloc o) ∧ ML.Own eSub (Hk.ge w.heap.size) (wt.alloc o) w.heap.size ss sv ∧ w.heap.size ≤ (wt.alloc o).heap.size ∧ Rels eSub (Hk.ge w.heap.size) (wt.alloc o) [subP x j] [.int .u8 (subP x j).code, .string (subP x j).text]) := Lib.hid (fun o => by
                have I' := HI.out.below (HBt.out.alloc HBt.out.size o)
                exact ⟨I'.at_.ext.fit.ge _, by rw [HSS.out]; exact I'.sub, I'.at_.ext.below.size, Rels.single rfl⟩)
              clear hbt
              refine hK.out _ _ (HSo.out _ HBt.out) (fun hHeld => ?_)
              clear hK K
              try simp only [Act.put, List.setIfInBounds_toArray, List.set_cons_zero, List.set_cons_succ]
              refine wpAnyH_take (i := 20) (v := ?_) rfl (by kernel_rfl) (by kernel_rfl) (by kernel_rfl) (fun _ _ _ h => h) (Or.inl ⟨by rfl, ?_⟩) (by assumption) ?_
              rotate_left 1
              · (intro w hSw; (try dsimp only at hSw); go_simp; (try with_reducible rfl))
              try simp only [Act.put, List.setIfInBounds_toArray, List.set_cons_zero, List.set_cons_succ]
              refine wpAnyH_ready (rs := [21]) (by kernel_rfl) (by simp) ?_
              refine AllReadyH.cons rfl (fun K hK => ?_) AllReadyH.nil
              go_simp
              refine hK.out _ _ (HSo.out _ (HBt.out.alloc HBt.out.size _)) (fun hHeld => ?_)
              clear hK K
              try simp only [Act.put, List.setIfInBounds_toArray, List.set_cons_zero, List.set_cons_succ]
              refine wpAnyH_ready (rs := [22]) (by kernel_rfl) (by simp) ?_
              refine AllReadyH.cons rfl (fun K hK => ?_) AllReadyH.nil
              refine step_append (H := Hk.ge w.heap.size) (E := eSub) rfl _ _ _ rfl okSub (hA.out _).1 (xs := ss) (ys := [subP x j]) rfl (base := w.heap.size) (hA.out _).2.1 rfl rfl (hA.out _).2.2.2 (World.news_of_block (blk_new wt _)) (Nat.succ_pos _) hls.out (hA.out _).2.2.1 ?_
              intro g cap wb k1 k2 k3
              have HIb := Lib.hid (fun o => HI.out.below (HBt.out.alloc HBt.out.size o))
              have hbx := (HIb.out _).boxes k2
              have BQb := blk4 hbx.1
              have BFb := blk4 hbx.2
              have HP := Lib.hid ((HIb.out _).push (by rw [← HSS.out]; exact k1) k2)
              clear hbx k1 k2 k3
              refine hK.out _ _ (⟨BFb.2.2.2.1, BQb.2.1.1, BQb.2.2.1.1, BQb.2.2.2.1⟩) (fun hHeld => ?_)
              clear hK K
              try simp only [Act.put, List.setIfInBounds_toArray, List.set_cons_zero, List.set_cons_succ]
              refine wpAnyH_take (i := 23) (v := ?_) rfl (by kernel_rfl) (by kernel_rfl) (by kernel_rfl) (fun _ _ _ h => h) (Or.inl ⟨by rfl, ?_⟩) (by assumption) ?_
              rotate_left 1
              · (intro w hSw; (try dsimp only at hSw); go_simp; (try with_reducible rfl))
              try simp only [Act.put, List.setIfInBounds_toArray, List.set_cons_zero, List.set_cons_succ]
              refine wpAnyH_take (i := 24) (v := ?_) rfl (by kernel_rfl) (by kernel_rfl) (by kernel_rfl) (fun _ _ _ h => h) (Or.inl ⟨by rfl, ?_⟩) (by assumption) ?_
              rotate_left 1
              · (intro w hSw; (try dsimp only at hSw); go_simp; (try with_reducible rfl))
              try simp only [Act.put, List.setIfInBounds_toArray, List.set_cons_zero, List.set_cons_succ]
              refine wpAnyH_done (by kernel_rfl) ?_ _
              refine LastPost.intro ?_
              go_simp
              refine NoPanic.normal ?_
              go_wp2
              go_roundw
              case rel => exact ⟨j + 1, by omega, by go_num, Lib.hid ⟨_, HP.out⟩⟩
              case measure => simp [intOf]; omega
            · have hje : j = 1 + n3 := by omega
              subst hje
              obtain ⟨sv, I⟩ := hm.out
              obtain ⟨Hk', M', S', zf'⟩ := I.give
              obtain ⟨sa, sc, rfl, _, _⟩ := S'.form
              have hln : ((List.range (1 + n3)).map (subP x)).length = 1 + n3 := by simp
              have BF := blk4 I.fb
              have BR := blk3 M'.rec_
              rw [hln] at BF S'
              have M4 := Lib.hid (fun o => M'.below ((Below.refl _ wr).alloc (Nat.le_refl _) o))
              have hrel3 : Hid (∀ o, Rels eField (Hk'.ge w.heap.size) (wr.alloc o) [madeF x] [.string (tagP x.a), .string (indP x.b), .string ⟨#[]⟩, .slice sa (1 + n3) sc]) := Lib.hid fun o => Rels.single (by rw [hfx.out, hnS.out]; exact ⟨_, rfl, S'.evo ((Evo.refl _ _).alloc o)⟩)
              have hlen3 : Hid (((l.take k).map madeF).length = k) := Lib.hid (by simp; omega)
              have hlen4 : Hid (((l.take k).map madeF).length + [madeF x].length ≤ 16777216) := Lib.hid (by simp; omega)
              clear I S' M' hm hln
              go_wp2_with (first
                | (at_builtin; refine append_law (H := Hk'.ge w.heap.size) (E := eField) rfl _ _ _ rfl okField ((M4.out _).ext.fit.ge _) (xs := (l.take k).map madeF) (ys := [madeF x]) rfl (base := w.heap.size) (M4.out _).own rfl rfl (hrel3.out _) (World.news_of_block (blk_new wr _)) (by decide) hlen4.out (M4.out _).ext.below.size ?_; intro gt capt wc k1 k2 k3 k4 k5 k6 k7 k8
                   have HR := blk3 ((M4.out _).recG k4)
                   rw [hlen3.out] at k1
                   have HP := Lib.hid ((M4.out _).push hlt (by rw [← HX.out]; exact k1) k4)
                   clear k1 k2 k3 k4 k5 k6 k7 k8))
              go_roundw
              case rel => exact ⟨k + 1, by omega, by go_num, Lib.hid ⟨_, _, HP.out⟩⟩
              case measure => simp [intOf]; omega)
        --END part
    · have hke : k = l.length := by omega
      subst hke
      obtain ⟨Hk, fv, M⟩ := hm.out
      obtain ⟨fs, hfs⟩ : ∃ fs, fs = l.map madeF := ⟨_, rfl⟩
      have hown := M.own
      rw [List.take_length, ← hfs] at hown
      obtain ⟨fa, fc, rfl, _, _⟩ := hown.form
      have BR := blk3 M.rec_
      have BS := blk3 M.res
      have HM := Lib.hid M
      have HO := Lib.hid hown
      have HFS := Lib.hid hfs
      clear M hown hm hfs
      go_wp2
      have hz := ge_zero (B := w.heap.size) HM.out.z0
      have hne := HO.out.ne HM.out.res (by decide)
      have o1 := (((HO.out.setCell (p := ⟨w.heap.size, 0, none⟩) hz hne (.int .u8 97)).setCell (p := ⟨w.heap.size, 1, none⟩) hz hne (.int .u8 109)).setCell (p := ⟨w.heap.size, 2, none⟩) hz hne (.slice fa fs.length fc))
      have e1 := ((HM.out.ext.setCell (p := ⟨w.heap.size, 0, none⟩) (Nat.le_refl _) (.int .u8 97)).setCell (p := ⟨w.heap.size, 1, none⟩) (Nat.le_refl _) (.int .u8 109)).setCell (p := ⟨w.heap.size, 2, none⟩) (Nat.le_refl _) (.slice fa fs.length fc)
      obtain ⟨H3, e2, s1⟩ := o1.freshGe e1
      exact bodyPost_ret (v := .agg #[.int .u8 97, .int .u8 109, .slice fa fs.length fc]) (by simp [results, Tryz.results21, go_sem, BS]) rfl (Ret.mk ⟨H3, _, e2, rfl, by rw [HFS.out] at s1 ⊢; exact s1⟩)
end Go.Proofs.YtnidmikcjkaegaaGreatDoor
