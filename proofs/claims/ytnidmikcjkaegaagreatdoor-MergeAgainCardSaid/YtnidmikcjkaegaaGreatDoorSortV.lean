/-
  What is proved here: the contract of slices.SortFunc as Latest calls it: the versions come sorted by their records. No condition but that the slice is the caller's own.
-/
import Derived.Test.YtnidmikcjkaegaaGreatDoorSort
import Derived.Test.YtnidmikcjkaegaaGreatDoorCmp
import Derived.Test.YtnidmikcjkaegaaGreatDoorShelf
import Derived.Shelf.SlSortCmp.NoneTotal
namespace Go.Proofs.YtnidmikcjkaegaaGreatDoor
open Go Go.RowKit Go.ML Go.Sort Go.Proofs

structure VCell where
  x : GVersion
  a : Option Addr
  n : Nat
  c : Nat
instance : Inhabited VCell := ⟨⟨⟨⟨0, 0⟩, 0, ⟨0, 0, []⟩⟩, none, 0, 0⟩⟩
def encV (p : VCell) : List Value := [.int .i64 p.x.frm.src, .int .i64 p.x.frm.num, .int .i64 p.x.number, .int .u8 p.x.record.kind, .int .u8 p.x.record.level, .slice p.a p.n p.c]
theorem lenV (p : VCell) : (encV p).length = 6 := rfl

theorem split_v {H : Hts} {w : World} : ∀ {xs : List GVersion} {cells : List Value}, Rels eVersion H w xs cells →
    ∃ ds : List VCell, ds.map (·.x) = xs ∧ cells = ds.flatMap encV ∧ ∀ p ∈ ds, Sl eField H w p.x.record.fields (.slice p.a p.n p.c)
  | [], cells, h => ⟨[], rfl, by rw [show cells = [] from h]; rfl, by simp⟩
  | x :: xs, cells, h => by
    obtain ⟨c, r, rfl, ⟨v, rfl, hs⟩, hr⟩ := h
    obtain ⟨ds, e1, e2, e3⟩ := split_v hr
    obtain ⟨a, cp, rfl, _, _⟩ := hs.form
    refine ⟨⟨x, a, _, cp⟩ :: ds, by simp [e1], by rw [List.flatMap_cons, e2]; rfl, fun p hp => ?_⟩
    cases hp with
    | head => exact hs
    | tail _ hp => exact e3 p hp

theorem join_v {H : Hts} {w : World} : ∀ {ds : List VCell}, (∀ p ∈ ds, Sl eField H w p.x.record.fields (.slice p.a p.n p.c)) → Rels eVersion H w (ds.map (·.x)) (ds.flatMap encV)
  | [], _ => rfl
  | p :: ds, h => ⟨encV p, ds.flatMap encV, by rw [List.flatMap_cons], ⟨_, rfl, h p (by simp)⟩, join_v (fun q hq => h q (by simp [hq]))⟩

theorem cmpRec_lt (a b : GRec) : cmpRec a b < 0 ↔ a.src < b.src ∨ (a.src = b.src ∧ a.num < b.num) := by
  unfold cmpRec cmpI
  split <;> split at * <;> (try split at *) <;> omega

theorem swoV : SWO (ltOf fun p q : VCell => cmpRec p.x.frm q.x.frm) where
  irrefl x := by unfold ltOf; simp only [decide_eq_false_iff_not, cmpRec_lt]; omega
  trans x y z h1 h2 := by unfold ltOf at *; simp only [decide_eq_true_eq, cmpRec_lt] at *; omega
  ntrans x y z h1 h2 := by unfold ltOf at *; simp only [decide_eq_false_iff_not, cmpRec_lt] at *; omega

set_option maxHeartbeats 1000000 in
theorem sortV_spec {H : Hts} {w : World} {base g cap : Nat} {xs : List GVersion} (hown : Own eVersion H w base xs (.slice (some ⟨g, 0, none⟩) xs.length cap)) (hlen : xs.length ≤ 1000000) :
    Calls Tryz.prog 25 #[.slice (some ⟨g, 0, none⟩) xs.length cap, .func (.func 26) #[] #[]] w fun e w' =>
      e = .returned (.tuple #[]) ∧ ∃ ys : List GVersion, ys.Perm xs ∧ ys.Pairwise (fun a b => ¬ cmpRec b.frm a.frm < 0) ∧ Own eVersion H w' base ys (.slice (some ⟨g, 0, none⟩) xs.length cap) ∧ w.grownBy w' (some g) := by
  obtain ⟨cells, row, hr, hz⟩ := hown
  obtain ⟨ds, rfl, rfl, hds⟩ := split_v hr
  have hg : g < w.heap.size := (row.lt g rfl).2
  simp only [List.length_map] at row hlen ⊢
  have row' : w.ownsRow base eVersion.ty 6 (.slice (some ⟨g, 0, none⟩) ds.toArray.size cap) ds.toArray.size (ds.toArray.toList.flatMap encV) := row
  have hH := holdsK_of_row lenV (by decide) row'
  have eg : ∀ args w, (callFunc 26 args).run Tryz.prog w = .ok (.enter 26 args) w := enters_of Tryz.func26 (by kernel_rfl) rfl
  have hcon := AnyQ.slices_SortFunc Tryz.sortV 6 Tryz.isAgg40 Tryz.sizeOf40 encV lenV (fun p v hv => by simp [encV] at hv; rcases hv with rfl | rfl | rfl | rfl | rfl | rfl <;> rfl) (fun p q => cmpRec p.x.frm q.x.frm) swoV 26 #[] g 0 cap ds.toArray w eg
    (fun _ _ _ _ p q => (latestCmp_spec p.x q.x _ _ _).mono fun _ _ ⟨h1, h2⟩ => ⟨h1, h2⟩) hH hg (by simp; omega)
  change Calls Tryz.prog 25 _ _ _ at hcon
  refine hcon.mono ?_
  rintro e w' ⟨rfl, d', m, os, hp, hsd, rfl⟩
  obtain ⟨p1, p2⟩ := perm_of hp
  obtain ⟨r1, r2⟩ := row_sorted (m := m) (os := os) lenV (by decide) p1 row'
  have hsd' : d'.toList.Pairwise (fun x y => ltOf (fun p q : VCell => cmpRec p.x.frm q.x.frm) y x = false) := sorted_of (by rw [p1]; exact hsd)
  refine ⟨rfl, d'.toList.map (·.x), p2.map _, ?_, ?_, r2⟩
  · rw [List.pairwise_map]
    refine hsd'.imp (fun {a b} h => ?_)
    unfold ltOf at h
    simpa using h
  · have ev : Evo H w H (sortWorldK encV 6 w g 0 m d' os) := (Evo.refl H w).grown r2 (fun q hq => by injection hq with hq; subst hq; exact hz _ rfl)
    have e1 : (d'.toList.map (·.x)).length = ds.toArray.size := by simp [p1]
    refine ⟨d'.toList.flatMap encV, by rw [e1]; exact r1, ?_, hz⟩
    exact join_v fun p hp' => (hds p (p2.mem_iff.1 hp')).evo ev

theorem sortV_none (p : Option Addr) (cap : Nat) (fv : Value) (w : World) :
    Calls Tryz.prog 25 #[.slice p 0 cap, fv] w fun e w' => e = .returned (.tuple #[]) ∧ w' = w :=
  AnyF.slices_SortFunc_none Tryz.sortV p cap fv w
end Go.Proofs.YtnidmikcjkaegaaGreatDoor
