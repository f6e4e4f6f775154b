/-
  What is proved here: the statement MergeAgain as its tied card. No condition.
-/
import Derived.Test.YtnidmikcjkaegaaGreatDoorMade
import Derived.OpenShut
import Derived.Deep.Slices
import Derived.Test.YtnidmikcjkaegaaGreatDoorTie
import Derived.Test.YtnidmikcjkaegaaGreatDoorCards
import Derived.Test.YtnidmikcjkaegaaGreatDoorAgain
import Derived.ChangeSame
import Derived.ChangeVars
import Derived.JoinedOf
import Derived.RowKit
import Derived.RowKitTokens
import Derived.LaidLaws
import Derived.Carry
import Derived.SevenTiedAt
namespace Go.Proofs.YtnidmikcjkaegaaGreatDoor
open Go Go.RowKit Go.ML

def rowsH (w : World) : Hts := fun g => match w.heap[g]? with
  | some (.cells c _ _) => c.size
  | _ => 0
theorem rowsH_fit (w : World) : Fit (rowsH w) w := fun g hg => by
  unfold rowsH
  rw [Array.getElem?_eq_none hg]
theorem cell_off {w : World} {b o : Nat} {v : Value} (h : w.cell? ⟨b, o, none⟩ = some v) : o < rowsH w b := by
  unfold World.cell? at h
  unfold rowsH
  cases e : w.heap[b]? with
  | none => rw [e] at h; cases h
  | some q =>
    cases q with
    | cells c t f =>
      rw [e] at h
      simp only [Option.isSome_none, Bool.false_eq_true, if_false] at h
      exact (Array.getElem?_eq_some_iff.1 h).1
    | _ => rw [e] at h; cases h

theorem rels_range {α : Type} {E : Enc α} {H : Hts} {w : World} : ∀ (n : Nat) (g : Nat → Value), (∀ i, i < n → ∃ x, E.rel H w x ((List.range E.sz).map (fun j => g (i * E.sz + j)))) → ∃ xs, xs.length = n ∧ Rels E H w xs ((List.range (n * E.sz)).map g)
  | 0, g, _ => ⟨[], rfl, by simp [Rels]⟩
  | n + 1, g, h => by
    obtain ⟨x, hx⟩ := h 0 (by omega)
    obtain ⟨xs, hl, hr⟩ := rels_range n (fun j => g (E.sz + j)) (fun i hi => by
      obtain ⟨y, hy⟩ := h (i + 1) (by omega)
      refine ⟨y, ?_⟩
      have e : (fun j => g ((i + 1) * E.sz + j)) = (fun j => g (E.sz + (i * E.sz + j))) := by
        funext j; rw [Nat.succ_mul, Nat.add_comm (i * E.sz) E.sz, Nat.add_assoc]
      rw [e] at hy
      exact hy)
    refine ⟨x :: xs, by simp [hl], ?_⟩
    have e0 : (fun j => g (0 * E.sz + j)) = g := by funext j; rw [Nat.zero_mul, Nat.zero_add]
    rw [e0] at hx
    have e : (List.range ((n + 1) * E.sz)).map g = (List.range E.sz).map g ++ (List.range (n * E.sz)).map (fun j => g (E.sz + j)) := by
      rw [Nat.succ_mul, Nat.add_comm (n * E.sz) E.sz, List.range_add, List.map_append, List.map_map]
      rfl
    rw [e]
    exact ⟨_, _, rfl, hx, hr⟩

theorem reads_slice {α : Type} {E : Enc α} {H : Type} {enc : TypeId × Value → H} {P : Program} {w : World} {base : Nat} {sp : Nat → Bool} {held : Bool} {t e : TypeId} {fuel : Nat} {cs : List Value} {x : DataW H × List MemPlace}
    (ht : P.underlying t = some (.slice e)) (hz : P.cellsOf e = E.sz) (hel : ∀ n cs' y, DataW.trod enc P w base sp held n e cs' = some y → ∃ x, E.rel (rowsH w) w x cs')
    (h : DataW.trod enc P w base sp held fuel t cs = some x) : ∃ l v, cs = [v] ∧ Si E (rowsH w) w l v := by
  rcases Go.Deep.open_slice ht h with ⟨rfl, _⟩ | ⟨a, len, cap, m, n, D, Pl, rfl, hb, hl, hm, hmm, _, hx⟩
  · exact ⟨[], _, rfl, none, 0, [], rfl, Nat.le_refl _, Nat.zero_le _, rfl, fun h => absurd h (by simp)⟩
  · refine ?_
    rcases Nat.eq_zero_or_pos len with h0 | hp
    · subst h0
      exact ⟨[], _, rfl, some a, cap, [], rfl, Nat.zero_le _, hm, rfl, fun h => absurd h (by simp)⟩
    · have hml : len ≤ m := by rw [hmm]; split <;> omega
      have hsz := E.pos
      obtain ⟨b, o, spot⟩ := a
      have hspot : spot = none := by
        obtain ⟨cs', h1, _⟩ := hx 0 (by omega)
        obtain ⟨_, hlen, hc⟩ := World.cells?_some h1
        rw [hz] at hlen hc
        have h3 := hc 0 hsz
        rw [List.getElem?_eq_getElem (by omega : 0 < cs'.length)] at h3
        simpa [Addr.add] using World.cell?_spot h3
      subst hspot
      have hcell : ∀ i, i < len → ∃ cs' y, cs' = (List.range E.sz).map (fun j => (fun q => (w.cell? ⟨b, o + q, none⟩).getD undef) (i * E.sz + j)) ∧ DataW.trod enc P w base sp held n e cs' = some y ∧ ∀ j, j < E.sz → ∃ u, w.cell? ⟨b, o + (i * E.sz + j), none⟩ = some u := by
        intro i hi
        obtain ⟨cs', h1, h2⟩ := hx i (by omega)
        obtain ⟨_, hlen, hc⟩ := World.cells?_some h1
        rw [hz] at hlen hc
        have hc' : ∀ j, j < E.sz → w.cell? ⟨b, o + (i * E.sz + j), none⟩ = cs'[j]? := fun j hj => by
          have h3 := hc j hj
          rw [Go.WideShapes.add_plain, Go.WideShapes.add_plain, Nat.add_assoc] at h3
          exact h3
        refine ⟨cs', _, ?_, h2, fun j hj => ⟨cs'[j], by rw [hc' j hj, List.getElem?_eq_getElem (by omega : j < cs'.length)]⟩⟩
        refine List.ext_getElem? (fun j => ?_)
        rw [List.getElem?_map]
        by_cases hj : j < E.sz
        · rw [List.getElem?_range hj]
          simp only [Option.map_some]
          rw [hc' j hj, List.getElem?_eq_getElem (by omega : j < cs'.length)]
          rfl
        · rw [List.getElem?_eq_none (by omega), List.getElem?_eq_none (by simp; omega)]
          rfl
      obtain ⟨xs, hxl, hr⟩ := rels_range (E := E) (H := rowsH w) (w := w) len (fun q => (w.cell? ⟨b, o + q, none⟩).getD undef) (fun i hi => by
        obtain ⟨cs', y, rfl, h2, _⟩ := hcell i hi
        exact hel _ _ _ h2)
      have hget : ∀ j, j < len * E.sz → ∃ u, w.cell? ⟨b, o + j, none⟩ = some u := by
        intro j hj
        have h1 : j / E.sz < len := Nat.div_lt_of_lt_mul (by rw [Nat.mul_comm]; exact hj)
        obtain ⟨_, _, _, _, h2⟩ := hcell (j / E.sz) h1
        have h3 := h2 (j % E.sz) (Nat.mod_lt _ hsz)
        rw [Nat.mul_comm, Nat.div_add_mod] at h3
        exact h3
      subst hxl
      refine ⟨xs, _, rfl, some ⟨b, o, none⟩, cap, _, rfl, hl, hm, hr, fun _ => ⟨b, o, rfl, ?_, fun j hj => ?_⟩⟩
      · have hpos : 0 < xs.length * E.sz := Nat.mul_pos hp hsz
        obtain ⟨u, hu⟩ := hget (xs.length * E.sz - 1) (by omega)
        have := cell_off hu
        omega
      · obtain ⟨u, hu⟩ := hget j hj
        rw [List.getElem?_map, List.getElem?_range hj, hu]
        simp [hu]

section
variable {H : Type} {enc : TypeId × Value → H} {w : World} {base : Nat} {sp : Nat → Bool} {held : Bool}
set_option maxRecDepth 100000 in
theorem reads_quad (n : Nat) (cs : List Value) (y : DataW H × List MemPlace) (h : DataW.trod enc Tryz.prog w base sp held n 88 cs = some y) : ∃ x, eQuad.rel (rowsH w) w x cs := by
  obtain ⟨xs, m, _, _, hl, hxl, hel⟩ := DataW.trod_array Tryz.underlying88 h
  have h4 : Tryz.prog.cellsOf 88 = 4 := by kernel_rfl
  have h1 : Tryz.prog.cellsOf 3 = 1 := by kernel_rfl
  rw [h4] at hl
  match cs, hl with
  | [c0, c1, c2, c3], _ =>
    match xs, hxl with
    | [y0, y1, y2, y3], _ =>
      have g0 := hel 0 (by omega)
      have g1 := hel 1 (by omega)
      have g2 := hel 2 (by omega)
      have g3 := hel 3 (by omega)
      simp only [h1, Nat.mul_one, List.drop_zero, List.drop_succ_cons, List.take_succ_cons, List.take_zero, List.getElem?_cons_zero, List.getElem?_cons_succ] at g0 g1 g2 g3
      obtain ⟨z0, e0, _, _⟩ := DataW.trod_int Tryz.underlying3 g0
      obtain ⟨z1, e1, _, _⟩ := DataW.trod_int Tryz.underlying3 g1
      obtain ⟨z2, e2, _, _⟩ := DataW.trod_int Tryz.underlying3 g2
      obtain ⟨z3, e3, _, _⟩ := DataW.trod_int Tryz.underlying3 g3
      injection e0 with e0 _
      injection e1 with e1 _
      injection e2 with e2 _
      injection e3 with e3 _
      subst e0 e1 e2 e3
      exact ⟨⟨z0, z1, z2, z3⟩, rfl⟩
set_option maxRecDepth 100000 in
theorem reads_said (n : Nat) (cs : List Value) (y : DataW H × List MemPlace) (h : DataW.trod enc Tryz.prog w base sp held n 72 cs = some y) : ∃ x, eIn.rel (rowsH w) w x cs := by
  obtain ⟨xs, m, _, _, hl, hxl, hel⟩ := DataW.trod_struct Tryz.underlying72 h
  have h4 : Tryz.prog.cellsOf 72 = 4 := by kernel_rfl
  have h6 : Tryz.prog.cellsOf 88 = 4 := by kernel_rfl
  rw [h4] at hl
  match cs, hl with
  | [c0, c1, c2, c3], _ =>
    match xs, hxl with
    | [y0, y1, y2, y3], _ =>
      have g0 := hel 0 _ rfl
      have g1 := hel 1 _ rfl
      have g2 := hel 2 _ rfl
      have g3 := hel 3 _ rfl
      simp only [List.getElem?_cons_zero, List.getElem?_cons_succ] at g0 g1 g2 g3
      obtain ⟨z0, e0, _, _⟩ := DataW.trod_int Tryz.underlying3 g0
      obtain ⟨z1, e1, _, _⟩ := DataW.trod_int Tryz.underlying3 g1
      obtain ⟨z2, e2, _, _⟩ := DataW.trod_int Tryz.underlying3 g2
      obtain ⟨l, v, e3, hs⟩ := reads_slice (E := eQuad) Tryz.underlying70 h6 reads_quad g3
      injection e0 with e0 _
      injection e1 with e1 _
      injection e2 with e2 _
      injection e3 with e3 _
      subst e0 e1 e2 e3
      exact ⟨⟨z0, z1, z2, l⟩, _, rfl, hs⟩
set_option maxRecDepth 100000 in
theorem reads_in {a : Option Addr} {n c : Nat} {d : DataW H} {p : List MemPlace} (h : DataW.Trod enc Tryz.prog w base sp held 22 (.slice a n c) d p) : ∃ l, Si eIn (rowsH w) w l (.slice a n c) := by
  obtain ⟨fuel, hf⟩ := h
  have h4 : Tryz.prog.cellsOf 72 = 4 := by kernel_rfl
  obtain ⟨l, v', e, hs⟩ := reads_slice (E := eIn) Tryz.underlying22 h4 reads_said hf
  injection e with e _
  subst e
  exact ⟨l, hs⟩
end
end Go.Proofs.YtnidmikcjkaegaaGreatDoor
namespace Go.Proofs.YtnidmikcjkaegaaGreatDoor
open Go Go.ChangeShapes Go.WideShapes Go.RowKit Go.ML

theorem Tryz.own : ownKnob Tryz.prog.godebug = none := by kernel_rfl
theorem Tryz.laidOut : laidOutB Tryz.prog = true := by kernel_rfl

def cellsD : DataW Unit → Array Value
  | .agg xs => (xs.map fun | .lit (.int k z) => Value.int k z | _ => undef).toArray
  | _ => #[]
def layAt (g : Nat) (d : DataW Unit) (h : Array Obj) : Array Obj := h.modify g fun
  | .cells _ t frozen => .cells (cellsD d) t frozen
  | o => o
noncomputable def laidWorld (os : Os) : World :=
  let w0 := World.holding Tryz.prog os ⟨#[], #[], []⟩
  { w0 with heap := layAt 3 Rows.laid_math_bits_deBruijn64tab (layAt 2 Rows.laid_math_bits_deBruijn32tab (layAt 0 Rows.laid_internal_strconv_uint64pow10 w0.heap)) }
theorem laidWorld_met (os : Os) (args : Array Value) : laidMet Tryz.prog Rows.mergeAgainRow.laid ((laidWorld os).forCall (fun _ _ => 0) ⟨#[], args, []⟩).memory :=
  laidMet_of_run (ps := (List.range 32).map (.cell 2 ·) ++ (List.range 64).map (.cell 3 ·) ++ (List.range 20).map (.cell 0 ·)) 8 (by kernel_rfl) (by kernel_rfl) (by kernel_rfl)

set_option maxRecDepth 100000 in
theorem again_lifted (os : Os) (started : os.Started) (H : Type) (enc : TypeId × Value → H) :
    ReturnsInHanded {} Tryz.checked os 3 .any (fun w args => (Rows.mergeAgainSpec.pre enc Tryz.prog Tryz.f3 [] false w args ∧ laidMet Tryz.prog Rows.mergeAgainRow.laid w) ∧ sizedMet enc Tryz.prog Tryz.f3 (OpenSpec.ofChange Rows.mergeAgainSpec) false w args)
      (Rows.mergeAgainSpec.post enc Tryz.prog Tryz.f3 false true false false) := by
  refine returnsInHanded_of_change_and (C := Tryz.checked) (X := fun w _ => laidMet Tryz.prog Rows.mergeAgainRow.laid w) (fun _ _ _ hh h => h.of_heap hh) Tryz.own started (by kernel_rfl) Tryz.func3
    (ChangeSpec.witness_at (enc := enc) (C := Tryz.checked) (os := os) (X := fun w _ => laidMet Tryz.prog Rows.mergeAgainRow.laid w) false (laidWorld os) #[.slice none 0 0] 8 rfl (by kernel_rfl) (by kernel_rfl) (by kernel_rfl) (by kernel_rfl) (by kernel_rfl) (laidWorld_met os _)) ?_
  intro W base args ds gs before hval0 hW _ _ _ _
  have hval : ∀ (j : Nat) t v, Tryz.f3.params[j]? = some t → args[j]? = some v → Value.okWide Tryz.prog W .any base t v := hval0
  have hW' := hW
  obtain ⟨p, q, hA0, hV0, rfl, hfz, hnd⟩ := hW
  have hA : DataW.TrodAll enc Tryz.prog W 0 (fun _ => true) true Tryz.f3.params.toList args.toList ds p := hA0
  have hV : DataW.TrodVars enc Tryz.prog W (fun _ => true) [] gs q := hV0
  rw [Tryz.params3] at hA hval
  obtain ⟨v0, d0, rfl, rfl, h0⟩ := trodAll_one hA
  obtain ⟨rfl, rfl⟩ := trodVars_none hV
  obtain ⟨a0, len, cap, rfl⟩ := okWide_slice Tryz.underlying22 (hval 0 _ v0 rfl rfl)
  obtain ⟨l, hsi⟩ := reads_in h0
  have hfit := rowsH_fit W
  have e1 : Rows.mergeAgainSpec.fn H ([d0] ++ []) = { results := [.lit (.bool true)], args := [d0] } := by simp [Rows.mergeAgainSpec]
  simp only [List.append_nil] at hW'
  refine (again_spec hfit hsi).mono fun e W' ⟨he, hb⟩ => ?_
  subst he
  refine ⟨_, rfl, _, _, _, [], p, [], hW', ?_, ?_, ?_, hb.frame _, fun h => by cases h⟩
  · rw [e1]; exact trodAll_mk1 (shut_bool Tryz.underlying4 true)
  · rw [e1]; exact trodAll_mk1 (Below.trod Tryz.laidOut (by kernel_rfl) (of_decide_eq_true (by kernel_rfl)) h0 hb (fun x hx => by simpa using hW'.lt x hx))
  · rw [e1]; rfl

theorem again_holds : Rows.MergeAgainSaid :=
  OpenClaim.holds_of_wide 3 Tryz.f3 rfl rfl rfl rfl rfl rfl rfl ⟨rfl, rfl, rfl, rfl, rfl⟩ rfl rfl rfl rfl rfl (by kernel_rfl) Tryz.func3 (by kernel_rfl)
    (of_decide_eq_true (by kernel_rfl)) (by unfold Func.isWrapper; rw [if_neg (of_decide_eq_false (by kernel_rfl))]; exact ⟨rfl, rfl⟩)
    (fun os started H enc _ => again_lifted os started H enc)

theorem again_card : Rows.MergeAgainCardSaid :=
  Claim7.holds_tied_plain_at .later [] [.data, .data, .data] true (true, "d5fef525488bb54abeb485b4d2d2cd9a2e382bf8cdc23eadd3fec3d383810364") false
    again_holds (fun _ h => by cases h) (by kernel_rfl) (fun _ h => by cases h) mergeAgain_row_tie rfl ⟨rfl, rfl⟩ (by kernel_rfl) rfl
    (fun f fn hf hfn => by
      obtain rfl : f = 3 := Option.some.inj ((show Tryz.prog.funcNamed "pinakes/pinakeslaw07.MergeAgain" = some 3 by kernel_rfl).symm.trans hf) |>.symm
      obtain rfl : fn = Tryz.f3 := (Option.some.inj (Tryz.func3.symm.trans hfn)).symm
      exact ⟨by kernel_rfl, fun j t ht => by
        rw [Tryz.params3] at ht
        have h3 : t = 22 := by
          rcases j with _ | j
          · simpa using ht.symm
          · simp at ht
        subst h3
        exact (show Tryz.prog.wantsStandIn 22 = false by kernel_rfl)⟩)
    (by kernel_rfl)
end Go.Proofs.YtnidmikcjkaegaaGreatDoor
