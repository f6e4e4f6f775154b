/-
  What is proved here, in plain Lean: the document's examples of merging. No condition.
-/
import Derived.Test.YtnidmikcjkaegaaGreatDoorPlain
import Derived.Test.YtnidmikcjkaegaaGreatDoorSays
import Derived.Test.YtnidmikcjkaegaaGreatDoorWithout
namespace Go.Proofs.YtnidmikcjkaegaaGreatDoor
open Go Go.RowKit Go.ML

deriving instance DecidableEq for GSub
deriving instance DecidableEq for GField

def lsA : List ByteArray := [⟨#[50, 52, 53]⟩, ⟨#[69, 109, 109, 97]⟩, ⟨#[54, 53, 48]⟩, ⟨#[83, 101, 97, 32, 115, 116, 111, 114, 105, 101, 115]⟩, ⟨#[57, 48, 48]⟩, ⟨#[120]⟩]
def lsB : List ByteArray := [⟨#[50, 52, 53]⟩, ⟨#[69, 109, 109, 97, 46]⟩, ⟨#[54, 53, 48]⟩, ⟨#[83, 69, 65, 32, 83, 84, 79, 82, 73, 69, 83, 46]⟩, ⟨#[54, 53, 48]⟩, ⟨#[82, 105, 118, 101, 114, 115]⟩, ⟨#[57, 48, 48]⟩, ⟨#[120]⟩]
def lsC : List ByteArray := [⟨#[53, 48, 48]⟩, ⟨#[110]⟩]
def ls1 : List ByteArray := [⟨#[50, 52, 53]⟩, ⟨#[69, 109, 109, 97]⟩, ⟨#[54, 53, 48]⟩, ⟨#[83, 101, 97, 32, 115, 116, 111, 114, 105, 101, 115]⟩, ⟨#[54, 53, 48]⟩, ⟨#[82, 105, 118, 101, 114, 115]⟩, ⟨#[57, 48, 48]⟩, ⟨#[120]⟩, ⟨#[57, 48, 48]⟩, ⟨#[120]⟩]
def ls2 : List ByteArray := [⟨#[50, 52, 53]⟩, ⟨#[69, 109, 109, 97, 46]⟩, ⟨#[54, 53, 48]⟩, ⟨#[83, 69, 65, 32, 83, 84, 79, 82, 73, 69, 83, 46]⟩, ⟨#[54, 53, 48]⟩, ⟨#[82, 105, 118, 101, 114, 115]⟩, ⟨#[57, 48, 48]⟩, ⟨#[120]⟩]
def ls3 : List ByteArray := [⟨#[50, 52, 53]⟩, ⟨#[69, 109, 109, 97, 46]⟩, ⟨#[53, 48, 48]⟩, ⟨#[110]⟩, ⟨#[54, 53, 48]⟩, ⟨#[83, 69, 65, 32, 83, 84, 79, 82, 73, 69, 83, 46]⟩, ⟨#[54, 53, 48]⟩, ⟨#[82, 105, 118, 101, 114, 115]⟩, ⟨#[57, 48, 48]⟩, ⟨#[120]⟩]
def vA : GVersion := saysP 1 5 2 lsA
def vB : GVersion := saysP 2 1 1 lsB
def vC : GVersion := saysP 1 5 3 lsC

theorem latest1 : latest [vB, vA] = [vA, vB] := by
  refine (latest_of ?_ ?_).symm
  · have : vers [vB, vA] (best [vB, vA] [vB, vA].length) = [vB, vA] := rfl
    rw [this]
    exact List.Perm.swap _ _ _
  · simp [cmpRec, cmpI, vA, vB, saysP]
theorem without2 : withoutP [vA, vB] 1 = [vB] := rfl
theorem latest3 : latest [vC, vB, vA] = [vC, vB] := by
  refine (latest_of ?_ ?_).symm
  · have : vers [vC, vB, vA] (best [vC, vB, vA] [vC, vB, vA].length) = [vC, vB] := rfl
    rw [this]
  · simp [cmpRec, cmpI, vC, vB, saysP]

theorem keptx1 : (keptOf (grp ([vA, vB].flatMap saidsOf))).map (fun x => (x.field, x.frm.src)) = (pairsP ls1).zip [1, 1, 2, 1, 2] := by
  unfold keptOf
  rw [show sortTags ((grp ([vA, vB].flatMap saidsOf)).map (·.1)) = [⟨#[50, 52, 53]⟩, ⟨#[54, 53, 48]⟩, ⟨#[57, 48, 48]⟩] from sorted_unique (by decide +kernel) (by decide +kernel)]
  decide +kernel
theorem ex1 : (mergeP [vB, vA]).frm.map (·.src) = [1, 1, 2, 1, 2] ∧ (mergeP [vB, vA]).fields = pairsP ls1 := by
  have h := keptx1
  have hm : mergeP [vB, vA] = ⟨0, 0, (keptOf (grp ([vA, vB].flatMap saidsOf))).map (·.field), (keptOf (grp ([vA, vB].flatMap saidsOf))).map (·.frm)⟩ := by
    unfold mergeP
    rw [latest1]
    rfl
  rw [hm]
  generalize keptOf (grp ([vA, vB].flatMap saidsOf)) = K at h
  refine ⟨?_, ?_⟩
  · have h2 := congrArg (List.map Prod.snd) h
    rw [List.map_map] at h2
    show (K.map (·.frm)).map (·.src) = _
    rw [List.map_map]
    exact h2
  · have h2 := congrArg (List.map Prod.fst) h
    rw [List.map_map] at h2
    exact h2

theorem keptx2 : (keptOf (grp ([vB].flatMap saidsOf))).map (fun x => (x.field, x.frm.src)) = (pairsP ls2).zip [2, 2, 2, 2] := by
  unfold keptOf
  rw [show sortTags ((grp ([vB].flatMap saidsOf)).map (·.1)) = [⟨#[50, 52, 53]⟩, ⟨#[54, 53, 48]⟩, ⟨#[57, 48, 48]⟩] from sorted_unique (by decide +kernel) (by decide +kernel)]
  decide +kernel
theorem ex2 : (mergeP [vB]).frm.map (·.src) = [2, 2, 2, 2] ∧ (mergeP [vB]).fields = pairsP ls2 := by
  have h := keptx2
  have hm : mergeP [vB] = ⟨0, 0, (keptOf (grp ([vB].flatMap saidsOf))).map (·.field), (keptOf (grp ([vB].flatMap saidsOf))).map (·.frm)⟩ := by
    unfold mergeP
    rw [latest_one]
    rfl
  rw [hm]
  generalize keptOf (grp ([vB].flatMap saidsOf)) = K at h
  refine ⟨?_, ?_⟩
  · have h2 := congrArg (List.map Prod.snd) h
    rw [List.map_map] at h2
    show (K.map (·.frm)).map (·.src) = _
    rw [List.map_map]
    exact h2
  · have h2 := congrArg (List.map Prod.fst) h
    rw [List.map_map] at h2
    exact h2

theorem keptx3 : (keptOf (grp ([vC, vB].flatMap saidsOf))).map (fun x => (x.field, x.frm.src)) = (pairsP ls3).zip [2, 1, 2, 2, 2] := by
  unfold keptOf
  rw [show sortTags ((grp ([vC, vB].flatMap saidsOf)).map (·.1)) = [⟨#[50, 52, 53]⟩, ⟨#[53, 48, 48]⟩, ⟨#[54, 53, 48]⟩, ⟨#[57, 48, 48]⟩] from sorted_unique (by decide +kernel) (by decide +kernel)]
  decide +kernel
theorem ex3 : (mergeP [vC, vB, vA]).frm.map (·.src) = [2, 1, 2, 2, 2] ∧ (mergeP [vC, vB, vA]).fields = pairsP ls3 := by
  have h := keptx3
  have hm : mergeP [vC, vB, vA] = ⟨0, 0, (keptOf (grp ([vC, vB].flatMap saidsOf))).map (·.field), (keptOf (grp ([vC, vB].flatMap saidsOf))).map (·.frm)⟩ := by
    unfold mergeP
    rw [latest3]
    rfl
  rw [hm]
  generalize keptOf (grp ([vC, vB].flatMap saidsOf)) = K at h
  refine ⟨?_, ?_⟩
  · have h2 := congrArg (List.map Prod.snd) h
    rw [List.map_map] at h2
    show (K.map (·.frm)).map (·.src) = _
    rw [List.map_map]
    exact h2
  · have h2 := congrArg (List.map Prod.fst) h
    rw [List.map_map] at h2
    exact h2
end Go.Proofs.YtnidmikcjkaegaaGreatDoor
