/-
  What is proved here: records of sources, and pairs of strings, serve as keys of maps. No condition.
-/
import Derived.Test.YtnidmikcjkaegaaGreatDoorEnc
import Derived.Test.YtnidmikcjkaegaaGreatDoorMap
import Derived.Laws.StructEq
namespace Go.Proofs.YtnidmikcjkaegaaGreatDoor
open Go Go.RowKit Go.ML

deriving instance DecidableEq for GRec

def vRec (x : GRec) : Value := .agg #[.int .i64 x.src, .int .i64 x.num]

theorem chkRec (e : Bool) (x : GRec) (w : World) : (Instr.checkKey e 10000 34 (vRec x)).run Tryz.prog w = .ok () w := by
  have hS : Tryz.prog.underlying 34 = some (.struct (Tryz.prog.fieldsOf 34)) := by kernel_rfl
  have u3 := Tryz.underlying3
  have a3 := Tryz.isAgg3
  have z3 := Tryz.sizeOf3
  rw [show (10000 : Nat) = 9998 + 1 + 1 from rfl]
  unfold Instr.checkKey vRec
  simp only [Sem.run_bind, run_underlying hS, Result.andThen_ok]
  rw [← Array.forIn_toList]
  simp only [Program.fieldsOf, Tryz.underlying34]
  unfold Instr.checkKey
  go_simp

theorem eqRec (x y : GRec) (w : World) : (Go.Op.equal 34 (vRec x) (vRec y)).run Tryz.prog w = .ok (decide (x = y)) w := by
  have u3 := Tryz.underlying3
  have a3 := Tryz.isAgg3
  have z3 := Tryz.sizeOf3
  have hS : Tryz.prog.underlying 34 = some (.struct (Tryz.prog.fieldsOf 34)) := by kernel_rfl
  have hp : Tryz.prog.stoodInHeld 34 = false := by kernel_rfl
  unfold Op.equal vRec
  rw [show Op.maxDepth = 9999 + 1 from rfl, run_equalIn_struct w 9999 34 _ _ hS hp]
  simp only [Program.fieldsOf, Tryz.underlying34]
  go_simp
  obtain ⟨a, b⟩ := x
  obtain ⟨c, d⟩ := y
  by_cases h1 : a = c <;> by_cases h2 : b = d <;> simp [h1, h2]

theorem keyRec : KeyOk Tryz.prog 34 vRec :=
  keyAsk Tryz.underlying34 (fun _ _ => rfl) chkRec eqRec (fun x => by simp [vRec, Instr.sameBits])

def vPair (x : ByteArray × ByteArray) : Value := .agg #[.string x.1, .string x.2]

theorem chkPair (e : Bool) (x : ByteArray × ByteArray) (w : World) : (Instr.checkKey e 10000 109 (vPair x)).run Tryz.prog w = .ok () w := by
  have u3 := Tryz.underlying9
  have a3 := Tryz.isAgg9
  have z3 := Tryz.sizeOf9
  rw [show (10000 : Nat) = 9998 + 1 + 1 from rfl]
  unfold Instr.checkKey vPair
  simp only [Sem.run_bind, run_underlying Tryz.underlying109, Result.andThen_ok]
  unfold Instr.checkKey
  go_simp
  simp [List.range'_succ, Sem.run_bind]

theorem eqPair (x y : ByteArray × ByteArray) (w : World) : (Go.Op.equal 109 (vPair x) (vPair y)).run Tryz.prog w = .ok (decide (x = y)) w := by
  have u3 := Tryz.underlying9
  have a3 := Tryz.isAgg9
  have z3 := Tryz.sizeOf9
  have hq : ∀ (a b : ByteArray) (w : World), (Go.Op.equalIn (9998 + 1) 9 (.string a) (.string b)).run Tryz.prog w = .ok (decide (a = b)) w := fun a b w => by
    have e : (a.toList == b.toList) = decide (a = b) := by
      rw [← beq_toListBytes, Bool.eq_iff_iff, MapKept.bytes_beq]; simp
    rw [← e]
    exact run_equalIn_string w 9998 _ a b u3
  unfold Op.equal vPair
  rw [show Op.maxDepth = 9998 + 1 + 1 from rfl]
  unfold Op.equalIn
  simp only [Sem.run_bind, run_underlying Tryz.underlying109, Result.andThen_ok]
  go_simp
  obtain ⟨a, b⟩ := x
  obtain ⟨c, d⟩ := y
  simp only [Nat.reduceAdd] at hq
  by_cases h1 : a = c <;> by_cases h2 : b = d <;> simp [h1, h2, hq, List.range'_succ, Sem.run_bind, a3, Result.andThen]

theorem keyPair : KeyOk Tryz.prog 109 vPair :=
  keyAsk Tryz.underlying109 (fun _ _ => rfl) chkPair eqPair (fun x => by
    have h1 := (MapKept.bytes_beq x.1 x.1).2 rfl
    have h2 := (MapKept.bytes_beq x.2 x.2).2 rfl
    simp [vPair, Instr.sameBits, h1, h2])
end Go.Proofs.YtnidmikcjkaegaaGreatDoor
