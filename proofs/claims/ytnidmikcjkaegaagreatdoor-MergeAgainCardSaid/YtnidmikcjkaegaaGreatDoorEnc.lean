/-
  What is proved here: how the program's records lie in memory (definitions, and that they are kept). No statement of the program; no condition.
-/
import Derived.Test.YtnidmikcjkaegaaGreatDoorProg
import Derived.Test.YtnidmikcjkaegaaGreatDoorLib
namespace Go.Proofs.YtnidmikcjkaegaaGreatDoor
open Go Go.RowKit Go.ML

structure GSub where
  code : Int
  text : ByteArray
structure GField where
  tag : ByteArray
  ind : ByteArray
  data : ByteArray
  subs : List GSub
structure GRec where
  src : Int
  num : Int
structure GRecord where
  kind : Int
  level : Int
  fields : List GField
structure GVersion where
  frm : GRec
  number : Int
  record : GRecord
structure GSaid where
  field : GField
  frm : GRec

def eStr : Enc ByteArray where
  ty := 9
  sz := 1
  pos := by decide
  rel _ _ x cs := cs = [.string x]
  len h := by subst h; rfl
  evo _ h := h
  one h := by subst h; simp [Value.oneCell']

theorem rels_strs {H : Hts} {w : World} : ∀ (xs : List ByteArray), Rels eStr H w xs (xs.map Value.string)
  | [] => rfl
  | x :: xs => ⟨[.string x], xs.map Value.string, by simp, rfl, rels_strs xs⟩

def eSub : Enc GSub where
  ty := 44
  sz := 2
  pos := by decide
  rel _ _ x cs := cs = [.int .u8 x.code, .string x.text]
  len h := by subst h; rfl
  evo _ h := h
  one h := by subst h; simp [Value.oneCell']

def eField : Enc GField where
  ty := 38
  sz := 4
  pos := by decide
  rel H w x cs := ∃ v, cs = [.string x.tag, .string x.ind, .string x.data, v] ∧ Sl eSub H w x.subs v
  len h := by obtain ⟨v, rfl, _⟩ := h; rfl
  evo e h := by obtain ⟨v, hc, hs⟩ := h; exact ⟨v, hc, hs.evo e⟩
  one h := by
    obtain ⟨v, rfl, hs⟩ := h
    obtain ⟨a, c, rfl, _⟩ := hs.form
    simp [Value.oneCell']

def eRec : Enc GRec where
  ty := 34
  sz := 2
  pos := by decide
  rel _ _ x cs := cs = [.int .i64 x.src, .int .i64 x.num]
  len h := by subst h; rfl
  evo _ h := h
  one h := by subst h; simp [Value.oneCell']

def eVersion : Enc GVersion where
  ty := 40
  sz := 6
  pos := by decide
  rel H w x cs := ∃ v, cs = [.int .i64 x.frm.src, .int .i64 x.frm.num, .int .i64 x.number, .int .u8 x.record.kind, .int .u8 x.record.level, v] ∧ Sl eField H w x.record.fields v
  len h := by obtain ⟨v, rfl, _⟩ := h; rfl
  evo e h := by obtain ⟨v, hc, hs⟩ := h; exact ⟨v, hc, hs.evo e⟩
  one h := by
    obtain ⟨v, rfl, hs⟩ := h
    obtain ⟨a, c, rfl, _⟩ := hs.form
    simp [Value.oneCell']

def eSaid : Enc GSaid where
  ty := 60
  sz := 6
  pos := by decide
  rel H w x cs := ∃ v, cs = [.string x.field.tag, .string x.field.ind, .string x.field.data, v, .int .i64 x.frm.src, .int .i64 x.frm.num] ∧ Sl eSub H w x.field.subs v
  len h := by obtain ⟨v, rfl, _⟩ := h; rfl
  evo e h := by obtain ⟨v, hc, hs⟩ := h; exact ⟨v, hc, hs.evo e⟩
  one h := by
    obtain ⟨v, rfl, hs⟩ := h
    obtain ⟨a, c, rfl, _⟩ := hs.form
    simp [Value.oneCell']

end Go.Proofs.YtnidmikcjkaegaaGreatDoor
