/-
  What is proved here: the contract of keys.fold. No condition.
-/
import Derived.Test.YtnidmikcjkaegaaGreatDoorFold
namespace Go.Proofs.YtnidmikcjkaegaaGreatDoor
open Go Go.RowKit Go.ML

def blank : ByteArray := ⟨#[32]⟩
def sigma : ByteArray := ⟨#[207, 131]⟩
/-- A folded rune. -/
def foldR (T : List (Int × ByteArray)) (c : Int) : ByteArray :=
  if btw c 97 122 || btw c 48 57 then Utf8.encode c
  else if btw c 65 90 then Utf8.encode (c + 32)
  else if decide (c < 128) then blank
  else if btw c 768 879 || btw c 65056 65071 then ⟨#[]⟩
  else match mget T c with
    | some s => s
    | none =>
      if c == 962 then sigma
      else if btw c 945 969 || btw c 1072 1103 then Utf8.encode c
      else if (btw c 913 937 && c != 930) || btw c 1040 1071 then Utf8.encode (c + 32)
      else blank

theorem btw_yes {c f t : Int} (h : btw c f t = true) : f ≤ c ∧ c ≤ t := by unfold btw at h; simpa using h

set_option maxRecDepth 10000 in
set_option maxHeartbeats 400000 in
theorem fold_a {T : List (Int × ByteArray)} {b : Nat} {w : World} (c : Int) (_HP : Hid (Mp (Value.int .i32) w b (mapV Value.string T))) (hA : btw c 97 122 = true) :
    Calls Tryz.prog 102 #[.int .i32 c, .map (some b)] w fun e w' => e = .returned (.string (foldR T c)) ∧ w = w' := by
  have HQ := Lib.hid (show foldR T c = _ by unfold foldR; simp only [hA]; rfl)
  go_enter Tryz.func102, Tryz.ntmps102
  go_wp2_with (go_at_call 111; refine (between_spec _ _ _ _).mono ?_; rintro e w' ⟨rfl, rfl⟩)
  go_ret
  exact ⟨by rw [HQ.out]; rfl, rfl⟩

set_option maxRecDepth 10000 in
set_option maxHeartbeats 400000 in
theorem fold_b {T : List (Int × ByteArray)} {b : Nat} {w : World} (c : Int) (_HP : Hid (Mp (Value.int .i32) w b (mapV Value.string T))) (hA : btw c 97 122 = false) (hB : btw c 48 57 = true) :
    Calls Tryz.prog 102 #[.int .i32 c, .map (some b)] w fun e w' => e = .returned (.string (foldR T c)) ∧ w = w' := by
  have HQ := Lib.hid (show foldR T c = _ by unfold foldR; simp only [hA, hB]; rfl)
  go_enter Tryz.func102, Tryz.ntmps102
  go_wp2_with (go_at_call 111; refine (between_spec _ _ _ _).mono ?_; rintro e w' ⟨rfl, rfl⟩)
  go_ret
  exact ⟨by rw [HQ.out]; rfl, rfl⟩

set_option maxRecDepth 10000 in
set_option maxHeartbeats 400000 in
theorem fold_c {T : List (Int × ByteArray)} {b : Nat} {w : World} (c : Int) (_HP : Hid (Mp (Value.int .i32) w b (mapV Value.string T))) (hA : btw c 97 122 = false) (hB : btw c 48 57 = false) (hC : btw c 65 90 = true) :
    Calls Tryz.prog 102 #[.int .i32 c, .map (some b)] w fun e w' => e = .returned (.string (foldR T c)) ∧ w = w' := by
  have HQ := Lib.hid (show foldR T c = _ by unfold foldR; simp only [hA, hB, hC]; rfl)
  have hbC := btw_yes hC
  go_enter Tryz.func102, Tryz.ntmps102
  go_wp2_with (go_at_call 111; refine (between_spec _ _ _ _).mono ?_; rintro e w' ⟨rfl, rfl⟩)
  go_ret
  exact ⟨by rw [HQ.out]; rfl, rfl⟩

set_option maxRecDepth 10000 in
set_option maxHeartbeats 400000 in
theorem fold_d {T : List (Int × ByteArray)} {b : Nat} {w : World} (c : Int) (_HP : Hid (Mp (Value.int .i32) w b (mapV Value.string T))) (hA : btw c 97 122 = false) (hB : btw c 48 57 = false) (hC : btw c 65 90 = false) (hD : decide (c < 128) = true) :
    Calls Tryz.prog 102 #[.int .i32 c, .map (some b)] w fun e w' => e = .returned (.string (foldR T c)) ∧ w = w' := by
  have HQ := Lib.hid (show foldR T c = _ by unfold foldR; simp only [hA, hB, hC, hD]; rfl)
  go_enter Tryz.func102, Tryz.ntmps102
  go_wp2_with (go_at_call 111; refine (between_spec _ _ _ _).mono ?_; rintro e w' ⟨rfl, rfl⟩)
  go_ret
  exact ⟨by rw [HQ.out]; rfl, rfl⟩

set_option maxRecDepth 10000 in
set_option maxHeartbeats 400000 in
theorem fold_e {T : List (Int × ByteArray)} {b : Nat} {w : World} (c : Int) (_HP : Hid (Mp (Value.int .i32) w b (mapV Value.string T))) (hA : btw c 97 122 = false) (hB : btw c 48 57 = false) (hC : btw c 65 90 = false) (hD : decide (c < 128) = false) (hE : btw c 768 879 = true) :
    Calls Tryz.prog 102 #[.int .i32 c, .map (some b)] w fun e w' => e = .returned (.string (foldR T c)) ∧ w = w' := by
  have HQ := Lib.hid (show foldR T c = _ by unfold foldR; simp only [hA, hB, hC, hD, hE]; rfl)
  go_enter Tryz.func102, Tryz.ntmps102
  go_wp2_with (go_at_call 111; refine (between_spec _ _ _ _).mono ?_; rintro e w' ⟨rfl, rfl⟩)
  go_ret
  exact ⟨by rw [HQ.out]; rfl, rfl⟩

set_option maxRecDepth 10000 in
set_option maxHeartbeats 400000 in
theorem fold_f {T : List (Int × ByteArray)} {b : Nat} {w : World} (c : Int) (_HP : Hid (Mp (Value.int .i32) w b (mapV Value.string T))) (hA : btw c 97 122 = false) (hB : btw c 48 57 = false) (hC : btw c 65 90 = false) (hD : decide (c < 128) = false) (hE : btw c 768 879 = false) (hF : btw c 65056 65071 = true) :
    Calls Tryz.prog 102 #[.int .i32 c, .map (some b)] w fun e w' => e = .returned (.string (foldR T c)) ∧ w = w' := by
  have HQ := Lib.hid (show foldR T c = _ by unfold foldR; simp only [hA, hB, hC, hD, hE, hF]; rfl)
  go_enter Tryz.func102, Tryz.ntmps102
  go_wp2_with (go_at_call 111; refine (between_spec _ _ _ _).mono ?_; rintro e w' ⟨rfl, rfl⟩)
  go_ret
  exact ⟨by rw [HQ.out]; rfl, rfl⟩

set_option maxRecDepth 10000 in
set_option maxHeartbeats 400000 in
theorem fold_m {T : List (Int × ByteArray)} {b : Nat} {w : World} (c : Int) {u : ByteArray} (HP : Hid (Mp (Value.int .i32) w b (mapV Value.string T))) (hA : btw c 97 122 = false) (hB : btw c 48 57 = false) (hC : btw c 65 90 = false) (hD : decide (c < 128) = false) (hE : btw c 768 879 = false) (hF : btw c 65056 65071 = false) (hM : mget T c = some u) :
    Calls Tryz.prog 102 #[.int .i32 c, .map (some b)] w fun e w' => e = .returned (.string (foldR T c)) ∧ w = w' := by
  have HQ := Lib.hid (show foldR T c = _ by unfold foldR; simp only [hA, hB, hC, hD, hE, hF, hM]; rfl)
  have hlk := Lib.hid (show lookVal true (.string ⟨#[]⟩) (mget (mapV Value.string T) c) = .tuple #[.string u, .bool true] by rw [mget_mapV, hM]; rfl)
  have HM := Lib.hid hM
  clear hM
  go_enter Tryz.func102, Tryz.ntmps102
  go_wp2_with (first | (go_at_call 111; refine (between_spec _ _ _ _).mono ?_; rintro e w' ⟨rfl, rfl⟩) | (at_lookup; refine lookup_law rfl _ _ true rfl (keyInt Tryz.underlying21) Tryz.underlying157 zeroStr rfl HP.out c rfl ?_; rw [hlk.out]))
  go_ret
  exact ⟨by rw [HQ.out]; rfl, rfl⟩

set_option maxRecDepth 10000 in
set_option maxHeartbeats 400000 in
theorem fold_g {T : List (Int × ByteArray)} {b : Nat} {w : World} (c : Int) (HP : Hid (Mp (Value.int .i32) w b (mapV Value.string T))) (hA : btw c 97 122 = false) (hB : btw c 48 57 = false) (hC : btw c 65 90 = false) (hD : decide (c < 128) = false) (hE : btw c 768 879 = false) (hF : btw c 65056 65071 = false) (hM : mget T c = none) (hG : (c == 962) = true) :
    Calls Tryz.prog 102 #[.int .i32 c, .map (some b)] w fun e w' => e = .returned (.string (foldR T c)) ∧ w = w' := by
  have HQ := Lib.hid (show foldR T c = _ by unfold foldR; simp only [hA, hB, hC, hD, hE, hF, hM, hG]; rfl)
  have hlk := Lib.hid (show lookVal true (.string ⟨#[]⟩) (mget (mapV Value.string T) c) = .tuple #[.string ⟨#[]⟩, .bool false] by rw [mget_mapV, hM]; rfl)
  have HM := Lib.hid hM
  clear hM
  go_enter Tryz.func102, Tryz.ntmps102
  go_wp2_with (first | (go_at_call 111; refine (between_spec _ _ _ _).mono ?_; rintro e w' ⟨rfl, rfl⟩) | (at_lookup; refine lookup_law rfl _ _ true rfl (keyInt Tryz.underlying21) Tryz.underlying157 zeroStr rfl HP.out c rfl ?_; rw [hlk.out]))
  go_ret
  exact ⟨by rw [HQ.out]; rfl, rfl⟩

set_option maxRecDepth 10000 in
set_option maxHeartbeats 400000 in
theorem fold_h {T : List (Int × ByteArray)} {b : Nat} {w : World} (c : Int) (HP : Hid (Mp (Value.int .i32) w b (mapV Value.string T))) (hA : btw c 97 122 = false) (hB : btw c 48 57 = false) (hC : btw c 65 90 = false) (hD : decide (c < 128) = false) (hE : btw c 768 879 = false) (hF : btw c 65056 65071 = false) (hM : mget T c = none) (hG : (c == 962) = false) (hH : btw c 945 969 = true) :
    Calls Tryz.prog 102 #[.int .i32 c, .map (some b)] w fun e w' => e = .returned (.string (foldR T c)) ∧ w = w' := by
  have HQ := Lib.hid (show foldR T c = _ by unfold foldR; simp only [hA, hB, hC, hD, hE, hF, hM, hG, hH]; rfl)
  have hlk := Lib.hid (show lookVal true (.string ⟨#[]⟩) (mget (mapV Value.string T) c) = .tuple #[.string ⟨#[]⟩, .bool false] by rw [mget_mapV, hM]; rfl)
  have HM := Lib.hid hM
  clear hM
  go_enter Tryz.func102, Tryz.ntmps102
  go_wp2_with (first | (go_at_call 111; refine (between_spec _ _ _ _).mono ?_; rintro e w' ⟨rfl, rfl⟩) | (at_lookup; refine lookup_law rfl _ _ true rfl (keyInt Tryz.underlying21) Tryz.underlying157 zeroStr rfl HP.out c rfl ?_; rw [hlk.out]))
  go_ret
  exact ⟨by rw [HQ.out]; rfl, rfl⟩

set_option maxRecDepth 10000 in
set_option maxHeartbeats 400000 in
theorem fold_i {T : List (Int × ByteArray)} {b : Nat} {w : World} (c : Int) (HP : Hid (Mp (Value.int .i32) w b (mapV Value.string T))) (hA : btw c 97 122 = false) (hB : btw c 48 57 = false) (hC : btw c 65 90 = false) (hD : decide (c < 128) = false) (hE : btw c 768 879 = false) (hF : btw c 65056 65071 = false) (hM : mget T c = none) (hG : (c == 962) = false) (hH : btw c 945 969 = false) (hI : btw c 1072 1103 = true) :
    Calls Tryz.prog 102 #[.int .i32 c, .map (some b)] w fun e w' => e = .returned (.string (foldR T c)) ∧ w = w' := by
  have HQ := Lib.hid (show foldR T c = _ by unfold foldR; simp only [hA, hB, hC, hD, hE, hF, hM, hG, hH, hI]; rfl)
  have hlk := Lib.hid (show lookVal true (.string ⟨#[]⟩) (mget (mapV Value.string T) c) = .tuple #[.string ⟨#[]⟩, .bool false] by rw [mget_mapV, hM]; rfl)
  have HM := Lib.hid hM
  clear hM
  go_enter Tryz.func102, Tryz.ntmps102
  go_wp2_with (first | (go_at_call 111; refine (between_spec _ _ _ _).mono ?_; rintro e w' ⟨rfl, rfl⟩) | (at_lookup; refine lookup_law rfl _ _ true rfl (keyInt Tryz.underlying21) Tryz.underlying157 zeroStr rfl HP.out c rfl ?_; rw [hlk.out]))
  go_ret
  exact ⟨by rw [HQ.out]; rfl, rfl⟩

set_option maxRecDepth 10000 in
set_option maxHeartbeats 400000 in
theorem fold_j {T : List (Int × ByteArray)} {b : Nat} {w : World} (c : Int) (HP : Hid (Mp (Value.int .i32) w b (mapV Value.string T))) (hA : btw c 97 122 = false) (hB : btw c 48 57 = false) (hC : btw c 65 90 = false) (hD : decide (c < 128) = false) (hE : btw c 768 879 = false) (hF : btw c 65056 65071 = false) (hM : mget T c = none) (hG : (c == 962) = false) (hH : btw c 945 969 = false) (hI : btw c 1072 1103 = false) (hJ : btw c 913 937 = true) (hN : (c != 930) = true) :
    Calls Tryz.prog 102 #[.int .i32 c, .map (some b)] w fun e w' => e = .returned (.string (foldR T c)) ∧ w = w' := by
  have HQ := Lib.hid (show foldR T c = _ by unfold foldR; simp only [hA, hB, hC, hD, hE, hF, hM, hG, hH, hI, hJ, hN]; rfl)
  have hlk := Lib.hid (show lookVal true (.string ⟨#[]⟩) (mget (mapV Value.string T) c) = .tuple #[.string ⟨#[]⟩, .bool false] by rw [mget_mapV, hM]; rfl)
  have HM := Lib.hid hM
  clear hM
  have hbJ := btw_yes hJ
  go_enter Tryz.func102, Tryz.ntmps102
  go_wp2_with (first | (go_at_call 111; refine (between_spec _ _ _ _).mono ?_; rintro e w' ⟨rfl, rfl⟩) | (at_lookup; refine lookup_law rfl _ _ true rfl (keyInt Tryz.underlying21) Tryz.underlying157 zeroStr rfl HP.out c rfl ?_; rw [hlk.out]))
  go_ret
  exact ⟨by rw [HQ.out]; rfl, rfl⟩

set_option maxRecDepth 10000 in
set_option maxHeartbeats 400000 in
theorem fold_jk {T : List (Int × ByteArray)} {b : Nat} {w : World} (c : Int) (HP : Hid (Mp (Value.int .i32) w b (mapV Value.string T))) (hA : btw c 97 122 = false) (hB : btw c 48 57 = false) (hC : btw c 65 90 = false) (hD : decide (c < 128) = false) (hE : btw c 768 879 = false) (hF : btw c 65056 65071 = false) (hM : mget T c = none) (hG : (c == 962) = false) (hH : btw c 945 969 = false) (hI : btw c 1072 1103 = false) (hJ : btw c 913 937 = true) (hN : (c != 930) = false) (hK : btw c 1040 1071 = true) :
    Calls Tryz.prog 102 #[.int .i32 c, .map (some b)] w fun e w' => e = .returned (.string (foldR T c)) ∧ w = w' := by
  have HQ := Lib.hid (show foldR T c = _ by unfold foldR; simp only [hA, hB, hC, hD, hE, hF, hM, hG, hH, hI, hJ, hN, hK]; rfl)
  have hlk := Lib.hid (show lookVal true (.string ⟨#[]⟩) (mget (mapV Value.string T) c) = .tuple #[.string ⟨#[]⟩, .bool false] by rw [mget_mapV, hM]; rfl)
  have HM := Lib.hid hM
  clear hM
  have hbJ := btw_yes hJ
  have hbK := btw_yes hK
  go_enter Tryz.func102, Tryz.ntmps102
  go_wp2_with (first | (go_at_call 111; refine (between_spec _ _ _ _).mono ?_; rintro e w' ⟨rfl, rfl⟩) | (at_lookup; refine lookup_law rfl _ _ true rfl (keyInt Tryz.underlying21) Tryz.underlying157 zeroStr rfl HP.out c rfl ?_; rw [hlk.out]))
  go_ret
  exact ⟨by rw [HQ.out]; rfl, rfl⟩

set_option maxRecDepth 10000 in
set_option maxHeartbeats 400000 in
theorem fold_jn {T : List (Int × ByteArray)} {b : Nat} {w : World} (c : Int) (HP : Hid (Mp (Value.int .i32) w b (mapV Value.string T))) (hA : btw c 97 122 = false) (hB : btw c 48 57 = false) (hC : btw c 65 90 = false) (hD : decide (c < 128) = false) (hE : btw c 768 879 = false) (hF : btw c 65056 65071 = false) (hM : mget T c = none) (hG : (c == 962) = false) (hH : btw c 945 969 = false) (hI : btw c 1072 1103 = false) (hJ : btw c 913 937 = true) (hN : (c != 930) = false) (hK : btw c 1040 1071 = false) :
    Calls Tryz.prog 102 #[.int .i32 c, .map (some b)] w fun e w' => e = .returned (.string (foldR T c)) ∧ w = w' := by
  have HQ := Lib.hid (show foldR T c = _ by unfold foldR; simp only [hA, hB, hC, hD, hE, hF, hM, hG, hH, hI, hJ, hN, hK]; rfl)
  have hlk := Lib.hid (show lookVal true (.string ⟨#[]⟩) (mget (mapV Value.string T) c) = .tuple #[.string ⟨#[]⟩, .bool false] by rw [mget_mapV, hM]; rfl)
  have HM := Lib.hid hM
  clear hM
  have hbJ := btw_yes hJ
  go_enter Tryz.func102, Tryz.ntmps102
  go_wp2_with (first | (go_at_call 111; refine (between_spec _ _ _ _).mono ?_; rintro e w' ⟨rfl, rfl⟩) | (at_lookup; refine lookup_law rfl _ _ true rfl (keyInt Tryz.underlying21) Tryz.underlying157 zeroStr rfl HP.out c rfl ?_; rw [hlk.out]))
  go_ret
  exact ⟨by rw [HQ.out]; rfl, rfl⟩

set_option maxRecDepth 10000 in
set_option maxHeartbeats 400000 in
theorem fold_k {T : List (Int × ByteArray)} {b : Nat} {w : World} (c : Int) (HP : Hid (Mp (Value.int .i32) w b (mapV Value.string T))) (hA : btw c 97 122 = false) (hB : btw c 48 57 = false) (hC : btw c 65 90 = false) (hD : decide (c < 128) = false) (hE : btw c 768 879 = false) (hF : btw c 65056 65071 = false) (hM : mget T c = none) (hG : (c == 962) = false) (hH : btw c 945 969 = false) (hI : btw c 1072 1103 = false) (hJ : btw c 913 937 = false) (hK : btw c 1040 1071 = true) :
    Calls Tryz.prog 102 #[.int .i32 c, .map (some b)] w fun e w' => e = .returned (.string (foldR T c)) ∧ w = w' := by
  have HQ := Lib.hid (show foldR T c = _ by unfold foldR; simp only [hA, hB, hC, hD, hE, hF, hM, hG, hH, hI, hJ, hK]; rfl)
  have hlk := Lib.hid (show lookVal true (.string ⟨#[]⟩) (mget (mapV Value.string T) c) = .tuple #[.string ⟨#[]⟩, .bool false] by rw [mget_mapV, hM]; rfl)
  have HM := Lib.hid hM
  clear hM
  have hbK := btw_yes hK
  go_enter Tryz.func102, Tryz.ntmps102
  go_wp2_with (first | (go_at_call 111; refine (between_spec _ _ _ _).mono ?_; rintro e w' ⟨rfl, rfl⟩) | (at_lookup; refine lookup_law rfl _ _ true rfl (keyInt Tryz.underlying21) Tryz.underlying157 zeroStr rfl HP.out c rfl ?_; rw [hlk.out]))
  go_ret
  exact ⟨by rw [HQ.out]; rfl, rfl⟩

set_option maxRecDepth 10000 in
set_option maxHeartbeats 400000 in
theorem fold_l {T : List (Int × ByteArray)} {b : Nat} {w : World} (c : Int) (HP : Hid (Mp (Value.int .i32) w b (mapV Value.string T))) (hA : btw c 97 122 = false) (hB : btw c 48 57 = false) (hC : btw c 65 90 = false) (hD : decide (c < 128) = false) (hE : btw c 768 879 = false) (hF : btw c 65056 65071 = false) (hM : mget T c = none) (hG : (c == 962) = false) (hH : btw c 945 969 = false) (hI : btw c 1072 1103 = false) (hJ : btw c 913 937 = false) (hK : btw c 1040 1071 = false) :
    Calls Tryz.prog 102 #[.int .i32 c, .map (some b)] w fun e w' => e = .returned (.string (foldR T c)) ∧ w = w' := by
  have HQ := Lib.hid (show foldR T c = _ by unfold foldR; simp only [hA, hB, hC, hD, hE, hF, hM, hG, hH, hI, hJ, hK]; rfl)
  have hlk := Lib.hid (show lookVal true (.string ⟨#[]⟩) (mget (mapV Value.string T) c) = .tuple #[.string ⟨#[]⟩, .bool false] by rw [mget_mapV, hM]; rfl)
  have HM := Lib.hid hM
  clear hM
  go_enter Tryz.func102, Tryz.ntmps102
  go_wp2_with (first | (go_at_call 111; refine (between_spec _ _ _ _).mono ?_; rintro e w' ⟨rfl, rfl⟩) | (at_lookup; refine lookup_law rfl _ _ true rfl (keyInt Tryz.underlying21) Tryz.underlying157 zeroStr rfl HP.out c rfl ?_; rw [hlk.out]))
  go_ret
  exact ⟨by rw [HQ.out]; rfl, rfl⟩

theorem fold_spec {T : List (Int × ByteArray)} {b : Nat} {w : World} (c : Int) (HP : Hid (Mp (Value.int .i32) w b (mapV Value.string T))) :
    Calls Tryz.prog 102 #[.int .i32 c, .map (some b)] w fun e w' => e = .returned (.string (foldR T c)) ∧ w = w' := by
  cases hA : btw c 97 122 with
  | true =>
    exact fold_a c HP hA
  | false =>
    cases hB : btw c 48 57 with
    | true =>
      exact fold_b c HP hA hB
    | false =>
      cases hC : btw c 65 90 with
      | true =>
        exact fold_c c HP hA hB hC
      | false =>
        cases hD : decide (c < 128) with
        | true =>
          exact fold_d c HP hA hB hC hD
        | false =>
          cases hE : btw c 768 879 with
          | true =>
            exact fold_e c HP hA hB hC hD hE
          | false =>
            cases hF : btw c 65056 65071 with
            | true =>
              exact fold_f c HP hA hB hC hD hE hF
            | false =>
              cases hM : mget T c with
              | some u =>
                exact fold_m c HP hA hB hC hD hE hF hM
              | none =>
                cases hG : (c == 962) with
                | true =>
                  exact fold_g c HP hA hB hC hD hE hF hM hG
                | false =>
                  cases hH : btw c 945 969 with
                  | true =>
                    exact fold_h c HP hA hB hC hD hE hF hM hG hH
                  | false =>
                    cases hI : btw c 1072 1103 with
                    | true =>
                      exact fold_i c HP hA hB hC hD hE hF hM hG hH hI
                    | false =>
                      cases hJ : btw c 913 937 with
                      | true =>
                        cases hN : (c != 930) with
                        | true =>
                          exact fold_j c HP hA hB hC hD hE hF hM hG hH hI hJ hN
                        | false =>
                          cases hK : btw c 1040 1071 with
                          | true =>
                            exact fold_jk c HP hA hB hC hD hE hF hM hG hH hI hJ hN hK
                          | false =>
                            exact fold_jn c HP hA hB hC hD hE hF hM hG hH hI hJ hN hK
                      | false =>
                        cases hK : btw c 1040 1071 with
                        | true =>
                          exact fold_k c HP hA hB hC hD hE hF hM hG hH hI hJ hK
                        | false =>
                          exact fold_l c HP hA hB hC hD hE hF hM hG hH hI hJ hK
end Go.Proofs.YtnidmikcjkaegaaGreatDoor
