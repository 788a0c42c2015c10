/- Contracts of the small functions: weight, at, sign, digit, the two closures, cmp.Compare at int and at string. No conditions but those that each theorem states. -/
import Derived.Test.YtfphcecjhdkcoaaDoorChecked
import Derived.Test.YtfphcecjhdkcoaaDoorPlain
import Derived.WalkKit
import Derived.WalkSpells
import Derived.WalkLawsBesides
import Derived.Lib.Hide
import Derived.Lib.Strings
namespace Go.Proofs.YtfphcecjhdkcoaaDoor
open Go.RowKit

theorem ret_int {k : IntKind} {a b : Int} (h : a = b) : Ending.returned (.int k a) = .returned (.int k b) := by rw [h]
theorem ret_bool {a b : Bool} (h : a = b) : Ending.returned (.bool a) = .returned (.bool b) := by rw [h]

theorem wt_til (c : UInt8) (h : c.toNat = 126) : Pl.wt c = -1 := by unfold Pl.wt; rw [if_pos h]
theorem wt_let (c : UInt8) (h : c.toNat ≠ 126) (h2 : Pl.isL c = true) : Pl.wt c = c.toNat := by unfold Pl.wt; rw [if_neg h, if_pos h2]
theorem wt_oth (c : UInt8) (h : c.toNat ≠ 126) (h2 : Pl.isL c = false) : Pl.wt c = c.toNat + 256 := by unfold Pl.wt; rw [if_neg h, if_neg (by simp [h2])]


set_option maxHeartbeats 400000 in
theorem digit_yes (n : Nat) (w : World) (h1 : 48 ≤ n) (h2 : n ≤ 57) :
    Calls Tryd.prog 14 #[.int .u8 n] w fun e w' => e = .returned (.bool true) ∧ w = w' := by
  have a1 : (48 : Int) ≤ n := by omega
  have a2 : (n : Int) ≤ 57 := by omega
  clear h1 h2
  go_enter Tryd.func14, Tryd.ntmps14
  go_wp2
  go_ret
  exact ⟨rfl, rfl⟩

set_option maxHeartbeats 400000 in
theorem digit_low (n : Nat) (w : World) (h1 : n < 48) :
    Calls Tryd.prog 14 #[.int .u8 n] w fun e w' => e = .returned (.bool false) ∧ w = w' := by
  have a1 : (n : Int) < 48 := by omega
  clear h1
  go_enter Tryd.func14, Tryd.ntmps14
  go_wp2
  go_ret
  exact ⟨rfl, rfl⟩

set_option maxHeartbeats 400000 in
theorem digit_high (n : Nat) (w : World) (h1 : 57 < n) :
    Calls Tryd.prog 14 #[.int .u8 n] w fun e w' => e = .returned (.bool false) ∧ w = w' := by
  have a0 : (48 : Int) ≤ n := by omega
  have a1 : decide ((n : Int) ≤ 57) = false := by simp; omega
  clear h1
  go_enter Tryd.func14, Tryd.ntmps14
  go_wp2
  go_ret
  exact ⟨rfl, rfl⟩

theorem digit_any (c : UInt8) (w : World) :
    Calls Tryd.prog 14 #[.int .u8 c.toNat] w fun e w' => e = .returned (.bool (Pl.dig c)) ∧ w = w' := by
  by_cases h1 : 48 ≤ c.toNat
  · by_cases h2 : c.toNat ≤ 57
    · have e : Pl.dig c = true := by unfold Pl.dig; simp [h1, h2]
      rw [e]; exact digit_yes _ w h1 h2
    · have e : Pl.dig c = false := by unfold Pl.dig; simp [h2]
      rw [e]; exact digit_high _ w (by omega)
  · have e : Pl.dig c = false := by unfold Pl.dig; simp [h1]
    rw [e]; exact digit_low _ w (by omega)

set_option maxHeartbeats 400000 in
theorem nodigit1_any (c : UInt8) (w : World) :
    Calls Tryd.prog 13 #[.int .u8 c.toNat] w fun e w' => e = .returned (.bool (!Pl.dig c)) ∧ w = w' := by
  obtain ⟨b, hb⟩ : ∃ b, b = Pl.dig c := ⟨_, rfl⟩
  have hd := digit_any c w
  rw [← hb] at hd ⊢
  clear hb
  have Hd := Lib.hid hd
  clear hd
  go_enter Tryd.func13, Tryd.ntmps13
  go_wp2_with fail
  refine Hd.out.mono ?_
  rintro e w' ⟨rfl, rfl⟩
  go_wp2
  go_ret
  exact ⟨rfl, rfl⟩

set_option maxHeartbeats 400000 in
theorem nodigit2_any (c : UInt8) (w : World) :
    Calls Tryd.prog 15 #[.int .u8 c.toNat] w fun e w' => e = .returned (.bool (!Pl.dig c)) ∧ w = w' := by
  obtain ⟨b, hb⟩ : ∃ b, b = Pl.dig c := ⟨_, rfl⟩
  have hd := digit_any c w
  rw [← hb] at hd ⊢
  clear hb
  have Hd := Lib.hid hd
  clear hd
  go_enter Tryd.func15, Tryd.ntmps15
  go_wp2_with fail
  refine Hd.out.mono ?_
  rintro e w' ⟨rfl, rfl⟩
  go_wp2
  go_ret
  exact ⟨rfl, rfl⟩

/-! The weight of a byte, a way a theorem. -/
set_option maxHeartbeats 400000 in
theorem weight_til (w : World) :
    Calls Tryd.prog 23 #[.int .u8 126] w fun e w' => e = .returned (.int .i64 (-1)) ∧ w = w' := by
  go_enter Tryd.func23, Tryd.ntmps23
  go_wp2
  go_ret
  exact ⟨rfl, rfl⟩

set_option maxHeartbeats 400000 in
theorem weight_low (n : Nat) (w : World) (h1 : 97 ≤ n) (h2 : n ≤ 122) :
    Calls Tryd.prog 23 #[.int .u8 n] w fun e w' => e = .returned (.int .i64 n) ∧ w = w' := by
  have a0 : ((n : Int) == 126) = false := by rw [beq_eq_false_iff_ne]; omega
  have a1 : (97 : Int) ≤ n := by omega
  have a2 : (n : Int) ≤ 122 := by omega
  clear h1 h2
  go_enter Tryd.func23, Tryd.ntmps23
  go_wp2
  go_ret
  exact ⟨rfl, rfl⟩

set_option maxHeartbeats 400000 in
theorem weight_upp (n : Nat) (w : World) (h1 : 65 ≤ n) (h2 : n ≤ 90) :
    Calls Tryd.prog 23 #[.int .u8 n] w fun e w' => e = .returned (.int .i64 n) ∧ w = w' := by
  have a0 : ((n : Int) == 126) = false := by rw [beq_eq_false_iff_ne]; omega
  have a3 : (n : Int) < 97 := by omega
  have a1 : (65 : Int) ≤ n := by omega
  have a2 : (n : Int) ≤ 90 := by omega
  clear h1 h2
  go_enter Tryd.func23, Tryd.ntmps23
  go_wp2
  go_ret
  exact ⟨rfl, rfl⟩

set_option maxHeartbeats 400000 in
theorem weight_oth1 (n : Nat) (w : World) (h1 : n < 65) :
    Calls Tryd.prog 23 #[.int .u8 n] w fun e w' => e = .returned (.int .i64 (n + 256)) ∧ w = w' := by
  have a0 : ((n : Int) == 126) = false := by rw [beq_eq_false_iff_ne]; omega
  have a1 : (n : Int) < 65 := by omega
  have a2 : (0 : Int) ≤ n := by omega
  clear h1
  go_enter Tryd.func23, Tryd.ntmps23
  go_wp2
  go_ret
  exact ⟨rfl, rfl⟩

set_option maxHeartbeats 400000 in
theorem weight_oth2 (n : Nat) (w : World) (h1 : 90 < n) (h2 : n < 97) :
    Calls Tryd.prog 23 #[.int .u8 n] w fun e w' => e = .returned (.int .i64 (n + 256)) ∧ w = w' := by
  have a0 : ((n : Int) == 126) = false := by rw [beq_eq_false_iff_ne]; omega
  have a1 : (90 : Int) < n := by omega
  have a2 : (n : Int) < 97 := by omega
  clear h1 h2
  go_enter Tryd.func23, Tryd.ntmps23
  go_wp2
  go_ret
  exact ⟨rfl, rfl⟩

set_option maxHeartbeats 400000 in
theorem weight_oth3 (n : Nat) (w : World) (h1 : 122 < n) (h2 : n < 256) (h3 : n ≠ 126) :
    Calls Tryd.prog 23 #[.int .u8 n] w fun e w' => e = .returned (.int .i64 (n + 256)) ∧ w = w' := by
  have a0 : ((n : Int) == 126) = false := by rw [beq_eq_false_iff_ne]; omega
  have a1 : decide ((n : Int) ≤ 122) = false := by simp; omega
  have a3 : decide ((n : Int) ≤ 90) = false := by simp; omega
  have a4 : (97 : Int) ≤ n := by omega
  have a5 : (65 : Int) ≤ n := by omega
  have a2 : (n : Int) ≤ 255 := by omega
  clear h1 h2 h3
  go_enter Tryd.func23, Tryd.ntmps23
  go_wp2
  go_ret
  exact ⟨rfl, rfl⟩

theorem weight_any (c : UInt8) (w : World) :
    Calls Tryd.prog 23 #[.int .u8 c.toNat] w fun e w' => e = .returned (.int .i64 (Pl.wt c)) ∧ w = w' := by
  have hb := Pl.toNat_lt c
  unfold Pl.wt
  by_cases h0 : c.toNat = 126
  · rw [if_pos h0, h0]; exact weight_til w
  · rw [if_neg h0]
    by_cases hl : Pl.isL c = true
    · rw [if_pos hl]
      unfold Pl.isL at hl
      simp only [Bool.or_eq_true, Bool.and_eq_true, decide_eq_true_eq] at hl
      rcases hl with ⟨h1, h2⟩ | ⟨h1, h2⟩
      · exact weight_low _ w h1 h2
      · exact weight_upp _ w h1 h2
    · rw [if_neg hl]
      unfold Pl.isL at hl
      simp only [Bool.or_eq_true, Bool.and_eq_true, decide_eq_true_eq] at hl
      by_cases k1 : c.toNat < 65
      · exact weight_oth1 _ w k1
      · by_cases k2 : c.toNat < 97
        · exact weight_oth2 _ w (by omega) k2
        · exact weight_oth3 _ w (by omega) hb h0

set_option maxHeartbeats 400000 in
theorem cmpInt_any (x y : Int) (w : World) :
    Calls Tryd.prog 16 #[.int .i64 x, .int .i64 y] w fun e w' => e = .returned (.int .i64 (Pl.cmpI x y)) ∧ w = w' := by
  go_enter Tryd.func16, Tryd.ntmps16
  go_wp2
  · go_ret
    exact ⟨ret_int (by unfold Pl.cmpI; rw [if_pos (by omega)]), rfl⟩
  · go_ret
    exact ⟨ret_int (by unfold Pl.cmpI; rw [if_neg (by omega), if_pos (by omega)]), rfl⟩
  · go_ret
    exact ⟨ret_int (by unfold Pl.cmpI; rw [if_neg (by omega), if_neg (by omega)]), rfl⟩

set_option maxHeartbeats 400000 in
theorem sign_any (x : Int) (w : World) :
    Calls Tryd.prog 10 #[.int .i64 x] w fun e w' => e = .returned (.int .i64 (Pl.cmpI x 0)) ∧ w = w' := by
  go_enter Tryd.func10, Tryd.ntmps10
  go_wp2
  · go_ret
    exact ⟨ret_int (by unfold Pl.cmpI; rw [if_pos (by omega)]), rfl⟩
  · go_ret
    exact ⟨ret_int (by unfold Pl.cmpI; rw [if_neg (by omega), if_pos (by omega)]), rfl⟩
  · go_ret
    exact ⟨ret_int (by unfold Pl.cmpI; rw [if_neg (by omega), if_neg (by omega)]), rfl⟩

theorem cmpS_lt (x y : ByteArray) (h : Op.bytesLess x.toList y.toList = true) : (-1 : Int) = Pl.cmpS x.data.toList y.data.toList := by
  rw [Lib.toList_data, Lib.toList_data, Pl.less_eq] at h; simpa using (of_decide_eq_true h).symm
theorem cmpS_gt (x y : ByteArray) (h : Op.bytesLess x.toList y.toList = false) (h2 : (!x.toList == y.toList) = true) : (1 : Int) = Pl.cmpS x.data.toList y.data.toList := by
  rw [Lib.toList_data, Lib.toList_data, Pl.less_eq] at h
  rw [Lib.toList_data, Lib.toList_data, Pl.same_eq] at h2
  have a := of_decide_eq_false h
  simp only [Bool.not_eq_true', decide_eq_false_iff_not] at h2
  have := Pl.cmpS_lo x.data.toList y.data.toList
  omega
theorem cmpS_eq (x y : ByteArray) (h2 : (!x.toList == y.toList) = false) : (0 : Int) = Pl.cmpS x.data.toList y.data.toList := by
  rw [Lib.toList_data, Lib.toList_data, Pl.same_eq] at h2
  simp only [Bool.not_eq_false', decide_eq_true_eq] at h2
  omega

set_option maxHeartbeats 400000 in
theorem cmpStr_any (x y : ByteArray) (w : World) :
    Calls Tryd.prog 20 #[.string x, .string y] w fun e w' => e = .returned (.int .i64 (Pl.cmpS x.data.toList y.data.toList)) ∧ w = w' := by
  go_enter Tryd.func20, Tryd.ntmps20
  go_wp2
  · go_ret
    exact ⟨ret_int (cmpS_lt x y ‹_›), rfl⟩
  · go_ret
    exact ⟨ret_int (cmpS_gt x y ‹_› ‹_›), rfl⟩
  · go_ret
    exact ⟨ret_int (cmpS_eq x y ‹_›), rfl⟩
end Go.Proofs.YtfphcecjhdkcoaaDoor
