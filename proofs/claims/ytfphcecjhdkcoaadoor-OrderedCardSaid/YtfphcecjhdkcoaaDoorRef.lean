/- Contracts of the reference's part, in, letter and numbers. No conditions but those that each theorem states. -/
import Derived.Test.YtfphcecjhdkcoaaDoorSplit
namespace Go.Proofs.YtfphcecjhdkcoaaDoor
open Go.RowKit

theorem dig_true {c : UInt8} (h : Pl.dig c = true) : 48 ≤ c.toNat ∧ c.toNat ≤ 57 := by
  unfold Pl.dig at h; simpa using h
theorem dig_false {c : UInt8} (h : Pl.dig c = false) : c.toNat < 48 ∨ (48 ≤ c.toNat ∧ 57 < c.toNat) := by
  unfold Pl.dig at h
  rw [Bool.and_eq_false_iff, decide_eq_false_iff_not, decide_eq_false_iff_not] at h
  omega
theorem nd_true {c : UInt8} (h : nd c = true) : c.toNat < 48 ∨ (48 ≤ c.toNat ∧ 57 < c.toNat) := by
  unfold nd at h; exact dig_false (by simpa using h)
theorem nd_false {c : UInt8} (h : nd c = false) : 48 ≤ c.toNat ∧ c.toNat ≤ 57 := by
  unfold nd at h; exact dig_true (by simpa using h)

set_option maxHeartbeats 400000 in
theorem partD (s : ByteArray) (w : World) (hs : s.size ≤ 9223372036854775807) :
    Calls Tryd.prog 8 #[.string s, .bool true] w fun e w' => e = .returned (.int .i64 (cnt Pl.dig s.data.toList)) ∧ w = w' := by
  have hn : cnt Pl.dig s.data.toList ≤ s.size := by rw [Lib.size_eq]; exact cnt_le _ _
  obtain ⟨n, en⟩ : ∃ n, n = cnt Pl.dig s.data.toList := ⟨_, rfl⟩
  rw [← en] at hn ⊢
  have En := Lib.hid en
  clear en
  go_enter Tryd.func8, Tryd.ntmps8
  go_wp2_with fail
  go_loop [5] (fun i => ∃ k : Nat, k ≤ n ∧ i = .int .i64 k) (fun i => n - (intOf i).toNat)
  case atStart => exact ⟨0, Nat.zero_le _, rfl⟩
  case round =>
    obtain ⟨k, hk, rfl⟩ := hrel
    by_cases hlt : k < n
    · have hks : k < s.size := by omega
      have hp : Pl.dig s[k] = true := cnt_in Pl.dig _ k _ (by rw [← En.out]; exact hlt) (byte_at s k hks)
      obtain hp := dig_true hp
      obtain hp | hp := Or.inl (b := False) hp
      · have a1 : decide ((48 : Int) ≤ s[k].toNat) = true := by simp; omega
        have a2 : decide ((s[k].toNat : Int) ≤ 57) = true := by simp; omega
        clear hp
        go_wp2_with fail
        go_round
        case rel => exact ⟨k + 1, by omega, by go_num⟩
        case measure => simp [intOf]; omega
      · exact hp.elim
    · obtain rfl : k = n := by omega
      by_cases hks : k < s.size
      · have hp : Pl.dig s[k] = false := cnt_out Pl.dig _ _ (by rw [← En.out]; exact byte_at s k hks)
        obtain hp | hp := dig_false hp
        · have a1 : decide ((48 : Int) ≤ s[k].toNat) = false := by simp; omega
          clear hp
          go_wp2_with fail
          go_ret
          exact ⟨rfl, rfl⟩
        · have a1 : decide ((48 : Int) ≤ s[k].toNat) = true := by simp; omega
          have a2 : decide ((s[k].toNat : Int) ≤ 57) = false := by simp; omega
          clear hp
          go_wp2_with fail
          go_ret
          exact ⟨rfl, rfl⟩
      · go_wp2_with fail
        go_ret
        exact ⟨rfl, rfl⟩

set_option maxHeartbeats 400000 in
theorem partN (s : ByteArray) (w : World) (hs : s.size ≤ 9223372036854775807) :
    Calls Tryd.prog 8 #[.string s, .bool false] w fun e w' => e = .returned (.int .i64 (cnt nd s.data.toList)) ∧ w = w' := by
  have hn : cnt nd s.data.toList ≤ s.size := by rw [Lib.size_eq]; exact cnt_le _ _
  obtain ⟨n, en⟩ : ∃ n, n = cnt nd s.data.toList := ⟨_, rfl⟩
  rw [← en] at hn ⊢
  have En := Lib.hid en
  clear en
  go_enter Tryd.func8, Tryd.ntmps8
  go_wp2_with fail
  go_loop [5] (fun i => ∃ k : Nat, k ≤ n ∧ i = .int .i64 k) (fun i => n - (intOf i).toNat)
  case atStart => exact ⟨0, Nat.zero_le _, rfl⟩
  case round =>
    obtain ⟨k, hk, rfl⟩ := hrel
    by_cases hlt : k < n
    · have hks : k < s.size := by omega
      have hp : nd s[k] = true := cnt_in nd _ k _ (by rw [← En.out]; exact hlt) (byte_at s k hks)
      obtain hp | hp := nd_true hp
      · have a1 : decide ((48 : Int) ≤ s[k].toNat) = false := by simp; omega
        clear hp
        go_wp2_with fail
        go_round
        case rel => exact ⟨k + 1, by omega, by go_num⟩
        case measure => simp [intOf]; omega
      · have a1 : decide ((48 : Int) ≤ s[k].toNat) = true := by simp; omega
        have a2 : decide ((s[k].toNat : Int) ≤ 57) = false := by simp; omega
        clear hp
        go_wp2_with fail
        go_round
        case rel => exact ⟨k + 1, by omega, by go_num⟩
        case measure => simp [intOf]; omega
    · obtain rfl : k = n := by omega
      by_cases hks : k < s.size
      · have hp : nd s[k] = false := cnt_out nd _ _ (by rw [← En.out]; exact byte_at s k hks)
        have hp := nd_false hp
        obtain hp | hp := Or.inl (b := False) hp
        · have a1 : decide ((48 : Int) ≤ s[k].toNat) = true := by simp; omega
          have a2 : decide ((s[k].toNat : Int) ≤ 57) = true := by simp; omega
          clear hp
          go_wp2_with fail
          go_ret
          exact ⟨rfl, rfl⟩
        · exact hp.elim
      · go_wp2_with fail
        go_ret
        exact ⟨rfl, rfl⟩

end Go.Proofs.YtfphcecjhdkcoaaDoor
