/- Contracts of at and split. No conditions but those that each theorem states. -/
import Derived.Test.YtfphcecjhdkcoaaDoorLeaves
import Derived.Deep.QuietTactic
import Derived.BigQuiet
import Derived.RegionTactic
namespace Go.Proofs.YtfphcecjhdkcoaaDoor
open Go.RowKit

theorem byte_at (s : ByteArray) (k : Nat) (h : k < s.size) : s.data.toList[k]? = some s[k] := by
  rw [Array.getElem?_toList]; exact Array.getElem?_eq_getElem h

theorem at0_in (s : ByteArray) (k : Nat) (h : k < s.size) (f : UInt8 → Int) : Pl.at0 f s.data.toList k = f s[k] := by
  unfold Pl.at0; rw [byte_at s k h]
theorem at0_out (s : ByteArray) (k : Nat) (h : ¬ k < s.size) (f : UInt8 → Int) : Pl.at0 f s.data.toList k = 0 :=
  Pl.at0_end f _ _ (by rw [← Lib.size_eq]; omega)

set_option maxHeartbeats 400000 in
theorem at_any (s : ByteArray) (k : Nat) (w : World) :
    Calls Tryd.prog 17 #[.string s, .int .i64 k] w fun e w' => e = .returned (.int .i64 (Pl.at0 Pl.wt s.data.toList k)) ∧ w = w' := by
  by_cases h : k < s.size
  · rw [at0_in s k h]
    go_enter Tryd.func17, Tryd.ntmps17
    go_wp2_with fail
    refine (weight_any _ _).mono ?_
    rintro e w' ⟨rfl, rfl⟩
    go_wp2
    go_ret
    exact ⟨rfl, rfl⟩
  · rw [at0_out s k h]
    go_enter Tryd.func17, Tryd.ntmps17
    go_wp2_with fail
    go_ret
    exact ⟨rfl, rfl⟩

/-- How many bytes a text begins with for which p holds. -/
def cnt (p : UInt8 → Bool) (l : Pl.Bs) : Nat := (l.takeWhile p).length
theorem cnt_le (p : UInt8 → Bool) : ∀ l, cnt p l ≤ l.length
  | [] => by simp [cnt]
  | c :: l => by
    have := cnt_le p l
    unfold cnt at *
    rw [List.takeWhile_cons]; split <;> simp only [List.length_cons, List.length_nil] <;> omega
theorem take_cnt (p : UInt8 → Bool) : ∀ l : Pl.Bs, l.take (cnt p l) = l.takeWhile p
  | [] => by simp
  | c :: l => by
    have := take_cnt p l
    unfold cnt at *
    rw [List.takeWhile_cons]; split
    · simp only [List.length_cons, List.take_succ_cons, this]
    · simp
theorem drop_cnt (p : UInt8 → Bool) : ∀ l : Pl.Bs, l.drop (cnt p l) = l.dropWhile p
  | [] => by simp
  | c :: l => by
    have := drop_cnt p l
    unfold cnt at *
    rw [List.takeWhile_cons, List.dropWhile_cons]; split
    · simp only [List.length_cons, List.drop_succ_cons, this]
    · simp
theorem cnt_in (p : UInt8 → Bool) : ∀ (l : Pl.Bs) (k : Nat) (c : UInt8), k < cnt p l → l[k]? = some c → p c = true
  | [], k, c, h, _ => by simp [cnt] at h
  | d :: l, k, c, h, e => by
    have ih := cnt_in p l
    unfold cnt at *
    rw [List.takeWhile_cons] at h
    split at h
    · cases k with
      | zero => simp only [List.getElem?_cons_zero, Option.some.injEq] at e; rw [← e]; assumption
      | succ k => simp only [List.getElem?_cons_succ] at e; exact ih k c (by simpa using h) e
    · simp at h
theorem cnt_out (p : UInt8 → Bool) : ∀ (l : Pl.Bs) (c : UInt8), l[cnt p l]? = some c → p c = false
  | [], c, e => by simp at e
  | d :: l, c, e => by
    have ih := cnt_out p l
    unfold cnt at *
    rw [List.takeWhile_cons] at e
    split at e
    · simp only [List.length_cons, List.getElem?_cons_succ] at e; exact ih c e
    · simp only [List.length_nil, List.getElem?_cons_zero, Option.some.injEq] at e; rw [← e]; simpa using ‹¬ p d = true›

def nd (c : UInt8) : Bool := !Pl.dig c

/-- Two texts, and the world as it was but for new memory. -/
def Str2 (l m : Pl.Bs) (w : World) (e : Ending) (w' : World) : Prop :=
  ∃ x y : ByteArray, e = .returned (.tuple #[.string x, .string y]) ∧ Hid (x.data.toList = l) ∧ Hid (y.data.toList = m) ∧ Below w.heap.size w w'


theorem Str2.cut (p : UInt8 → Bool) (s : ByteArray) (k : Nat) (h : k = cnt p s.data.toList) (w : World) (nq : Nat) :
    Str2 (s.data.toList.takeWhile p) (s.data.toList.dropWhile p) w (.returned (.tuple #[.string (s.extract 0 k), .string (s.extract k s.size)])) (w.drewN nq) :=
  ⟨_, _, rfl, Lib.hid (by rw [Lib.extract_data, List.drop_zero, Nat.sub_zero, h, take_cnt]),
    Lib.hid (by rw [Lib.extract_data, List.take_of_length_le (by rw [List.length_drop, Lib.size_eq]; omega), h, drop_cnt]), below_drewN (Below.refl _ _) nq⟩

set_option maxHeartbeats 400000 in
theorem split14 (s : ByteArray) (w : World) (hs : s.size ≤ 9223372036854775807) :
    Calls Tryd.prog 12 #[.string s, .func (.func 14) #[] #[]] w (Str2 (s.data.toList.takeWhile Pl.dig) (s.data.toList.dropWhile Pl.dig) w) := by
  have hn : cnt Pl.dig s.data.toList ≤ s.size := by rw [Lib.size_eq]; exact cnt_le _ _
  obtain ⟨n, en⟩ : ∃ n, n = cnt Pl.dig s.data.toList := ⟨_, rfl⟩
  rw [← en] at hn
  have En := Lib.hid en
  clear en
  go_enter Tryd.func12, Tryd.ntmps12
  go_wp2_with fail
  go_loop [6] (fun i => ∃ k : Nat, k ≤ n ∧ i = .int .i64 k) (fun i => n - (intOf i).toNat)
  case atStart => exact ⟨0, Nat.zero_le _, rfl⟩
  case round =>
    obtain ⟨k, hk, rfl⟩ := hrel
    by_cases hlt : k < n
    · have hks : k < s.size := by omega
      have hd : Calls Tryd.prog 14 #[.int .u8 s[k].toNat] w fun e w' => e = .returned (.bool (Pl.dig s[k])) ∧ w = w' := digit_any s[k] w
      rw [show Pl.dig s[k] = true from cnt_in Pl.dig _ k _ (by rw [← En.out]; exact hlt) (byte_at s k hks)] at hd
      have Hd := Lib.hid hd
      clear hd
      go_wp2_with fail
      refine Hd.out.mono ?_
      rintro e w' ⟨rfl, rfl⟩
      go_wp2_with fail
      go_round
      case rel => exact ⟨k + 1, by omega, by go_num⟩
      case measure => simp [intOf]; omega
    · obtain rfl : k = n := by omega
      by_cases hks : k < s.size
      · have hd : Calls Tryd.prog 14 #[.int .u8 s[k].toNat] w fun e w' => e = .returned (.bool (Pl.dig s[k])) ∧ w = w' := digit_any s[k] w
        rw [show Pl.dig s[k] = false from cnt_out Pl.dig _ _ (by rw [← En.out]; exact byte_at s k hks)] at hd
        have Hd := Lib.hid hd
        clear hd
        go_wp2_with fail
        refine Hd.out.mono ?_
        rintro e w' ⟨rfl, rfl⟩
        go_wp2_with fail
        go_quiet (fail)
        go_wp2
        go_ret2
        exact Str2.cut Pl.dig s k En.out w _
      · go_wp2_with fail
        go_quiet (fail)
        go_wp2
        go_ret2
        exact Str2.cut Pl.dig s k En.out w _

set_option maxHeartbeats 400000 in
theorem split13 (s : ByteArray) (w : World) (hs : s.size ≤ 9223372036854775807) :
    Calls Tryd.prog 12 #[.string s, .func (.func 13) #[] #[]] w (Str2 (s.data.toList.takeWhile nd) (s.data.toList.dropWhile nd) w) := by
  have hn : cnt nd s.data.toList ≤ s.size := by rw [Lib.size_eq]; exact cnt_le _ _
  obtain ⟨n, en⟩ : ∃ n, n = cnt nd s.data.toList := ⟨_, rfl⟩
  rw [← en] at hn
  have En := Lib.hid en
  clear en
  go_enter Tryd.func12, Tryd.ntmps12
  go_wp2_with fail
  go_loop [6] (fun i => ∃ k : Nat, k ≤ n ∧ i = .int .i64 k) (fun i => n - (intOf i).toNat)
  case atStart => exact ⟨0, Nat.zero_le _, rfl⟩
  case round =>
    obtain ⟨k, hk, rfl⟩ := hrel
    by_cases hlt : k < n
    · have hks : k < s.size := by omega
      have hd : Calls Tryd.prog 13 #[.int .u8 s[k].toNat] w fun e w' => e = .returned (.bool (nd s[k])) ∧ w = w' := nodigit1_any s[k] w
      rw [show nd s[k] = true from cnt_in nd _ k _ (by rw [← En.out]; exact hlt) (byte_at s k hks)] at hd
      have Hd := Lib.hid hd
      clear hd
      go_wp2_with fail
      refine Hd.out.mono ?_
      rintro e w' ⟨rfl, rfl⟩
      go_wp2_with fail
      go_round
      case rel => exact ⟨k + 1, by omega, by go_num⟩
      case measure => simp [intOf]; omega
    · obtain rfl : k = n := by omega
      by_cases hks : k < s.size
      · have hd : Calls Tryd.prog 13 #[.int .u8 s[k].toNat] w fun e w' => e = .returned (.bool (nd s[k])) ∧ w = w' := nodigit1_any s[k] w
        rw [show nd s[k] = false from cnt_out nd _ _ (by rw [← En.out]; exact byte_at s k hks)] at hd
        have Hd := Lib.hid hd
        clear hd
        go_wp2_with fail
        refine Hd.out.mono ?_
        rintro e w' ⟨rfl, rfl⟩
        go_wp2_with fail
        go_quiet (fail)
        go_wp2
        go_ret2
        exact Str2.cut nd s k En.out w _
      · go_wp2_with fail
        go_quiet (fail)
        go_wp2
        go_ret2
        exact Str2.cut nd s k En.out w _

set_option maxHeartbeats 400000 in
theorem split15 (s : ByteArray) (w : World) (hs : s.size ≤ 9223372036854775807) :
    Calls Tryd.prog 12 #[.string s, .func (.func 15) #[] #[]] w (Str2 (s.data.toList.takeWhile nd) (s.data.toList.dropWhile nd) w) := by
  have hn : cnt nd s.data.toList ≤ s.size := by rw [Lib.size_eq]; exact cnt_le _ _
  obtain ⟨n, en⟩ : ∃ n, n = cnt nd s.data.toList := ⟨_, rfl⟩
  rw [← en] at hn
  have En := Lib.hid en
  clear en
  go_enter Tryd.func12, Tryd.ntmps12
  go_wp2_with fail
  go_loop [6] (fun i => ∃ k : Nat, k ≤ n ∧ i = .int .i64 k) (fun i => n - (intOf i).toNat)
  case atStart => exact ⟨0, Nat.zero_le _, rfl⟩
  case round =>
    obtain ⟨k, hk, rfl⟩ := hrel
    by_cases hlt : k < n
    · have hks : k < s.size := by omega
      have hd : Calls Tryd.prog 15 #[.int .u8 s[k].toNat] w fun e w' => e = .returned (.bool (nd s[k])) ∧ w = w' := nodigit2_any s[k] w
      rw [show nd s[k] = true from cnt_in nd _ k _ (by rw [← En.out]; exact hlt) (byte_at s k hks)] at hd
      have Hd := Lib.hid hd
      clear hd
      go_wp2_with fail
      refine Hd.out.mono ?_
      rintro e w' ⟨rfl, rfl⟩
      go_wp2_with fail
      go_round
      case rel => exact ⟨k + 1, by omega, by go_num⟩
      case measure => simp [intOf]; omega
    · obtain rfl : k = n := by omega
      by_cases hks : k < s.size
      · have hd : Calls Tryd.prog 15 #[.int .u8 s[k].toNat] w fun e w' => e = .returned (.bool (nd s[k])) ∧ w = w' := nodigit2_any s[k] w
        rw [show nd s[k] = false from cnt_out nd _ _ (by rw [← En.out]; exact byte_at s k hks)] at hd
        have Hd := Lib.hid hd
        clear hd
        go_wp2_with fail
        refine Hd.out.mono ?_
        rintro e w' ⟨rfl, rfl⟩
        go_wp2_with fail
        go_quiet (fail)
        go_wp2
        go_ret2
        exact Str2.cut nd s k En.out w _
      · go_wp2_with fail
        go_quiet (fail)
        go_wp2
        go_ret2
        exact Str2.cut nd s k En.out w _

end Go.Proofs.YtfphcecjhdkcoaaDoor
