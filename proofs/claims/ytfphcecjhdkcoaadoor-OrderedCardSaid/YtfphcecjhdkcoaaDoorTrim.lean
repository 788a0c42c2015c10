/- Contracts of strings.trimLeftByte and strings.TrimLeft at the cutset 0, and of cmp.Or at two ints. No conditions but those that each theorem states. -/
import Derived.Test.YtfphcecjhdkcoaaDoorSplit
namespace Go.Proofs.YtfphcecjhdkcoaaDoor
open Go.RowKit

/-- One text; the world as it was. -/
def Str1 (l : Pl.Bs) (w : World) (e : Ending) (w' : World) : Prop :=
  ∃ x : ByteArray, e = .returned (.string x) ∧ Hid (x.data.toList = l) ∧ w = w'

theorem trim_cons (c : UInt8) (l : Pl.Bs) : Pl.trim (c :: l) = if (c == 48) = true then Pl.trim l else c :: l := by
  unfold Pl.trim; rw [List.dropWhile_cons]

theorem head_tail (t : ByteArray) (h : 0 < t.size) : t.data.toList = t[0] :: (t.extract 1 t.size).data.toList := by
  have h' : 0 < t.data.toList.length := by rw [← Lib.size_eq]; exact h
  rw [Lib.extract_data, List.take_of_length_le (by rw [List.length_drop, Lib.size_eq]; omega)]
  have e := List.getElem?_eq_getElem h'
  rw [byte_at t 0 h] at e
  rw [Option.some.inj e]
  exact (List.drop_zero (l := t.data.toList)).symm.trans (List.drop_eq_getElem_cons h')

theorem trim_on (t : ByteArray) (h : 0 < t.size) (hc : t[0].toNat = 48) : Pl.trim (t.extract 1 t.size).data.toList = Pl.trim t.data.toList := by
  rw [head_tail t h, trim_cons, if_pos (by rw [beq_iff_eq]; exact UInt8.toNat_inj.1 hc)]
theorem trim_stop (t : ByteArray) (h : 0 < t.size) (hc : t[0].toNat ≠ 48) : t.data.toList = Pl.trim t.data.toList := by
  have e := head_tail t h
  rw [e, trim_cons, if_neg (by rw [beq_iff_eq]; intro e; exact hc (by rw [e]; rfl))]
theorem trim_none (t : ByteArray) (h : ¬ 0 < t.size) : t.data.toList = Pl.trim t.data.toList := by
  have e : t.data.toList = [] := List.eq_nil_of_length_eq_zero (by rw [← Lib.size_eq]; omega)
  rw [e]; rfl

/-- For a loop's measure. -/
def strSz : Value → Nat
  | .string t => t.size
  | _ => 0
theorem strSz_string (t : ByteArray) : strSz (.string t) = t.size := rfl

set_option maxHeartbeats 400000 in
theorem trimByte_any (s : ByteArray) (w : World) (hs : s.size ≤ 9223372036854775807) :
    Calls Tryd.prog 24 #[.string s, .int .u8 48] w (Str1 (Pl.trim s.data.toList) w) := by
  go_enter Tryd.func24, Tryd.ntmps24
  go_wp2_with fail
  go_loop [0] (fun v => ∃ t : ByteArray, v = .string t ∧ t.size ≤ 9223372036854775807 ∧ Hid (Pl.trim t.data.toList = Pl.trim s.data.toList)) (fun v => strSz v)
  case atStart => exact ⟨s, rfl, hs, Lib.hid rfl⟩
  case round =>
    obtain ⟨t, rfl, ht, Ht⟩ := hrel
    by_cases h0 : 0 < t.size
    · by_cases hc : t[0].toNat = 48
      · have Hx := Lib.hid (trim_on t h0 hc)
        have hc' : ((t[0].toNat : Int) == 48) = true := by rw [beq_iff_eq]; omega
        clear hc
        have hsz : (t.extract 1 t.size).size = t.size - 1 := by simp
        have Hsz := Lib.hid hsz
        clear hsz
        go_wp2_with fail
        go_round
        case rel => exact ⟨_, rfl, by rw [Hsz.out]; omega, Lib.hid (Hx.out.trans Ht.out)⟩
        case measure => rw [strSz_string, strSz_string, Hsz.out]; omega
      · have Hx := Lib.hid (trim_stop t h0 hc)
        have hc' : ((t[0].toNat : Int) == 48) = false := by rw [beq_eq_false_iff_ne]; omega
        clear hc
        go_wp2_with fail
        go_ret
        exact ⟨t, rfl, Lib.hid (Hx.out.trans Ht.out), rfl⟩
    · have Hx := Lib.hid (trim_none t h0)
      go_wp2_with fail
      go_ret
      exact ⟨t, rfl, Lib.hid (Hx.out.trans Ht.out), rfl⟩


theorem empty_no (s : ByteArray) (h : 0 < s.size) : s.toList.isEmpty = false := by
  rw [Lib.toList_data, List.isEmpty_eq_false_iff]
  intro e
  rw [Lib.size_eq, e] at h
  exact absurd h (by simp)
theorem empty_yes (s : ByteArray) (h : ¬ 0 < s.size) : s.toList.isEmpty = true := by
  rw [Lib.toList_data, List.isEmpty_iff]
  exact List.eq_nil_of_length_eq_zero (by rw [← Lib.size_eq]; omega)

set_option maxHeartbeats 400000 in
theorem trimLeft_any (s : ByteArray) (w : World) (hs : s.size ≤ 9223372036854775807) :
    Calls Tryd.prog 18 #[.string s, .string ⟨#[48]⟩] w (Str1 (Pl.trim s.data.toList) w) := by
  by_cases h0 : 0 < s.size
  · have g1 := empty_no s h0
    have e48 : ((⟨#[48]⟩ : ByteArray)[0]'(by decide)).toNat = 48 := rfl
    go_enter Tryd.func18, Tryd.ntmps18
    go_wp2_with fail
    refine (trimByte_any s w hs).mono ?_
    rintro e w' ⟨x, rfl, Hx, rfl⟩
    go_wp2_with fail
    go_ret
    exact ⟨x, rfl, Hx, rfl⟩
  · have g1 := empty_yes s h0
    have Hx := Lib.hid (trim_none s h0)
    go_enter Tryd.func18, Tryd.ntmps18
    go_wp2_with fail
    go_ret
    exact ⟨s, rfl, Hx, rfl⟩

theorem lex_fst (x y : Int) (h : x ≠ 0) : x = Pl.lex x y := by unfold Pl.lex; rw [if_pos h]
theorem lex_snd (y : Int) : y = Pl.lex 0 y := rfl

set_option maxHeartbeats 400000 in
theorem or_00 (b n : Nat) (w : World) (h0 : w.cell? ⟨b, 0, none⟩ = some (.int .i64 0)) (h1 : w.cell? ⟨b, 1, none⟩ = some (.int .i64 0)) :
    Calls Tryd.prog 19 #[.slice (some ⟨b, 0, none⟩) 2 n] w fun e w' => e = .returned (.int .i64 0) ∧ w = w' := by
  go_enter Tryd.func19, Tryd.ntmps19
  go_wp2_with fail
  go_loop [8] (fun i => ∃ k : Nat, k ≤ 2 ∧ i = .int .i64 k) (fun i => 2 - (intOf i).toNat)
  case atStart => exact ⟨0, by omega, rfl⟩
  case round =>
    obtain ⟨k, hk, rfl⟩ := hrel
    obtain rfl | rfl | rfl : k = 0 ∨ k = 1 ∨ k = 2 := by omega
    · go_wp2_with fail
      go_round
      case rel => exact ⟨1, by omega, rfl⟩
      case measure => simp [intOf]
    · go_wp2_with fail
      go_round
      case rel => exact ⟨2, by omega, rfl⟩
      case measure => simp [intOf]
    · go_wp2_with fail
      go_ret
      exact ⟨rfl, rfl⟩

set_option maxHeartbeats 400000 in
theorem or_0y (y : Int) (hy : (y != 0) = true) (b n : Nat) (w : World) (h0 : w.cell? ⟨b, 0, none⟩ = some (.int .i64 0)) (h1 : w.cell? ⟨b, 1, none⟩ = some (.int .i64 y)) :
    Calls Tryd.prog 19 #[.slice (some ⟨b, 0, none⟩) 2 n] w fun e w' => e = .returned (.int .i64 y) ∧ w = w' := by
  go_enter Tryd.func19, Tryd.ntmps19
  go_wp2_with fail
  go_loop [8] (fun i => ∃ k : Nat, k ≤ 1 ∧ i = .int .i64 k) (fun i => 2 - (intOf i).toNat)
  case atStart => exact ⟨0, by omega, rfl⟩
  case round =>
    obtain ⟨k, hk, rfl⟩ := hrel
    obtain rfl | rfl : k = 0 ∨ k = 1 := by omega
    · go_wp2_with fail
      go_round
      case rel => exact ⟨1, by omega, rfl⟩
      case measure => simp [intOf]
    · go_wp2_with fail
      go_ret
      exact ⟨rfl, rfl⟩

set_option maxHeartbeats 400000 in
theorem or_x (x y : Int) (hx : (x != 0) = true) (b n : Nat) (w : World) (h0 : w.cell? ⟨b, 0, none⟩ = some (.int .i64 x)) (_h1 : w.cell? ⟨b, 1, none⟩ = some (.int .i64 y)) :
    Calls Tryd.prog 19 #[.slice (some ⟨b, 0, none⟩) 2 n] w fun e w' => e = .returned (.int .i64 x) ∧ w = w' := by
  go_enter Tryd.func19, Tryd.ntmps19
  go_wp2_with fail
  go_loop [8] (fun i => ∃ k : Nat, k ≤ 0 ∧ i = .int .i64 k) (fun i => 2 - (intOf i).toNat)
  case atStart => exact ⟨0, by omega, rfl⟩
  case round =>
    obtain ⟨k, hk, rfl⟩ := hrel
    obtain rfl : k = 0 := by omega
    go_wp2_with fail
    go_ret
    exact ⟨rfl, rfl⟩

theorem or_any (x y : Int) (b n : Nat) (w : World) (h0 : w.cell? ⟨b, 0, none⟩ = some (.int .i64 x)) (h1 : w.cell? ⟨b, 1, none⟩ = some (.int .i64 y)) :
    Calls Tryd.prog 19 #[.slice (some ⟨b, 0, none⟩) 2 n] w fun e w' => e = .returned (.int .i64 (Pl.lex x y)) ∧ w = w' := by
  by_cases hx : x = 0
  · subst hx
    by_cases hy : y = 0
    · subst hy; exact or_00 b n w h0 h1
    · exact or_0y y (by rw [bne_iff_ne]; exact hy) b n w h0 h1
  · rw [← lex_fst x y hx]; exact or_x x y (by rw [bne_iff_ne]; exact hx) b n w h0 h1
end Go.Proofs.YtfphcecjhdkcoaaDoor
