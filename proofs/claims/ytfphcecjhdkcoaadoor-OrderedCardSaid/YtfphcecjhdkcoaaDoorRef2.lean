/- Contracts of the reference's in and letter. No conditions but those that each theorem states. -/
import Derived.Test.YtfphcecjhdkcoaaDoorRef
import Derived.Test.YtfphcecjhdkcoaaDoorTrim
namespace Go.Proofs.YtfphcecjhdkcoaaDoor
open Go.RowKit

def isNot (c : UInt8) (d : UInt8) : Bool := !(d == c)

theorem has_cnt (c : UInt8) : ∀ l : Pl.Bs, l.contains c = decide (cnt (isNot c) l < l.length)
  | [] => by simp [cnt]
  | d :: l => by
    have ih := has_cnt c l
    unfold cnt at *
    rw [List.contains_cons, List.takeWhile_cons, ih]
    by_cases h : d = c
    · subst h; simp [isNot]
    · have h1 : isNot c d = true := by unfold isNot; simp [h]
      have h2 : (c == d) = false := by rw [beq_eq_false_iff_ne]; exact fun e => h e.symm
      rw [h1, h2]; simp

theorem one_at (z : ByteArray) (k : Nat) (h : k < z.size) : (z.extract k (k + 1)).toList = [z[k]] := by
  rw [Lib.extract_toList, show k + 1 - k = 1 from by omega]
  have h' : k < z.data.toList.length := by rw [← Lib.size_eq]; exact h
  rw [List.drop_eq_getElem_cons h']
  have e := List.getElem?_eq_getElem h'
  rw [byte_at z k h] at e
  rw [Option.some.inj e]; rfl

theorem one_eq (z s : ByteArray) (c : UInt8) (hs : s.toList = [c]) (k : Nat) (h : k < z.size) : ((z.extract k (k + 1)).toList == s.toList) = !(isNot c z[k]) := by
  rw [one_at z k h, hs]
  unfold isNot
  rw [Bool.not_not]
  simp only [List.cons_beq_cons, Bool.and_true, beq_self_eq_true]

set_option maxHeartbeats 400000 in
theorem in_any (s z : ByteArray) (c : UInt8) (w : World) (hs : s.toList = [c]) (hz : z.size ≤ 1000) :
    Calls Tryd.prog 21 #[.string s, .string z] w fun e w' => e = .returned (.bool (decide (cnt (isNot c) z.data.toList < z.size))) ∧ w = w' := by
  have h1 : s.size = 1 := by rw [Lib.size_eq, ← Lib.toList_data, hs]; rfl
  have hn : cnt (isNot c) z.data.toList ≤ z.size := by rw [Lib.size_eq]; exact cnt_le _ _
  have Hs := Lib.hid hs
  clear hs
  obtain ⟨n, en⟩ : ∃ n, n = cnt (isNot c) z.data.toList := ⟨_, rfl⟩
  rw [← en] at hn ⊢
  have En := Lib.hid en
  clear en
  go_enter Tryd.func21, Tryd.ntmps21
  go_wp2_with fail
  go_loop [5] (fun i => ∃ k : Nat, k ≤ n ∧ i = .int .i64 k) (fun i => 2000 - (intOf i).toNat)
  case atStart => exact ⟨0, Nat.zero_le _, rfl⟩
  case round =>
    obtain ⟨k, hk, rfl⟩ := hrel
    by_cases hks : k < z.size
    · have he := one_eq z s c Hs.out k hks
      by_cases hlt : k < n
      · rw [cnt_in (isNot c) _ k _ (by rw [← En.out]; exact hlt) (byte_at z k hks)] at he
        have he' : ((z.extract k (k + 1)).toList == s.toList) = false := he
        clear he
        go_wp2_with fail
        refine ⟨⟨k + 1, by omega, by go_num⟩, by simp [intOf]; omega⟩
      · obtain rfl : k = n := by omega
        rw [cnt_out (isNot c) _ _ (by rw [← En.out]; exact byte_at z k hks)] at he
        have he' : ((z.extract k (k + 1)).toList == s.toList) = true := he
        clear he
        go_wp2_with fail
        go_ret
        exact ⟨rfl, rfl⟩
    · obtain rfl : k = n := by omega
      go_wp2_with fail
      go_ret
      exact ⟨ret_bool (by simp), rfl⟩

def letters : Pl.Bs := [97, 98, 99, 100, 101, 102, 103, 104, 105, 106, 107, 108, 109, 110, 111, 112, 113, 114, 115, 116, 117, 118, 119, 120, 121, 122, 65, 66, 67, 68, 69, 70, 71, 72, 73, 74, 75, 76, 77, 78, 79, 80, 81, 82, 83, 84, 85, 86, 87, 88, 89, 90]

theorem letters_fin : ∀ n : Fin 256, letters.contains (UInt8.ofNat n.val) = Pl.isL (UInt8.ofNat n.val) := by decide +kernel

theorem letters_any (c : UInt8) : letters.contains c = Pl.isL c := by
  have h := letters_fin ⟨c.toNat, Pl.toNat_lt c⟩
  simpa using h

theorem in_letters (s : ByteArray) (c : UInt8) (w : World) (hs : s.toList = [c]) :
    Calls Tryd.prog 21 #[.string s, .string ⟨#[97, 98, 99, 100, 101, 102, 103, 104, 105, 106, 107, 108, 109, 110, 111, 112, 113, 114, 115, 116, 117, 118, 119, 120, 121, 122, 65, 66, 67, 68, 69, 70, 71, 72, 73, 74, 75, 76, 77, 78, 79, 80, 81, 82, 83, 84, 85, 86, 87, 88, 89, 90]⟩] w fun e w' => e = .returned (.bool (Pl.isL c)) ∧ w = w' := by
  refine (in_any s ⟨letters.toArray⟩ c w hs (by decide)).mono ?_
  rintro e w' ⟨rfl, rfl⟩
  refine ⟨ret_bool ?_, rfl⟩
  rw [← letters_any, has_cnt]
  rfl

theorem conv_byte (W : World) (b cap : Nat) (c : UInt8) (h : W.cell? ⟨b, 0, none⟩ = some (.int .u8 c.toNat)) :
    (convert 35 9 (.slice (some ⟨b, 0, none⟩) 1 cap)).run Tryd.prog W = .ok (.string ⟨#[c]⟩) W :=
  run_convert_bytes_back W 35 9 5 ⟨b, 0, none⟩ cap [c] Tryd.underlying35 Tryd.underlying5 Tryd.underlying9 (fun j hj => by
    obtain rfl : j = 0 := by simpa using hj
    simpa [Addr.add] using h)

/-- An int; the world as it was but for new memory. -/
def IntB (n : Int) (w : World) (e : Ending) (w' : World) : Prop := e = .returned (.int .i64 n) ∧ Below w.heap.size w w'

set_option maxHeartbeats 400000 in
theorem letter_til (w : World) :
    Calls Tryd.prog 9 #[.int .u8 126] w (IntB (-1) w) := by
  go_enter Tryd.func9, Tryd.ntmps9
  go_wp2_with fail
  go_ret
  exact ⟨rfl, Below.refl _ _⟩

set_option maxHeartbeats 400000 in
theorem letter_let (c : UInt8) (w : World) (h : (c.toNat : Int) ≤ 122) (hl : Pl.isL c = true) :
    Calls Tryd.prog 9 #[.int .u8 c.toNat] w (IntB c.toNat w) := by
  have g0 : ((c.toNat : Int) == 126) = false := by rw [beq_eq_false_iff_ne]; omega
  have g1 : decide ((c.toNat : Int) < 128) = true := by simp; omega
  have g2 : (c.toNat : Int) ≤ 255 := by omega
  have g3 : (0 : Int) ≤ c.toNat := by omega
  have hin := fun W => in_letters ⟨#[c]⟩ c W (by rw [Lib.toList_data])
  simp only [hl] at hin
  clear hl h
  have Hin := Lib.hid hin
  clear hin
  have hcv := conv_byte (w.alloc (.cells #[.int .u8 c.toNat] 5)) w.heap.size 1 c (by simp)
  go_enter Tryd.func9, Tryd.ntmps9
  go_wp2_with fail
  refine (Hin.out _).mono ?_
  rintro e w' ⟨rfl, rfl⟩
  go_wp2_with fail
  go_ret
  exact ⟨rfl, (Below.refl _ _).alloc (Nat.le_refl _) _⟩

set_option maxHeartbeats 400000 in
theorem letter_oth (c : UInt8) (w : World) (h : c.toNat ≠ 126) (hl : Pl.isL c = false) :
    Calls Tryd.prog 9 #[.int .u8 c.toNat] w (IntB (c.toNat + 1000) w) := by
  have g0 : ((c.toNat : Int) == 126) = false := by rw [beq_eq_false_iff_ne]; omega
  have g1 : (c.toNat : Int) ≤ 255 := by have := Pl.toNat_lt c; omega
  have g2 : (0 : Int) ≤ c.toNat := by omega
  have hin := fun W => in_letters ⟨#[c]⟩ c W (by rw [Lib.toList_data])
  simp only [hl] at hin
  clear hl h
  have Hin := Lib.hid hin
  clear hin
  have hcv := conv_byte (w.alloc (.cells #[.int .u8 c.toNat] 5)) w.heap.size 1 c (by simp)
  go_enter Tryd.func9, Tryd.ntmps9
  go_wp2_with fail
  refine (Hin.out _).mono ?_
  rintro e w' ⟨rfl, rfl⟩
  go_wp2_with fail
  go_ret
  exact ⟨rfl, (Below.refl _ _).alloc (Nat.le_refl _) _⟩

theorem letter_any (c : UInt8) (w : World) :
    Calls Tryd.prog 9 #[.int .u8 c.toNat] w (IntB (Pl.wr c) w) := by
  unfold Pl.wr
  by_cases h0 : c.toNat = 126
  · rw [if_pos h0, h0]; exact letter_til w
  · rw [if_neg h0]
    by_cases hl : Pl.isL c = true
    · rw [if_pos hl]
      have := Pl.isL_bd c hl
      exact letter_let c w (by omega) hl
    · rw [if_neg hl]
      exact letter_oth c w h0 (by simpa using hl)

/-! Two rows of digits as numbers. -/
theorem pad_more (n : Nat) (l : Pl.Bs) (h : l.length < n) : Pl.pad n (48 :: l) = Pl.pad n l := by
  unfold Pl.pad
  have e : n - l.length = (n - (l.length + 1)) + 1 := by omega
  rw [List.length_cons, e, List.replicate_succ', List.append_assoc]
  rfl
theorem pad_full (n : Nat) (l : Pl.Bs) (h : n ≤ l.length) : Pl.pad n l = l := by
  unfold Pl.pad; rw [show n - l.length = 0 from by omega]; rfl

theorem zero_ahead (t : ByteArray) : ((⟨#[48]⟩ : ByteArray) ++ t).data.toList = 48 :: t.data.toList := by
  simp

theorem zero_size (t : ByteArray) : ((⟨#[48]⟩ : ByteArray) ++ t).size = t.size + 1 := by
  rw [Lib.size_eq, zero_ahead, List.length_cons, Lib.size_eq]

theorem zero_pad (N : Nat) (x : ByteArray) (l : Pl.Bs) (h : x.size < N) (hx : Pl.pad N x.data.toList = l) : Pl.pad N ((⟨#[48]⟩ : ByteArray) ++ x).data.toList = l := by
  rw [zero_ahead, pad_more N _ (by rw [← Lib.size_eq]; exact h), hx]

theorem full_at (N : Nat) (x : ByteArray) (l : Pl.Bs) (h : N ≤ x.size) (hx : Pl.pad N x.data.toList = l) : x.data.toList = l := by
  rw [← hx, pad_full N _ (by rw [← Lib.size_eq]; exact h)]

set_option maxHeartbeats 400000 in
theorem numbers_any (s t : ByteArray) (w : World) (hs : s.size ≤ 1000000) (ht : t.size ≤ 1000000) :
    Calls Tryd.prog 11 #[.string s, .string t] w fun e w' => e = .returned (.int .i64 (Pl.numR s.data.toList t.data.toList)) ∧ w = w' := by
  obtain ⟨N, eN⟩ : ∃ N, N = max s.size t.size := ⟨_, rfl⟩
  have hsN : s.size ≤ N := by omega
  have htN : t.size ≤ N := by omega
  have hN : N ≤ 1000000 := by omega
  have hor : N = s.size ∨ N = t.size := by omega
  obtain ⟨r, hr⟩ : ∃ r, r = Pl.numR s.data.toList t.data.toList := ⟨_, rfl⟩
  have Hr : Hid (r = Pl.cmpS (Pl.pad N s.data.toList) (Pl.pad N t.data.toList)) := by
    have : r = Pl.cmpS (Pl.pad N s.data.toList) (Pl.pad N t.data.toList) := by rw [hr, eN, Lib.size_eq, Lib.size_eq]; rfl
    exact Lib.hid this
  rw [← hr]
  clear hr eN
  go_enter Tryd.func11, Tryd.ntmps11
  go_wp2_with fail
  go_loop [0] (fun v => ∃ x : ByteArray, v = .string x ∧ x.size ≤ N ∧ s.size ≤ x.size ∧ Hid (Pl.pad N x.data.toList = Pl.pad N s.data.toList)) (fun v => N - strSz v)
  case atStart => exact ⟨s, rfl, hsN, Nat.le_refl _, Lib.hid rfl⟩
  case round =>
    obtain ⟨x, rfl, hxN, hsx, Hx⟩ := hrel
    by_cases hlt : x.size < t.size
    · have Hz := Lib.hid (zero_size x)
      have Hp := Lib.hid (zero_pad N x _ (by omega) Hx.out)
      go_wp2_with fail
      refine ⟨⟨_, rfl, by rw [Hz.out]; omega, by rw [Hz.out]; omega, Hp⟩, ?_⟩
      rw [strSz_string, strSz_string, Hz.out]; omega
    · go_wp2_with fail
      go_loop [1] (fun v => ∃ y : ByteArray, v = .string y ∧ y.size ≤ N ∧ t.size ≤ y.size ∧ Hid (Pl.pad N y.data.toList = Pl.pad N t.data.toList)) (fun v => N - strSz v)
      case atStart => exact ⟨t, rfl, htN, Nat.le_refl _, Lib.hid rfl⟩
      case round =>
        obtain ⟨y, rfl, hyN, hty, Hy⟩ := hrel
        by_cases hlt2 : y.size < x.size
        · have Hz := Lib.hid (zero_size y)
          have Hp := Lib.hid (zero_pad N y _ (by omega) Hy.out)
          go_wp2_with fail
          refine ⟨⟨_, rfl, by rw [Hz.out]; omega, by rw [Hz.out]; omega, Hp⟩, ?_⟩
          rw [strSz_string, strSz_string, Hz.out]; omega
        · have Hr2 : Hid (Pl.cmpS x.data.toList y.data.toList = r) := by
            have h1 := full_at N x _ (by omega) Hx.out
            have h2 := full_at N y _ (by omega) Hy.out
            have h3 := Hr.out
            rw [← h1, ← h2] at h3
            exact Lib.hid h3.symm
          go_wp2_with fail
          · go_ret
            exact ⟨ret_int ((cmpS_lt x y ‹_›).trans Hr2.out), rfl⟩
          · go_ret
            exact ⟨ret_int ((cmpS_gt x y ‹_› ‹_›).trans Hr2.out), rfl⟩
          · go_ret
            exact ⟨ret_int ((cmpS_eq x y ‹_›).trans Hr2.out), rfl⟩
end Go.Proofs.YtfphcecjhdkcoaaDoor
