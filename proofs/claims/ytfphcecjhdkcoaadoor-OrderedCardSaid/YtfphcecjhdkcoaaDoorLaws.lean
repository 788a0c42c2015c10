/- The walks of the two statements: Versions and Ordered return true. Condition: each text has at most as many bytes as the form's reach (2 to the 47, less 4096), so that the sums of lengths do not wrap. -/
import Derived.Test.YtfphcecjhdkcoaaDoorRefCmp
namespace Go.Proofs.YtfphcecjhdkcoaaDoor
open Go.RowKit

/-- True; the world as it was but for new memory. -/
def TrueB (w : World) (e : Ending) (w' : World) : Prop := e = .returned (.bool true) ∧ Below w.heap.size w w'

set_option maxHeartbeats 400000 in
theorem plain_any (a b : ByteArray) (w : World) (ha : a.size ≤ 1000000) (hb : b.size ≤ 1000000) :
    Calls Tryd.prog 5 #[.string a, .string b] w (IntB (Pl.cmp a.data.toList b.data.toList) w) := by
  obtain ⟨r, hr⟩ : ∃ r, r = Pl.cmp a.data.toList b.data.toList := ⟨_, rfl⟩
  have hc := fun W => cmp_any a b W ha hb
  rw [← hr] at hc ⊢
  have Hc := Lib.hid hc
  clear hc hr
  go_enter Tryd.func5, Tryd.ntmps5
  go_wp2_with fail
  refine (Hc.out _).mono ?_
  rintro e w1 ⟨rfl, hb1⟩
  have Hb1 := Lib.hid hb1
  clear hb1
  go_wp2_with fail
  go_ret
  exact ⟨rfl, Hb1.out⟩

set_option maxHeartbeats 400000 in
theorem versions_walk (a b : ByteArray) (w : World) (ha : a.size ≤ 140737488351232) (hb : b.size ≤ 140737488351232) :
    Calls Tryd.prog 3 #[.string a, .string b] w (TrueB w) := by
  by_cases h : 8192 < a.size + b.size
  · go_enter Tryd.func3, Tryd.ntmps3
    go_wp2_with fail
    go_ret
    exact ⟨rfl, Below.refl _ _⟩
  · obtain ⟨r, hr⟩ : ∃ r, r = Pl.cmp a.data.toList b.data.toList := ⟨_, rfl⟩
    have hc := fun W => plain_any a b W (by omega) (by omega)
    have hd := fun W => ref_any a b W (by omega) (by omega)
    rw [← hr] at hc hd
    have Hc := Lib.hid hc
    have Hd := Lib.hid hd
    clear hc hd hr
    go_enter Tryd.func3, Tryd.ntmps3
    go_wp2_with fail
    refine (Hc.out _).mono ?_
    rintro e w1 ⟨rfl, hb1⟩
    have Hb1 := Lib.hid hb1
    clear hb1
    go_wp2_with fail
    refine (Hd.out _).mono ?_
    rintro e w2 ⟨rfl, hb2⟩
    have Hb2 := Lib.hid (below_step Hb1.out hb2)
    clear hb2
    go_wp2_with fail
    go_ret
    exact ⟨rfl, Hb2.out⟩

/-- What the three answers of a row of three may be. -/
def Ways (x z v : Int) : Prop :=
  x = 1 ∨ (x = -1 ∧ z = 1) ∨ (x = 0 ∧ z = 1) ∨ (x = -1 ∧ z = -1 ∧ v = -1) ∨ (x = -1 ∧ z = 0 ∧ v = -1) ∨ (x = 0 ∧ z = -1 ∧ v = -1) ∨ (x = 0 ∧ z = 0 ∧ v = 0)

theorem ways_of (a b c : Pl.Bs) : Ways (Pl.cmp a b) (Pl.cmp b c) (Pl.cmp a c) := by
  have x1 := Pl.cmp_ord.lo a b
  have x2 := Pl.cmp_ord.hi a b
  have z1 := Pl.cmp_ord.lo b c
  have z2 := Pl.cmp_ord.hi b c
  have v1 := Pl.cmp_ord.lo a c
  have t := Pl.cmp_ord.tr a b c
  unfold Ways
  generalize Pl.cmp a b = x at *
  generalize Pl.cmp b c = z at *
  generalize Pl.cmp a c = v at *
  by_cases h1 : x ≤ 0
  · by_cases h2 : z ≤ 0
    · obtain ⟨t1, t2⟩ := t h1 h2
      by_cases h3 : v = 0
      · obtain ⟨e1, e2⟩ := t2.1 h3
        omega
      · by_cases h4 : x = 0 ∧ z = 0
        · exact absurd (t2.2 h4) h3
        · omega
    · omega
  · omega

set_option maxHeartbeats 1000000 in
theorem ordered_core (a b c : ByteArray) (w : World) (x z v : Int) (hw : Ways x z v)
    (Hsz : Hid (a.size + b.size + c.size ≤ 4096))
    (Hx : Hid (∀ W, Calls Tryd.prog 5 #[.string a, .string b] W (IntB x W)))
    (Hy : Hid (∀ W, Calls Tryd.prog 5 #[.string b, .string a] W (IntB (-x) W)))
    (Hz : Hid (∀ W, Calls Tryd.prog 5 #[.string b, .string c] W (IntB z W)))
    (Hv : Hid (∀ W, Calls Tryd.prog 5 #[.string a, .string c] W (IntB v W)))
    (Ho : Hid (∀ W, Calls Tryd.prog 5 #[.string a, .string a] W (IntB 0 W)))
    (H1 : Hid (∀ W, Calls Tryd.prog 5 #[.string ⟨#[49, 46, 57]⟩, .string ⟨#[49, 46, 49, 48]⟩] W (IntB (-1) W)))
    (H2 : Hid (∀ W, Calls Tryd.prog 5 #[.string ⟨#[50]⟩, .string ⟨#[49, 126]⟩] W (IntB 1 W))) :
    Calls Tryd.prog 4 #[.string a, .string b, .string c] w (TrueB w) := by
  have hsz := Hsz.out
  rcases hw with rfl | ⟨rfl, rfl⟩ | ⟨rfl, rfl⟩ | ⟨rfl, rfl, rfl⟩ | ⟨rfl, rfl, rfl⟩ | ⟨rfl, rfl, rfl⟩ | ⟨rfl, rfl, rfl⟩
  all_goals
    go_enter Tryd.func4, Tryd.ntmps4
    go_wp2_with fail
    refine (H1.out _).mono ?_
    rintro e w1 ⟨rfl, hb1⟩
    have Hb1 := Lib.hid hb1
    clear hb1
    go_wp2_with fail
    refine (H2.out _).mono ?_
    rintro e w2 ⟨rfl, hb2⟩
    have Hb2 := Lib.hid (below_step Hb1.out hb2)
    clear hb2
    go_wp2_with fail
    refine (Hx.out _).mono ?_
    rintro e w3 ⟨rfl, hb3⟩
    have Hb3 := Lib.hid (below_step Hb2.out hb3)
    clear hb3
    go_wp2_with fail
    refine (Hy.out _).mono ?_
    rintro e w4 ⟨rfl, hb4⟩
    have Hb4 := Lib.hid (below_step Hb3.out hb4)
    clear hb4
    go_wp2_with fail
    refine (Hz.out _).mono ?_
    rintro e w5 ⟨rfl, hb5⟩
    have Hb5 := Lib.hid (below_step Hb4.out hb5)
    clear hb5
    go_wp2_with fail
    refine (Hv.out _).mono ?_
    rintro e w6 ⟨rfl, hb6⟩
    have Hb6 := Lib.hid (below_step Hb5.out hb6)
    clear hb6
    go_wp2_with fail
    refine (Ho.out _).mono ?_
    rintro e w7 ⟨rfl, hb7⟩
    have Hb7 := Lib.hid (below_step Hb6.out hb7)
    clear hb7
    go_wp2_with fail
    go_ret
    exact ⟨rfl, Hb7.out⟩

set_option maxHeartbeats 400000 in
theorem ordered_walk (a b c : ByteArray) (w : World) (ha : a.size ≤ 140737488351232) (hb : b.size ≤ 140737488351232) (hc : c.size ≤ 140737488351232) :
    Calls Tryd.prog 4 #[.string a, .string b, .string c] w (TrueB w) := by
  by_cases h : 4096 < a.size + b.size + c.size
  · go_enter Tryd.func4, Tryd.ntmps4
    go_wp2_with fail
    go_ret
    exact ⟨rfl, Below.refl _ _⟩
  · refine ordered_core a b c w _ _ _ (ways_of a.data.toList b.data.toList c.data.toList) (Lib.hid (by omega))
      (Lib.hid fun W => plain_any a b W (by omega) (by omega)) ?_ (Lib.hid fun W => plain_any b c W (by omega) (by omega))
      (Lib.hid fun W => plain_any a c W (by omega) (by omega)) ?_ ?_ ?_
    · rw [← Pl.cmp_ord.anti]; exact Lib.hid fun W => plain_any b a W (by omega) (by omega)
    · have e := Pl.cmp_ord.own a.data.toList
      refine Lib.hid fun W => ?_
      have := plain_any a a W (by omega) (by omega)
      rw [e] at this; exact this
    · refine Lib.hid fun W => ?_
      have := plain_any ⟨#[49, 46, 57]⟩ ⟨#[49, 46, 49, 48]⟩ W (by decide) (by decide)
      rw [Pl.anchor1] at this; exact this
    · refine Lib.hid fun W => ?_
      have := plain_any ⟨#[50]⟩ ⟨#[49, 126]⟩ W (by decide) (by decide)
      rw [Pl.anchor2] at this; exact this
end Go.Proofs.YtfphcecjhdkcoaaDoor
