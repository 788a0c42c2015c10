/- The contract of the program's Compare: it returns the order of versions. Condition: the two texts have at most a million bytes. -/
import Derived.Test.YtfphcecjhdkcoaaDoorTrim
import Derived.Test.YtfphcecjhdkcoaaDoorRef2
namespace Go.Proofs.YtfphcecjhdkcoaaDoor
open Go.RowKit

theorem below_step {a b c : World} (h : Below a.heap.size a b) (k : Below b.heap.size b c) : Below a.heap.size a c := h.trans (k.mono h.size)

theorem cmp_of_nd (x y : Pl.Bs) (o : Int) (ho : (o != 0) = true) (h : Pl.ndc (Pl.hd1 x) (Pl.hd1 y) = o) : Pl.cmp x y = o := by
  rw [bne_iff_ne] at ho
  rw [Pl.cmp_step, Pl.rnd, h]; unfold Pl.lex; rw [if_pos ho, if_pos ho]
theorem cmp_of_num (x y : Pl.Bs) (o : Int) (ho : (o != 0) = true) (h0 : Pl.ndc (Pl.hd1 x) (Pl.hd1 y) = 0) (h : Pl.numP (Pl.hd2 x) (Pl.hd2 y) = o) : Pl.cmp x y = o := by
  rw [bne_iff_ne] at ho
  have e1 : Pl.lex 0 o = o := rfl
  rw [Pl.cmp_step, Pl.rnd, h0, h, e1]; unfold Pl.lex; rw [if_pos ho]
theorem cmp_of_rest (x y : Pl.Bs) (h0 : Pl.ndc (Pl.hd1 x) (Pl.hd1 y) = 0) (h : Pl.numP (Pl.hd2 x) (Pl.hd2 y) = 0) : Pl.cmp (Pl.tl2 x) (Pl.tl2 y) = Pl.cmp x y := by
  rw [Pl.cmp_step x y, Pl.rnd, h0, h]; rfl

theorem take_size (p : UInt8 → Bool) (x z : ByteArray) (h : z.data.toList = x.data.toList.takeWhile p) : z.size ≤ x.size := by
  rw [Lib.size_eq, Lib.size_eq, h]; exact (List.takeWhile_sublist p).length_le
theorem drop_size (p : UInt8 → Bool) (x z : ByteArray) (h : z.data.toList = x.data.toList.dropWhile p) : z.size ≤ x.size := by
  rw [Lib.size_eq, Lib.size_eq, h]; exact Pl.drop_le p _
theorem trim_size (x z : ByteArray) (h : z.data.toList = Pl.trim x.data.toList) : z.size ≤ x.size := by
  rw [Lib.size_eq, Lib.size_eq, h]; exact Pl.trim_le _
theorem rest_size (x z : ByteArray) (h : z.data.toList = Pl.tl2 x.data.toList) : z.size ≤ x.size := by
  rw [Lib.size_eq, Lib.size_eq, h]; exact Nat.le_trans (Pl.tl2_le _) (Pl.tl1_le _)
theorem rest_less (x z : ByteArray) (h : z.data.toList = Pl.tl2 x.data.toList) (h0 : 0 < x.size) : z.size < x.size := by
  rw [Lib.size_eq] at h0
  rw [Lib.size_eq, Lib.size_eq, h]; exact Pl.tl2_lt _ (by intro e; rw [e] at h0; exact absurd h0 (by simp))

theorem rest_sum (x y x4 y4 : ByteArray) (hx : x4.data.toList = Pl.tl2 x.data.toList) (hy : y4.data.toList = Pl.tl2 y.data.toList) (h : 0 < x.size ∨ 0 < y.size) : x4.size + y4.size < x.size + y.size := by
  have h1 := rest_size x x4 hx
  have h2 := rest_size y y4 hy
  rcases h with h | h
  · have := rest_less x x4 hx h; omega
  · have := rest_less y y4 hy h; omega

theorem scan_on (x y : Pl.Bs) (k M : Nat) (r : Int) (hk : k < M) (h : Pl.scan Pl.wt x y k (M - k) = r) (h0 : Pl.cmpI (Pl.at0 Pl.wt x k) (Pl.at0 Pl.wt y k) = 0) : Pl.scan Pl.wt x y (k + 1) (M - (k + 1)) = r := by
  rw [show M - k = (M - (k + 1)) + 1 from by omega, Pl.scan, h0] at h
  exact h
theorem scan_stop (x y : Pl.Bs) (k M : Nat) (r o : Int) (hk : k < M) (h : Pl.scan Pl.wt x y k (M - k) = r) (h0 : Pl.cmpI (Pl.at0 Pl.wt x k) (Pl.at0 Pl.wt y k) = o) (ho : (o != 0) = true) : r = o := by
  rw [bne_iff_ne] at ho
  rw [show M - k = (M - (k + 1)) + 1 from by omega, Pl.scan, h0] at h
  rw [← h]; unfold Pl.lex; rw [if_pos ho]
theorem scan_out (x y : Pl.Bs) (k M : Nat) (r : Int) (hk : M ≤ k) (h : Pl.scan Pl.wt x y k (M - k) = r) : r = 0 := by
  rw [show M - k = 0 from by omega] at h
  exact h.symm

theorem numP_at (x y x5 y5 : ByteArray) (hx : x5.data.toList = Pl.trim x.data.toList) (hy : y5.data.toList = Pl.trim y.data.toList) :
    Pl.lex (Pl.cmpI x5.size y5.size) (Pl.cmpS x5.data.toList y5.data.toList) = Pl.numP x.data.toList y.data.toList := by
  unfold Pl.numP; rw [Lib.size_eq, Lib.size_eq, hx, hy]

set_option maxHeartbeats 1000000 in
theorem cmp_any (a b : ByteArray) (w : World) (ha : a.size ≤ 1000000) (hb : b.size ≤ 1000000) :
    Calls Tryd.prog 7 #[.string a, .string b] w (IntB (Pl.cmp a.data.toList b.data.toList) w) := by
  obtain ⟨r, hr⟩ : ∃ r, r = Pl.cmp a.data.toList b.data.toList := ⟨_, rfl⟩
  rw [← hr]
  have Hr := Lib.hid hr.symm
  clear hr
  go_enter Tryd.func7, Tryd.ntmps7
  go_wp2_with fail
  go_loopw [0, 1] (fun va vb wr => ∃ x y : ByteArray, va = .string x ∧ vb = .string y ∧ x.size ≤ 1000000 ∧ y.size ≤ 1000000 ∧ Hid (Pl.cmp x.data.toList y.data.toList = r) ∧ Below w.heap.size w wr) (fun va vb _ => strSz va + strSz vb)
  case atStart => exact ⟨a, b, rfl, rfl, ha, hb, Hr, Below.refl _ _⟩
  case round =>
    obtain ⟨x, y, rfl, rfl, hx, hy, Hxy, hbw⟩ := hrel
    clear ha hb Hr
    have Hbw := Lib.hid hbw
    clear hbw
    by_cases hpos : 0 < x.size ∨ 0 < y.size
    · have Hpos := Lib.hid hpos
      have hways : x.toList.isEmpty = false ∨ (x.toList.isEmpty = true ∧ y.toList.isEmpty = false) := by
        by_cases hx0 : 0 < x.size
        · exact Or.inl (empty_no x hx0)
        · exact Or.inr ⟨empty_yes x hx0, empty_no y (by omega)⟩
      clear hpos
      rcases hways with g1 | ⟨g1, g2⟩
      all_goals
        go_wp2_with fail
        refine (split13 _ _ (by omega)).mono ?_
        rintro e w1 ⟨x1, x2, rfl, Hx1, Hx2, hb1⟩
        have Hb1 := Lib.hid (below_step Hbw.out hb1)
        clear hb1 Hbw
        have hx1 : x1.size ≤ 1000000 := Nat.le_trans (take_size _ _ _ Hx1.out) hx
        have hx2 : x2.size ≤ 1000000 := Nat.le_trans (drop_size _ _ _ Hx2.out) hx
        go_wp2_with fail
        refine (split15 _ _ (by omega)).mono ?_
        rintro e w2 ⟨y1, y2, rfl, Hy1, Hy2, hb2⟩
        have Hb2 := Lib.hid (below_step Hb1.out hb2)
        clear hb2 Hb1
        have hy1 : y1.size ≤ 1000000 := Nat.le_trans (take_size _ _ _ Hy1.out) hy
        have hy2 : y2.size ≤ 1000000 := Nat.le_trans (drop_size _ _ _ Hy2.out) hy
        obtain ⟨M, eM⟩ : ∃ M, M = max x1.size y1.size := ⟨_, rfl⟩
        obtain ⟨c, ec⟩ : ∃ c, c = Pl.ndc x1.data.toList y1.data.toList := ⟨_, rfl⟩
        have Hscan : Hid (Pl.scan Pl.wt x1.data.toList y1.data.toList 0 (M - 0) = c) := by
          have : Pl.scan Pl.wt x1.data.toList y1.data.toList 0 (M - 0) = c := by rw [ec, eM, Lib.size_eq, Lib.size_eq]; rfl
          exact Lib.hid this
        have Hc : Hid (Pl.ndc (Pl.hd1 x.data.toList) (Pl.hd1 y.data.toList) = c) := by
          have : Pl.ndc (Pl.hd1 x.data.toList) (Pl.hd1 y.data.toList) = c := by rw [ec, Hx1.out, Hy1.out]; rfl
          exact Lib.hid this
        clear ec
        have hM : M ≤ 1000000 := by omega
        have hor : (x1.size < y1.size ∧ M ≤ y1.size ∧ y1.size ≤ M) ∨ (y1.size ≤ x1.size ∧ M ≤ x1.size ∧ x1.size ≤ M) := by omega
        clear eM
        rcases hor with ⟨ho1, ho2, ho3⟩ | ⟨ho1, ho2, ho3⟩
        all_goals
          go_wp2_with fail
          go_loop [31] (fun i => ∃ k : Nat, k ≤ M ∧ i = .int .i64 k ∧ Hid (Pl.scan Pl.wt x1.data.toList y1.data.toList k (M - k) = c)) (fun i => 1000000 - (intOf i).toNat)
          case atStart => exact ⟨0, Nat.zero_le _, rfl, Hscan⟩
          case round =>
            obtain ⟨k, hk, rfl, Hk⟩ := hrel
            by_cases hkM : k < M
            · obtain ⟨p, ep⟩ : ∃ p, p = Pl.at0 Pl.wt x1.data.toList k := ⟨_, rfl⟩
              obtain ⟨q, eq⟩ : ∃ q, q = Pl.at0 Pl.wt y1.data.toList k := ⟨_, rfl⟩
              obtain ⟨o, eo⟩ : ∃ o, o = Pl.cmpI p q := ⟨_, rfl⟩
              have cp := at_any x1 k
              have cq := at_any y1 k
              have co := cmpInt_any p q
              rw [← eo] at co
              rw [← ep] at cp
              rw [← eq] at cq
              have Ho : Hid (Pl.cmpI (Pl.at0 Pl.wt x1.data.toList k) (Pl.at0 Pl.wt y1.data.toList k) = o) := by
                rw [ep, eq] at eo; exact Lib.hid eo.symm
              have Cp := Lib.hid cp
              have Cq := Lib.hid cq
              have Co := Lib.hid co
              clear ep eq eo cp cq co
              go_wp2_with fail
              refine (Cp.out _).mono ?_
              rintro e w' ⟨rfl, rfl⟩
              go_wp2_with fail
              refine (Cq.out _).mono ?_
              rintro e w' ⟨rfl, rfl⟩
              go_wp2_with fail
              refine (Co.out _).mono ?_
              rintro e w' ⟨rfl, rfl⟩
              by_cases ho0 : o = 0
              · subst ho0
                have Hk' := Lib.hid (scan_on _ _ k M c hkM Hk.out Ho.out)
                go_wp2_with fail
                exact ⟨⟨k + 1, by omega, by go_num, Hk'⟩, by simp [intOf]; omega⟩
              · have ho1' : (o != 0) = true := by rw [bne_iff_ne]; exact ho0
                have Hfin : Hid (Pl.cmp x.data.toList y.data.toList = o) := by
                  have := cmp_of_nd x.data.toList y.data.toList o ho1' (Hc.out.trans (scan_stop _ _ k M c o hkM Hk.out Ho.out ho1'))
                  exact Lib.hid this
                go_wp2_with fail
                go_ret
                exact ⟨ret_int (Hfin.out.symm.trans Hxy.out), Hb2.out⟩
            · have Hc0 := Lib.hid (scan_out _ _ k M c (by omega) Hk.out)
              have Hc1 : Hid (Pl.ndc (Pl.hd1 x.data.toList) (Pl.hd1 y.data.toList) = 0) := Lib.hid (Hc.out.trans Hc0.out)
              clear Hc Hc0 Hk Hscan
              go_wp2_with fail
              refine (split14 _ _ (by omega)).mono ?_
              rintro e w3 ⟨x3, x4, rfl, Hx3, Hx4, hb3⟩
              have Hb3 := Lib.hid (below_step Hb2.out hb3)
              clear hb3
              have hx3 : x3.size ≤ 1000000 := Nat.le_trans (take_size _ _ _ Hx3.out) hx2
              have hx4 : x4.size ≤ 1000000 := Nat.le_trans (drop_size _ _ _ Hx4.out) hx2
              go_wp2_with fail
              refine (split14 _ _ (by omega)).mono ?_
              rintro e w4 ⟨y3, y4, rfl, Hy3, Hy4, hb4⟩
              have Hb4 := Lib.hid (below_step Hb3.out hb4)
              clear hb4
              have hy3 : y3.size ≤ 1000000 := Nat.le_trans (take_size _ _ _ Hy3.out) hy2
              have hy4 : y4.size ≤ 1000000 := Nat.le_trans (drop_size _ _ _ Hy4.out) hy2
              go_wp2_with fail
              refine (trimLeft_any _ _ (by omega)).mono ?_
              rintro e w' ⟨x5, rfl, Hx5, rfl⟩
              have hx5 : x5.size ≤ 1000000 := Nat.le_trans (trim_size _ _ Hx5.out) hx3
              go_wp2_with fail
              refine (trimLeft_any _ _ (by omega)).mono ?_
              rintro e w' ⟨y5, rfl, Hy5, rfl⟩
              have hy5 : y5.size ≤ 1000000 := Nat.le_trans (trim_size _ _ Hy5.out) hy3
              obtain ⟨p, ep⟩ : ∃ p, p = Pl.cmpI x5.size y5.size := ⟨_, rfl⟩
              obtain ⟨q, eq⟩ : ∃ q, q = Pl.cmpS x5.data.toList y5.data.toList := ⟨_, rfl⟩
              obtain ⟨o, eo⟩ : ∃ o, o = Pl.lex p q := ⟨_, rfl⟩
              have Ho : Hid (Pl.numP (Pl.hd2 x.data.toList) (Pl.hd2 y.data.toList) = o) := by
                have : Pl.numP (Pl.hd2 x.data.toList) (Pl.hd2 y.data.toList) = o := by
                  rw [eo, ep, eq, numP_at _ _ _ _ Hx5.out Hy5.out, Hx3.out, Hy3.out, Hx2.out, Hy2.out]; rfl
                exact Lib.hid this
              have Hrx : Hid (x4.data.toList = Pl.tl2 x.data.toList) := by
                have : x4.data.toList = Pl.tl2 x.data.toList := by rw [Hx4.out, Hx2.out]; rfl
                exact Lib.hid this
              have Hry : Hid (y4.data.toList = Pl.tl2 y.data.toList) := by
                have : y4.data.toList = Pl.tl2 y.data.toList := by rw [Hy4.out, Hy2.out]; rfl
                exact Lib.hid this
              have cp := cmpInt_any x5.size y5.size
              have cq := cmpStr_any x5 y5
              rw [← ep] at cp
              rw [← eq] at cq
              have co := or_any p q
              rw [← eo] at co
              have Cp := Lib.hid cp
              have Cq := Lib.hid cq
              have Co := Lib.hid co
              clear ep eq eo cp cq co
              go_wp2_with fail
              refine (Cp.out _).mono ?_
              rintro e w' ⟨rfl, rfl⟩
              go_wp2_with fail
              refine (Cq.out _).mono ?_
              rintro e w' ⟨rfl, rfl⟩
              go_wp2_with fail
              refine (Co.out _ _ _ (by simp) (by simp)).mono ?_
              rintro e w' ⟨rfl, rfl⟩
              by_cases ho0 : o = 0
              · subst ho0
                have Hnext : Hid (Pl.cmp x4.data.toList y4.data.toList = r) := by
                  have : Pl.cmp x4.data.toList y4.data.toList = r := by rw [Hrx.out, Hry.out, cmp_of_rest _ _ Hc1.out Ho.out]; exact Hxy.out
                  exact Lib.hid this
                go_wp2_with fail
                refine ⟨⟨x4, y4, rfl, rfl, hx4, hy4, Hnext, Hb4.out.alloc Hb4.out.size _⟩, ?_⟩
                rw [strSz_string, strSz_string, strSz_string, strSz_string]
                exact rest_sum _ _ _ _ Hrx.out Hry.out Hpos.out
              · have ho1' : (o != 0) = true := by rw [bne_iff_ne]; exact ho0
                have Hfin : Hid (Pl.cmp x.data.toList y.data.toList = o) := Lib.hid (cmp_of_num _ _ _ ho1' Hc1.out Ho.out)
                go_wp2_with fail
                go_ret
                exact ⟨ret_int (Hfin.out.symm.trans Hxy.out), Hb4.out.alloc Hb4.out.size _⟩
    · have Hend : Hid ((0 : Int) = r) := by
        have e1 : x.data.toList = [] := List.eq_nil_of_length_eq_zero (by rw [← Lib.size_eq]; omega)
        have e2 : y.data.toList = [] := List.eq_nil_of_length_eq_zero (by rw [← Lib.size_eq]; omega)
        have : (0 : Int) = r := by rw [← Hxy.out, e1, e2]; rfl
        exact Lib.hid this
      have g1 := empty_yes x (by omega)
      have g2 := empty_yes y (by omega)
      clear hpos
      go_wp2_with fail
      go_ret
      exact ⟨ret_int Hend.out, Hbw.out⟩
end Go.Proofs.YtfphcecjhdkcoaaDoor
