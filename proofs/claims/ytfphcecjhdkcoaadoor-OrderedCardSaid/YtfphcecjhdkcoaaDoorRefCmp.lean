/- The contract of the reference's Compare: it returns the order of versions. Condition: the two texts have at most a million bytes. -/
import Derived.Test.YtfphcecjhdkcoaaDoorCodeCmp
namespace Go.Proofs.YtfphcecjhdkcoaaDoor
open Go.RowKit

theorem scan_wr (x y : Pl.Bs) : ∀ (n k : Nat), Pl.scan Pl.wr x y k n = Pl.scan Pl.wt x y k n
  | 0, _ => rfl
  | n + 1, k => by rw [Pl.scan, Pl.scan, Pl.weights_alike, scan_wr x y n (k + 1)]

theorem rscan_on (x y : Pl.Bs) (k M : Nat) (r p q : Int) (hk : k < M) (h : Pl.scan Pl.wr x y k (M - k) = r) (hp : Pl.at0 Pl.wr x k = p) (hq : Pl.at0 Pl.wr y k = q) (e : p = q) : Pl.scan Pl.wr x y (k + 1) (M - (k + 1)) = r := by
  rw [show M - k = (M - (k + 1)) + 1 from by omega, Pl.scan, hp, hq, Pl.cmpI_zero.2 e] at h
  exact h
theorem rscan_stop (x y : Pl.Bs) (k M : Nat) (r p q : Int) (hk : k < M) (h : Pl.scan Pl.wr x y k (M - k) = r) (hp : Pl.at0 Pl.wr x k = p) (hq : Pl.at0 Pl.wr y k = q) (e : ¬ p = q) : r = Pl.cmpI (p - q) 0 ∧ (r != 0) = true := by
  have hz : Pl.cmpI p q ≠ 0 := fun z => e (Pl.cmpI_zero.1 z)
  rw [show M - k = (M - (k + 1)) + 1 from by omega, Pl.scan, hp, hq] at h
  have h' : Pl.cmpI p q = r := by rw [← h]; unfold Pl.lex; rw [if_pos hz]
  refine ⟨?_, by rw [bne_iff_ne, ← h']; exact hz⟩
  rw [← h']; unfold Pl.cmpI; split <;> split <;> (try split) <;> (try split) <;> omega
theorem rscan_out (x y : Pl.Bs) (k M : Nat) (r : Int) (hk : M ≤ k) (h : Pl.scan Pl.wr x y k (M - k) = r) : r = 0 := by
  rw [show M - k = 0 from by omega] at h
  exact h.symm

/-- The byte k of a text's first part, and its end. -/
theorem part_at (p : UInt8 → Bool) (f : UInt8 → Int) (x : ByteArray) (n k : Nat) (hn : n = cnt p x.data.toList) (hk : k < n) (hks : k < x.size) : Pl.at0 f (x.data.toList.takeWhile p) k = f x[k] := by
  unfold Pl.at0
  rw [← take_cnt, ← hn, List.getElem?_take_of_lt hk, byte_at x k hks]
theorem part_end (p : UInt8 → Bool) (f : UInt8 → Int) (x : ByteArray) (n k : Nat) (hn : n = cnt p x.data.toList) (hk : ¬ k < n) : Pl.at0 f (x.data.toList.takeWhile p) k = 0 :=
  Pl.at0_end f _ _ (by rw [← take_cnt, ← hn]; exact Nat.le_trans (List.length_take_le _ _) (by omega))

theorem cut_to (p : UInt8 → Bool) (x : ByteArray) (n : Nat) (hn : n = cnt p x.data.toList) : (x.extract 0 n).data.toList = x.data.toList.takeWhile p := by
  rw [Lib.extract_data, List.drop_zero, Nat.sub_zero, hn, take_cnt]
theorem cut_from (p : UInt8 → Bool) (x : ByteArray) (n : Nat) (hn : n = cnt p x.data.toList) : (x.extract n x.size).data.toList = x.data.toList.dropWhile p := by
  rw [Lib.extract_data, List.take_of_length_le (by rw [List.length_drop, Lib.size_eq]; omega), hn, drop_cnt]
theorem cnt_size (p : UInt8 → Bool) (x : ByteArray) (n : Nat) (hn : n = cnt p x.data.toList) : n ≤ x.size := by
  rw [hn, Lib.size_eq]; exact cnt_le _ _
theorem cnt_len (p : UInt8 → Bool) (x : Pl.Bs) (n : Nat) (hn : n = cnt p x) : (x.takeWhile p).length = n := by rw [hn]; rfl

theorem all_dig : ∀ (l : Pl.Bs) (c : UInt8), c ∈ l.takeWhile Pl.dig → Pl.dig c = true
  | [], _, h => by simp at h
  | d :: l, c, h => by
    rw [List.takeWhile_cons] at h
    split at h
    · rcases List.mem_cons.1 h with e | e
      · rw [e]; assumption
      · exact all_dig l c e
    · simp at h

set_option maxRecDepth 20000 in
set_option maxHeartbeats 1000000 in
theorem ref_any (a b : ByteArray) (w : World) (ha : a.size ≤ 1000000) (hb : b.size ≤ 1000000) :
    Calls Tryd.prog 6 #[.string a, .string b] w (IntB (Pl.cmp a.data.toList b.data.toList) w) := by
  obtain ⟨r, hr⟩ : ∃ r, r = Pl.cmp a.data.toList b.data.toList := ⟨_, rfl⟩
  rw [← hr]
  have Hr := Lib.hid hr.symm
  clear hr
  go_enter Tryd.func6, Tryd.ntmps6
  go_wp2_with fail
  go_loopw [0, 1] (fun va vb wr => ∃ x y : ByteArray, va = .string x ∧ vb = .string y ∧ x.size ≤ 1000000 ∧ y.size ≤ 1000000 ∧ Hid (Pl.cmp x.data.toList y.data.toList = r) ∧ Below w.heap.size w wr) (fun va vb _ => strSz va + strSz vb)
  case atStart => exact ⟨a, b, rfl, rfl, ha, hb, Hr, Below.refl _ _⟩
  case round =>
    obtain ⟨x, y, rfl, rfl, hx, hy, Hxy, hbw⟩ := hrel
    clear ha hb Hr
    have Hbw := Lib.hid hbw
    clear hbw
    by_cases hpos : 0 < x.size ∨ 0 < y.size
    · have Hpos := Lib.hid hpos
      obtain ⟨n, en⟩ : ∃ n, n = cnt nd x.data.toList := ⟨_, rfl⟩
      obtain ⟨m, em⟩ : ∃ m, m = cnt nd y.data.toList := ⟨_, rfl⟩
      have cn := fun W => partN x W (by omega)
      have cm := fun W => partN y W (by omega)
      rw [← en] at cn
      rw [← em] at cm
      have Cn := Lib.hid cn
      have Cm := Lib.hid cm
      have En := Lib.hid en
      have Em := Lib.hid em
      have hnx := cnt_size nd x n en
      have hmy := cnt_size nd y m em
      obtain ⟨M, eM⟩ : ∃ M, M = max n m := ⟨_, rfl⟩
      obtain ⟨c, ec⟩ : ∃ c, c = Pl.ndc (Pl.hd1 x.data.toList) (Pl.hd1 y.data.toList) := ⟨_, rfl⟩
      have Hscan : Hid (Pl.scan Pl.wr (x.data.toList.takeWhile nd) (y.data.toList.takeWhile nd) 0 (M - 0) = c) := by
        have : Pl.scan Pl.wr (x.data.toList.takeWhile nd) (y.data.toList.takeWhile nd) 0 (M - 0) = c := by
          rw [scan_wr, ec, eM, Nat.sub_zero, ← cnt_len nd _ n en, ← cnt_len nd _ m em]; rfl
        exact Lib.hid this
      have Hc := Lib.hid ec
      clear ec en em cn cm
      have hM1 : n ≤ M := by omega
      have hM2 : m ≤ M := by omega
      have hM3 : M ≤ 1000000 := by omega
      have hM4 : ∀ k, k < M → k < n ∨ k < m := fun k hk => by omega
      have HM4 := Lib.hid hM4
      clear eM hM4
      have hways : 0 < x.size ∨ (x.size ≤ 0 ∧ 0 < y.size) := by omega
      clear hpos
      rcases hways with g1 | ⟨g1, g2⟩
      all_goals
        go_wp2_with fail
        refine (Cn.out _).mono ?_
        rintro e w' ⟨rfl, rfl⟩
        go_wp2_with fail
        refine (Cm.out _).mono ?_
        rintro e w' ⟨rfl, rfl⟩
        go_wp2_with fail
        go_loopw [7] (fun i wk => ∃ k : Nat, k ≤ M ∧ i = .int .i64 k ∧ Hid (Pl.scan Pl.wr (x.data.toList.takeWhile nd) (y.data.toList.takeWhile nd) k (M - k) = c) ∧ Below w.heap.size w wk) (fun i _ => 1000000 - (intOf i).toNat)
        case atStart => exact ⟨0, Nat.zero_le _, rfl, Hscan, Hbw.out⟩
        case round =>
          obtain ⟨k, hk, rfl, Hk, hbk⟩ := hrel
          have Hbk := Lib.hid hbk
          clear hbk Hbw
          by_cases hkn : k < n
          · skip
            have hks : k < x.size := by omega
            obtain ⟨p, ep⟩ : ∃ p, p = Pl.wr x[k] := ⟨_, rfl⟩
            have pb : -1 ≤ p ∧ p ≤ 1300 := by rw [ep]; exact Pl.wr_bd _
            obtain ⟨pb1, pb2⟩ := pb
            have Pp : Hid (Pl.at0 Pl.wr (x.data.toList.takeWhile nd) k = p) := by
              have : Pl.at0 Pl.wr (x.data.toList.takeWhile nd) k = p := by rw [ep]; exact part_at nd Pl.wr x n k En.out hkn hks
              exact Lib.hid this
            have cp := letter_any x[k]
            rw [← ep] at cp
            have Cp := Lib.hid cp
            clear ep cp
            by_cases hkm : k < m
            · skip
              have hkt : k < y.size := by omega
              obtain ⟨q, eq⟩ : ∃ q, q = Pl.wr y[k] := ⟨_, rfl⟩
              have qb : -1 ≤ q ∧ q ≤ 1300 := by rw [eq]; exact Pl.wr_bd _
              obtain ⟨qb1, qb2⟩ := qb
              have Pq : Hid (Pl.at0 Pl.wr (y.data.toList.takeWhile nd) k = q) := by
                have : Pl.at0 Pl.wr (y.data.toList.takeWhile nd) k = q := by rw [eq]; exact part_at nd Pl.wr y m k Em.out hkm hkt
                exact Lib.hid this
              have cq := letter_any y[k]
              rw [← eq] at cq
              have Cq := Lib.hid cq
              clear eq cq
              go_wp2_with fail
              refine (Cp.out _).mono ?_
              rintro e w3 ⟨rfl, hhb3⟩
              have Hb3 := Lib.hid (below_step Hbk.out hhb3)
              clear hhb3
              go_wp2_with fail
              refine (Cq.out _).mono ?_
              rintro e w4 ⟨rfl, hhb4⟩
              have Hb4 := Lib.hid (below_step Hb3.out hhb4)
              clear hhb4
              by_cases hpq : p = q
              · have b1 : ((p : Int) != q) = false := by rw [hpq]; simp
                have Hk' := Lib.hid (rscan_on _ _ k M c p q (by omega) Hk.out Pp.out Pq.out hpq)
                clear hpq
                go_wp2_with fail
                exact ⟨⟨k + 1, by omega, by go_num, Hk', Hb4.out⟩, by simp [intOf]; omega⟩
              · have b1 : ((p : Int) != q) = true := by rw [bne_iff_ne]; exact hpq
                have Hfin : Hid (Pl.cmp x.data.toList y.data.toList = Pl.cmpI (p - q) 0) := by
                  obtain ⟨h1, h2⟩ := rscan_stop _ _ k M c p q (by omega) Hk.out Pp.out Pq.out hpq
                  exact Lib.hid ((cmp_of_nd _ _ c h2 Hc.out.symm).trans h1)
                clear hpq
                go_wp2_with fail
                refine (sign_any _ _).mono ?_
                rintro e w' ⟨rfl, rfl⟩
                go_wp2_with fail
                go_ret
                exact ⟨ret_int (by have h := Hfin.out.symm.trans Hxy.out; simpa using h), Hb4.out⟩
            · have Pq : Hid (Pl.at0 Pl.wr (y.data.toList.takeWhile nd) k = 0) := Lib.hid (part_end nd Pl.wr y m k Em.out hkm)
              go_wp2_with fail
              refine (Cp.out _).mono ?_
              rintro e w3 ⟨rfl, hhb3⟩
              have Hb3 := Lib.hid (below_step Hbk.out hhb3)
              clear hhb3
              by_cases hpq : p = 0
              · have b1 : ((p : Int) != 0) = false := by rw [hpq]; simp
                have Hk' := Lib.hid (rscan_on _ _ k M c p 0 (by omega) Hk.out Pp.out Pq.out hpq)
                clear hpq
                go_wp2_with fail
                exact ⟨⟨k + 1, by omega, by go_num, Hk', Hb3.out⟩, by simp [intOf]; omega⟩
              · have b1 : ((p : Int) != 0) = true := by rw [bne_iff_ne]; exact hpq
                have Hfin : Hid (Pl.cmp x.data.toList y.data.toList = Pl.cmpI (p - 0) 0) := by
                  obtain ⟨h1, h2⟩ := rscan_stop _ _ k M c p 0 (by omega) Hk.out Pp.out Pq.out hpq
                  exact Lib.hid ((cmp_of_nd _ _ c h2 Hc.out.symm).trans h1)
                clear hpq
                go_wp2_with fail
                refine (sign_any _ _).mono ?_
                rintro e w' ⟨rfl, rfl⟩
                go_wp2_with fail
                go_ret
                exact ⟨ret_int (by have h := Hfin.out.symm.trans Hxy.out; simpa using h), Hb3.out⟩
          · have Pp : Hid (Pl.at0 Pl.wr (x.data.toList.takeWhile nd) k = 0) := Lib.hid (part_end nd Pl.wr x n k En.out hkn)
            by_cases hkm : k < m
            · skip
              have hkt : k < y.size := by omega
              obtain ⟨q, eq⟩ : ∃ q, q = Pl.wr y[k] := ⟨_, rfl⟩
              have qb : -1 ≤ q ∧ q ≤ 1300 := by rw [eq]; exact Pl.wr_bd _
              obtain ⟨qb1, qb2⟩ := qb
              have Pq : Hid (Pl.at0 Pl.wr (y.data.toList.takeWhile nd) k = q) := by
                have : Pl.at0 Pl.wr (y.data.toList.takeWhile nd) k = q := by rw [eq]; exact part_at nd Pl.wr y m k Em.out hkm hkt
                exact Lib.hid this
              have cq := letter_any y[k]
              rw [← eq] at cq
              have Cq := Lib.hid cq
              clear eq cq
              go_wp2_with fail
              refine (Cq.out _).mono ?_
              rintro e w3 ⟨rfl, hhb3⟩
              have Hb3 := Lib.hid (below_step Hbk.out hhb3)
              clear hhb3
              by_cases hpq : 0 = q
              · have b1 : ((0 : Int) != q) = false := by rw [hpq]; simp
                have Hk' := Lib.hid (rscan_on _ _ k M c 0 q (by omega) Hk.out Pp.out Pq.out hpq)
                clear hpq
                go_wp2_with fail
                exact ⟨⟨k + 1, by omega, by go_num, Hk', Hb3.out⟩, by simp [intOf]; omega⟩
              · have b1 : ((0 : Int) != q) = true := by rw [bne_iff_ne]; exact hpq
                have Hfin : Hid (Pl.cmp x.data.toList y.data.toList = Pl.cmpI (0 - q) 0) := by
                  obtain ⟨h1, h2⟩ := rscan_stop _ _ k M c 0 q (by omega) Hk.out Pp.out Pq.out hpq
                  exact Lib.hid ((cmp_of_nd _ _ c h2 Hc.out.symm).trans h1)
                clear hpq
                go_wp2_with fail
                refine (sign_any _ _).mono ?_
                rintro e w' ⟨rfl, rfl⟩
                go_wp2_with fail
                go_ret
                exact ⟨ret_int (by have h := Hfin.out.symm.trans Hxy.out; simpa using h), Hb3.out⟩
            · have hkM : M ≤ k := by
                by_cases h : k < M
                · rcases HM4.out k h with h | h <;> omega
                · omega
              have Hc0 := Lib.hid (rscan_out _ _ k M c hkM Hk.out)
              have Hc1 : Hid (Pl.ndc (Pl.hd1 x.data.toList) (Pl.hd1 y.data.toList) = 0) := Lib.hid (Hc.out.symm.trans Hc0.out)
              clear Hc Hc0 Hk Hscan Pp
              go_wp2_with fail
              generalize gx : x.extract n x.size = x2
              generalize gy : y.extract m y.size = y2
              have Hx2 : Hid (x2.data.toList = x.data.toList.dropWhile nd) := by rw [← gx]; exact Lib.hid (cut_from nd x n En.out)
              have Hy2 : Hid (y2.data.toList = y.data.toList.dropWhile nd) := by rw [← gy]; exact Lib.hid (cut_from nd y m Em.out)
              clear gx gy
              have hx2 : x2.size ≤ 1000000 := Nat.le_trans (drop_size _ _ _ Hx2.out) hx
              have hy2 : y2.size ≤ 1000000 := Nat.le_trans (drop_size _ _ _ Hy2.out) hy
              obtain ⟨n2, en2⟩ : ∃ n2, n2 = cnt Pl.dig x2.data.toList := ⟨_, rfl⟩
              obtain ⟨m2, em2⟩ : ∃ m2, m2 = cnt Pl.dig y2.data.toList := ⟨_, rfl⟩
              have cn2 := fun W => partD x2 W (by omega)
              have cm2 := fun W => partD y2 W (by omega)
              rw [← en2] at cn2
              rw [← em2] at cm2
              have Cn2 := Lib.hid cn2
              have Cm2 := Lib.hid cm2
              have En2 := Lib.hid en2
              have Em2 := Lib.hid em2
              have hnx2 := cnt_size Pl.dig x2 n2 en2
              have hmy2 := cnt_size Pl.dig y2 m2 em2
              clear en2 em2 cn2 cm2
              have Hx3 := Lib.hid (cut_to Pl.dig x2 n2 En2.out)
              have Hy3 := Lib.hid (cut_to Pl.dig y2 m2 Em2.out)
              have Hx4 : Hid ((x2.extract n2 x2.size).data.toList = Pl.tl2 x.data.toList) := by
                have : (x2.extract n2 x2.size).data.toList = Pl.tl2 x.data.toList := by rw [cut_from Pl.dig x2 n2 En2.out, Hx2.out]; rfl
                exact Lib.hid this
              have Hy4 : Hid ((y2.extract m2 y2.size).data.toList = Pl.tl2 y.data.toList) := by
                have : (y2.extract m2 y2.size).data.toList = Pl.tl2 y.data.toList := by rw [cut_from Pl.dig y2 m2 Em2.out, Hy2.out]; rfl
                exact Lib.hid this
              have Hx5 : Hid ((x2.extract n2 x2.size).size ≤ 1000000) := Lib.hid (Nat.le_trans (rest_size _ _ Hx4.out) hx)
              have Hy5 : Hid ((y2.extract m2 y2.size).size ≤ 1000000) := Lib.hid (Nat.le_trans (rest_size _ _ Hy4.out) hy)
              obtain ⟨o, eo⟩ : ∃ o, o = Pl.numR (x2.extract 0 n2).data.toList (y2.extract 0 m2).data.toList := ⟨_, rfl⟩
              have co := fun W => numbers_any (x2.extract 0 n2) (y2.extract 0 m2) W (Nat.le_trans (take_size _ _ _ Hx3.out) hx2) (Nat.le_trans (take_size _ _ _ Hy3.out) hy2)
              rw [← eo] at co
              have Co : Hid (∀ W, Calls Tryd.prog 11 #[.string (x2.extract 0 n2), .string (y2.extract 0 m2)] W fun e w' => e = .returned (.int .i64 o) ∧ w' = W) := by
                have : ∀ W, Calls Tryd.prog 11 #[.string (x2.extract 0 n2), .string (y2.extract 0 m2)] W fun e w' => e = .returned (.int .i64 o) ∧ w' = W := fun W => (co W).mono fun _ _ ⟨h1, h2⟩ => ⟨h1, h2.symm⟩
                exact Lib.hid this
              have Ho : Hid (Pl.numP (Pl.hd2 x.data.toList) (Pl.hd2 y.data.toList) = o) := by
                have : Pl.numP (Pl.hd2 x.data.toList) (Pl.hd2 y.data.toList) = o := by
                  rw [eo, Hx3.out, Hy3.out, Pl.numR_eq _ _ (all_dig _) (all_dig _), Hx2.out, Hy2.out]; rfl
                exact Lib.hid this
              clear eo co
              go_wp2_with fail
              refine (Cn2.out _).mono ?_
              rintro e w' ⟨rfl, rfl⟩
              go_wp2_with fail
              refine (Cm2.out _).mono ?_
              rintro e w' ⟨rfl, rfl⟩
              go_wp2_with fail
              go_quiet ((go_at_call 11; exact Calls.quiet_of_same (Co.out _)))
              by_cases ho0 : o = 0
              · subst ho0
                have Hnext : Hid (Pl.cmp (x2.extract n2 x2.size).data.toList (y2.extract m2 y2.size).data.toList = r) := by
                  have : Pl.cmp (x2.extract n2 x2.size).data.toList (y2.extract m2 y2.size).data.toList = r := by rw [Hx4.out, Hy4.out, cmp_of_rest _ _ Hc1.out Ho.out]; exact Hxy.out
                  exact Lib.hid this
                go_wp2_with fail
                refine ⟨⟨_, _, rfl, rfl, Hx5.out, Hy5.out, Hnext, below_drewN Hbk.out _⟩, ?_⟩
                rw [strSz_string, strSz_string, strSz_string, strSz_string]
                exact rest_sum _ _ _ _ Hx4.out Hy4.out Hpos.out
              · have ho1 : (o != 0) = true := by rw [bne_iff_ne]; exact ho0
                have Hfin : Hid (Pl.cmp x.data.toList y.data.toList = o) := Lib.hid (cmp_of_num _ _ _ ho1 Hc1.out Ho.out)
                go_wp2_with fail
                go_ret
                exact ⟨ret_int (Hfin.out.symm.trans Hxy.out), below_drewN Hbk.out _⟩
    · have Hend : Hid ((0 : Int) = r) := by
        have e1 : x.data.toList = [] := List.eq_nil_of_length_eq_zero (by rw [← Lib.size_eq]; omega)
        have e2 : y.data.toList = [] := List.eq_nil_of_length_eq_zero (by rw [← Lib.size_eq]; omega)
        have : (0 : Int) = r := by rw [← Hxy.out, e1, e2]; rfl
        exact Lib.hid this
      have g1 : x.size ≤ 0 := by omega
      have g2 : y.size ≤ 0 := by omega
      clear hpos
      go_wp2_with fail
      go_ret
      exact ⟨ret_int Hend.out, Hbw.out⟩
end Go.Proofs.YtfphcecjhdkcoaaDoor
