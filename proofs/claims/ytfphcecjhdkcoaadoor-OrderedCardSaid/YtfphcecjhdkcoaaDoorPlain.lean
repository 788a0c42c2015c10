/- Plain law, no program in sight: the order of versions as a function on lists of bytes (cmp), that it is a three-way order, and that comparing digit rows padded with noughts is comparing them trimmed of noughts. No conditions but those that each theorem states. -/
import GoSem.Op.String
namespace Go.Proofs.YtfphcecjhdkcoaaDoor
namespace Pl

abbrev Bs := List UInt8

/-! ### Three-way orders -/
structure Ord3 {α : Type} (f : α → α → Int) : Prop where
  lo : ∀ a b, -1 ≤ f a b
  hi : ∀ a b, f a b ≤ 1
  anti : ∀ a b, f b a = - f a b
  tr : ∀ a b c, f a b ≤ 0 → f b c ≤ 0 → f a c ≤ 0 ∧ (f a c = 0 ↔ (f a b = 0 ∧ f b c = 0))

theorem Ord3.own {α : Type} {f : α → α → Int} (h : Ord3 f) (a : α) : f a a = 0 := by
  have := h.anti a a; omega

theorem Ord3.zero {α : Type} : Ord3 (fun _ _ : α => (0 : Int)) :=
  ⟨fun _ _ => by omega, fun _ _ => by omega, fun _ _ => by omega, fun _ _ _ _ _ => by simp⟩

theorem Ord3.pull {α β : Type} {f : β → β → Int} (h : Ord3 f) (g : α → β) : Ord3 (fun a b => f (g a) (g b)) :=
  ⟨fun _ _ => h.lo _ _, fun _ _ => h.hi _ _, fun _ _ => h.anti _ _, fun _ _ _ => h.tr _ _ _⟩

/-- The first order tells; where it tells nothing, the second. -/
def lex (x y : Int) : Int := if x ≠ 0 then x else y

theorem Ord3.lex {α : Type} {f g : α → α → Int} (hf : Ord3 f) (hg : Ord3 g) : Ord3 (fun a b => Pl.lex (f a b) (g a b)) := by
  refine ⟨fun a b => ?_, fun a b => ?_, fun a b => ?_, fun a b c h1 h2 => ?_⟩
  · have := hf.lo a b; have := hg.lo a b; unfold Pl.lex; split <;> omega
  · have := hf.hi a b; have := hg.hi a b; unfold Pl.lex; split <;> omega
  · have := hf.anti a b; have := hg.anti a b; unfold Pl.lex; split <;> split <;> omega
  · have k1 := hf.tr a b c
    have k2 := hg.tr a b c
    simp only [Pl.lex] at h1 h2 ⊢
    have f1 : f a b ≤ 0 := by split at h1 <;> omega
    have f2 : f b c ≤ 0 := by split at h2 <;> omega
    obtain ⟨q1, q2⟩ := k1 f1 f2
    by_cases z : f a c = 0
    · obtain ⟨z1, z2⟩ := q2.1 z
      simp only [z1, z2, z, ne_eq, not_true_eq_false, if_false] at h1 h2 ⊢
      exact k2 h1 h2
    · rw [if_pos z]
      refine ⟨q1, ?_⟩
      constructor
      · intro e; exact absurd e z
      · rintro ⟨e1, e2⟩
        exfalso
        have a1 : f a b = 0 := by split at e1 <;> omega
        have a2 : f b c = 0 := by split at e2 <;> omega
        exact z (q2.2 ⟨a1, a2⟩)

/-! ### Numbers, texts -/
def cmpI (x y : Int) : Int := if x < y then -1 else if y < x then 1 else 0

theorem cmpI_ord : Ord3 cmpI := by
  refine ⟨fun a b => ?_, fun a b => ?_, fun a b => ?_, fun a b c h1 h2 => ?_⟩ <;> unfold cmpI at * <;> repeat (first | omega | split at *)

theorem cmpI_zero {x y : Int} : cmpI x y = 0 ↔ x = y := by unfold cmpI; split <;> (try split) <;> omega
theorem cmpI_bd (x y : Int) : -1 ≤ cmpI x y ∧ cmpI x y ≤ 1 := ⟨cmpI_ord.lo x y, cmpI_ord.hi x y⟩

def cmpS : Bs → Bs → Int
  | [], [] => 0
  | [], _ :: _ => -1
  | _ :: _, [] => 1
  | a :: x, b :: y => lex (cmpI a.toNat b.toNat) (cmpS x y)

theorem cmpS_lo : ∀ a b, -1 ≤ cmpS a b ∧ cmpS a b ≤ 1
  | [], [] => by simp [cmpS]
  | [], _ :: _ => by simp [cmpS]
  | _ :: _, [] => by simp [cmpS]
  | a :: x, b :: y => by
    have := cmpS_lo x y
    have := cmpI_bd a.toNat b.toNat
    rw [cmpS]; unfold lex; split <;> omega

theorem cmpS_anti : ∀ a b, cmpS b a = - cmpS a b
  | [], [] => by simp [cmpS]
  | [], _ :: _ => by simp [cmpS]
  | _ :: _, [] => by simp [cmpS]
  | a :: x, b :: y => by
    have h := cmpS_anti x y
    have := cmpI_ord.anti a.toNat b.toNat
    rw [cmpS, cmpS]; unfold lex; split <;> split <;> omega

/-- Over texts of one length the order is that of the first bytes, then of the others. -/
theorem cmpS_tr : ∀ a b c, cmpS a b ≤ 0 → cmpS b c ≤ 0 → cmpS a c ≤ 0 ∧ (cmpS a c = 0 ↔ (cmpS a b = 0 ∧ cmpS b c = 0))
  | [], [], [] => by simp [cmpS]
  | [], [], _ :: _ => by simp [cmpS]
  | [], _ :: _, [] => by simp [cmpS]
  | [], _ :: _, _ :: _ => by simp [cmpS]
  | _ :: _, [], [] => by simp [cmpS]
  | _ :: _, [], _ :: _ => by simp [cmpS]
  | _ :: _, _ :: _, [] => by simp [cmpS]
  | a :: x, b :: y, c :: z => by
    intro h1 h2
    have k2 := cmpS_tr x y z
    have k1 := cmpI_ord.tr a.toNat b.toNat c.toNat
    rw [cmpS] at h1 h2 ⊢
    rw [cmpS, cmpS]
    generalize cmpI a.toNat b.toNat = f1 at *
    generalize cmpI b.toNat c.toNat = f2 at *
    generalize cmpI a.toNat c.toNat = f3 at *
    generalize cmpS x y = g1 at *
    generalize cmpS y z = g2 at *
    generalize cmpS x z = g3 at *
    simp only [lex] at h1 h2 ⊢
    have f1' : f1 ≤ 0 := by split at h1 <;> omega
    have f2' : f2 ≤ 0 := by split at h2 <;> omega
    obtain ⟨q1, q2⟩ := k1 f1' f2'
    by_cases zz : f3 = 0
    · obtain ⟨z1, z2⟩ := q2.1 zz
      subst zz; subst z1; subst z2
      simp only [ne_eq, not_true_eq_false, if_false] at h1 h2 ⊢
      exact k2 h1 h2
    · rw [if_pos zz]
      refine ⟨q1, ?_⟩
      constructor
      · intro e; exact absurd e zz
      · rintro ⟨e1, e2⟩
        exfalso
        have a1 : f1 = 0 := by split at e1 <;> omega
        have a2 : f2 = 0 := by split at e2 <;> omega
        exact zz (q2.2 ⟨a1, a2⟩)

theorem cmpS_ord : Ord3 cmpS := ⟨fun a b => (cmpS_lo a b).1, fun a b => (cmpS_lo a b).2, cmpS_anti, cmpS_tr⟩

theorem cmpS_pre : ∀ p x y, cmpS (p ++ x) (p ++ y) = cmpS x y
  | [], _, _ => rfl
  | c :: p, x, y => by
    rw [List.cons_append, List.cons_append, cmpS, cmpS_pre p x y, (cmpI_zero.2 rfl : cmpI c.toNat c.toNat = 0)]; rfl

/-- How Go orders texts, and when two are the same, by cmpS. -/
theorem less_eq : ∀ x y, Op.bytesLess x y = decide (cmpS x y = -1)
  | [], [] => by simp [Op.bytesLess, cmpS]
  | [], _ :: _ => by simp [Op.bytesLess, cmpS]
  | _ :: _, [] => by simp [Op.bytesLess, cmpS]
  | a :: x, b :: y => by
    rw [Op.bytesLess, less_eq x y, cmpS]
    have hn : a = b ↔ a.toNat = b.toNat := UInt8.toNat_inj.symm
    have hl : a < b ↔ a.toNat < b.toNat := UInt8.lt_iff_toNat_lt
    rw [Bool.eq_iff_iff]
    simp only [Bool.or_eq_true, Bool.and_eq_true, decide_eq_true_eq, beq_iff_eq, hn, hl]
    have hc : (a.toNat < b.toNat ∧ cmpI a.toNat b.toNat = -1) ∨ (a.toNat = b.toNat ∧ cmpI a.toNat b.toNat = 0) ∨ (b.toNat < a.toNat ∧ cmpI a.toNat b.toNat = 1) := by
      unfold cmpI; split <;> (try split) <;> omega
    unfold lex
    rcases hc with ⟨h1, h2⟩ | ⟨h1, h2⟩ | ⟨h1, h2⟩ <;> rw [h2] <;> simp <;> omega

theorem same_eq : ∀ x y : Bs, (x == y) = decide (cmpS x y = 0)
  | [], [] => by simp [cmpS]
  | [], _ :: _ => by simp [cmpS]
  | _ :: _, [] => by simp [cmpS]
  | a :: x, b :: y => by
    have h := same_eq x y
    have hn : a = b ↔ a.toNat = b.toNat := UInt8.toNat_inj.symm
    rw [Bool.eq_iff_iff] at h ⊢
    simp only [beq_iff_eq, decide_eq_true_eq, List.cons.injEq] at h ⊢
    rw [h, hn, cmpS]
    have hc : (a.toNat < b.toNat ∧ cmpI a.toNat b.toNat = -1) ∨ (a.toNat = b.toNat ∧ cmpI a.toNat b.toNat = 0) ∨ (b.toNat < a.toNat ∧ cmpI a.toNat b.toNat = 1) := by
      unfold cmpI; split <;> (try split) <;> omega
    unfold lex
    rcases hc with ⟨h1, h2⟩ | ⟨h1, h2⟩ | ⟨h1, h2⟩ <;> rw [h2] <;> simp <;> omega

/-! ### Bytes and their weights -/
def dig (c : UInt8) : Bool := decide (48 ≤ c.toNat) && decide (c.toNat ≤ 57)
def isL (c : UInt8) : Bool := (decide (97 ≤ c.toNat) && decide (c.toNat ≤ 122)) || (decide (65 ≤ c.toNat) && decide (c.toNat ≤ 90))
def wt (c : UInt8) : Int := if c.toNat = 126 then -1 else if isL c = true then c.toNat else c.toNat + 256
def wr (c : UInt8) : Int := if c.toNat = 126 then -1 else if isL c = true then c.toNat else c.toNat + 1000
def at0 (w : UInt8 → Int) (l : Bs) (i : Nat) : Int := match l[i]? with | none => 0 | some c => w c

theorem toNat_lt (c : UInt8) : c.toNat < 256 := c.toNat_lt

theorem isL_bd (c : UInt8) (h : isL c = true) : 65 ≤ c.toNat ∧ c.toNat ≤ 122 := by
  unfold isL at h
  simp only [Bool.or_eq_true, Bool.and_eq_true, decide_eq_true_eq] at h
  omega

theorem wt_bd (c : UInt8) : -1 ≤ wt c ∧ wt c ≤ 600 := by
  have := toNat_lt c; unfold wt; split <;> (try split) <;> omega
theorem wr_bd (c : UInt8) : -1 ≤ wr c ∧ wr c ≤ 1300 := by
  have := toNat_lt c; unfold wr; split <;> (try split) <;> omega
theorem at0_bd (w : UInt8 → Int) (hw : ∀ c, -1 ≤ w c ∧ w c ≤ 1300) (l : Bs) (i : Nat) : -1 ≤ at0 w l i ∧ at0 w l i ≤ 1300 := by
  unfold at0; split
  · omega
  · exact hw _

/-- The program's weights and the reference's order alike. -/
theorem weights_alike (x y : Bs) (i : Nat) : cmpI (at0 wr x i) (at0 wr y i) = cmpI (at0 wt x i) (at0 wt y i) := by
  unfold at0
  rcases hx : x[i]? with _ | c <;> rcases hy : y[i]? with _ | d <;> simp only []
  · have := toNat_lt d; have := isL_bd d
    unfold cmpI wr wt; repeat' split
    all_goals omega
  · have := toNat_lt c; have := isL_bd c
    unfold cmpI wr wt; repeat' split
    all_goals omega
  · have := toNat_lt c; have := isL_bd c; have := toNat_lt d; have := isL_bd d
    have e : ∀ c : UInt8, ∀ k : Int, (if c.toNat = 126 then (-1 : Int) else if isL c = true then (c.toNat : Int) else c.toNat + k) = if c.toNat = 126 then -1 else c.toNat + (if isL c = true then 0 else k) := by
      intro c k; split <;> (try split) <;> omega
    have hc : (isL c = true ∧ 65 ≤ c.toNat ∧ c.toNat ≤ 122) ∨ ¬ isL c = true := by
      by_cases h : isL c = true
      · exact Or.inl ⟨h, isL_bd c h⟩
      · exact Or.inr h
    have hd : (isL d = true ∧ 65 ≤ d.toNat ∧ d.toNat ≤ 122) ∨ ¬ isL d = true := by
      by_cases h : isL d = true
      · exact Or.inl ⟨h, isL_bd d h⟩
      · exact Or.inr h
    unfold wr wt
    rcases hc with ⟨hc, _, _⟩ | hc <;> rcases hd with ⟨hd, _, _⟩ | hd <;> simp only [hc, hd, if_true] <;> unfold cmpI <;> repeat' split
    all_goals omega

/-! ### Parts without digits -/
def scan (w : UInt8 → Int) (x y : Bs) (i : Nat) : Nat → Int
  | 0 => 0
  | n + 1 => lex (cmpI (at0 w x i) (at0 w y i)) (scan w x y (i + 1) n)

theorem scan_ord (w : UInt8 → Int) : ∀ (n i : Nat), Ord3 (fun x y => scan w x y i n)
  | 0, _ => Ord3.zero
  | n + 1, i => (cmpI_ord.pull (fun x => at0 w x i)).lex (scan_ord w n (i + 1))

theorem at0_end (w : UInt8 → Int) (x : Bs) (i : Nat) (h : x.length ≤ i) : at0 w x i = 0 := by
  unfold at0; rw [List.getElem?_eq_none h]

theorem scan_end (w : UInt8 → Int) (x y : Bs) : ∀ (n i : Nat), x.length ≤ i → y.length ≤ i → scan w x y i n = 0
  | 0, _, _, _ => rfl
  | n + 1, i, h1, h2 => by
    rw [scan, at0_end w x i h1, at0_end w y i h2, scan_end w x y n (i + 1) (by omega) (by omega)]
    rfl

theorem scan_more (w : UInt8 → Int) (x y : Bs) : ∀ (n m i : Nat), x.length ≤ i + n → y.length ≤ i + n → scan w x y i (n + m) = scan w x y i n
  | 0, m, i, h1, h2 => by rw [scan_end w x y _ i (by omega) (by omega)]; rfl
  | n + 1, m, i, h1, h2 => by
    rw [show n + 1 + m = (n + m) + 1 from by omega, scan, scan, scan_more w x y n m (i + 1) (by omega) (by omega)]

/-- The order of two parts without digits. -/
def ndc (x y : Bs) : Int := scan wt x y 0 (max x.length y.length)

theorem ndc_at (x y : Bs) (n : Nat) (h1 : x.length ≤ n) (h2 : y.length ≤ n) : ndc x y = scan wt x y 0 n := by
  unfold ndc
  have : n = max x.length y.length + (n - max x.length y.length) := by omega
  rw [this, scan_more _ _ _ _ _ _ (by omega) (by omega)]

theorem ndc_ord : Ord3 ndc := by
  have key : ∀ a b c : Bs, ∃ n, ndc a b = scan wt a b 0 n ∧ ndc b c = scan wt b c 0 n ∧ ndc a c = scan wt a c 0 n := fun a b c =>
    ⟨a.length + b.length + c.length, ndc_at _ _ _ (by omega) (by omega), ndc_at _ _ _ (by omega) (by omega), ndc_at _ _ _ (by omega) (by omega)⟩
  refine ⟨fun a b => ?_, fun a b => ?_, fun a b => ?_, fun a b c => ?_⟩
  · obtain ⟨n, h, _, _⟩ := key a b a; rw [h]; exact (scan_ord wt n 0).lo a b
  · obtain ⟨n, h, _, _⟩ := key a b a; rw [h]; exact (scan_ord wt n 0).hi a b
  · obtain ⟨n, h, h', _⟩ := key a b a; rw [h, h']; exact (scan_ord wt n 0).anti a b
  · obtain ⟨n, h, h', h''⟩ := key a b c; rw [h, h', h'']; exact (scan_ord wt n 0).tr a b c

/-! ### Parts of digits -/
def trim (l : Bs) : Bs := l.dropWhile (fun c => c == 48)
def numP (x y : Bs) : Int := lex (cmpI (trim x).length (trim y).length) (cmpS (trim x) (trim y))

theorem numP_ord : Ord3 numP :=
  (cmpI_ord.pull (fun x : Bs => ((trim x).length : Int))).lex (cmpS_ord.pull trim)

def pad (n : Nat) (l : Bs) : Bs := List.replicate (n - l.length) 48 ++ l
def numR (x y : Bs) : Int := cmpS (pad (max x.length y.length) x) (pad (max x.length y.length) y)

theorem trim_le : ∀ l : Bs, (trim l).length ≤ l.length
  | [] => by simp [trim]
  | c :: l => by
    have := trim_le l
    unfold trim at *
    rw [List.dropWhile_cons]; split
    · simp only [List.length_cons]; omega
    · exact Nat.le_refl _

theorem trim_split : ∀ l : Bs, l = List.replicate (l.length - (trim l).length) 48 ++ trim l
  | [] => by simp [trim]
  | c :: l => by
    have h := trim_split l
    have hl := trim_le l
    unfold trim at *
    by_cases hc : (c == 48) = true
    · rw [List.dropWhile_cons, if_pos hc]
      have e : (c :: l).length - (l.dropWhile fun c => c == 48).length = (l.length - (l.dropWhile fun c => c == 48).length) + 1 := by
        simp only [List.length_cons]; omega
      rw [e, List.replicate_succ, List.cons_append, ← h]
      rw [beq_iff_eq] at hc; rw [hc]
    · rw [List.dropWhile_cons, if_neg hc]; simp

theorem pad_trim (n : Nat) (l : Bs) (h : l.length ≤ n) : pad n l = List.replicate (n - (trim l).length) 48 ++ trim l := by
  have hl := trim_le l
  have hs := trim_split l
  generalize trim l = t at *
  unfold pad
  rw [hs]
  rw [← List.append_assoc, List.replicate_append_replicate]
  congr 2
  simp only [List.length_append, List.length_replicate]
  omega

/-- A row of digits without a nought ahead. -/
theorem trim_head (l : Bs) (hd : ∀ c ∈ l, dig c = true) (c : UInt8) (t : Bs) (h : trim l = c :: t) : 48 < c.toNat := by
  have hm : c ∈ l := by
    have h1 : c ∈ trim l := by rw [h]; exact List.mem_cons_self
    exact (List.dropWhile_sublist _).mem h1
  have h2 := hd c hm
  have h3 : ¬ (c == 48) = true := by
    intro e
    have := List.head?_dropWhile_not (fun c : UInt8 => c == 48) l
    unfold trim at h
    rw [h] at this
    simp only [List.head?_cons] at this
    rw [e] at this
    exact absurd this (by simp)
  unfold dig at h2
  simp only [Bool.and_eq_true, decide_eq_true_eq] at h2
  have : c.toNat ≠ 48 := by
    intro e; apply h3; rw [beq_iff_eq]; exact UInt8.toNat_inj.1 e
  omega

theorem cmpS_rep_short (d : Nat) (x y : Bs) (hl : x.length + d = y.length) (hd : 0 < d) (hy : ∀ c t, y = c :: t → 48 < c.toNat) : cmpS (List.replicate d 48 ++ x) y = -1 := by
  obtain ⟨d, rfl⟩ : ∃ e, d = e + 1 := ⟨d - 1, by omega⟩
  match y, hl, hy with
  | [], hl, _ => simp at hl
  | c :: t, _, hy =>
    have := hy c t rfl
    rw [List.replicate_succ, List.cons_append, cmpS]
    have : cmpI ((48 : UInt8).toNat) c.toNat = -1 := by unfold cmpI; rw [if_pos (by simpa using by omega)]
    rw [this]; rfl

theorem numR_lt (x y : Bs) (hy : ∀ c ∈ y, dig c = true) (h : (trim x).length < (trim y).length) : numR x y = -1 := by
  unfold numR
  have hx' := trim_le x
  have hy' := trim_le y
  rw [pad_trim _ x (by omega), pad_trim _ y (by omega)]
  have e : max x.length y.length - (trim x).length = (max x.length y.length - (trim y).length) + ((trim y).length - (trim x).length) := by omega
  rw [e, ← List.replicate_append_replicate, List.append_assoc, cmpS_pre]
  exact cmpS_rep_short _ _ _ (by omega) (by omega) (fun c t ht => trim_head y hy c t ht)

theorem numR_eq (x y : Bs) (hx : ∀ c ∈ x, dig c = true) (hy : ∀ c ∈ y, dig c = true) : numR x y = numP x y := by
  unfold numP cmpI
  by_cases h1 : (trim x).length < (trim y).length
  · rw [numR_lt x y hy h1, if_pos (by omega)]; rfl
  · by_cases h2 : (trim y).length < (trim x).length
    · rw [if_neg (by omega), if_pos (by omega)]
      have h := numR_lt y x hx h2
      unfold numR at h ⊢
      rw [cmpS_anti, Nat.max_comm, h]; rfl
    · rw [if_neg (by omega), if_neg (by omega)]
      unfold numR
      have hx' := trim_le x
      have hy' := trim_le y
      rw [pad_trim _ x (by omega), pad_trim _ y (by omega), show (trim x).length = (trim y).length from by omega, cmpS_pre]
      rfl

/-! ### One round, and all of them -/
def hd1 (l : Bs) : Bs := l.takeWhile (fun c => !dig c)
def tl1 (l : Bs) : Bs := l.dropWhile (fun c => !dig c)
def hd2 (l : Bs) : Bs := (tl1 l).takeWhile dig
def tl2 (l : Bs) : Bs := (tl1 l).dropWhile dig
def rnd (a b : Bs) : Int := lex (ndc (hd1 a) (hd1 b)) (numP (hd2 a) (hd2 b))

theorem rnd_ord : Ord3 rnd := (ndc_ord.pull hd1).lex (numP_ord.pull hd2)

def cmpF : Nat → Bs → Bs → Int
  | 0, _, _ => 0
  | n + 1, a, b => lex (rnd a b) (cmpF n (tl2 a) (tl2 b))

theorem cmpF_ord : ∀ n, Ord3 (cmpF n)
  | 0 => Ord3.zero
  | n + 1 => rnd_ord.lex ((cmpF_ord n).pull tl2)

theorem drop_le (p : UInt8 → Bool) : ∀ l : Bs, (l.dropWhile p).length ≤ l.length
  | [] => by simp
  | c :: l => by
    have := drop_le p l
    rw [List.dropWhile_cons]; split
    · simp only [List.length_cons]; omega
    · exact Nat.le_refl _

theorem tl1_le (l : Bs) : (tl1 l).length ≤ l.length := drop_le _ l
theorem tl2_le (l : Bs) : (tl2 l).length ≤ (tl1 l).length := drop_le _ _

theorem tl2_lt (l : Bs) (h : l ≠ []) : (tl2 l).length < l.length := by
  match l, h with
  | c :: l, _ =>
    have h1 := drop_le (fun c => !dig c) l
    have h2 := drop_le dig l
    unfold tl2 tl1
    by_cases hc : dig c = true
    · rw [List.dropWhile_cons, if_neg (by simp [hc]), List.dropWhile_cons, if_pos hc]
      simp only [List.length_cons]; omega
    · rw [List.dropWhile_cons, if_pos (by simp [hc])]
      have := drop_le dig (List.dropWhile (fun c => !dig c) l)
      simp only [List.length_cons]; omega

theorem tl2_nil : tl2 [] = [] := rfl
theorem rnd_nil : rnd [] [] = 0 := rfl

theorem cmpF_nil : ∀ n, cmpF n [] [] = 0
  | 0 => rfl
  | n + 1 => by rw [cmpF, rnd_nil, tl2_nil, cmpF_nil n]; rfl

theorem tl2_room (a : Bs) (n : Nat) (h : a.length ≤ n + 1) : (tl2 a).length ≤ n := by
  by_cases e : a = []
  · subst e; simp [tl2_nil]
  · have := tl2_lt a e; omega

theorem cmpF_more : ∀ (n m : Nat) (a b : Bs), a.length ≤ n → b.length ≤ n → cmpF (n + m) a b = cmpF n a b
  | 0, m, a, b, h1, h2 => by
    have e1 : a = [] := List.eq_nil_of_length_eq_zero (by omega)
    have e2 : b = [] := List.eq_nil_of_length_eq_zero (by omega)
    subst e1; subst e2; rw [cmpF_nil, cmpF_nil]
  | n + 1, m, a, b, h1, h2 => by
    rw [show n + 1 + m = (n + m) + 1 from by omega, cmpF, cmpF, cmpF_more n m _ _ (tl2_room a n h1) (tl2_room b n h2)]

/-- THE ORDER OF VERSIONS. -/
def cmp (a b : Bs) : Int := cmpF (max a.length b.length) a b

theorem cmp_at (a b : Bs) (n : Nat) (h1 : a.length ≤ n) (h2 : b.length ≤ n) : cmp a b = cmpF n a b := by
  unfold cmp
  have : n = max a.length b.length + (n - max a.length b.length) := by omega
  rw [this, cmpF_more _ _ _ _ (by omega) (by omega)]

theorem cmp_ord : Ord3 cmp := by
  have key : ∀ a b c : Bs, ∃ n, cmp a b = cmpF n a b ∧ cmp b c = cmpF n b c ∧ cmp a c = cmpF n a c := fun a b c =>
    ⟨a.length + b.length + c.length, cmp_at _ _ _ (by omega) (by omega), cmp_at _ _ _ (by omega) (by omega), cmp_at _ _ _ (by omega) (by omega)⟩
  refine ⟨fun a b => ?_, fun a b => ?_, fun a b => ?_, fun a b c => ?_⟩
  · obtain ⟨n, h, _, _⟩ := key a b a; rw [h]; exact (cmpF_ord n).lo a b
  · obtain ⟨n, h, _, _⟩ := key a b a; rw [h]; exact (cmpF_ord n).hi a b
  · obtain ⟨n, h, h', _⟩ := key a b a; rw [h, h']; exact (cmpF_ord n).anti a b
  · obtain ⟨n, h, h', h''⟩ := key a b c; rw [h, h', h'']; exact (cmpF_ord n).tr a b c

theorem cmp_nil : cmp [] [] = 0 := rfl

theorem cmp_step (a b : Bs) : cmp a b = lex (rnd a b) (cmp (tl2 a) (tl2 b)) := by
  rw [cmp_at a b (a.length + b.length + 1) (by omega) (by omega), cmpF]
  rw [cmp_at (tl2 a) (tl2 b) (a.length + b.length) (tl2_room a _ (by omega)) (tl2_room b _ (by omega))]

/-- Both of the anchors that the statement Ordered asks for. -/
theorem anchor1 : cmp [49, 46, 57] [49, 46, 49, 48] = -1 := by decide +kernel
theorem anchor2 : cmp [50] [49, 126] = 1 := by decide +kernel

end Pl
end Go.Proofs.YtfphcecjhdkcoaaDoor
