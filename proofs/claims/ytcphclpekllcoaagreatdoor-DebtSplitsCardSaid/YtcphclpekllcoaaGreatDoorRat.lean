/- Plain lemmas: rational numbers as a sign and two decimal strings; no Go and no memory. -/
import Derived.Test.YtcphclpekllcoaaGreatDoorNat
namespace Go.Proofs.YtcphclpekllcoaaGreatDoor.Nt
open Go.Lib

/-- A rational number as the program writes it: sign, numerator, denominator. -/
abbrev RS := Bool × ByteArray × ByteArray
def sg (neg : Bool) (n : Nat) : Int := if neg then -(n : Int) else n
def rs (q : Rat) : RS := (decide (q.num < 0), nat2s q.num.natAbs, nat2s q.den)
/-- Both strings are within the limit. -/
def fitR (q : Rat) : Bool := decide (nDigits q.num.natAbs ≤ 1000) && decide (nDigits q.den ≤ 1000)

theorem sg_natAbs (neg : Bool) (n : Nat) : (sg neg n).natAbs = n := by cases neg <;> simp [sg]
theorem sg_of (z : Int) : sg (decide (z < 0)) z.natAbs = z := by
  unfold sg
  by_cases h : z < 0
  · simp [h]; omega
  · simp [h]; omega
theorem sg_neg (neg : Bool) (n : Nat) (h : n = 0 → neg = false) : decide (sg neg n < 0) = neg := by
  cases neg with
  | false => simp [sg]
  | true =>
    have : n ≠ 0 := fun e => by simpa using h e
    simp [sg]; omega
theorem sg_mul (a b : Bool) (m n : Nat) : sg a m * sg b n = sg (a != b) (m * n) := by
  cases a <;> cases b <;> simp [sg, Int.mul_neg, Int.neg_mul]
theorem sg_den (a : Bool) (m d : Nat) : sg a m * (d : Int) = sg a (m * d) := by cases a <;> simp [sg, Int.neg_mul]

def rat? (x : RS) : Option Rat :=
  match num? x.2.1, num? x.2.2 with
  | some n, some d =>
    if h : d ≠ 0 ∧ n.Coprime d ∧ (n = 0 → x.1 = false) then some { num := sg x.1 n, den := d, den_nz := h.1, reduced := by rw [sg_natAbs]; exact h.2.1 } else none
  | _, _ => none

theorem rs_inj {p q : Rat} (h : rs p = rs q) : p = q := by
  simp only [rs, Prod.mk.injEq] at h
  obtain ⟨h1, h2, h3⟩ := h
  have h2 := nat2s_inj h2
  have h3 := nat2s_inj h3
  refine Rat.ext ?_ h3
  rw [← sg_of p.num, ← sg_of q.num, h1, h2]

theorem rs_eq_iff (p q : Rat) : rs p = rs q ↔ p = q := ⟨rs_inj, fun h => by rw [h]⟩

theorem rat?_rs (q : Rat) (h : fitR q = true) : rat? (rs q) = some q := by
  simp only [fitR, Bool.and_eq_true, decide_eq_true_eq] at h
  unfold rat? rs
  simp only [num?_nat2s _ h.1, num?_nat2s _ h.2]
  rw [dif_pos ⟨q.den_nz, q.reduced, by intro e; have e0 : q.num = 0 := Int.natAbs_eq_zero.1 e; simp [e0]⟩]
  congr 1
  exact Rat.ext (sg_of _) rfl

theorem rat?_some {x : RS} {q : Rat} (h : rat? x = some q) : x = rs q ∧ fitR q = true := by
  obtain ⟨neg, a, b⟩ := x
  unfold rat? at h
  simp only at h
  split at h
  · rename_i n d h1 h2
    split at h
    · rename_i hc
      obtain rfl := by simpa using h
      obtain ⟨rfl, f1⟩ := num?_some h1
      obtain ⟨rfl, f2⟩ := num?_some h2
      refine ⟨?_, ?_⟩
      · simp only [rs, sg_natAbs, sg_neg neg n hc.2.2]
      · simp [fitR, sg_natAbs, f1, f2]
    · simp at h
  · simp at h

theorem rat?_rs_big (q : Rat) (h : fitR q = false) : rat? (rs q) = none := by
  cases e : rat? (rs q) with
  | none => rfl
  | some p =>
    obtain ⟨h1, h2⟩ := rat?_some e
    have := rs_inj h1
    subst this
    rw [h] at h2; simp at h2

/-! ### lowest terms -/
/-- What `lowest` makes of a sign and two numbers. -/
def low (neg : Bool) (n d : Nat) : Rat := mkRat (sg neg n) d

theorem low_zero (neg : Bool) (d : Nat) : low neg 0 d = 0 := by
  unfold low
  have : sg neg 0 = 0 := by cases neg <;> simp [sg]
  rw [this, Rat.zero_mkRat]

theorem low_eq (neg : Bool) (n d : Nat) (hd : d ≠ 0) (hn : n ≠ 0) :
    rs (low neg n d) = (neg, nat2s (n / Nat.gcd n d), nat2s (d / Nat.gcd n d)) := by
  unfold low
  rw [← Rat.normalize_eq_mkRat hd, Rat.normalize_eq hd]
  simp only [rs, sg_natAbs]
  have hg : 0 < Nat.gcd n d := Nat.gcd_pos_of_pos_left _ (by omega)
  have hq : sg neg n / (Nat.gcd n d : Int) = sg neg (n / Nat.gcd n d) := by
    obtain ⟨k, hk⟩ := Nat.gcd_dvd_left n d
    generalize Nat.gcd n d = g at *
    subst hk
    rw [Nat.mul_div_cancel_left _ hg]
    have e : sg neg (g * k) = (g : Int) * sg neg k := by cases neg <;> simp [sg, Int.mul_neg]
    rw [e, Int.mul_ediv_cancel_left _ (by omega)]
  rw [hq, sg_natAbs, sg_neg]
  intro e
  exfalso
  have := Nat.div_mul_cancel (Nat.gcd_dvd_left n d)
  rw [e] at this
  omega

theorem rs_zero : rs 0 = (false, nat2s 0, nat2s 1) := by simp [rs]

theorem low_fit (neg : Bool) (n d : Nat) (hd : d ≠ 0) (h1 : nDigits n ≤ 1000) (h2 : nDigits d ≤ 1000) : fitR (low neg n d) = true := by
  have mono : ∀ a b : Nat, a ≤ b → nDigits b ≤ 1000 → nDigits a ≤ 1000 := fun a b hab hb => by
    rw [nDigits_le_iff _ _ (by decide)] at *; omega
  by_cases hn : n = 0
  · subst hn; rw [low_zero]; decide +kernel
  · have h := low_eq neg n d hd hn
    simp only [rs, Prod.mk.injEq] at h
    have e1 := nat2s_inj h.2.1
    have e2 := nat2s_inj h.2.2
    simp only [fitR, Bool.and_eq_true, decide_eq_true_eq]
    rw [e1, e2]
    exact ⟨mono _ _ (Nat.div_le_self _ _) h1, mono _ _ (Nat.div_le_self _ _) h2⟩

/-! ### sums and products -/
theorem add_low (a b : Rat) : a + b = mkRat (a.num * b.den + b.num * a.den) (a.den * b.den) := by
  rw [Rat.add_def, Rat.normalize_eq_mkRat]
theorem mul_low (a b : Rat) : a * b = mkRat (a.num * b.num) (a.den * b.den) := by
  rw [Rat.mul_def, Rat.normalize_eq_mkRat]

def ng (q : Rat) : Bool := decide (q.num < 0)
def nu (q : Rat) : Nat := q.num.natAbs
theorem num_sg (q : Rat) : q.num = sg (ng q) (nu q) := (sg_of q.num).symm

theorem add_same (a b : Rat) (h : ng a = ng b) : a + b = low (ng a) (nu a * b.den + nu b * a.den) (a.den * b.den) := by
  rw [add_low, low, num_sg a, num_sg b, ← h, sg_den, sg_den]
  congr 1
  cases ng a <;> simp [sg]; omega
theorem add_less (a b : Rat) (h : ng a ≠ ng b) (hlt : nu a * b.den < nu b * a.den) : a + b = low (ng b) (nu b * a.den - nu a * b.den) (a.den * b.den) := by
  rw [add_low, low, num_sg a, num_sg b, sg_den, sg_den]
  congr 1
  cases ha : ng a <;> cases hb : ng b <;> simp_all [sg] <;> omega
theorem add_more (a b : Rat) (h : ng a ≠ ng b) (hle : nu b * a.den ≤ nu a * b.den) : a + b = low (ng a) (nu a * b.den - nu b * a.den) (a.den * b.den) := by
  rw [add_low, low, num_sg a, num_sg b, sg_den, sg_den]
  congr 1
  cases ha : ng a <;> cases hb : ng b <;> simp_all [sg] <;> omega
theorem mul_low' (a b : Rat) : a * b = low (ng a != ng b) (nu a * nu b) (a.den * b.den) := by
  rw [mul_low, low, num_sg a, num_sg b, sg_mul]

def dig1000 (n : Nat) : Bool := decide (nDigits n ≤ 1000)
/-- A sum stays within the limits. -/
def addFits (a b : Rat) : Bool :=
  dig1000 (nu a * b.den) && dig1000 (nu b * a.den) && dig1000 (a.den * b.den) && (ng a != ng b || dig1000 (nu a * b.den + nu b * a.den))
def mulFits (a b : Rat) : Bool := dig1000 (nu a * nu b) && dig1000 (a.den * b.den)

/-- The sum of two numbers that are written, with an error code: 1 if one is not valid, 2 beyond the limits. -/
def rAdd (x y : RS) : RS × Int :=
  match rat? x, rat? y with
  | some a, some b => if addFits a b then (rs (a + b), 0) else ((false, ByteArray.empty, ByteArray.empty), 2)
  | _, _ => ((false, ByteArray.empty, ByteArray.empty), 1)
def rMul (x y : RS) : RS × Int :=
  match rat? x, rat? y with
  | some a, some b => if mulFits a b then (rs (a * b), 0) else ((false, ByteArray.empty, ByteArray.empty), 2)
  | _, _ => ((false, ByteArray.empty, ByteArray.empty), 1)
def rValid (x : RS) : Bool := (rat? x).isSome
def rCmp (x y : RS) : Int :=
  match rat? x, rat? y with
  | some a, some b => if a < b then -1 else if b < a then 1 else 0
  | _, _ => 0

theorem dig_mono {a b : Nat} (h : a ≤ b) (hb : dig1000 b = true) : dig1000 a = true := by
  simp only [dig1000, decide_eq_true_eq] at *
  rw [nDigits_le_iff _ _ (by decide)] at *; omega

theorem addFits_fit (a b : Rat) (h : addFits a b = true) : fitR (a + b) = true := by
  simp only [addFits, Bool.and_eq_true, Bool.or_eq_true, bne_iff_ne] at h
  obtain ⟨⟨⟨h1, h2⟩, h3⟩, h4⟩ := h
  have hd : a.den * b.den ≠ 0 := Nat.mul_ne_zero a.den_nz b.den_nz
  have f : ∀ neg n, dig1000 n = true → fitR (low neg n (a.den * b.den)) = true := fun neg n hn =>
    low_fit neg n _ hd (by simpa [dig1000] using hn) (by simpa [dig1000] using h3)
  by_cases hs : ng a = ng b
  · rw [add_same a b hs]
    exact f _ _ (h4.resolve_left (by simpa using hs))
  · by_cases hlt : nu a * b.den < nu b * a.den
    · rw [add_less a b hs hlt]; exact f _ _ (dig_mono (by omega) h2)
    · rw [add_more a b hs (by omega)]; exact f _ _ (dig_mono (by omega) h1)
theorem mulFits_fit (a b : Rat) (h : mulFits a b = true) : fitR (a * b) = true := by
  simp only [mulFits, Bool.and_eq_true] at h
  rw [mul_low']
  exact low_fit _ _ _ (Nat.mul_ne_zero a.den_nz b.den_nz) (by simpa [dig1000] using h.1) (by simpa [dig1000] using h.2)

end Go.Proofs.YtcphclpekllcoaaGreatDoor.Nt
