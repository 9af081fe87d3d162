/- Plain lemmas: sums of shares 1/n, n at most 64, stay within the limits; no Go and no memory. -/
import Derived.Test.YtcphclpekllcoaaGreatDoorRatB
namespace Go.Proofs.YtcphclpekllcoaaGreatDoor.Nt
open Go.Lib

/-- The least common multiple of 1 to 64. -/
def lam : Nat := 1182266884102822267511361600
theorem lam_dvd : ∀ n : Nat, n < 65 → 0 < n → n ∣ lam := by decide
theorem lam_pos : lam ≠ 0 := by decide

/-- A sum of at most b shares. -/
def Over (q : Rat) (b : Nat) : Prop := ∃ a : Nat, q = mkRat a lam ∧ a ≤ b * lam

theorem Over.zero : Over 0 0 := ⟨0, by simp, by simp⟩
theorem Over.add {q r : Rat} {b c : Nat} (h : Over q b) (h' : Over r c) : Over (q + r) (b + c) := by
  obtain ⟨x, rfl, hx⟩ := h
  obtain ⟨y, rfl, hy⟩ := h'
  refine ⟨x + y, ?_, by rw [Nat.add_mul]; omega⟩
  rw [Rat.mkRat_add_mkRat _ _ lam_pos lam_pos]
  have e : ((x : Int) * lam + y * lam) = ((x + y : Nat) : Int) * lam := by rw [Int.natCast_add, Int.add_mul]
  rw [e]
  exact Rat.mkRat_mul_right lam_pos
theorem Over.share {n : Nat} (h0 : 0 < n) (h : n < 65) : Over (mkRat 1 n) 1 := by
  obtain ⟨k, hk⟩ := lam_dvd n h h0
  refine ⟨k, ?_, ?_⟩
  · rw [hk]
    have hk0 : k ≠ 0 := by rintro rfl; exact lam_pos (by rw [hk]; simp)
    have := Rat.mkRat_mul_right (n := 1) (d := n) (a := k) hk0
    rw [Int.one_mul] at this
    exact this.symm
  · rw [hk, Nat.one_mul]; exact Nat.le_mul_of_pos_left k h0

theorem Over.den {q : Rat} {b : Nat} (h : Over q b) : q.den ≤ lam := by
  obtain ⟨a, rfl, _⟩ := h
  exact Nat.le_of_dvd (Nat.pos_of_ne_zero lam_pos) (Rat.den_mkRat _ _ ▸ by
    rw [if_neg lam_pos]; exact Nat.div_dvd_of_dvd (Nat.gcd_dvd_left _ _))
theorem Over.num {q : Rat} {b : Nat} (h : Over q b) : nu q ≤ b * lam ∧ ng q = false := by
  obtain ⟨a, rfl, ha⟩ := h
  have hn : (mkRat (a : Int) lam).num = ((a / Nat.gcd a lam : Nat) : Int) := by
    rw [Rat.num_mkRat, if_neg lam_pos, Nat.gcd_comm a lam]; simp
  refine ⟨?_, ?_⟩
  · unfold nu; rw [hn]
    exact Nat.le_trans (Nat.div_le_self _ _) ha
  · unfold ng; rw [hn]; exact decide_eq_false (Int.not_lt.2 (Int.natCast_nonneg _))

theorem dig_small {n : Nat} (h : n < 10 ^ 100) : dig1000 n = true := by
  unfold dig1000
  rw [decide_eq_true_eq]
  exact nDigits_of 100 (Nat.le_of_lt h) (by decide)

theorem Over.fits {q r : Rat} {b c : Nat} (h : Over q b) (h' : Over r c) (hb : b ≤ 1000) (hc : c ≤ 1000) : addFits q r = true := by
  have m1 : nu q * r.den ≤ 1000 * lam * lam := Nat.mul_le_mul (Nat.le_trans h.num.1 (Nat.mul_le_mul_right _ hb)) h'.den
  have m2 : nu r * q.den ≤ 1000 * lam * lam := Nat.mul_le_mul (Nat.le_trans h'.num.1 (Nat.mul_le_mul_right _ hc)) h.den
  have m3 : q.den * r.den ≤ lam * lam := Nat.mul_le_mul h.den h'.den
  have e1 : 1000 * lam * lam + 1000 * lam * lam < 10 ^ 100 := by decide
  have e2 : lam * lam < 10 ^ 100 := by decide
  unfold addFits
  rw [dig_small (Nat.lt_of_le_of_lt m1 (by omega)), dig_small (Nat.lt_of_le_of_lt m2 (by omega)), dig_small (Nat.lt_of_le_of_lt m3 e2), dig_small (n := nu q * r.den + nu r * q.den) (by omega)]
  simp
theorem Over.fit {q : Rat} {b : Nat} (h : Over q b) (hb : b ≤ 1000) : fitR q = true := by
  have e1 : 1000 * lam < 10 ^ 100 := by decide
  have m := Nat.le_trans h.num.1 (Nat.mul_le_mul_right lam hb)
  have d := h.den
  have e2 : lam < 10 ^ 100 := by decide
  have x := dig_small (n := nu q) (by omega)
  have y := dig_small (n := q.den) (by omega)
  unfold dig1000 at x y
  unfold fitR
  unfold nu at x
  rw [x, y]; rfl
end Go.Proofs.YtcphclpekllcoaaGreatDoor.Nt
