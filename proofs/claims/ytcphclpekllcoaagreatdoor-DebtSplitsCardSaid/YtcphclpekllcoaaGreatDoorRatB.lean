/- Plain lemmas: comparing quotients by their integer parts and what is left; quotients of ints; no Go and no memory. -/
import Derived.Test.YtcphclpekllcoaaGreatDoorRat
namespace Go.Proofs.YtcphclpekllcoaaGreatDoor.Nt
open Go.Lib

def cmpN (a b c d : Nat) : Int := if a * d < c * b then -1 else if c * b < a * d then 1 else 0

theorem cmpN_step (a b c d : Nat) (hb : 0 < b) (hd : 0 < d) :
    cmpN a b c d = if a / b < c / d then -1 else if c / d < a / b then 1 else cmpN d (c % d) b (a % b) := by
  have ha := Nat.div_add_mod a b
  have hc := Nat.div_add_mod c d
  have hr := Nat.mod_lt a hb
  have hs := Nat.mod_lt c hd
  generalize a / b = m at *
  generalize a % b = r at *
  generalize c / d = n at *
  generalize c % d = s at *
  subst ha hc
  unfold cmpN
  have e1 : (b * m + r) * d = b * d * m + d * r := by rw [Nat.add_mul, Nat.mul_right_comm, Nat.mul_comm r d]
  have e2 : (d * n + s) * b = b * d * n + b * s := by rw [Nat.add_mul, Nat.mul_right_comm, Nat.mul_comm s b, Nat.mul_comm d b]
  rw [e1, e2]
  have hrd : d * r < b * d := by rw [Nat.mul_comm b d]; exact Nat.mul_lt_mul_of_pos_left hr hd
  have hsb : b * s < b * d := Nat.mul_lt_mul_of_pos_left hs hb
  by_cases h1 : m < n
  · rw [if_pos h1, if_pos]
    have : b * d * (m + 1) ≤ b * d * n := Nat.mul_le_mul_left _ h1
    rw [Nat.mul_add] at this; omega
  · rw [if_neg h1]
    by_cases h2 : n < m
    · have : b * d * (n + 1) ≤ b * d * m := Nat.mul_le_mul_left _ h2
      rw [Nat.mul_add] at this
      rw [if_pos h2, if_neg (by omega), if_pos (by omega)]
    · rw [if_neg h2]
      have : m = n := by omega
      subst this
      generalize b * d * m = t
      by_cases h3 : d * r < b * s
      · rw [if_pos (by omega), if_pos h3]
      · rw [if_neg (by omega), if_neg h3]
        by_cases h4 : b * s < d * r
        · rw [if_pos (by omega), if_pos h4]
        · rw [if_neg (by omega), if_neg h4]

theorem cmpN_r0 (d s b : Nat) (hb : 0 < b) (h : cmpN d s b 0 ≠ 0) : cmpN d s b 0 = -1 := by
  unfold cmpN at *
  by_cases hs : s = 0
  · subst hs; simp at h
  · rw [if_pos]
    have : 0 < b * s := Nat.mul_pos hb (by omega)
    omega
theorem cmpN_s0 (d b r : Nat) (hd : 0 < d) (hr : 0 < r) : cmpN d 0 b r = 1 := by
  unfold cmpN
  have : 0 < d * r := Nat.mul_pos hd hr
  rw [if_neg (by omega), if_pos (by omega)]
theorem cmpN_r0' (d s b : Nat) (hs : 0 < s) (hb : 0 < b) : cmpN d s b 0 = -1 := by
  unfold cmpN
  have : 0 < b * s := Nat.mul_pos hb hs
  rw [if_pos (by omega)]
theorem cmpN_00 (d b : Nat) : cmpN d 0 b 0 = 0 := by simp [cmpN]

def rcmp (a b : Rat) : Int := if a < b then -1 else if b < a then 1 else 0
theorem rCmp_rs (a b : Rat) (ha : fitR a = true) (hb : fitR b = true) : rCmp (rs a) (rs b) = rcmp a b := by
  unfold rCmp rcmp
  rw [rat?_rs a ha, rat?_rs b hb]

theorem num_pos (q : Rat) (h : ng q = false) : q.num = nu q := by rw [num_sg, h]; rfl
theorem num_neg' (q : Rat) (h : ng q = true) : q.num = -(nu q : Int) := by rw [num_sg, h]; rfl

theorem castlt (m n : Nat) : ((m : Int) < (n : Int)) ↔ m < n := Int.ofNat_lt

theorem rcmp_pos (a b : Rat) (ha : ng a = false) (hb : ng b = false) : rcmp a b = cmpN (nu a) a.den (nu b) b.den := by
  unfold rcmp cmpN
  simp only [Rat.lt_iff, num_pos a ha, num_pos b hb, ← Int.natCast_mul, castlt]
theorem rcmp_negs (a b : Rat) (ha : ng a = true) (hb : ng b = true) : rcmp a b = cmpN (nu b) b.den (nu a) a.den := by
  unfold rcmp cmpN
  simp only [Rat.lt_iff, num_neg' a ha, num_neg' b hb, Int.neg_mul, Int.neg_lt_neg_iff, ← Int.natCast_mul, castlt]
theorem ng_pos (q : Rat) (h : ng q = true) : 0 < nu q := by
  have h1 : q.num < 0 := by simpa [ng] using h
  unfold nu; omega
theorem rcmp_np (a b : Rat) (ha : ng a = true) (hb : ng b = false) : rcmp a b = -1 := by
  unfold rcmp
  rw [if_pos]
  rw [Rat.lt_iff, num_neg' a ha, num_pos b hb, Int.neg_mul, ← Int.natCast_mul, ← Int.natCast_mul]
  have := Nat.mul_pos (ng_pos a ha) b.den_pos
  omega
theorem rcmp_pn (a b : Rat) (ha : ng a = false) (hb : ng b = true) : rcmp a b = 1 := by
  have h : b < a := by
    rw [Rat.lt_iff, num_neg' b hb, num_pos a ha, Int.neg_mul, ← Int.natCast_mul, ← Int.natCast_mul]
    have := Nat.mul_pos (ng_pos b hb) a.den_pos
    omega
  unfold rcmp
  rw [if_neg (Rat.not_lt.2 (Rat.le_of_lt h)), if_pos h]
theorem rcmp_self (a : Rat) : rcmp a a = 0 := by simp [rcmp, Rat.lt_irrefl]
theorem rcmp_zero (a b : Rat) : rcmp a b = 0 ↔ a = b := by
  constructor
  · intro h
    unfold rcmp at h
    split at h
    · simp at h
    · split at h
      · simp at h
      · exact Rat.le_antisymm (Rat.not_lt.1 ‹_›) (Rat.not_lt.1 ‹_›)
  · rintro rfl; exact rcmp_self a

end Go.Proofs.YtcphclpekllcoaaGreatDoor.Nt
