/- Plain lemmas: sums, products, quotients and texts of limbs; no Go and no memory. -/
import Derived.Test.YtcphclpekllcoaaGreatDoorLimb
namespace Go.Proofs.YtcphclpekllcoaaGreatDoor.Nt
open Go.Lib

theorem castB : ((1000000000 : Nat) : Int) = 1000000000 := rfl
theorem castP (k : Nat) : ((1000000000 ^ k : Nat) : Int) = 1000000000 ^ k := by rw [Int.natCast_pow]; rfl

/-! ### what `collect` computes -/
def fsum (F : Nat → Int) : Nat → Int
  | 0 => 0
  | k + 1 => fsum F k + F k * 1000000000 ^ k

/-- The limbs, and what is carried over, behind k rounds. -/
def cst (F : Nat → Int) : Nat → List Nat × Int
  | 0 => ([], 0)
  | k + 1 => ((cst F k).1 ++ [((F k + (cst F k).2) % 1000000000).toNat], (F k + (cst F k).2) / 1000000000)

theorem cst_len (F : Nat → Int) (k : Nat) : (cst F k).1.length = k := by
  induction k with
  | zero => rfl
  | succ k ih => simp [cst, ih]

theorem cst_lt (F : Nat → Int) (k : Nat) : ∀ d ∈ (cst F k).1, d < 1000000000 := by
  induction k with
  | zero => simp [cst]
  | succ k ih =>
    intro d hd
    simp only [cst, List.mem_append, List.mem_singleton] at hd
    rcases hd with hd | rfl
    · exact ih d hd
    · omega

theorem cst_sum (F : Nat → Int) (k : Nat) : (lval (cst F k).1 : Int) + (cst F k).2 * 1000000000 ^ k = fsum F k := by
  induction k with
  | zero => simp [cst, lval, fsum]
  | succ k ih =>
    simp only [cst, fsum, lval_append, cst_len, lval]
    generalize (cst F k).2 = c at *
    have h1 : (((F k + c) % 1000000000).toNat : Int) = (F k + c) % 1000000000 := Int.toNat_of_nonneg (by omega)
    have h2 := Int.emod_add_mul_ediv (F k + c) 1000000000
    simp only [Nat.mul_zero, Nat.add_zero]
    rw [← ih]
    rw [Int.natCast_add, Int.natCast_mul, castP, h1, Int.pow_succ]
    generalize (1000000000 : Int) ^ k = p
    generalize (F k + c) / 1000000000 = q at *
    generalize (F k + c) % 1000000000 = r at *
    have h3 : p * r + q * (p * 1000000000) = (F k + c) * p := by
      rw [← h2, Int.add_mul, Int.mul_comm p r, Int.mul_comm 1000000000 q, Int.mul_assoc, Int.mul_comm p 1000000000]
    rw [Int.add_mul] at h3
    omega

theorem cst_carry (F : Nat → Int) (hF : ∀ i, -1000000000000000000 ≤ F i ∧ F i ≤ 1000000000000000000) (k : Nat) :
    -1000000000000000000 ≤ (cst F k).2 ∧ (cst F k).2 ≤ 1000000000000000000 := by
  induction k with
  | zero => simp [cst]
  | succ k ih =>
    have := hF k
    simp only [cst]
    omega

/-- All is collected: the limbs of N. -/
theorem cst_all (F : Nat → Int) (n N : Nat) (h : fsum F n = N) (hN : N < 1000000000 ^ n) : lval (cst F n).1 = N ∧ (cst F n).2 = 0 := by
  have h1 := cst_sum F n
  have h2 := lval_lt _ (cst_lt F n)
  rw [cst_len] at h2
  rw [h] at h1
  rw [← castP] at h1
  generalize 1000000000 ^ n = p at *
  generalize (cst F n).2 = c at *
  generalize lval (cst F n).1 = v at *
  have h0 : c = 0 := by
    rcases Int.lt_trichotomy c 0 with hc | hc | hc
    · exfalso
      have : c * p ≤ -1 * p := Int.mul_le_mul_of_nonneg_right (by omega) (by omega)
      omega
    · exact hc
    · exfalso
      have : 1 * (p : Int) ≤ c * p := Int.mul_le_mul_of_nonneg_right (by omega) (by omega)
      omega
  subst h0
  simp at h1
  exact ⟨by omega, rfl⟩

theorem fsum_congr (F G : Nat → Int) (k : Nat) (h : ∀ i, i < k → F i = G i) : fsum F k = fsum G k := by
  induction k with
  | zero => rfl
  | succ k ih => simp only [fsum]; rw [ih (fun i hi => h i (by omega)), h k (by omega)]

theorem fsum_add (F G : Nat → Int) (k : Nat) : fsum (fun i => F i + G i) k = fsum F k + fsum G k := by
  induction k with
  | zero => rfl
  | succ k ih => simp only [fsum, ih, Int.add_mul]; omega
theorem fsum_sub (F G : Nat → Int) (k : Nat) : fsum (fun i => F i - G i) k = fsum F k - fsum G k := by
  induction k with
  | zero => rfl
  | succ k ih => simp only [fsum, ih, Int.sub_mul]; omega
theorem fsum_mul (q : Int) (F : Nat → Int) (k : Nat) : fsum (fun i => q * F i) k = q * fsum F k := by
  induction k with
  | zero => simp [fsum]
  | succ k ih => simp only [fsum, ih, Int.mul_add, Int.mul_assoc]

/-- A limb; 0 beyond the last one. -/
def at0 (l : List Nat) (i : Nat) : Int := ((l.getD i 0 : Nat) : Int)

theorem fsum_at (l : List Nat) (k : Nat) (h : l.length ≤ k) : fsum (at0 l) k = lval l := by
  have key : ∀ k, k ≤ l.length → fsum (at0 l) k = lval (l.take k) := by
    intro k
    induction k with
    | zero => intro _; simp [fsum, lval]
    | succ k ih =>
      intro hk
      rw [fsum, ih (by omega), List.take_succ_eq_append_getElem (by omega), lval_append, List.length_take, Nat.min_eq_left (by omega)]
      simp only [lval, at0, List.getD_eq_getElem?_getD, List.getElem?_eq_getElem (show k < l.length by omega), Option.getD_some]
      rw [Int.natCast_add, Int.natCast_mul, castP, Int.mul_comm (l[k] : Int)]
      rfl
  obtain ⟨j, rfl⟩ : ∃ j, k = l.length + j := ⟨k - l.length, by omega⟩
  clear h
  induction j with
  | zero => rw [Nat.add_zero, key _ (Nat.le_refl _), List.take_length]
  | succ j ih =>
    rw [show l.length + (j + 1) = (l.length + j) + 1 by omega, fsum, ih]
    simp [at0, List.getD_eq_getElem?_getD]

theorem at0_range (l : List Nat) (h : ∀ d ∈ l, d < 1000000000) (i : Nat) : 0 ≤ at0 l i ∧ at0 l i ≤ 999999999 := by
  unfold at0
  rw [List.getD_eq_getElem?_getD]
  cases e : l[i]? with
  | none => simp
  | some d =>
    have := h d (List.mem_of_getElem? e)
    simp; omega

theorem pow_max (a b : Nat) : 1000000000 ^ a ≤ 1000000000 ^ max a b ∧ 1000000000 ^ b ≤ 1000000000 ^ max a b :=
  ⟨Nat.pow_le_pow_right (by decide) (by omega), Nat.pow_le_pow_right (by decide) (by omega)⟩

theorem add_all (x y : List Nat) (hx : ∀ d ∈ x, d < 1000000000) (hy : ∀ d ∈ y, d < 1000000000) (n : Nat) (hn : n = max x.length y.length + 1) :
    lval (cst (fun i => at0 x i + at0 y i) n).1 = lval x + lval y := by
  subst hn
  refine (cst_all _ _ (lval x + lval y) ?_ ?_).1
  · rw [fsum_add, fsum_at x _ (by omega), fsum_at y _ (by omega)]; push_cast; rfl
  · have h1 := lval_lt x hx
    have h2 := lval_lt y hy
    have := pow_max x.length y.length
    rw [Nat.pow_succ]; omega

theorem sub_all (x y : List Nat) (hx : ∀ d ∈ x, d < 1000000000) (hle : lval y ≤ lval x) (hl : y.length ≤ x.length) :
    lval (cst (fun i => at0 x i - at0 y i) x.length).1 = lval x - lval y := by
  refine (cst_all _ _ (lval x - lval y) ?_ ?_).1
  · rw [fsum_sub, fsum_at x _ (by omega), fsum_at y _ hl]; omega
  · have h1 := lval_lt x hx
    omega

theorem times_all (x : List Nat) (q : Nat) (hx : ∀ d ∈ x, d < 1000000000) (hq : q < 1000000000) :
    lval (cst (fun i => (q : Int) * at0 x i) (x.length + 1)).1 = q * lval x := by
  refine (cst_all _ _ (q * lval x) ?_ ?_).1
  · rw [fsum_mul, fsum_at x _ (by omega)]; push_cast; rfl
  · have h1 := lval_lt x hx
    rw [Nat.pow_succ, Nat.mul_comm]
    exact Nat.mul_lt_mul_of_lt_of_lt h1 hq

theorem times_range (x : List Nat) (q : Nat) (hx : ∀ d ∈ x, d < 1000000000) (hq : q < 1000000000) (i : Nat) :
    0 ≤ (q : Int) * at0 x i ∧ (q : Int) * at0 x i ≤ 999999998000000001 := by
  obtain ⟨h1, h2⟩ := at0_range x hx i
  refine ⟨Int.mul_nonneg (by omega) h1, ?_⟩
  calc (q : Int) * at0 x i ≤ 999999999 * 999999999 := Int.mul_le_mul (by omega) h2 h1 (by omega)
    _ = 999999998000000001 := by decide

/-! ### a limb of a number; quotients -/
theorem limbs_at (n i : Nat) : (limbs n).getD i 0 = n / 1000000000 ^ i % 1000000000 := by
  induction i generalizing n with
  | zero =>
    by_cases h : n = 0
    · subst h; simp [limbs_zero]
    · rw [limbs_pos h]; simp
  | succ i ih =>
    by_cases h : n = 0
    · subst h; simp [limbs_zero]
    · rw [limbs_pos h, List.getD_cons_succ, ih, Nat.pow_succ, Nat.mul_comm, Nat.div_div_eq_div_mul]

theorem step_up (n i : Nat) : n / 1000000000 ^ i = (n / 1000000000 ^ (i + 1)) * 1000000000 + (limbs n).getD i 0 := by
  rw [limbs_at, Nat.pow_succ, ← Nat.div_div_eq_div_mul]; omega

theorem div_len (n : Nat) : n / 1000000000 ^ (limbs n).length = 0 :=
  Nat.div_eq_of_lt ((limbs_len_le n _).1 (Nat.le_refl _))

/-- What is left behind a digit of a quotient. -/
theorem div_step (a d y q : Nat) (hy : 0 < y) (hq1 : y * q ≤ (a % y) * 1000000000 + d) (hq2 : (a % y) * 1000000000 + d < y * (q + 1)) :
    (a * 1000000000 + d) / y = (a / y) * 1000000000 + q ∧ (a * 1000000000 + d) % y = (a % y) * 1000000000 + d - y * q := by
  have h := Nat.div_add_mod a y
  generalize a / y = p at *
  generalize a % y = r at *
  have e : a * 1000000000 + d = y * (p * 1000000000 + q) + (r * 1000000000 + d - y * q) := by
    rw [← h, Nat.mul_add, Nat.add_mul, Nat.mul_assoc]; omega
  have hlt : r * 1000000000 + d - y * q < y := by
    rw [Nat.mul_add] at hq2; omega
  rw [e]
  refine ⟨?_, ?_⟩
  · rw [Nat.mul_add_div hy, Nat.div_eq_of_lt hlt, Nat.add_zero]
  · rw [Nat.mul_add_mod, Nat.mod_eq_of_lt hlt]

/-! ### texts -/
def pad9 (l : List UInt8) : List UInt8 := List.replicate (9 - l.length) 48 ++ l

theorem dec_append (q : Nat) (hq : 0 < q) : ∀ (k d : Nat), d < 10 ^ k → decDigits (q * 10 ^ k + d) = decDigits q ++ (if k = 0 then [] else List.replicate (k - (decDigits d).length) 48 ++ decDigits d)
  | 0, d, h => by simp at h; subst h; simp
  | k + 1, d, h => by
    rw [decDigits, dif_neg (by rw [Nat.pow_succ]; have : 1 ≤ 10 ^ k := Nat.one_le_pow _ _ (by decide); have : 1 * 10 ≤ q * (10 ^ k * 10) := Nat.mul_le_mul hq (by omega); omega)]
    have e1 : (q * 10 ^ (k + 1) + d) / 10 = q * 10 ^ k + d / 10 := by rw [Nat.pow_succ, ← Nat.mul_assoc]; omega
    have e2 : (q * 10 ^ (k + 1) + d) % 10 = d % 10 := by rw [Nat.pow_succ, ← Nat.mul_assoc]; omega
    rw [e1, e2, dec_append q hq k (d / 10) (by rw [Nat.pow_succ] at h; omega), List.append_assoc]
    congr 1
    simp only [Nat.add_eq_zero_iff, Nat.one_ne_zero, and_false, if_false]
    by_cases h9 : d < 10
    · have e3 : decDigits d = [UInt8.ofNat (48 + d)] := by rw [decDigits, dif_pos h9]
      rw [e3, Nat.mod_eq_of_lt h9, show d / 10 = 0 by omega]
      have e0 : decDigits 0 = [48] := by rw [decDigits]; rfl
      rw [e0]
      by_cases hk : k = 0
      · subst hk; simp
      · rw [if_neg hk]
        simp only [List.length_cons, List.length_nil, Nat.zero_add, Nat.add_sub_cancel]
        congr 1
        have : k = (k - 1) + 1 := by omega
        conv => rhs; rw [this]
        rw [List.replicate_succ']
    · have hk : k ≠ 0 := by intro e; subst e; simp at h; omega
      rw [if_neg hk]
      have e3 : decDigits d = decDigits (d / 10) ++ [UInt8.ofNat (48 + d % 10)] := by rw [decDigits, dif_neg h9]
      rw [e3, ← List.append_assoc, List.length_append]
      simp

theorem dec_pad (q d : Nat) (hq : 0 < q) (h : d < 1000000000) : decDigits (q * 1000000000 + d) = decDigits q ++ pad9 (decDigits d) := by
  have := dec_append q hq 9 d (by simpa using h)
  simpa [pad9] using this

theorem dec_len9 (d : Nat) (h : d < 1000000000) : (decDigits d).length ≤ 9 := by
  rw [decDigits_length, nDigits_le_iff _ _ (by decide)]; simpa using h

/-! ### reading digits -/
theorem drop_chunk (L : List UInt8) (e e' : Nat) (h : e' ≤ e) : L.drop e' = (L.drop e').take (e - e') ++ L.drop e := by
  conv => lhs; rw [← List.take_append_drop (e - e') (L.drop e')]
  rw [List.drop_drop, show e' + (e - e') = e by omega]

theorem read_step (L : List UInt8) (xs : List Nat) (e e' : Nat) (he : e' ≤ e) (heL : e ≤ L.length) (hlen : xs.length * 9 + e = L.length)
    (hv : lval xs = val (L.drop e)) : lval (xs ++ [val ((L.drop e').take (e - e'))]) = val (L.drop e') := by
  rw [lval_append, drop_chunk L e e' he, val_append, hv, List.length_drop]
  have h9 : (1000000000 : Nat) ^ xs.length = 10 ^ (L.length - e) := by
    rw [show L.length - e = 9 * xs.length by omega, Nat.pow_mul]
  rw [h9]
  simp only [lval, Nat.mul_zero, Nat.add_zero]
  have : ((L.drop e').take (e - e') ++ L.drop e).drop 0 = (L.drop e').take (e - e') ++ L.drop e := rfl
  rw [← drop_chunk L e e' he]
  rw [Nat.mul_comm]; omega

theorem chunk_lt (L : List UInt8) (e e' : Nat) (hd : L.all isDg = true) (h9 : e - e' ≤ 9) : val ((L.drop e').take (e - e')) < 1000000000 := by
  have h1 := val_lt ((L.drop e').take (e - e')) (List.all_eq_true.2 fun c hc => List.all_eq_true.1 hd c (List.mem_of_mem_drop (List.mem_of_mem_take hc)))
  have h2 : 10 ^ ((L.drop e').take (e - e')).length ≤ 10 ^ 9 := Nat.pow_le_pow_right (by decide) (by rw [List.length_take]; omega)
  omega

end Go.Proofs.YtcphclpekllcoaaGreatDoor.Nt
