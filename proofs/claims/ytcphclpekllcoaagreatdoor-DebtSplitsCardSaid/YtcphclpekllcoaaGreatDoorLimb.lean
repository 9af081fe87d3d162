/- Plain lemmas: numbers as lists of limbs with base 10^9, the least one first; no Go and no memory. -/
import Derived.Test.YtcphclpekllcoaaGreatDoorNat
namespace Go.Proofs.YtcphclpekllcoaaGreatDoor.Nt
open Go.Lib

def limbs (n : Nat) : List Nat := if h : n = 0 then [] else (n % 1000000000) :: limbs (n / 1000000000)
termination_by n
decreasing_by omega

def lval : List Nat → Nat
  | [] => 0
  | d :: l => d + 1000000000 * lval l

theorem limbs_zero : limbs 0 = [] := by rw [limbs]; simp
theorem limbs_pos {n : Nat} (h : n ≠ 0) : limbs n = (n % 1000000000) :: limbs (n / 1000000000) := by rw [limbs, dif_neg h]
theorem limbs_nil_iff (n : Nat) : limbs n = [] ↔ n = 0 := by
  constructor
  · intro h
    by_cases h0 : n = 0
    · exact h0
    · rw [limbs_pos h0] at h; simp at h
  · rintro rfl; exact limbs_zero

theorem lval_limbs (n : Nat) : lval (limbs n) = n := by
  induction n using Nat.strongRecOn with
  | _ n ih =>
    by_cases h : n = 0
    · subst h; rw [limbs_zero]; rfl
    · rw [limbs_pos h, lval, ih (n / 1000000000) (by omega)]; omega

theorem limbs_inj {m n : Nat} (h : limbs m = limbs n) : m = n := by
  have := congrArg lval h
  rwa [lval_limbs, lval_limbs] at this

theorem limbs_lt (n : Nat) : ∀ d ∈ limbs n, d < 1000000000 := by
  induction n using Nat.strongRecOn with
  | _ n ih =>
    by_cases h : n = 0
    · subst h; rw [limbs_zero]; simp
    · rw [limbs_pos h]
      intro d hd
      simp only [List.mem_cons] at hd
      rcases hd with rfl | hd
      · omega
      · exact ih (n / 1000000000) (by omega) d hd

theorem limbs_getD_lt (n i : Nat) : (limbs n).getD i 0 < 1000000000 := by
  rw [List.getD_eq_getElem?_getD]
  cases h : (limbs n)[i]? with
  | none => simp
  | some d => simpa using limbs_lt n d (List.mem_of_getElem? h)

theorem lval_append (a b : List Nat) : lval (a ++ b) = lval a + 1000000000 ^ a.length * lval b := by
  induction a with
  | nil => simp [lval]
  | cons d a ih =>
    simp only [List.cons_append, lval, ih, List.length_cons, Nat.pow_succ]
    rw [Nat.mul_add, Nat.mul_comm (1000000000 ^ a.length) 1000000000, Nat.mul_assoc]; omega

theorem lval_zeros (l : List Nat) (h : ∀ d ∈ l, d = 0) : lval l = 0 := by
  induction l with
  | nil => rfl
  | cons d l ih =>
    rw [lval, ih (fun x hx => h x (by simp [hx])), h d (by simp)]

theorem lval_replicate (n : Nat) : lval (List.replicate n 0) = 0 := lval_zeros _ (by simp)

theorem lval_lt (l : List Nat) (h : ∀ d ∈ l, d < 1000000000) : lval l < 1000000000 ^ l.length := by
  induction l with
  | nil => simp [lval]
  | cons d l ih =>
    have h1 := ih (fun x hx => h x (by simp [hx]))
    have h2 := h d (by simp)
    simp only [lval, List.length_cons, Nat.pow_succ]; omega

theorem limbs_len_le (n k : Nat) : (limbs n).length ≤ k ↔ n < 1000000000 ^ k := by
  constructor
  · intro h
    have := lval_lt (limbs n) (limbs_lt n)
    rw [lval_limbs] at this
    exact Nat.lt_of_lt_of_le this (Nat.pow_le_pow_right (by decide) h)
  · induction k generalizing n with
    | zero => intro h; simp at h; subst h; rw [limbs_zero]; simp
    | succ k ih =>
      intro h
      by_cases h0 : n = 0
      · subst h0; rw [limbs_zero]; simp
      · rw [limbs_pos h0]
        have := ih (n / 1000000000) (by rw [Nat.pow_succ] at h; omega)
        simp; omega

/-- What `trimmed` leaves. -/
theorem limbs_of (l : List Nat) (h : ∀ d ∈ l, d < 1000000000) (hl : l = [] ∨ l.getLast? ≠ some 0) : limbs (lval l) = l := by
  induction l with
  | nil => exact limbs_zero
  | cons d l ih =>
    have hd := h d (by simp)
    have hn : lval (d :: l) ≠ 0 := by
      cases l with
      | nil =>
        simp only [List.getLast?_singleton, ne_eq, Option.some.injEq, List.cons_ne_nil, false_or] at hl
        simp only [lval]; omega
      | cons e l =>
        have h1 := ih (fun x hx => h x (List.mem_cons_of_mem _ hx)) (.inr (by simpa using hl))
        have h2 : lval (e :: l) ≠ 0 := by
          intro e0
          rw [e0, limbs_zero] at h1
          simp at h1
        rw [lval]; omega
    rw [limbs_pos hn]
    have e1 : lval (d :: l) % 1000000000 = d := by rw [lval]; omega
    have e2 : lval (d :: l) / 1000000000 = lval l := by rw [lval]; omega
    rw [e1, e2, ih (fun x hx => h x (by simp [hx]))]
    cases l with
    | nil => exact .inl rfl
    | cons e l => exact .inr (by simpa using hl)

theorem take_limbs (l : List Nat) (n : Nat) (h : ∀ d ∈ l, d < 1000000000) (hn : n ≤ l.length) (hz : ∀ i, n ≤ i → l.getD i 0 = 0)
    (hl : n = 0 ∨ l.getD (n - 1) 0 ≠ 0) : l.take n = limbs (lval l) := by
  have e : lval l = lval (l.take n) := by
    conv => lhs; rw [← List.take_append_drop n l]
    rw [lval_append, lval_zeros (l.drop n)]
    · simp
    · intro d hd
      obtain ⟨i, hi⟩ := List.mem_iff_getElem?.1 hd
      rw [List.getElem?_drop] at hi
      have := hz (n + i) (by omega)
      rw [List.getD_eq_getElem?_getD, hi] at this
      simpa using this
  rw [e, limbs_of]
  · exact fun d hd => h d (List.mem_of_mem_take hd)
  · rcases hl with rfl | hl
    · exact .inl (by simp)
    · by_cases h0 : n = 0
      · exact .inl (by simp [h0])
      · refine .inr ?_
        rw [List.getLast?_eq_getElem?, List.length_take, Nat.min_eq_left hn, List.getElem?_take, if_pos (by omega)]
        intro e0
        rw [List.getD_eq_getElem?_getD, e0] at hl
        simp at hl

theorem limbs_last (n : Nat) (h : n ≠ 0) : (limbs n).getD ((limbs n).length - 1) 0 ≠ 0 := by
  induction n using Nat.strongRecOn with
  | _ n ih =>
    rw [limbs_pos h]
    by_cases h1 : n / 1000000000 = 0
    · rw [h1, limbs_zero]; simp; omega
    · have := ih (n / 1000000000) (by omega) h1
      have hp : 0 < (limbs (n / 1000000000)).length := by
        rcases Nat.eq_zero_or_pos (limbs (n / 1000000000)).length with e | e
        · exact absurd ((limbs_nil_iff _).1 (List.length_eq_zero_iff.1 e)) h1
        · exact e
      simp only [List.length_cons]
      rw [show (limbs (n / 1000000000)).length + 1 - 1 = ((limbs (n / 1000000000)).length - 1) + 1 by omega]
      simpa using this

/-! ### comparing -/
theorem lt_of_len {m n : Nat} (h : (limbs m).length < (limbs n).length) : m < n := by
  rcases Nat.lt_or_ge m n with h1 | h1
  · exact h1
  · have := (limbs_len_le m (limbs m).length).1 (Nat.le_refl _)
    have := (limbs_len_le n (limbs m).length).2 (by omega)
    omega

theorem lval_lt_of {a b : List Nat} (i : Nat) (hlen : a.length = b.length) (ha : ∀ d ∈ a, d < 1000000000) (hi : i < a.length)
    (he : ∀ j, i < j → a.getD j 0 = b.getD j 0) (hlt : a.getD i 0 < b.getD i 0) : lval a < lval b := by
  induction a generalizing b i with
  | nil => simp at hi
  | cons d a ih =>
    cases b with
    | nil => simp at hlen
    | cons e b =>
      simp only [List.length_cons, Nat.add_right_cancel_iff] at hlen
      cases i with
      | zero =>
        have hab : a = b := by
          refine List.ext_getElem hlen fun j h1 h2 => ?_
          have := he (j + 1) (by omega)
          simpa [List.getD_eq_getElem?_getD, h1, h2] using this
        subst hab
        simp at hlt
        simp only [lval]; omega
      | succ i =>
        have := ih i hlen (fun x hx => ha x (by simp [hx])) (by simpa using hi) (fun j hj => by simpa using he (j + 1) (by omega)) (by simpa using hlt)
        have h1 := ha d (by simp)
        simp only [lval]; omega

theorem limbs_ext {m n : Nat} (hlen : (limbs m).length = (limbs n).length) (he : ∀ j, (limbs m).getD j 0 = (limbs n).getD j 0) : m = n := by
  refine limbs_inj (List.ext_getElem hlen fun j h1 h2 => ?_)
  have := he j
  simpa [List.getD_eq_getElem?_getD, h1, h2] using this

end Go.Proofs.YtcphclpekllcoaaGreatDoor.Nt
