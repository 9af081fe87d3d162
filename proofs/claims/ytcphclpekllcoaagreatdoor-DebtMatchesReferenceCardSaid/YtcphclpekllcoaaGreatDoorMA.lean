/- Plain lemmas: decimal strings and natural numbers; no Go and no memory. -/
import Derived.Lib.ItoaNum
namespace Go.Proofs.YtcphclpekllcoaaGreatDoor.Nt
open Go.Lib

def isDg (c : UInt8) : Bool := decide (48 ≤ c.toNat) && decide (c.toNat ≤ 57)
def val (l : List UInt8) : Nat := l.foldl (fun a c => 10 * a + (c.toNat - 48)) 0
def okL (l : List UInt8) : Bool :=
  decide (1 ≤ l.length) && decide (l.length ≤ 1000) && l.all isDg && (decide (l.length = 1) || decide (l.head? ≠ some 48))

theorem isDg_iff (c : UInt8) : isDg c = true ↔ 48 ≤ c.toNat ∧ c.toNat ≤ 57 := by simp [isDg]
theorem val_nil : val [] = 0 := rfl
theorem val_snoc (l : List UInt8) (c : UInt8) : val (l ++ [c]) = 10 * val l + (c.toNat - 48) := by simp [val]
theorem val_foldl (l : List UInt8) : ∀ a, l.foldl (fun a c => 10 * a + (c.toNat - 48)) a = a * 10 ^ l.length + val l := by
  induction l with
  | nil => intro a; simp [val]
  | cons c l ih =>
    intro a
    simp only [List.foldl_cons, val, List.length_cons]
    rw [ih, ih (10 * 0 + (c.toNat - 48)), Nat.pow_succ]
    generalize c.toNat - 48 = d
    generalize 10 ^ l.length = p
    rw [Nat.add_mul, Nat.add_mul]
    have : 10 * a * p = a * (p * 10) := by rw [Nat.mul_comm 10 a, Nat.mul_assoc, Nat.mul_comm 10 p]
    omega
theorem val_append (a b : List UInt8) : val (a ++ b) = val a * 10 ^ b.length + val b := by
  unfold val
  rw [List.foldl_append, val_foldl]
  rfl
theorem val_cons (c : UInt8) (l : List UInt8) : val (c :: l) = (c.toNat - 48) * 10 ^ l.length + val l := by
  have := val_append [c] l
  simpa [val] using this

theorem u8_of (d : Nat) (h : d < 10) : (UInt8.ofNat (48 + d)).toNat = 48 + d := by
  simp [UInt8.toNat_ofNat']; omega

theorem val_dec (n : Nat) : val (decDigits n) = n := by
  induction n using Nat.strongRecOn with
  | _ n ih =>
    rw [decDigits]
    split
    · rename_i h
      simp only [val, List.foldl_cons, List.foldl_nil, u8_of n h]; omega
    · rename_i h
      rw [val_snoc, ih (n / 10) (by omega), u8_of _ (by omega)]; omega

theorem dec_all (n : Nat) : (decDigits n).all isDg = true := by
  induction n using Nat.strongRecOn with
  | _ n ih =>
    rw [decDigits]
    split
    · rename_i h
      simp only [List.all_cons, List.all_nil, Bool.and_true, isDg_iff, u8_of n h]; omega
    · rename_i h
      rw [List.all_append, ih (n / 10) (by omega)]
      simp only [List.all_cons, List.all_nil, Bool.and_true, Bool.true_and, isDg_iff, u8_of _ (show n % 10 < 10 by omega)]; omega

theorem head_app {a : List UInt8} (b : List UInt8) (h : a ≠ []) : (a ++ b).head? = a.head? := by
  cases a with
  | nil => exact absurd rfl h
  | cons c a => rfl

theorem dec_ne_nil (n : Nat) : decDigits n ≠ [] := by
  intro h
  have := decDigits_length n
  rw [h] at this
  have := nDigits_pos n
  simp at *; omega

theorem dec_head (n : Nat) (h0 : 0 < n) : (decDigits n).head? ≠ some 48 := by
  induction n using Nat.strongRecOn with
  | _ n ih =>
    rw [decDigits]
    split
    · rename_i h
      simp only [List.head?_cons, ne_eq, Option.some.injEq]
      intro e
      have := congrArg UInt8.toNat e
      rw [u8_of n h] at this
      simp at this; omega
    · rename_i h
      rw [head_app _ (dec_ne_nil _)]
      exact ih (n / 10) (by omega) (by omega)

theorem p10 (a b : Nat) (h : a < b) : 10 ^ a < 10 ^ b := Nat.pow_lt_pow_right (by decide) h
theorem pow_lt_of {n b : Nat} (a : Nat) (h : n ≤ 10 ^ a) (hab : a < b) : n < 10 ^ b := Nat.lt_of_le_of_lt h (p10 a b hab)
theorem nDigits_le_iff (n k : Nat) (hk : 1 ≤ k) : nDigits n ≤ k ↔ n < 10 ^ k := by
  constructor
  · intro h
    exact Nat.lt_of_lt_of_le (lt_pow_nDigits n) (Nat.pow_le_pow_right (by decide) h)
  · induction k generalizing n with
    | zero => omega
    | succ k ih =>
      intro h
      by_cases h9 : n < 10
      · rw [nDigits_small h9]; omega
      · rw [nDigits_big h9]
        have hk1 : 1 ≤ k := by
          rcases Nat.eq_zero_or_pos k with e | e
          · subst e; simp at h; omega
          · exact e
        have := ih (n / 10) hk1 (by rw [Nat.pow_succ] at h; omega)
        omega

theorem nDigits_of {n b : Nat} (a : Nat) (h : n ≤ 10 ^ a) (hab : a < b) : nDigits n ≤ b := (nDigits_le_iff n b (by omega)).2 (pow_lt_of a h hab)
theorem okL_dec (n : Nat) : okL (decDigits n) = decide (nDigits n ≤ 1000) := by
  unfold okL
  rw [decDigits_length, dec_all]
  have h1 : decide (1 ≤ nDigits n) = true := by simpa using nDigits_pos n
  rw [h1]
  have h2 : (decide (nDigits n = 1) || decide ((decDigits n).head? ≠ some 48)) = true := by
    by_cases h : n = 0
    · subst h; rw [nDigits_small (by omega)]; simp
    · have := dec_head n (by omega)
      simp [this]
  rw [h2]; simp

theorem dec_val_aux (l : List UInt8) (hd : l.all isDg = true) (hh : l.head? ≠ some 48) (hne : l ≠ []) : 1 ≤ val l ∧ decDigits (val l) = l := by
  generalize hn : l.length = n
  induction n generalizing l with
  | zero => simp at hn; exact absurd hn hne
  | succ n ih =>
    obtain ⟨l', c, rfl⟩ : ∃ l' c, l = l' ++ [c] := ⟨l.dropLast, l.getLast hne, (List.dropLast_concat_getLast hne).symm⟩
    simp only [List.all_append, List.all_cons, List.all_nil, Bool.and_true, Bool.and_eq_true, isDg_iff] at hd
    obtain ⟨hd1, hc1, hc2⟩ := hd
    have hc : UInt8.ofNat (48 + (c.toNat - 48)) = c := by
      rw [show 48 + (c.toNat - 48) = c.toNat by omega]; simp
    by_cases he : l' = []
    · subst he
      simp only [List.nil_append, List.head?_cons, ne_eq, Option.some.injEq] at hh
      have hc48 : c.toNat ≠ 48 := fun e => hh (UInt8.toNat_inj.1 (by simpa using e))
      have hv : val ([] ++ [c]) = c.toNat - 48 := by simp [val]
      rw [hv]
      refine ⟨by omega, ?_⟩
      rw [decDigits, dif_pos (by omega), hc]; rfl
    · rw [head_app _ he] at hh
      simp at hn
      obtain ⟨h1, h2⟩ := ih l' hd1 hh he hn
      rw [val_snoc]
      refine ⟨by omega, ?_⟩
      rw [decDigits, dif_neg (by omega), show (10 * val l' + (c.toNat - 48)) / 10 = val l' by omega,
        show (10 * val l' + (c.toNat - 48)) % 10 = c.toNat - 48 by omega, h2, hc]

theorem dec_val (l : List UInt8) (h : okL l = true) : decDigits (val l) = l := by
  simp only [okL, Bool.and_eq_true, decide_eq_true_eq, Bool.or_eq_true] at h
  obtain ⟨⟨⟨h1, h2⟩, h3⟩, h4⟩ := h
  have hne : l ≠ [] := by intro e; subst e; simp at h1
  rcases h4 with h4 | h4
  · match l, h4 with
    | [c], _ =>
      simp only [List.all_cons, List.all_nil, Bool.and_true, isDg_iff] at h3
      rw [show val [c] = c.toNat - 48 by simp [val], decDigits, dif_pos (by omega), show 48 + (c.toNat - 48) = c.toNat by omega]; simp
  · exact (dec_val_aux l h3 h4 hne).2

theorem val_lt (l : List UInt8) (hd : l.all isDg = true) : val l < 10 ^ l.length := by
  generalize hn : l.length = n
  induction n generalizing l with
  | zero => simp at hn; subst hn; simp [val]
  | succ n ih =>
    have hne : l ≠ [] := by intro e; subst e; simp at hn
    obtain ⟨l', c, rfl⟩ : ∃ l' c, l = l' ++ [c] := ⟨l.dropLast, l.getLast hne, (List.dropLast_concat_getLast hne).symm⟩
    simp only [List.all_append, List.all_cons, List.all_nil, Bool.and_true, Bool.and_eq_true, isDg_iff] at hd
    have := ih l' hd.1 (by simpa using hn)
    rw [val_snoc, Nat.pow_succ]; omega

/-! ### strings of numbers -/
def num? (s : ByteArray) : Option Nat := if okL s.data.toList then some (val s.data.toList) else none
def nat2s (n : Nat) : ByteArray := ⟨(decDigits n).toArray⟩

theorem nat2s_list (n : Nat) : (nat2s n).data.toList = decDigits n := by simp [nat2s]
theorem nat2s_size (n : Nat) : (nat2s n).size = nDigits n := by
  rw [← decDigits_length]; simp [nat2s, ByteArray.size]
theorem num?_nat2s (n : Nat) (h : nDigits n ≤ 1000) : num? (nat2s n) = some n := by
  unfold num?
  rw [nat2s_list, okL_dec, val_dec]; simp [h]
theorem num?_nat2s_big (n : Nat) (h : ¬ nDigits n ≤ 1000) : num? (nat2s n) = none := by
  unfold num?
  rw [nat2s_list, okL_dec]; simp [h]
theorem num?_some {s : ByteArray} {n : Nat} (h : num? s = some n) : s = nat2s n ∧ nDigits n ≤ 1000 := by
  unfold num? at h
  split at h
  · rename_i ho
    obtain rfl : val s.data.toList = n := by simpa using h
    have hd := dec_val _ ho
    refine ⟨?_, ?_⟩
    · unfold nat2s; rw [hd]
    · rw [← hd, okL_dec] at ho; simpa using ho
  · simp at h
theorem nat2s_inj {m n : Nat} (h : nat2s m = nat2s n) : m = n := by
  have h' := congrArg (fun s : ByteArray => s.data.toList) h
  simp only [nat2s_list] at h'
  have := congrArg val h'
  rwa [val_dec, val_dec] at this
theorem nat2s_eq_iff (m n : Nat) : nat2s m = nat2s n ↔ m = n := ⟨nat2s_inj, fun h => by rw [h]⟩
theorem num?_nil : num? ByteArray.empty = none := by simp [num?, okL]

end Go.Proofs.YtcphclpekllcoaaGreatDoor.Nt


/- Plain lemmas: numbers as lists of limbs with base 10^9, the least one first; no Go and no memory. -/
namespace Go.Proofs.YtcphclpekllcoaaGreatDoor.Nt
open Go.Lib

def limbs (n : Nat) : List Nat := if h : n = 0 then [] else (n % 1000000000) :: limbs (n / 1000000000)
termination_by n
decreasing_by omega

def lval : List Nat → Nat
  | [] => 0
  | d :: l => d + 1000000000 * lval l

theorem limbs_zero : limbs 0 = [] := by rw [limbs]; simp
theorem limbs_pos {n : Nat} (h : n ≠ 0) : limbs n = (n % 1000000000) :: limbs (n / 1000000000) := by rw [limbs, dif_neg h]
theorem limbs_nil_iff (n : Nat) : limbs n = [] ↔ n = 0 := by
  constructor
  · intro h
    by_cases h0 : n = 0
    · exact h0
    · rw [limbs_pos h0] at h; simp at h
  · rintro rfl; exact limbs_zero

theorem lval_limbs (n : Nat) : lval (limbs n) = n := by
  induction n using Nat.strongRecOn with
  | _ n ih =>
    by_cases h : n = 0
    · subst h; rw [limbs_zero]; rfl
    · rw [limbs_pos h, lval, ih (n / 1000000000) (by omega)]; omega

theorem limbs_inj {m n : Nat} (h : limbs m = limbs n) : m = n := by
  have := congrArg lval h
  rwa [lval_limbs, lval_limbs] at this

theorem limbs_lt (n : Nat) : ∀ d ∈ limbs n, d < 1000000000 := by
  induction n using Nat.strongRecOn with
  | _ n ih =>
    by_cases h : n = 0
    · subst h; rw [limbs_zero]; simp
    · rw [limbs_pos h]
      intro d hd
      simp only [List.mem_cons] at hd
      rcases hd with rfl | hd
      · omega
      · exact ih (n / 1000000000) (by omega) d hd

theorem limbs_getD_lt (n i : Nat) : (limbs n).getD i 0 < 1000000000 := by
  rw [List.getD_eq_getElem?_getD]
  cases h : (limbs n)[i]? with
  | none => simp
  | some d => simpa using limbs_lt n d (List.mem_of_getElem? h)

theorem lval_append (a b : List Nat) : lval (a ++ b) = lval a + 1000000000 ^ a.length * lval b := by
  induction a with
  | nil => simp [lval]
  | cons d a ih =>
    simp only [List.cons_append, lval, ih, List.length_cons, Nat.pow_succ]
    rw [Nat.mul_add, Nat.mul_comm (1000000000 ^ a.length) 1000000000, Nat.mul_assoc]; omega

theorem lval_zeros (l : List Nat) (h : ∀ d ∈ l, d = 0) : lval l = 0 := by
  induction l with
  | nil => rfl
  | cons d l ih =>
    rw [lval, ih (fun x hx => h x (by simp [hx])), h d (by simp)]

theorem lval_replicate (n : Nat) : lval (List.replicate n 0) = 0 := lval_zeros _ (by simp)

theorem lval_lt (l : List Nat) (h : ∀ d ∈ l, d < 1000000000) : lval l < 1000000000 ^ l.length := by
  induction l with
  | nil => simp [lval]
  | cons d l ih =>
    have h1 := ih (fun x hx => h x (by simp [hx]))
    have h2 := h d (by simp)
    simp only [lval, List.length_cons, Nat.pow_succ]; omega

theorem limbs_len_le (n k : Nat) : (limbs n).length ≤ k ↔ n < 1000000000 ^ k := by
  constructor
  · intro h
    have := lval_lt (limbs n) (limbs_lt n)
    rw [lval_limbs] at this
    exact Nat.lt_of_lt_of_le this (Nat.pow_le_pow_right (by decide) h)
  · induction k generalizing n with
    | zero => intro h; simp at h; subst h; rw [limbs_zero]; simp
    | succ k ih =>
      intro h
      by_cases h0 : n = 0
      · subst h0; rw [limbs_zero]; simp
      · rw [limbs_pos h0]
        have := ih (n / 1000000000) (by rw [Nat.pow_succ] at h; omega)
        simp; omega

/-- What `trimmed` leaves. -/
theorem limbs_of (l : List Nat) (h : ∀ d ∈ l, d < 1000000000) (hl : l = [] ∨ l.getLast? ≠ some 0) : limbs (lval l) = l := by
  induction l with
  | nil => exact limbs_zero
  | cons d l ih =>
    have hd := h d (by simp)
    have hn : lval (d :: l) ≠ 0 := by
      cases l with
      | nil =>
        simp only [List.getLast?_singleton, ne_eq, Option.some.injEq, List.cons_ne_nil, false_or] at hl
        simp only [lval]; omega
      | cons e l =>
        have h1 := ih (fun x hx => h x (List.mem_cons_of_mem _ hx)) (.inr (by simpa using hl))
        have h2 : lval (e :: l) ≠ 0 := by
          intro e0
          rw [e0, limbs_zero] at h1
          simp at h1
        rw [lval]; omega
    rw [limbs_pos hn]
    have e1 : lval (d :: l) % 1000000000 = d := by rw [lval]; omega
    have e2 : lval (d :: l) / 1000000000 = lval l := by rw [lval]; omega
    rw [e1, e2, ih (fun x hx => h x (by simp [hx]))]
    cases l with
    | nil => exact .inl rfl
    | cons e l => exact .inr (by simpa using hl)

theorem take_limbs (l : List Nat) (n : Nat) (h : ∀ d ∈ l, d < 1000000000) (hn : n ≤ l.length) (hz : ∀ i, n ≤ i → l.getD i 0 = 0)
    (hl : n = 0 ∨ l.getD (n - 1) 0 ≠ 0) : l.take n = limbs (lval l) := by
  have e : lval l = lval (l.take n) := by
    conv => lhs; rw [← List.take_append_drop n l]
    rw [lval_append, lval_zeros (l.drop n)]
    · simp
    · intro d hd
      obtain ⟨i, hi⟩ := List.mem_iff_getElem?.1 hd
      rw [List.getElem?_drop] at hi
      have := hz (n + i) (by omega)
      rw [List.getD_eq_getElem?_getD, hi] at this
      simpa using this
  rw [e, limbs_of]
  · exact fun d hd => h d (List.mem_of_mem_take hd)
  · rcases hl with rfl | hl
    · exact .inl (by simp)
    · by_cases h0 : n = 0
      · exact .inl (by simp [h0])
      · refine .inr ?_
        rw [List.getLast?_eq_getElem?, List.length_take, Nat.min_eq_left hn, List.getElem?_take, if_pos (by omega)]
        intro e0
        rw [List.getD_eq_getElem?_getD, e0] at hl
        simp at hl

theorem limbs_last (n : Nat) (h : n ≠ 0) : (limbs n).getD ((limbs n).length - 1) 0 ≠ 0 := by
  induction n using Nat.strongRecOn with
  | _ n ih =>
    rw [limbs_pos h]
    by_cases h1 : n / 1000000000 = 0
    · rw [h1, limbs_zero]; simp; omega
    · have := ih (n / 1000000000) (by omega) h1
      have hp : 0 < (limbs (n / 1000000000)).length := by
        rcases Nat.eq_zero_or_pos (limbs (n / 1000000000)).length with e | e
        · exact absurd ((limbs_nil_iff _).1 (List.length_eq_zero_iff.1 e)) h1
        · exact e
      simp only [List.length_cons]
      rw [show (limbs (n / 1000000000)).length + 1 - 1 = ((limbs (n / 1000000000)).length - 1) + 1 by omega]
      simpa using this

/-! ### comparing -/
theorem lt_of_len {m n : Nat} (h : (limbs m).length < (limbs n).length) : m < n := by
  rcases Nat.lt_or_ge m n with h1 | h1
  · exact h1
  · have := (limbs_len_le m (limbs m).length).1 (Nat.le_refl _)
    have := (limbs_len_le n (limbs m).length).2 (by omega)
    omega

theorem lval_lt_of {a b : List Nat} (i : Nat) (hlen : a.length = b.length) (ha : ∀ d ∈ a, d < 1000000000) (hi : i < a.length)
    (he : ∀ j, i < j → a.getD j 0 = b.getD j 0) (hlt : a.getD i 0 < b.getD i 0) : lval a < lval b := by
  induction a generalizing b i with
  | nil => simp at hi
  | cons d a ih =>
    cases b with
    | nil => simp at hlen
    | cons e b =>
      simp only [List.length_cons, Nat.add_right_cancel_iff] at hlen
      cases i with
      | zero =>
        have hab : a = b := by
          refine List.ext_getElem hlen fun j h1 h2 => ?_
          have := he (j + 1) (by omega)
          simpa [List.getD_eq_getElem?_getD, h1, h2] using this
        subst hab
        simp at hlt
        simp only [lval]; omega
      | succ i =>
        have := ih i hlen (fun x hx => ha x (by simp [hx])) (by simpa using hi) (fun j hj => by simpa using he (j + 1) (by omega)) (by simpa using hlt)
        have h1 := ha d (by simp)
        simp only [lval]; omega

theorem limbs_ext {m n : Nat} (hlen : (limbs m).length = (limbs n).length) (he : ∀ j, (limbs m).getD j 0 = (limbs n).getD j 0) : m = n := by
  refine limbs_inj (List.ext_getElem hlen fun j h1 h2 => ?_)
  have := he j
  simpa [List.getD_eq_getElem?_getD, h1, h2] using this

end Go.Proofs.YtcphclpekllcoaaGreatDoor.Nt


/- Plain lemmas: sums, products, quotients and texts of limbs; no Go and no memory. -/
namespace Go.Proofs.YtcphclpekllcoaaGreatDoor.Nt
open Go.Lib

theorem castB : ((1000000000 : Nat) : Int) = 1000000000 := rfl
theorem castP (k : Nat) : ((1000000000 ^ k : Nat) : Int) = 1000000000 ^ k := by rw [Int.natCast_pow]; rfl

/-! ### what `collect` computes -/
def fsum (F : Nat → Int) : Nat → Int
  | 0 => 0
  | k + 1 => fsum F k + F k * 1000000000 ^ k

/-- The limbs, and what is carried over, behind k rounds. -/
def cst (F : Nat → Int) : Nat → List Nat × Int
  | 0 => ([], 0)
  | k + 1 => ((cst F k).1 ++ [((F k + (cst F k).2) % 1000000000).toNat], (F k + (cst F k).2) / 1000000000)

theorem cst_len (F : Nat → Int) (k : Nat) : (cst F k).1.length = k := by
  induction k with
  | zero => rfl
  | succ k ih => simp [cst, ih]

theorem cst_lt (F : Nat → Int) (k : Nat) : ∀ d ∈ (cst F k).1, d < 1000000000 := by
  induction k with
  | zero => simp [cst]
  | succ k ih =>
    intro d hd
    simp only [cst, List.mem_append, List.mem_singleton] at hd
    rcases hd with hd | rfl
    · exact ih d hd
    · omega

theorem cst_sum (F : Nat → Int) (k : Nat) : (lval (cst F k).1 : Int) + (cst F k).2 * 1000000000 ^ k = fsum F k := by
  induction k with
  | zero => simp [cst, lval, fsum]
  | succ k ih =>
    simp only [cst, fsum, lval_append, cst_len, lval]
    generalize (cst F k).2 = c at *
    have h1 : (((F k + c) % 1000000000).toNat : Int) = (F k + c) % 1000000000 := Int.toNat_of_nonneg (by omega)
    have h2 := Int.emod_add_mul_ediv (F k + c) 1000000000
    simp only [Nat.mul_zero, Nat.add_zero]
    rw [← ih]
    rw [Int.natCast_add, Int.natCast_mul, castP, h1, Int.pow_succ]
    generalize (1000000000 : Int) ^ k = p
    generalize (F k + c) / 1000000000 = q at *
    generalize (F k + c) % 1000000000 = r at *
    have h3 : p * r + q * (p * 1000000000) = (F k + c) * p := by
      rw [← h2, Int.add_mul, Int.mul_comm p r, Int.mul_comm 1000000000 q, Int.mul_assoc, Int.mul_comm p 1000000000]
    rw [Int.add_mul] at h3
    omega

theorem cst_carry (F : Nat → Int) (hF : ∀ i, -1000000000000000000 ≤ F i ∧ F i ≤ 1000000000000000000) (k : Nat) :
    -1000000000000000000 ≤ (cst F k).2 ∧ (cst F k).2 ≤ 1000000000000000000 := by
  induction k with
  | zero => simp [cst]
  | succ k ih =>
    have := hF k
    simp only [cst]
    omega

/-- All is collected: the limbs of N. -/
theorem cst_all (F : Nat → Int) (n N : Nat) (h : fsum F n = N) (hN : N < 1000000000 ^ n) : lval (cst F n).1 = N ∧ (cst F n).2 = 0 := by
  have h1 := cst_sum F n
  have h2 := lval_lt _ (cst_lt F n)
  rw [cst_len] at h2
  rw [h] at h1
  rw [← castP] at h1
  generalize 1000000000 ^ n = p at *
  generalize (cst F n).2 = c at *
  generalize lval (cst F n).1 = v at *
  have h0 : c = 0 := by
    rcases Int.lt_trichotomy c 0 with hc | hc | hc
    · exfalso
      have : c * p ≤ -1 * p := Int.mul_le_mul_of_nonneg_right (by omega) (by omega)
      omega
    · exact hc
    · exfalso
      have : 1 * (p : Int) ≤ c * p := Int.mul_le_mul_of_nonneg_right (by omega) (by omega)
      omega
  subst h0
  simp at h1
  exact ⟨by omega, rfl⟩

theorem fsum_congr (F G : Nat → Int) (k : Nat) (h : ∀ i, i < k → F i = G i) : fsum F k = fsum G k := by
  induction k with
  | zero => rfl
  | succ k ih => simp only [fsum]; rw [ih (fun i hi => h i (by omega)), h k (by omega)]

theorem fsum_add (F G : Nat → Int) (k : Nat) : fsum (fun i => F i + G i) k = fsum F k + fsum G k := by
  induction k with
  | zero => rfl
  | succ k ih => simp only [fsum, ih, Int.add_mul]; omega
theorem fsum_sub (F G : Nat → Int) (k : Nat) : fsum (fun i => F i - G i) k = fsum F k - fsum G k := by
  induction k with
  | zero => rfl
  | succ k ih => simp only [fsum, ih, Int.sub_mul]; omega
theorem fsum_mul (q : Int) (F : Nat → Int) (k : Nat) : fsum (fun i => q * F i) k = q * fsum F k := by
  induction k with
  | zero => simp [fsum]
  | succ k ih => simp only [fsum, ih, Int.mul_add, Int.mul_assoc]

/-- A limb; 0 beyond the last one. -/
def at0 (l : List Nat) (i : Nat) : Int := ((l.getD i 0 : Nat) : Int)

theorem fsum_at (l : List Nat) (k : Nat) (h : l.length ≤ k) : fsum (at0 l) k = lval l := by
  have key : ∀ k, k ≤ l.length → fsum (at0 l) k = lval (l.take k) := by
    intro k
    induction k with
    | zero => intro _; simp [fsum, lval]
    | succ k ih =>
      intro hk
      rw [fsum, ih (by omega), List.take_succ_eq_append_getElem (by omega), lval_append, List.length_take, Nat.min_eq_left (by omega)]
      simp only [lval, at0, List.getD_eq_getElem?_getD, List.getElem?_eq_getElem (show k < l.length by omega), Option.getD_some]
      rw [Int.natCast_add, Int.natCast_mul, castP, Int.mul_comm (l[k] : Int)]
      rfl
  obtain ⟨j, rfl⟩ : ∃ j, k = l.length + j := ⟨k - l.length, by omega⟩
  clear h
  induction j with
  | zero => rw [Nat.add_zero, key _ (Nat.le_refl _), List.take_length]
  | succ j ih =>
    rw [show l.length + (j + 1) = (l.length + j) + 1 by omega, fsum, ih]
    simp [at0, List.getD_eq_getElem?_getD]

theorem at0_range (l : List Nat) (h : ∀ d ∈ l, d < 1000000000) (i : Nat) : 0 ≤ at0 l i ∧ at0 l i ≤ 999999999 := by
  unfold at0
  rw [List.getD_eq_getElem?_getD]
  cases e : l[i]? with
  | none => simp
  | some d =>
    have := h d (List.mem_of_getElem? e)
    simp; omega

theorem pow_max (a b : Nat) : 1000000000 ^ a ≤ 1000000000 ^ max a b ∧ 1000000000 ^ b ≤ 1000000000 ^ max a b :=
  ⟨Nat.pow_le_pow_right (by decide) (by omega), Nat.pow_le_pow_right (by decide) (by omega)⟩

theorem add_all (x y : List Nat) (hx : ∀ d ∈ x, d < 1000000000) (hy : ∀ d ∈ y, d < 1000000000) (n : Nat) (hn : n = max x.length y.length + 1) :
    lval (cst (fun i => at0 x i + at0 y i) n).1 = lval x + lval y := by
  subst hn
  refine (cst_all _ _ (lval x + lval y) ?_ ?_).1
  · rw [fsum_add, fsum_at x _ (by omega), fsum_at y _ (by omega)]; push_cast; rfl
  · have h1 := lval_lt x hx
    have h2 := lval_lt y hy
    have := pow_max x.length y.length
    rw [Nat.pow_succ]; omega

theorem sub_all (x y : List Nat) (hx : ∀ d ∈ x, d < 1000000000) (hle : lval y ≤ lval x) (hl : y.length ≤ x.length) :
    lval (cst (fun i => at0 x i - at0 y i) x.length).1 = lval x - lval y := by
  refine (cst_all _ _ (lval x - lval y) ?_ ?_).1
  · rw [fsum_sub, fsum_at x _ (by omega), fsum_at y _ hl]; omega
  · have h1 := lval_lt x hx
    omega

theorem times_all (x : List Nat) (q : Nat) (hx : ∀ d ∈ x, d < 1000000000) (hq : q < 1000000000) :
    lval (cst (fun i => (q : Int) * at0 x i) (x.length + 1)).1 = q * lval x := by
  refine (cst_all _ _ (q * lval x) ?_ ?_).1
  · rw [fsum_mul, fsum_at x _ (by omega)]; push_cast; rfl
  · have h1 := lval_lt x hx
    rw [Nat.pow_succ, Nat.mul_comm]
    exact Nat.mul_lt_mul_of_lt_of_lt h1 hq

theorem times_range (x : List Nat) (q : Nat) (hx : ∀ d ∈ x, d < 1000000000) (hq : q < 1000000000) (i : Nat) :
    0 ≤ (q : Int) * at0 x i ∧ (q : Int) * at0 x i ≤ 999999998000000001 := by
  obtain ⟨h1, h2⟩ := at0_range x hx i
  refine ⟨Int.mul_nonneg (by omega) h1, ?_⟩
  calc (q : Int) * at0 x i ≤ 999999999 * 999999999 := Int.mul_le_mul (by omega) h2 h1 (by omega)
    _ = 999999998000000001 := by decide

/-! ### a limb of a number; quotients -/
theorem limbs_at (n i : Nat) : (limbs n).getD i 0 = n / 1000000000 ^ i % 1000000000 := by
  induction i generalizing n with
  | zero =>
    by_cases h : n = 0
    · subst h; simp [limbs_zero]
    · rw [limbs_pos h]; simp
  | succ i ih =>
    by_cases h : n = 0
    · subst h; simp [limbs_zero]
    · rw [limbs_pos h, List.getD_cons_succ, ih, Nat.pow_succ, Nat.mul_comm, Nat.div_div_eq_div_mul]

theorem step_up (n i : Nat) : n / 1000000000 ^ i = (n / 1000000000 ^ (i + 1)) * 1000000000 + (limbs n).getD i 0 := by
  rw [limbs_at, Nat.pow_succ, ← Nat.div_div_eq_div_mul]; omega

theorem div_len (n : Nat) : n / 1000000000 ^ (limbs n).length = 0 :=
  Nat.div_eq_of_lt ((limbs_len_le n _).1 (Nat.le_refl _))

/-- What is left behind a digit of a quotient. -/
theorem div_step (a d y q : Nat) (hy : 0 < y) (hq1 : y * q ≤ (a % y) * 1000000000 + d) (hq2 : (a % y) * 1000000000 + d < y * (q + 1)) :
    (a * 1000000000 + d) / y = (a / y) * 1000000000 + q ∧ (a * 1000000000 + d) % y = (a % y) * 1000000000 + d - y * q := by
  have h := Nat.div_add_mod a y
  generalize a / y = p at *
  generalize a % y = r at *
  have e : a * 1000000000 + d = y * (p * 1000000000 + q) + (r * 1000000000 + d - y * q) := by
    rw [← h, Nat.mul_add, Nat.add_mul, Nat.mul_assoc]; omega
  have hlt : r * 1000000000 + d - y * q < y := by
    rw [Nat.mul_add] at hq2; omega
  rw [e]
  refine ⟨?_, ?_⟩
  · rw [Nat.mul_add_div hy, Nat.div_eq_of_lt hlt, Nat.add_zero]
  · rw [Nat.mul_add_mod, Nat.mod_eq_of_lt hlt]

/-! ### texts -/
def pad9 (l : List UInt8) : List UInt8 := List.replicate (9 - l.length) 48 ++ l

theorem dec_append (q : Nat) (hq : 0 < q) : ∀ (k d : Nat), d < 10 ^ k → decDigits (q * 10 ^ k + d) = decDigits q ++ (if k = 0 then [] else List.replicate (k - (decDigits d).length) 48 ++ decDigits d)
  | 0, d, h => by simp at h; subst h; simp
  | k + 1, d, h => by
    rw [decDigits, dif_neg (by rw [Nat.pow_succ]; have : 1 ≤ 10 ^ k := Nat.one_le_pow _ _ (by decide); have : 1 * 10 ≤ q * (10 ^ k * 10) := Nat.mul_le_mul hq (by omega); omega)]
    have e1 : (q * 10 ^ (k + 1) + d) / 10 = q * 10 ^ k + d / 10 := by rw [Nat.pow_succ, ← Nat.mul_assoc]; omega
    have e2 : (q * 10 ^ (k + 1) + d) % 10 = d % 10 := by rw [Nat.pow_succ, ← Nat.mul_assoc]; omega
    rw [e1, e2, dec_append q hq k (d / 10) (by rw [Nat.pow_succ] at h; omega), List.append_assoc]
    congr 1
    simp only [Nat.add_eq_zero_iff, Nat.one_ne_zero, and_false, if_false]
    by_cases h9 : d < 10
    · have e3 : decDigits d = [UInt8.ofNat (48 + d)] := by rw [decDigits, dif_pos h9]
      rw [e3, Nat.mod_eq_of_lt h9, show d / 10 = 0 by omega]
      have e0 : decDigits 0 = [48] := by rw [decDigits]; rfl
      rw [e0]
      by_cases hk : k = 0
      · subst hk; simp
      · rw [if_neg hk]
        simp only [List.length_cons, List.length_nil, Nat.zero_add, Nat.add_sub_cancel]
        congr 1
        have : k = (k - 1) + 1 := by omega
        conv => rhs; rw [this]
        rw [List.replicate_succ']
    · have hk : k ≠ 0 := by intro e; subst e; simp at h; omega
      rw [if_neg hk]
      have e3 : decDigits d = decDigits (d / 10) ++ [UInt8.ofNat (48 + d % 10)] := by rw [decDigits, dif_neg h9]
      rw [e3, ← List.append_assoc, List.length_append]
      simp

theorem dec_pad (q d : Nat) (hq : 0 < q) (h : d < 1000000000) : decDigits (q * 1000000000 + d) = decDigits q ++ pad9 (decDigits d) := by
  have := dec_append q hq 9 d (by simpa using h)
  simpa [pad9] using this

theorem dec_len9 (d : Nat) (h : d < 1000000000) : (decDigits d).length ≤ 9 := by
  rw [decDigits_length, nDigits_le_iff _ _ (by decide)]; simpa using h

/-! ### reading digits -/
theorem drop_chunk (L : List UInt8) (e e' : Nat) (h : e' ≤ e) : L.drop e' = (L.drop e').take (e - e') ++ L.drop e := by
  conv => lhs; rw [← List.take_append_drop (e - e') (L.drop e')]
  rw [List.drop_drop, show e' + (e - e') = e by omega]

theorem read_step (L : List UInt8) (xs : List Nat) (e e' : Nat) (he : e' ≤ e) (heL : e ≤ L.length) (hlen : xs.length * 9 + e = L.length)
    (hv : lval xs = val (L.drop e)) : lval (xs ++ [val ((L.drop e').take (e - e'))]) = val (L.drop e') := by
  rw [lval_append, drop_chunk L e e' he, val_append, hv, List.length_drop]
  have h9 : (1000000000 : Nat) ^ xs.length = 10 ^ (L.length - e) := by
    rw [show L.length - e = 9 * xs.length by omega, Nat.pow_mul]
  rw [h9]
  simp only [lval, Nat.mul_zero, Nat.add_zero]
  have : ((L.drop e').take (e - e') ++ L.drop e).drop 0 = (L.drop e').take (e - e') ++ L.drop e := rfl
  rw [← drop_chunk L e e' he]
  rw [Nat.mul_comm]; omega

theorem chunk_lt (L : List UInt8) (e e' : Nat) (hd : L.all isDg = true) (h9 : e - e' ≤ 9) : val ((L.drop e').take (e - e')) < 1000000000 := by
  have h1 := val_lt ((L.drop e').take (e - e')) (List.all_eq_true.2 fun c hc => List.all_eq_true.1 hd c (List.mem_of_mem_drop (List.mem_of_mem_take hc)))
  have h2 : 10 ^ ((L.drop e').take (e - e')).length ≤ 10 ^ 9 := Nat.pow_le_pow_right (by decide) (by rw [List.length_take]; omega)
  omega

end Go.Proofs.YtcphclpekllcoaaGreatDoor.Nt


/- Plain lemmas: rational numbers as a sign and two decimal strings; no Go and no memory. -/
namespace Go.Proofs.YtcphclpekllcoaaGreatDoor.Nt
open Go.Lib

/-- A rational number as the program writes it: sign, numerator, denominator. -/
abbrev RS := Bool × ByteArray × ByteArray
def sg (neg : Bool) (n : Nat) : Int := if neg then -(n : Int) else n
def rs (q : Rat) : RS := (decide (q.num < 0), nat2s q.num.natAbs, nat2s q.den)
/-- Both strings are within the limit. -/
def fitR (q : Rat) : Bool := decide (nDigits q.num.natAbs ≤ 1000) && decide (nDigits q.den ≤ 1000)

theorem sg_natAbs (neg : Bool) (n : Nat) : (sg neg n).natAbs = n := by cases neg <;> simp [sg]
theorem sg_of (z : Int) : sg (decide (z < 0)) z.natAbs = z := by
  unfold sg
  by_cases h : z < 0
  · simp [h]; omega
  · simp [h]; omega
theorem sg_neg (neg : Bool) (n : Nat) (h : n = 0 → neg = false) : decide (sg neg n < 0) = neg := by
  cases neg with
  | false => simp [sg]
  | true =>
    have : n ≠ 0 := fun e => by simpa using h e
    simp [sg]; omega
theorem sg_mul (a b : Bool) (m n : Nat) : sg a m * sg b n = sg (a != b) (m * n) := by
  cases a <;> cases b <;> simp [sg, Int.mul_neg, Int.neg_mul]
theorem sg_den (a : Bool) (m d : Nat) : sg a m * (d : Int) = sg a (m * d) := by cases a <;> simp [sg, Int.neg_mul]

def rat? (x : RS) : Option Rat :=
  match num? x.2.1, num? x.2.2 with
  | some n, some d =>
    if h : d ≠ 0 ∧ n.Coprime d ∧ (n = 0 → x.1 = false) then some { num := sg x.1 n, den := d, den_nz := h.1, reduced := by rw [sg_natAbs]; exact h.2.1 } else none
  | _, _ => none

theorem rs_inj {p q : Rat} (h : rs p = rs q) : p = q := by
  simp only [rs, Prod.mk.injEq] at h
  obtain ⟨h1, h2, h3⟩ := h
  have h2 := nat2s_inj h2
  have h3 := nat2s_inj h3
  refine Rat.ext ?_ h3
  rw [← sg_of p.num, ← sg_of q.num, h1, h2]

theorem rs_eq_iff (p q : Rat) : rs p = rs q ↔ p = q := ⟨rs_inj, fun h => by rw [h]⟩

theorem rat?_rs (q : Rat) (h : fitR q = true) : rat? (rs q) = some q := by
  simp only [fitR, Bool.and_eq_true, decide_eq_true_eq] at h
  unfold rat? rs
  simp only [num?_nat2s _ h.1, num?_nat2s _ h.2]
  rw [dif_pos ⟨q.den_nz, q.reduced, by intro e; have e0 : q.num = 0 := Int.natAbs_eq_zero.1 e; simp [e0]⟩]
  congr 1
  exact Rat.ext (sg_of _) rfl

theorem rat?_some {x : RS} {q : Rat} (h : rat? x = some q) : x = rs q ∧ fitR q = true := by
  obtain ⟨neg, a, b⟩ := x
  unfold rat? at h
  simp only at h
  split at h
  · rename_i n d h1 h2
    split at h
    · rename_i hc
      obtain rfl := by simpa using h
      obtain ⟨rfl, f1⟩ := num?_some h1
      obtain ⟨rfl, f2⟩ := num?_some h2
      refine ⟨?_, ?_⟩
      · simp only [rs, sg_natAbs, sg_neg neg n hc.2.2]
      · simp [fitR, sg_natAbs, f1, f2]
    · simp at h
  · simp at h

theorem rat?_rs_big (q : Rat) (h : fitR q = false) : rat? (rs q) = none := by
  cases e : rat? (rs q) with
  | none => rfl
  | some p =>
    obtain ⟨h1, h2⟩ := rat?_some e
    have := rs_inj h1
    subst this
    rw [h] at h2; simp at h2

/-! ### lowest terms -/
/-- What `lowest` makes of a sign and two numbers. -/
def low (neg : Bool) (n d : Nat) : Rat := mkRat (sg neg n) d

theorem low_zero (neg : Bool) (d : Nat) : low neg 0 d = 0 := by
  unfold low
  have : sg neg 0 = 0 := by cases neg <;> simp [sg]
  rw [this, Rat.zero_mkRat]

theorem low_eq (neg : Bool) (n d : Nat) (hd : d ≠ 0) (hn : n ≠ 0) :
    rs (low neg n d) = (neg, nat2s (n / Nat.gcd n d), nat2s (d / Nat.gcd n d)) := by
  unfold low
  rw [← Rat.normalize_eq_mkRat hd, Rat.normalize_eq hd]
  simp only [rs, sg_natAbs]
  have hg : 0 < Nat.gcd n d := Nat.gcd_pos_of_pos_left _ (by omega)
  have hq : sg neg n / (Nat.gcd n d : Int) = sg neg (n / Nat.gcd n d) := by
    obtain ⟨k, hk⟩ := Nat.gcd_dvd_left n d
    generalize Nat.gcd n d = g at *
    subst hk
    rw [Nat.mul_div_cancel_left _ hg]
    have e : sg neg (g * k) = (g : Int) * sg neg k := by cases neg <;> simp [sg, Int.mul_neg]
    rw [e, Int.mul_ediv_cancel_left _ (by omega)]
  rw [hq, sg_natAbs, sg_neg]
  intro e
  exfalso
  have := Nat.div_mul_cancel (Nat.gcd_dvd_left n d)
  rw [e] at this
  omega

theorem rs_zero : rs 0 = (false, nat2s 0, nat2s 1) := by simp [rs]

theorem low_fit (neg : Bool) (n d : Nat) (hd : d ≠ 0) (h1 : nDigits n ≤ 1000) (h2 : nDigits d ≤ 1000) : fitR (low neg n d) = true := by
  have mono : ∀ a b : Nat, a ≤ b → nDigits b ≤ 1000 → nDigits a ≤ 1000 := fun a b hab hb => by
    rw [nDigits_le_iff _ _ (by decide)] at *; omega
  by_cases hn : n = 0
  · subst hn; rw [low_zero]; decide +kernel
  · have h := low_eq neg n d hd hn
    simp only [rs, Prod.mk.injEq] at h
    have e1 := nat2s_inj h.2.1
    have e2 := nat2s_inj h.2.2
    simp only [fitR, Bool.and_eq_true, decide_eq_true_eq]
    rw [e1, e2]
    exact ⟨mono _ _ (Nat.div_le_self _ _) h1, mono _ _ (Nat.div_le_self _ _) h2⟩

/-! ### sums and products -/
theorem add_low (a b : Rat) : a + b = mkRat (a.num * b.den + b.num * a.den) (a.den * b.den) := by
  rw [Rat.add_def, Rat.normalize_eq_mkRat]
theorem mul_low (a b : Rat) : a * b = mkRat (a.num * b.num) (a.den * b.den) := by
  rw [Rat.mul_def, Rat.normalize_eq_mkRat]

def ng (q : Rat) : Bool := decide (q.num < 0)
def nu (q : Rat) : Nat := q.num.natAbs
theorem num_sg (q : Rat) : q.num = sg (ng q) (nu q) := (sg_of q.num).symm

theorem add_same (a b : Rat) (h : ng a = ng b) : a + b = low (ng a) (nu a * b.den + nu b * a.den) (a.den * b.den) := by
  rw [add_low, low, num_sg a, num_sg b, ← h, sg_den, sg_den]
  congr 1
  cases ng a <;> simp [sg]; omega
theorem add_less (a b : Rat) (h : ng a ≠ ng b) (hlt : nu a * b.den < nu b * a.den) : a + b = low (ng b) (nu b * a.den - nu a * b.den) (a.den * b.den) := by
  rw [add_low, low, num_sg a, num_sg b, sg_den, sg_den]
  congr 1
  cases ha : ng a <;> cases hb : ng b <;> simp_all [sg] <;> omega
theorem add_more (a b : Rat) (h : ng a ≠ ng b) (hle : nu b * a.den ≤ nu a * b.den) : a + b = low (ng a) (nu a * b.den - nu b * a.den) (a.den * b.den) := by
  rw [add_low, low, num_sg a, num_sg b, sg_den, sg_den]
  congr 1
  cases ha : ng a <;> cases hb : ng b <;> simp_all [sg] <;> omega
theorem mul_low' (a b : Rat) : a * b = low (ng a != ng b) (nu a * nu b) (a.den * b.den) := by
  rw [mul_low, low, num_sg a, num_sg b, sg_mul]

def dig1000 (n : Nat) : Bool := decide (nDigits n ≤ 1000)
/-- A sum stays within the limits. -/
def addFits (a b : Rat) : Bool :=
  dig1000 (nu a * b.den) && dig1000 (nu b * a.den) && dig1000 (a.den * b.den) && (ng a != ng b || dig1000 (nu a * b.den + nu b * a.den))
def mulFits (a b : Rat) : Bool := dig1000 (nu a * nu b) && dig1000 (a.den * b.den)

/-- The sum of two numbers that are written, with an error code: 1 if one is not valid, 2 beyond the limits. -/
def rAdd (x y : RS) : RS × Int :=
  match rat? x, rat? y with
  | some a, some b => if addFits a b then (rs (a + b), 0) else ((false, ByteArray.empty, ByteArray.empty), 2)
  | _, _ => ((false, ByteArray.empty, ByteArray.empty), 1)
def rMul (x y : RS) : RS × Int :=
  match rat? x, rat? y with
  | some a, some b => if mulFits a b then (rs (a * b), 0) else ((false, ByteArray.empty, ByteArray.empty), 2)
  | _, _ => ((false, ByteArray.empty, ByteArray.empty), 1)
def rValid (x : RS) : Bool := (rat? x).isSome
def rCmp (x y : RS) : Int :=
  match rat? x, rat? y with
  | some a, some b => if a < b then -1 else if b < a then 1 else 0
  | _, _ => 0

theorem dig_mono {a b : Nat} (h : a ≤ b) (hb : dig1000 b = true) : dig1000 a = true := by
  simp only [dig1000, decide_eq_true_eq] at *
  rw [nDigits_le_iff _ _ (by decide)] at *; omega

theorem addFits_fit (a b : Rat) (h : addFits a b = true) : fitR (a + b) = true := by
  simp only [addFits, Bool.and_eq_true, Bool.or_eq_true, bne_iff_ne] at h
  obtain ⟨⟨⟨h1, h2⟩, h3⟩, h4⟩ := h
  have hd : a.den * b.den ≠ 0 := Nat.mul_ne_zero a.den_nz b.den_nz
  have f : ∀ neg n, dig1000 n = true → fitR (low neg n (a.den * b.den)) = true := fun neg n hn =>
    low_fit neg n _ hd (by simpa [dig1000] using hn) (by simpa [dig1000] using h3)
  by_cases hs : ng a = ng b
  · rw [add_same a b hs]
    exact f _ _ (h4.resolve_left (by simpa using hs))
  · by_cases hlt : nu a * b.den < nu b * a.den
    · rw [add_less a b hs hlt]; exact f _ _ (dig_mono (by omega) h2)
    · rw [add_more a b hs (by omega)]; exact f _ _ (dig_mono (by omega) h1)
theorem mulFits_fit (a b : Rat) (h : mulFits a b = true) : fitR (a * b) = true := by
  simp only [mulFits, Bool.and_eq_true] at h
  rw [mul_low']
  exact low_fit _ _ _ (Nat.mul_ne_zero a.den_nz b.den_nz) (by simpa [dig1000] using h.1) (by simpa [dig1000] using h.2)

end Go.Proofs.YtcphclpekllcoaaGreatDoor.Nt


/- Plain lemmas: comparing quotients by their integer parts and what is left; quotients of ints; no Go and no memory. -/
namespace Go.Proofs.YtcphclpekllcoaaGreatDoor.Nt
open Go.Lib

def cmpN (a b c d : Nat) : Int := if a * d < c * b then -1 else if c * b < a * d then 1 else 0

theorem cmpN_step (a b c d : Nat) (hb : 0 < b) (hd : 0 < d) :
    cmpN a b c d = if a / b < c / d then -1 else if c / d < a / b then 1 else cmpN d (c % d) b (a % b) := by
  have ha := Nat.div_add_mod a b
  have hc := Nat.div_add_mod c d
  have hr := Nat.mod_lt a hb
  have hs := Nat.mod_lt c hd
  generalize a / b = m at *
  generalize a % b = r at *
  generalize c / d = n at *
  generalize c % d = s at *
  subst ha hc
  unfold cmpN
  have e1 : (b * m + r) * d = b * d * m + d * r := by rw [Nat.add_mul, Nat.mul_right_comm, Nat.mul_comm r d]
  have e2 : (d * n + s) * b = b * d * n + b * s := by rw [Nat.add_mul, Nat.mul_right_comm, Nat.mul_comm s b, Nat.mul_comm d b]
  rw [e1, e2]
  have hrd : d * r < b * d := by rw [Nat.mul_comm b d]; exact Nat.mul_lt_mul_of_pos_left hr hd
  have hsb : b * s < b * d := Nat.mul_lt_mul_of_pos_left hs hb
  by_cases h1 : m < n
  · rw [if_pos h1, if_pos]
    have : b * d * (m + 1) ≤ b * d * n := Nat.mul_le_mul_left _ h1
    rw [Nat.mul_add] at this; omega
  · rw [if_neg h1]
    by_cases h2 : n < m
    · have : b * d * (n + 1) ≤ b * d * m := Nat.mul_le_mul_left _ h2
      rw [Nat.mul_add] at this
      rw [if_pos h2, if_neg (by omega), if_pos (by omega)]
    · rw [if_neg h2]
      have : m = n := by omega
      subst this
      generalize b * d * m = t
      by_cases h3 : d * r < b * s
      · rw [if_pos (by omega), if_pos h3]
      · rw [if_neg (by omega), if_neg h3]
        by_cases h4 : b * s < d * r
        · rw [if_pos (by omega), if_pos h4]
        · rw [if_neg (by omega), if_neg h4]

theorem cmpN_r0 (d s b : Nat) (hb : 0 < b) (h : cmpN d s b 0 ≠ 0) : cmpN d s b 0 = -1 := by
  unfold cmpN at *
  by_cases hs : s = 0
  · subst hs; simp at h
  · rw [if_pos]
    have : 0 < b * s := Nat.mul_pos hb (by omega)
    omega
theorem cmpN_s0 (d b r : Nat) (hd : 0 < d) (hr : 0 < r) : cmpN d 0 b r = 1 := by
  unfold cmpN
  have : 0 < d * r := Nat.mul_pos hd hr
  rw [if_neg (by omega), if_pos (by omega)]
theorem cmpN_r0' (d s b : Nat) (hs : 0 < s) (hb : 0 < b) : cmpN d s b 0 = -1 := by
  unfold cmpN
  have : 0 < b * s := Nat.mul_pos hb hs
  rw [if_pos (by omega)]
theorem cmpN_00 (d b : Nat) : cmpN d 0 b 0 = 0 := by simp [cmpN]

def rcmp (a b : Rat) : Int := if a < b then -1 else if b < a then 1 else 0
theorem rCmp_rs (a b : Rat) (ha : fitR a = true) (hb : fitR b = true) : rCmp (rs a) (rs b) = rcmp a b := by
  unfold rCmp rcmp
  rw [rat?_rs a ha, rat?_rs b hb]

theorem num_pos (q : Rat) (h : ng q = false) : q.num = nu q := by rw [num_sg, h]; rfl
theorem num_neg' (q : Rat) (h : ng q = true) : q.num = -(nu q : Int) := by rw [num_sg, h]; rfl

theorem castlt (m n : Nat) : ((m : Int) < (n : Int)) ↔ m < n := Int.ofNat_lt

theorem rcmp_pos (a b : Rat) (ha : ng a = false) (hb : ng b = false) : rcmp a b = cmpN (nu a) a.den (nu b) b.den := by
  unfold rcmp cmpN
  simp only [Rat.lt_iff, num_pos a ha, num_pos b hb, ← Int.natCast_mul, castlt]
theorem rcmp_negs (a b : Rat) (ha : ng a = true) (hb : ng b = true) : rcmp a b = cmpN (nu b) b.den (nu a) a.den := by
  unfold rcmp cmpN
  simp only [Rat.lt_iff, num_neg' a ha, num_neg' b hb, Int.neg_mul, Int.neg_lt_neg_iff, ← Int.natCast_mul, castlt]
theorem ng_pos (q : Rat) (h : ng q = true) : 0 < nu q := by
  have h1 : q.num < 0 := by simpa [ng] using h
  unfold nu; omega
theorem rcmp_np (a b : Rat) (ha : ng a = true) (hb : ng b = false) : rcmp a b = -1 := by
  unfold rcmp
  rw [if_pos]
  rw [Rat.lt_iff, num_neg' a ha, num_pos b hb, Int.neg_mul, ← Int.natCast_mul, ← Int.natCast_mul]
  have := Nat.mul_pos (ng_pos a ha) b.den_pos
  omega
theorem rcmp_pn (a b : Rat) (ha : ng a = false) (hb : ng b = true) : rcmp a b = 1 := by
  have h : b < a := by
    rw [Rat.lt_iff, num_neg' b hb, num_pos a ha, Int.neg_mul, ← Int.natCast_mul, ← Int.natCast_mul]
    have := Nat.mul_pos (ng_pos b hb) a.den_pos
    omega
  unfold rcmp
  rw [if_neg (Rat.not_lt.2 (Rat.le_of_lt h)), if_pos h]
theorem rcmp_self (a : Rat) : rcmp a a = 0 := by simp [rcmp, Rat.lt_irrefl]
theorem rcmp_zero (a b : Rat) : rcmp a b = 0 ↔ a = b := by
  constructor
  · intro h
    unfold rcmp at h
    split at h
    · simp at h
    · split at h
      · simp at h
      · exact Rat.le_antisymm (Rat.not_lt.1 ‹_›) (Rat.not_lt.1 ‹_›)
  · rintro rfl; exact rcmp_self a

end Go.Proofs.YtcphclpekllcoaaGreatDoor.Nt


/- Plain lemmas: arithmetic digit by digit, as the reference does it; no Go and no memory. -/
namespace Go.Proofs.YtcphclpekllcoaaGreatDoor.Nt
open Go.Lib

/-! ### digits, the last one first -/
def lv : List Nat → Nat
  | [] => 0
  | d :: l => d + 10 * lv l
theorem lv_snoc (l : List Nat) (d : Nat) : lv (l ++ [d]) = lv l + 10 ^ l.length * d := by
  induction l with
  | nil => simp [lv]
  | cons c l ih =>
    simp only [List.cons_append, lv, ih, List.length_cons, Nat.pow_succ]
    rw [Nat.mul_add, ← Nat.mul_assoc, Nat.mul_comm 10 (10 ^ l.length)]; omega
theorem lv_lt {l : List Nat} (h : ∀ d ∈ l, d < 10) : lv l < 10 ^ l.length := by
  induction l with
  | nil => simp [lv]
  | cons c l ih =>
    have h1 := ih fun d hd => h d (by simp [hd])
    have h2 := h c (by simp)
    simp only [lv, List.length_cons, Nat.pow_succ]; omega
/-- The digit at a place from the right. -/
def dgt (m i : Nat) : Nat := m / 10 ^ i % 10
theorem dgt_lt (m i : Nat) : dgt m i < 10 := Nat.mod_lt _ (by decide)
theorem mod_step (m i : Nat) : m % 10 ^ (i + 1) = m % 10 ^ i + 10 ^ i * dgt m i := by
  unfold dgt
  rw [Nat.pow_succ, Nat.mod_mul]
theorem lt_pow_dig {m i : Nat} (h : nDigits m ≤ i) : m < 10 ^ i := by
  by_cases h0 : i = 0
  · have := nDigits_pos m; omega
  · exact (nDigits_le_iff m i (by omega)).1 h
theorem dgt_beyond {m i : Nat} (h : nDigits m ≤ i) : dgt m i = 0 := by
  unfold dgt; rw [Nat.div_eq_of_lt (lt_pow_dig h)]
theorem mod_all {m i : Nat} (h : nDigits m ≤ i) : m % 10 ^ i = m := Nat.mod_eq_of_lt (lt_pow_dig h)
theorem nDigits_div {n : Nat} (h : ¬ n < 10) : nDigits n = nDigits (n / 10) + 1 := by
  rw [← decDigits_length, ← decDigits_length]
  conv => lhs; rw [decDigits, dif_neg h]
  simp
theorem dec_at (n : Nat) : ∀ i, i < nDigits n → (decDigits n)[nDigits n - 1 - i]? = some (UInt8.ofNat (48 + dgt n i)) := by
  induction n using Nat.strongRecOn with
  | _ n ih =>
    intro i hi
    by_cases h : n < 10
    · rw [nDigits_small h] at hi ⊢
      obtain rfl : i = 0 := by omega
      rw [decDigits, dif_pos h]
      unfold dgt; simp; congr 1; omega
    · have hd := nDigits_div h
      rw [decDigits, dif_neg h]
      have hl : (decDigits (n / 10)).length = nDigits (n / 10) := decDigits_length _
      cases i with
      | zero =>
        rw [List.getElem?_append_right (by omega), hd, hl]
        unfold dgt; simp
      | succ i =>
        have := ih (n / 10) (by omega) i (by omega)
        rw [List.getElem?_append_left (by omega), hd, show nDigits (n / 10) + 1 - 1 - (i + 1) = nDigits (n / 10) - 1 - i by omega, this]
        unfold dgt
        rw [Nat.div_div_eq_div_mul, Nat.pow_succ, Nat.mul_comm (10 ^ i) 10]

/-! ### without leading zeros -/
theorem val_zero_cons (l : List UInt8) : val (48 :: l) = val l := by rw [val_cons]; simp
theorem trim_step {l : List UInt8} {i : Nat} (hi : i < l.length) (hz : val (l.drop i) = val l) (hx : l[i]? = some 48) : val (l.drop (i + 1)) = val l := by
  rw [← hz]
  have e : l.drop i = 48 :: l.drop (i + 1) := by
    rw [List.drop_eq_getElem_cons hi]
    rw [List.getElem?_eq_getElem hi] at hx
    rw [Option.some.inj hx]
  rw [e, val_zero_cons]
theorem digits_dec {l : List UInt8} (hd : l.all isDg = true) (hne : l ≠ []) (h : l.length = 1 ∨ l.head? ≠ some 48) : decDigits (val l) = l := by
  rcases h with h | h
  · match l, h with
    | [c], _ =>
      simp only [List.all_cons, List.all_nil, Bool.and_true, isDg_iff] at hd
      rw [show val [c] = c.toNat - 48 by simp [val], decDigits, dif_pos (by omega), show 48 + (c.toNat - 48) = c.toNat by omega]; simp
  · exact (dec_val_aux l hd h hne).2
theorem trim_end {l : List UInt8} {i : Nat} (hd : l.all isDg = true) (hi : i < l.length) (hz : val (l.drop i) = val l) (hx : l.length ≤ i + 1 ∨ l[i]? ≠ some 48) : l.drop i = decDigits (val l) := by
  rw [← hz]
  symm
  apply digits_dec
  · rw [List.all_eq_true] at hd ⊢
    exact fun c hc => hd c (List.mem_of_mem_drop hc)
  · intro e
    have := congrArg List.length e
    simp at this; omega
  · rcases hx with hx | hx
    · left; simp; omega
    · right
      rw [List.head?_drop]; exact hx

/-! ### text: the digits of a number, the last one first -/
def chars (l : List Nat) : List UInt8 := l.reverse.map fun d => UInt8.ofNat (48 + d)
theorem chars_snoc (l : List Nat) (d : Nat) : chars (l ++ [d]) = UInt8.ofNat (48 + d) :: chars l := by unfold chars; simp
theorem chars_length (l : List Nat) : (chars l).length = l.length := by unfold chars; simp
theorem chars_all {l : List Nat} (h : ∀ d ∈ l, d < 10) : (chars l).all isDg = true := by
  rw [List.all_eq_true]
  intro c hc
  unfold chars at hc
  rw [List.mem_map] at hc
  obtain ⟨d, hd, rfl⟩ := hc
  have := h d (by simpa using hd)
  rw [isDg_iff, u8_of d this]; omega
theorem val_chars {l : List Nat} (h : ∀ d ∈ l, d < 10) : val (chars l) = lv l := by
  induction l with
  | nil => rfl
  | cons c l ih =>
    have e : chars (c :: l) = chars l ++ [UInt8.ofNat (48 + c)] := by unfold chars; simp
    rw [e, val_snoc, ih fun d hd => h d (by simp [hd]), u8_of c (h c (by simp))]
    show 10 * lv l + (48 + c - 48) = c + 10 * lv l
    omega
theorem chars_at {l : List Nat} {i d : Nat} (h : l[i]? = some d) : (chars l)[l.length - 1 - i]? = some (UInt8.ofNat (48 + d)) := by
  have hi := (List.getElem?_eq_some_iff.1 h).1
  unfold chars
  rw [List.getElem?_map, List.getElem?_reverse (by omega), show l.length - 1 - (l.length - 1 - i) = i by omega, h]; rfl

/-! ### a sum -/
structure AddSt (m n i : Nat) (out : List Nat) (c : Nat) : Prop where
  len : out.length = i
  dig : ∀ d ∈ out, d < 10
  car : c ≤ 1
  sum : lv out + 10 ^ i * c = m % 10 ^ i + n % 10 ^ i
theorem AddSt.start (m n : Nat) : AddSt m n 0 [] 0 := ⟨rfl, by simp, by omega, by simp [lv, Nat.mod_one]⟩
theorem AddSt.step {m n i c : Nat} {out : List Nat} (h : AddSt m n i out c) : AddSt m n (i + 1) (out ++ [(dgt m i + dgt n i + c) % 10]) ((dgt m i + dgt n i + c) / 10) := by
  have h1 := dgt_lt m i
  have h2 := dgt_lt n i
  have h3 := h.car
  refine ⟨by simp [h.len], fun d hd => ?_, by omega, ?_⟩
  · rcases List.mem_append.1 hd with hd | hd
    · exact h.dig d hd
    · simp at hd; omega
  · rw [lv_snoc, h.len, mod_step m, mod_step n]
    have hs := h.sum
    have e := Nat.div_add_mod (dgt m i + dgt n i + c) 10
    generalize (dgt m i + dgt n i + c) / 10 = q at *
    generalize (dgt m i + dgt n i + c) % 10 = r at *
    rw [Nat.pow_succ]
    generalize 10 ^ i = p at *
    have k : p * (10 * q + r) = p * (dgt m i + dgt n i + c) := by rw [e]
    rw [Nat.mul_add, Nat.mul_add, Nat.mul_add] at k
    rw [show p * 10 * q = p * (10 * q) by rw [Nat.mul_assoc]]
    omega
theorem AddSt.end_ {m n i : Nat} {out : List Nat} (h : AddSt m n i out 0) (hm : nDigits m ≤ i) (hn : nDigits n ≤ i) : lv out = m + n := by
  have := h.sum
  rw [mod_all hm, mod_all hn] at this
  simpa using this

theorem AddSt.nocar {m n i c : Nat} {out : List Nat} (h : AddSt m n (i + 1) out c) (hm : nDigits m ≤ i) (hn : nDigits n ≤ i) : c = 0 := by
  have hs := h.sum
  have h1 := lt_pow_dig hm
  have h2 := lt_pow_dig hn
  rw [mod_all (by omega), mod_all (by omega), Nat.pow_succ] at hs
  cases c with
  | zero => rfl
  | succ c =>
    have : 10 ^ i * 10 ≤ 10 ^ i * 10 * (c + 1) := Nat.le_mul_of_pos_right _ (by omega)
    omega

/-! ### a difference -/
structure SubSt (m n i : Nat) (out : List Nat) (b : Nat) : Prop where
  len : out.length = i
  dig : ∀ d ∈ out, d < 10
  bor : b ≤ 1
  sum : lv out + n % 10 ^ i = m % 10 ^ i + 10 ^ i * b
theorem SubSt.start (m n : Nat) : SubSt m n 0 [] 0 := ⟨rfl, by simp, by omega, by simp [lv, Nat.mod_one]⟩
theorem SubSt.step {m n i b : Nat} {out : List Nat} (h : SubSt m n i out b) : SubSt m n (i + 1) (out ++ [(dgt m i + 10 - dgt n i - b) % 10]) (1 - (dgt m i + 10 - dgt n i - b) / 10) := by
  have h1 := dgt_lt m i
  have h2 := dgt_lt n i
  have h3 := h.bor
  refine ⟨by simp [h.len], fun d hd => ?_, by omega, ?_⟩
  · rcases List.mem_append.1 hd with hd | hd
    · exact h.dig d hd
    · simp at hd; omega
  · rw [lv_snoc, h.len, mod_step m, mod_step n]
    have hs := h.sum
    have hq : (dgt m i + 10 - dgt n i - b) / 10 ≤ 1 := by omega
    have e := Nat.div_add_mod (dgt m i + 10 - dgt n i - b) 10
    have e' : dgt m i + 10 * (1 - (dgt m i + 10 - dgt n i - b) / 10) = (dgt m i + 10 - dgt n i - b) % 10 + dgt n i + b := by omega
    generalize (dgt m i + 10 - dgt n i - b) / 10 = q at *
    generalize (dgt m i + 10 - dgt n i - b) % 10 = r at *
    rw [Nat.pow_succ]
    generalize 10 ^ i = p at *
    have k : p * (dgt m i + 10 * (1 - q)) = p * (r + dgt n i + b) := by rw [e']
    rw [Nat.mul_add, Nat.mul_add, Nat.mul_add] at k
    rw [show p * 10 * (1 - q) = p * (10 * (1 - q)) by rw [Nat.mul_assoc]]
    omega
theorem SubSt.end_ {m n i b : Nat} {out : List Nat} (h : SubSt m n i out b) (hm : nDigits m ≤ i) (hn : n ≤ m) : lv out = m - n := by
  have hs := h.sum
  have hl := lv_lt h.dig
  rw [h.len] at hl
  have hml := lt_pow_dig hm
  rw [mod_all hm, Nat.mod_eq_of_lt (by omega)] at hs
  have := h.bor
  have hb : b = 0 ∨ b = 1 := by omega
  rcases hb with rfl | rfl
  · simp at hs; omega
  · simp at hs; omega

/-! ### a product -/
theorem lv_set {S : List Nat} {j x d : Nat} (h : S[j]? = some x) : lv (S.set j (x + d)) = lv S + 10 ^ j * d := by
  induction S generalizing j with
  | nil => simp at h
  | cons c S ih =>
    cases j with
    | zero =>
      simp at h; subst h
      simp [lv]; omega
    | succ j =>
      simp at h
      simp only [List.set_cons_succ, lv, ih h, Nat.pow_succ]
      rw [Nat.mul_add, ← Nat.mul_assoc, Nat.mul_comm 10 (10 ^ j)]; omega
theorem lv_zeros (k : Nat) : lv (List.replicate k 0) = 0 := by
  induction k with
  | zero => rfl
  | succ k ih => simp [List.replicate_succ, lv, ih]
/-- The columns of a product, after k digits of row i. -/
structure MulSt (m n L i k : Nat) (S : List Nat) : Prop where
  len : S.length = L
  bnd : ∀ x ∈ S, x ≤ 81 * (i * nDigits n + k)
  sum : lv S = (m % 10 ^ i) * n + 10 ^ i * (dgt m i * (n % 10 ^ k))
theorem MulSt.start (m n L : Nat) : MulSt m n L 0 0 (List.replicate L 0) := by
  refine ⟨by simp, fun x hx => ?_, ?_⟩
  · rw [List.mem_replicate] at hx; omega
  · rw [lv_zeros]; simp [Nat.mod_one]
theorem MulSt.step {m n L i k x : Nat} {S : List Nat} (h : MulSt m n L i k S) (hx : S[i + k]? = some x) : MulSt m n L i (k + 1) (S.set (i + k) (x + dgt m i * dgt n k)) := by
  have hm : x ≤ 81 * (i * nDigits n + k) := h.bnd x (List.mem_of_getElem? hx)
  have hd : dgt m i * dgt n k ≤ 81 := by
    have h1 := dgt_lt m i
    have h2 := dgt_lt n k
    exact Nat.le_trans (Nat.mul_le_mul (show dgt m i ≤ 9 by omega) (show dgt n k ≤ 9 by omega)) (by decide)
  refine ⟨by simp [h.len], fun y hy => ?_, ?_⟩
  · rcases List.mem_or_eq_of_mem_set hy with hy | rfl
    · have := h.bnd y hy; omega
    · omega
  · rw [lv_set hx, h.sum, mod_step n k, Nat.pow_add]
    generalize dgt m i = a
    generalize dgt n k = b
    generalize 10 ^ i = p
    generalize 10 ^ k = q
    generalize n % q = r
    generalize m % p * n = z
    rw [Nat.mul_add a r, Nat.mul_add p, show p * (a * (q * b)) = p * q * (a * b) by
      rw [Nat.mul_assoc, ← Nat.mul_assoc a q b, Nat.mul_comm a q, Nat.mul_assoc q a b]]
    omega
theorem MulSt.next {m n L i : Nat} {S : List Nat} (h : MulSt m n L i (nDigits n) S) : MulSt m n L (i + 1) 0 S := by
  refine ⟨h.len, fun x hx => ?_, ?_⟩
  · have := h.bnd x hx
    rw [Nat.add_mul, Nat.one_mul]; omega
  · rw [h.sum, mod_all (Nat.le_refl _), mod_step m i, Nat.add_mul, Nat.pow_zero, Nat.mod_one]
    rw [Nat.mul_zero, Nat.mul_zero, Nat.add_zero, Nat.mul_assoc]
theorem MulSt.end_ {m n L k : Nat} {S : List Nat} (h : MulSt m n L (nDigits m) k S) : lv S = m * n := by
  rw [h.sum, mod_all (Nat.le_refl _), dgt_beyond (Nat.le_refl _)]; simp
/-- The carries. -/
structure CarSt (S : List Nat) (i : Nat) (out : List Nat) (c : Nat) : Prop where
  len : out.length = i
  dig : ∀ d ∈ out, d < 10
  sum : lv out + 10 ^ i * c = lv (S.take i)
theorem CarSt.start (S : List Nat) : CarSt S 0 [] 0 := ⟨rfl, by simp, by simp [lv]⟩
theorem lv_take {S : List Nat} {i x : Nat} (h : S[i]? = some x) : lv (S.take (i + 1)) = lv (S.take i) + 10 ^ i * x := by
  have hi := (List.getElem?_eq_some_iff.1 h).1
  rw [List.take_add_one, h]
  show lv (S.take i ++ [x]) = _
  rw [lv_snoc, List.length_take, Nat.min_eq_left (Nat.le_of_lt hi)]
theorem CarSt.step {S : List Nat} {i c x : Nat} {out : List Nat} (h : CarSt S i out c) (hx : S[i]? = some x) : CarSt S (i + 1) (out ++ [(x + c) % 10]) ((x + c) / 10) := by
  refine ⟨by simp [h.len], fun d hd => ?_, ?_⟩
  · rcases List.mem_append.1 hd with hd | hd
    · exact h.dig d hd
    · simp at hd; omega
  · rw [lv_snoc, h.len, lv_take hx]
    have hs := h.sum
    have e := Nat.div_add_mod (x + c) 10
    generalize (x + c) / 10 = q at *
    generalize (x + c) % 10 = r at *
    rw [Nat.pow_succ]
    generalize 10 ^ i = p at *
    have k : p * (10 * q + r) = p * (x + c) := by rw [e]
    rw [Nat.mul_add, Nat.mul_add] at k
    rw [show p * 10 * q = p * (10 * q) by rw [Nat.mul_assoc]]
    omega
theorem CarSt.end_ {S : List Nat} {i c P : Nat} {out : List Nat} (h : CarSt S i out c) (hi : i = S.length) (hP : lv S = P) (hlt : P < 10 ^ i) : lv out = P := by
  have hs := h.sum
  rw [hi, List.take_length, hP] at hs
  rw [hi] at hlt
  cases c with
  | zero => simpa using hs
  | succ c =>
    have : 10 ^ S.length ≤ 10 ^ S.length * (c + 1) := Nat.le_mul_of_pos_right _ (by omega)
    omega
theorem mul_lt_pow (m n : Nat) : m * n < 10 ^ (nDigits m + nDigits n + 1) := by
  have h1 := lt_pow_dig (Nat.le_refl (nDigits m))
  have h2 := lt_pow_dig (Nat.le_refl (nDigits n))
  have h3 : m * n < 10 ^ nDigits m * 10 ^ nDigits n := by
    have : (m + 1) * (n + 1) ≤ 10 ^ nDigits m * 10 ^ nDigits n := Nat.mul_le_mul h1 h2
    rw [Nat.add_mul, Nat.mul_add] at this
    omega
  rw [Nat.pow_succ, Nat.pow_add]
  omega

/-! ### which number is less -/
theorem less_len {m n : Nat} (h : nDigits m < nDigits n) : m < n := by
  apply Classical.byContradiction
  intro hn
  have h1 := lt_pow_dig (Nat.le_refl (nDigits m))
  have h2 := nDigits_pos m
  have : nDigits n ≤ nDigits m := (nDigits_le_iff n _ h2).2 (by omega)
  omega
theorem lex_val : ∀ (a b : List UInt8), a.length = b.length → a.all isDg = true → b.all isDg = true → (a < b ↔ val a < val b) := by
  intro a
  induction a with
  | nil => intro b hl _ _; cases b with
    | nil => simp [val]
    | cons => simp at hl
  | cons x a ih =>
    intro b hl ha hb
    cases b with
    | nil => simp at hl
    | cons y b =>
      simp only [List.length_cons, Nat.add_right_cancel_iff] at hl
      simp only [List.all_cons, Bool.and_eq_true, isDg_iff] at ha hb
      have iha := ih b hl ha.2 hb.2
      have va := val_lt a ha.2
      have vb := val_lt b hb.2
      rw [List.cons_lt_cons_iff, val_cons, val_cons, hl]
      rw [hl] at va
      generalize 10 ^ b.length = p at *
      rw [iha, UInt8.lt_iff_toNat_lt]
      constructor
      · rintro (h | ⟨rfl, h⟩)
        · have : (x.toNat - 48 + 1) * p ≤ (y.toNat - 48) * p := Nat.mul_le_mul_right _ (by omega)
          rw [Nat.add_mul, Nat.one_mul] at this
          omega
        · omega
      · intro h
        by_cases h1 : x.toNat < y.toNat
        · exact .inl h1
        · right
          by_cases h2 : x = y
          · subst h2; exact ⟨rfl, by omega⟩
          · exfalso
            have h3 : x.toNat ≠ y.toNat := fun e => h2 (UInt8.toNat_inj.1 e)
            have : (y.toNat - 48 + 1) * p ≤ (x.toNat - 48) * p := Nat.mul_le_mul_right _ (by omega)
            rw [Nat.add_mul, Nat.one_mul] at this
            omega
theorem lex_dec {m n : Nat} (h : nDigits m = nDigits n) : decDigits m < decDigits n ↔ m < n := by
  rw [lex_val _ _ (by rw [decDigits_length, decDigits_length, h]) (dec_all m) (dec_all n), val_dec, val_dec]

/-! ### a quotient -/
/-- After i digits of the dividend: the quotient's digits and the rest. -/
structure DivSt (m n i : Nat) (q : List UInt8) (r : Nat) : Prop where
  len : q.length = i
  dig : q.all isDg = true
  sum : val ((decDigits m).take i) = val q * n + r
  lt : r < n
theorem DivSt.start (m n : Nat) (hn : 0 < n) : DivSt m n 0 [] 0 := ⟨rfl, rfl, by simp [val], hn⟩
theorem DivSt.step {m n i d c r' r : Nat} {q : List UInt8} (h : DivSt m n i q r) (hd : (decDigits m)[i]? = some (UInt8.ofNat (48 + d))) (hd9 : d < 10) (hr : 10 * r + d = c * n + r') (hlt : r' < n) :
    DivSt m n (i + 1) (q ++ [UInt8.ofNat (48 + c)]) r' ∧ c < 10 := by
  have hc : c < 10 := by
    apply Classical.byContradiction
    intro hc
    have h1 : 10 * n ≤ c * n := Nat.mul_le_mul_right _ (by omega)
    have := h.lt
    omega
  refine ⟨⟨by simp [h.len], ?_, ?_, hlt⟩, hc⟩
  · rw [List.all_append, h.dig]
    simp only [List.all_cons, List.all_nil, Bool.and_true, Bool.true_and, isDg_iff, u8_of c hc]; omega
  · rw [List.take_add_one, hd]
    show val ((decDigits m).take i ++ [_]) = _
    rw [val_snoc, val_snoc, h.sum, u8_of c hc, u8_of d hd9]
    have e1 : 48 + c - 48 = c := by omega
    have e2 : 48 + d - 48 = d := by omega
    rw [e1, e2, Nat.add_mul, Nat.mul_assoc]
    omega
theorem DivSt.end_ {m n i r : Nat} {q : List UInt8} (h : DivSt m n i q r) (hi : nDigits m ≤ i) : val q = m / n ∧ r = m % n := by
  have hs := h.sum
  rw [List.take_of_length_le (by rw [decDigits_length]; exact hi), val_dec] at hs
  have hlt := h.lt
  have : m / n = val q ∧ m % n = r := by
    rw [Nat.div_mod_unique (by omega)]
    rw [Nat.mul_comm]
    exact ⟨by omega, hlt⟩
  exact ⟨this.1.symm, this.2.symm⟩
theorem rest_next {r d : Nat} (hd : d < 10) : ((decDigits r) ++ [UInt8.ofNat (48 + d)]).all isDg = true ∧ val ((decDigits r) ++ [UInt8.ofNat (48 + d)]) = 10 * r + d := by
  constructor
  · rw [List.all_append, dec_all]
    simp only [List.all_cons, List.all_nil, Bool.and_true, Bool.true_and, isDg_iff, u8_of d hd]; omega
  · rw [val_snoc, val_dec, u8_of d hd]; omega
end Go.Proofs.YtcphclpekllcoaaGreatDoor.Nt


/- Plain lemmas: debts and payments; no Go and no memory. -/
namespace Go.Proofs.YtcphclpekllcoaaGreatDoor.Nt

structure Deb where
  k : Int
  t : Int
  f : Int
  fr : Int
  un : Int
  pr : Int
deriving DecidableEq
structure Pay where
  k : Int
  t : Int
  f : Int
  at_ : Int
deriving DecidableEq

def win (n lo hi : Int) : Bool := decide (lo ≤ n) && decide (n ≤ hi)
def clsOk (k t f : Int) : Bool := win t 0 5 && (if k = 1 then f == -1 else if k = 2 ∨ k = 3 then win f 0 7 else false)
def debOk (d : Deb) : Bool := clsOk d.k d.t d.f && win d.pr 0 63 && decide (-1000 ≤ d.fr) && decide (d.un ≤ 39399) && decide (d.fr ≤ d.un)
def payOk (p : Pay) : Bool := clsOk p.k p.t p.f && win p.at_ 0 38399
def allOk (ds : List Deb) (ps : List Pay) (at_ : Int) : Bool :=
  decide (ds.length ≤ 1000) && decide (ps.length ≤ 1000) && win at_ 0 38399 && ds.all debOk && ps.all payOk

/-- A payment fits a debt up to a moment. -/
def fit (d : Deb) (p : Pay) (at_ : Int) : Bool :=
  decide (d.k = p.k) && decide (d.t = p.t) && decide (d.f = p.f) && win p.at_ d.fr (min d.un at_)

/-- The better of what is found and the payment k. -/
def better (d : Deb) (ps : List Pay) (at_ : Int) (best : Int) (k : Nat) : Int :=
  match ps[k]? with
  | none => best
  | some p => if fit d p at_ = true ∧ (best < 0 ∨ ∀ q, ps[best.toNat]? = some q → p.at_ < q.at_) then (k : Int) else best
/-- The payment that settles a debt: -1 if there is none. -/
def settle1 (ps : List Pay) (at_ : Int) (d : Deb) : Int := (List.range ps.length).foldl (better d ps at_) (-1)
def settle (ds : List Deb) (ps : List Pay) (at_ : Int) : List Int := ds.map (settle1 ps at_)

/-- What was found behind the payments up to n: it fits, and no other one up to n is earlier, or as early with a lesser index. -/
def Best (ps : List Pay) (at_ : Int) (d : Deb) (n : Nat) (b : Int) : Prop :=
  (b = -1 ∧ ∀ k p, k < n → ps[k]? = some p → fit d p at_ = false) ∨
  ∃ i p, b = ((i : Nat) : Int) ∧ i < n ∧ ps[i]? = some p ∧ fit d p at_ = true ∧ ∀ k q, k < n → ps[k]? = some q → fit d q at_ = true → p.at_ ≤ q.at_ ∧ (p.at_ = q.at_ → i ≤ k)

theorem Best.zero (ps : List Pay) (at_ : Int) (d : Deb) : Best ps at_ d 0 (-1) := .inl ⟨rfl, fun k _ h => absurd h (Nat.not_lt_zero k)⟩

theorem Best.step {ps : List Pay} {at_ : Int} {d : Deb} {n : Nat} {b : Int} (h : Best ps at_ d n b) (hn : n < ps.length) : Best ps at_ d (n + 1) (better d ps at_ b n) := by
  have hg : ps[n]? = some ps[n] := List.getElem?_eq_getElem hn
  unfold better
  rw [hg]
  show Best ps at_ d (n + 1) (if _ then _ else _)
  rcases h with ⟨rfl, h⟩ | ⟨i, p, rfl, hi, hp, hf, h⟩
  · by_cases hfit : fit d ps[n] at_ = true
    · rw [if_pos ⟨hfit, .inl (by decide)⟩]
      refine .inr ⟨n, ps[n], rfl, Nat.lt_succ_self n, hg, hfit, fun k q hk hq hfq => ?_⟩
      by_cases e : k = n
      · subst e
        rw [hg] at hq
        obtain rfl := Option.some.inj hq
        exact ⟨Int.le_refl _, fun _ => Nat.le_refl _⟩
      · rw [h k q (by omega) hq] at hfq; cases hfq
    · rw [if_neg (fun hh => hfit hh.1)]
      refine .inl ⟨rfl, fun k q hk hq => ?_⟩
      by_cases e : k = n
      · subst e
        rw [hg] at hq
        obtain rfl := Option.some.inj hq
        simpa using hfit
      · exact h k q (by omega) hq
  · have hneg : ¬ ((i : Nat) : Int) < 0 := by omega
    have htn : ((i : Nat) : Int).toNat = i := rfl
    by_cases hc : fit d ps[n] at_ = true ∧ ps[n].at_ < p.at_
    · rw [if_pos ⟨hc.1, .inr (fun q hq => by rw [htn, hp] at hq; obtain rfl := Option.some.inj hq; exact hc.2)⟩]
      refine .inr ⟨n, ps[n], rfl, Nat.lt_succ_self n, hg, hc.1, fun k q hk hq hfq => ?_⟩
      by_cases e : k = n
      · subst e
        rw [hg] at hq
        obtain rfl := Option.some.inj hq
        exact ⟨Int.le_refl _, fun _ => Nat.le_refl _⟩
      · have := h k q (by omega) hq hfq
        exact ⟨by omega, fun e => by omega⟩
    · rw [if_neg (fun hh => hc ⟨hh.1, hh.2.elim (fun h => absurd h hneg) (fun h => h p (by rw [htn]; exact hp))⟩)]
      refine .inr ⟨i, p, rfl, by omega, hp, hf, fun k q hk hq hfq => ?_⟩
      by_cases e : k = n
      · subst e
        rw [hg] at hq
        obtain rfl := Option.some.inj hq
        have : ¬ ps[k].at_ < p.at_ := fun h => hc ⟨hfq, h⟩
        exact ⟨by omega, fun _ => by omega⟩
      · exact h k q (by omega) hq hfq

theorem settle1_best (ps : List Pay) (at_ : Int) (d : Deb) : Best ps at_ d ps.length (settle1 ps at_ d) := by
  unfold settle1
  have : ∀ n, n ≤ ps.length → Best ps at_ d n ((List.range n).foldl (better d ps at_) (-1)) := by
    intro n
    induction n with
    | zero => intro _; exact Best.zero ps at_ d
    | succ n ih =>
      intro hn
      rw [List.range_succ, List.foldl_append]
      exact (ih (by omega)).step (by omega)
  exact this _ (Nat.le_refl _)

/-- It is the only one. -/
theorem Best.unique {ps : List Pay} {at_ : Int} {d : Deb} {b c : Int} (h : Best ps at_ d ps.length b) (h' : Best ps at_ d ps.length c) : b = c := by
  rcases h with ⟨rfl, h⟩ | ⟨i, p, rfl, hi, hp, hf, h⟩ <;> rcases h' with ⟨rfl, h'⟩ | ⟨j, q, rfl, hj, hq, hf', h'⟩
  · rfl
  · rw [h j q hj hq] at hf'; cases hf'
  · rw [h' i p hi hp] at hf; cases hf
  · have h1 := h j q hj hq hf'
    have h2 := h' i p hi hp hf
    have e : p.at_ = q.at_ := by omega
    have := h1.2 e
    have := h2.2 e.symm
    have : i = j := by omega
    rw [this]

/-- What is found among the first q of a list of indices. -/
def bst (d : Deb) (ps : List Pay) (t : Int) (xs : List Nat) (q : Nat) : Int := (xs.take q).foldl (better d ps t) (-1)

theorem bst_zero (d : Deb) (ps : List Pay) (t : Int) (xs : List Nat) : bst d ps t xs 0 = -1 := rfl
theorem bst_succ {d : Deb} {ps : List Pay} {t : Int} {xs : List Nat} {q k : Nat} (h : xs[q]? = some k) : bst d ps t xs (q + 1) = better d ps t (bst d ps t xs q) k := by
  unfold bst
  rw [List.take_add_one, h, List.foldl_append]; rfl

theorem better_form {d : Deb} {ps : List Pay} {t b : Int} {k : Nat} (h : b = -1 ∨ ∃ j : Nat, j < ps.length ∧ b = (j : Int)) : better d ps t b k = -1 ∨ ∃ j : Nat, j < ps.length ∧ better d ps t b k = (j : Int) := by
  unfold better
  cases hk : ps[k]? with
  | none => exact h
  | some p =>
    dsimp only
    split
    · exact .inr ⟨k, (List.getElem?_eq_some_iff.1 hk).1, rfl⟩
    · exact h
theorem foldl_form (d : Deb) (ps : List Pay) (t : Int) (xs : List Nat) : ∀ b : Int, (b = -1 ∨ ∃ j : Nat, j < ps.length ∧ b = (j : Int)) →
    xs.foldl (better d ps t) b = -1 ∨ ∃ j : Nat, j < ps.length ∧ xs.foldl (better d ps t) b = (j : Int) := by
  induction xs with
  | nil => intro b h; exact h
  | cons x xs ih => intro b h; exact ih _ (better_form h)
theorem bst_form (d : Deb) (ps : List Pay) (t : Int) (xs : List Nat) (q : Nat) : bst d ps t xs q = -1 ∨ ∃ j : Nat, j < ps.length ∧ bst d ps t xs q = (j : Int) := foldl_form d ps t _ _ (.inl rfl)

theorem better_out {d : Deb} {ps : List Pay} {t b : Int} {k : Nat} (h : ∀ p, ps[k]? = some p → fit d p t = false) : better d ps t b k = b := by
  unfold better
  cases hk : ps[k]? with
  | none => rfl
  | some p =>
    dsimp only
    rw [if_neg (fun hh => by rw [h p hk] at hh; cases hh.1)]

/-- Those that do not fit may be left out. -/
theorem foldl_filter (d : Deb) (ps : List Pay) (t : Int) (f : Nat → Bool) (hf : ∀ k p, ps[k]? = some p → f k = false → fit d p t = false) (xs : List Nat) :
    ∀ b, (xs.filter f).foldl (better d ps t) b = xs.foldl (better d ps t) b := by
  induction xs with
  | nil => intro b; rfl
  | cons x xs ih =>
    intro b
    cases hx : f x with
    | true => rw [List.filter_cons_of_pos hx]; exact ih _
    | false =>
      rw [List.filter_cons_of_neg (by rw [hx]; decide), ih]
      show _ = xs.foldl _ (better d ps t b x)
      rw [better_out (fun p hp => hf x p hp hx)]

theorem better_yes {d : Deb} {ps : List Pay} {t b : Int} {k : Nat} {p : Pay} (hk : ps[k]? = some p) (hf : fit d p t = true) (h : b < 0 ∨ ∀ q, ps[b.toNat]? = some q → p.at_ < q.at_) : better d ps t b k = (k : Int) := by
  unfold better; rw [hk]
  dsimp only
  rw [if_pos ⟨hf, h⟩]
theorem better_no {d : Deb} {ps : List Pay} {t b : Int} {k : Nat} {p : Pay} (hk : ps[k]? = some p) (h : ¬ (fit d p t = true ∧ (b < 0 ∨ ∀ q, ps[b.toNat]? = some q → p.at_ < q.at_))) : better d ps t b k = b := by
  unfold better; rw [hk]
  dsimp only
  rw [if_neg h]
end Go.Proofs.YtcphclpekllcoaaGreatDoor.Nt


/- Plain lemmas: sums of shares 1/n, n at most 64, stay within the limits; no Go and no memory. -/
namespace Go.Proofs.YtcphclpekllcoaaGreatDoor.Nt
open Go.Lib

/-- The least common multiple of 1 to 64. -/
def lam : Nat := 1182266884102822267511361600
theorem lam_dvd : ∀ n : Nat, n < 65 → 0 < n → n ∣ lam := by decide
theorem lam_pos : lam ≠ 0 := by decide

/-- A sum of at most b shares. -/
def Over (q : Rat) (b : Nat) : Prop := ∃ a : Nat, q = mkRat a lam ∧ a ≤ b * lam

theorem Over.zero : Over 0 0 := ⟨0, by simp, by simp⟩
theorem Over.add {q r : Rat} {b c : Nat} (h : Over q b) (h' : Over r c) : Over (q + r) (b + c) := by
  obtain ⟨x, rfl, hx⟩ := h
  obtain ⟨y, rfl, hy⟩ := h'
  refine ⟨x + y, ?_, by rw [Nat.add_mul]; omega⟩
  rw [Rat.mkRat_add_mkRat _ _ lam_pos lam_pos]
  have e : ((x : Int) * lam + y * lam) = ((x + y : Nat) : Int) * lam := by rw [Int.natCast_add, Int.add_mul]
  rw [e]
  exact Rat.mkRat_mul_right lam_pos
theorem Over.share {n : Nat} (h0 : 0 < n) (h : n < 65) : Over (mkRat 1 n) 1 := by
  obtain ⟨k, hk⟩ := lam_dvd n h h0
  refine ⟨k, ?_, ?_⟩
  · rw [hk]
    have hk0 : k ≠ 0 := by rintro rfl; exact lam_pos (by rw [hk]; simp)
    have := Rat.mkRat_mul_right (n := 1) (d := n) (a := k) hk0
    rw [Int.one_mul] at this
    exact this.symm
  · rw [hk, Nat.one_mul]; exact Nat.le_mul_of_pos_left k h0

theorem Over.den {q : Rat} {b : Nat} (h : Over q b) : q.den ≤ lam := by
  obtain ⟨a, rfl, _⟩ := h
  exact Nat.le_of_dvd (Nat.pos_of_ne_zero lam_pos) (Rat.den_mkRat _ _ ▸ by
    rw [if_neg lam_pos]; exact Nat.div_dvd_of_dvd (Nat.gcd_dvd_left _ _))
theorem Over.num {q : Rat} {b : Nat} (h : Over q b) : nu q ≤ b * lam ∧ ng q = false := by
  obtain ⟨a, rfl, ha⟩ := h
  have hn : (mkRat (a : Int) lam).num = ((a / Nat.gcd a lam : Nat) : Int) := by
    rw [Rat.num_mkRat, if_neg lam_pos, Nat.gcd_comm a lam]; simp
  refine ⟨?_, ?_⟩
  · unfold nu; rw [hn]
    exact Nat.le_trans (Nat.div_le_self _ _) ha
  · unfold ng; rw [hn]; exact decide_eq_false (Int.not_lt.2 (Int.natCast_nonneg _))

theorem dig_small {n : Nat} (h : n < 10 ^ 100) : dig1000 n = true := by
  unfold dig1000
  rw [decide_eq_true_eq]
  exact nDigits_of 100 (Nat.le_of_lt h) (by decide)

theorem Over.fits {q r : Rat} {b c : Nat} (h : Over q b) (h' : Over r c) (hb : b ≤ 1000) (hc : c ≤ 1000) : addFits q r = true := by
  have m1 : nu q * r.den ≤ 1000 * lam * lam := Nat.mul_le_mul (Nat.le_trans h.num.1 (Nat.mul_le_mul_right _ hb)) h'.den
  have m2 : nu r * q.den ≤ 1000 * lam * lam := Nat.mul_le_mul (Nat.le_trans h'.num.1 (Nat.mul_le_mul_right _ hc)) h.den
  have m3 : q.den * r.den ≤ lam * lam := Nat.mul_le_mul h.den h'.den
  have e1 : 1000 * lam * lam + 1000 * lam * lam < 10 ^ 100 := by decide
  have e2 : lam * lam < 10 ^ 100 := by decide
  unfold addFits
  rw [dig_small (Nat.lt_of_le_of_lt m1 (by omega)), dig_small (Nat.lt_of_le_of_lt m2 (by omega)), dig_small (Nat.lt_of_le_of_lt m3 e2), dig_small (n := nu q * r.den + nu r * q.den) (by omega)]
  simp
theorem Over.fit {q : Rat} {b : Nat} (h : Over q b) (hb : b ≤ 1000) : fitR q = true := by
  have e1 : 1000 * lam < 10 ^ 100 := by decide
  have m := Nat.le_trans h.num.1 (Nat.mul_le_mul_right lam hb)
  have d := h.den
  have e2 : lam < 10 ^ 100 := by decide
  have x := dig_small (n := nu q) (by omega)
  have y := dig_small (n := q.den) (by omega)
  unfold dig1000 at x y
  unfold fitR
  unfold nu at x
  rw [x, y]; rfl
end Go.Proofs.YtcphclpekllcoaaGreatDoor.Nt


/- Plain lemmas: how the costs of payments are divided; no Go and no memory. -/
namespace Go.Proofs.YtcphclpekllcoaaGreatDoor.Nt

/-- A list of different numbers. -/
def ddp : List Int → List Int
  | [] => []
  | x :: t => if x ∈ t then ddp t else x :: ddp t
theorem mem_ddp (l : List Int) (p : Int) : p ∈ ddp l ↔ p ∈ l := by
  induction l with
  | nil => simp [ddp]
  | cons x t ih =>
    unfold ddp
    by_cases h : x ∈ t
    · rw [if_pos h, ih]
      constructor
      · exact List.mem_cons_of_mem _
      · intro hp
        rcases List.mem_cons.1 hp with rfl | hp
        · exact h
        · exact hp
    · rw [if_neg h, List.mem_cons, List.mem_cons, ih]
theorem nodup_ddp (l : List Int) : (ddp l).Nodup := by
  induction l with
  | nil => simp [ddp]
  | cons x t ih =>
    unfold ddp
    by_cases h : x ∈ t
    · rw [if_pos h]; exact ih
    · rw [if_neg h, List.nodup_cons]; exact ⟨fun hx => h ((mem_ddp t x).1 hx), ih⟩

/-- Lists of different numbers with the same members have the same length. -/
theorem len_of_mem {l m : List Int} (hl : l.Nodup) (hm : m.Nodup) (h : ∀ p, p ∈ l ↔ p ∈ m) : l.length = m.length :=
  ((List.perm_ext_iff_of_nodup hl hm).2 h).length_eq

def rsum (l : List Rat) : Rat := l.foldr (· + ·) 0
theorem rsum_nil : rsum [] = 0 := rfl
theorem rsum_cons (x : Rat) (l : List Rat) : rsum (x :: l) = x + rsum l := rfl
theorem rsum_append (a b : List Rat) : rsum (a ++ b) = rsum a + rsum b := by
  induction a with
  | nil => rw [List.nil_append, rsum_nil, Rat.zero_add]
  | cons x a ih => rw [List.cons_append, rsum_cons, rsum_cons, ih, Rat.add_assoc]
theorem rsum_snoc (a : List Rat) (x : Rat) : rsum (a ++ [x]) = rsum a + x := by
  rw [rsum_append, rsum_cons, rsum_nil, Rat.add_zero]
theorem rsum_perm {a b : List Rat} (h : a.Perm b) : rsum a = rsum b := by
  induction h with
  | nil => rfl
  | cons x _ ih => rw [rsum_cons, rsum_cons, ih]
  | swap x y l => simp only [rsum_cons]; rw [← Rat.add_assoc, ← Rat.add_assoc, Rat.add_comm y x]
  | trans _ _ h1 h2 => exact h1.trans h2
theorem rsum_zero {l : List Rat} (h : ∀ x ∈ l, x = 0) : rsum l = 0 := by
  induction l with
  | nil => rfl
  | cons x l ih => rw [rsum_cons, h x (by simp), ih (fun y hy => h y (List.mem_cons_of_mem _ hy)), Rat.zero_add]
theorem rsum_filter {α : Type} (f : α → Rat) (P : α → Bool) (l : List α) (h : ∀ x ∈ l, P x = false → f x = 0) : rsum ((l.filter P).map f) = rsum (l.map f) := by
  induction l with
  | nil => rfl
  | cons x l ih =>
    have ih := ih (fun y hy => h y (List.mem_cons_of_mem _ hy))
    cases hx : P x with
    | true => rw [List.filter_cons_of_pos hx, List.map_cons, List.map_cons, rsum_cons, rsum_cons, ih]
    | false => rw [List.filter_cons_of_neg (by rw [hx]; decide), List.map_cons, rsum_cons, h x (by simp) hx, Rat.zero_add, ih]
/-- A sum over different numbers below n is the sum over all, if the others bear nothing. -/
theorem rsum_range {K : List Nat} {n : Nat} (f : Nat → Rat) (hn : K.Nodup) (hlt : ∀ k ∈ K, k < n) (h0 : ∀ k, k < n → k ∉ K → f k = 0) : rsum (K.map f) = rsum ((List.range n).map f) := by
  rw [← rsum_filter f (fun k => decide (k ∈ K)) (List.range n) (fun k hk hP => h0 k (List.mem_range.1 hk) (by simpa using hP))]
  refine rsum_perm (List.Perm.map f ?_)
  refine (List.perm_ext_iff_of_nodup hn (List.nodup_range.filter _)).2 fun k => ?_
  rw [List.mem_filter, List.mem_range, decide_eq_true_eq]
  exact ⟨fun h => ⟨hlt k h, h⟩, fun h => h.2⟩

theorem nodup_map_on {α β : Type} {f : α → β} {l : List α} (h : ∀ a ∈ l, ∀ b ∈ l, f a = f b → a = b) (hn : l.Nodup) : (l.map f).Nodup := by
  induction l with
  | nil => simp
  | cons x l ih =>
    rw [List.nodup_cons] at hn
    rw [List.map_cons, List.nodup_cons]
    refine ⟨fun hx => ?_, ih (fun a ha b hb => h a (List.mem_cons_of_mem _ ha) b (List.mem_cons_of_mem _ hb)) hn.2⟩
    obtain ⟨y, h1, h2⟩ := List.mem_map.1 hx
    have := h y (List.mem_cons_of_mem _ h1) x (by simp) h2
    exact hn.1 (this ▸ h1)

/-- The different programmes whose debts a payment settles. -/
def progs (ds : List Deb) (ps : List Pay) (t : Int) (k : Int) : List Int := ddp ((ds.filter fun d => decide (settle1 ps t d = k)).map Deb.pr)
/-- What a programme bears of a payment that these share. -/
def part (l : List Int) (p : Int) : Rat := if p ∈ l then mkRat 1 l.length else 0
def splitR (ds : List Deb) (ps : List Pay) (t : Int) (p : Int) : Rat := rsum ((List.range ps.length).map fun (k : Nat) => part (progs ds ps t (k : Int)) p)
def splitOk (ds : List Deb) (ps : List Pay) (t n : Int) : Bool := allOk ds ps t && win n 1 64 && ds.all fun d => decide (d.pr < n)
def split (ds : List Deb) (ps : List Pay) (t n : Int) : List RS × Int :=
  if splitOk ds ps t n then ((List.range n.toNat).map fun (p : Nat) => rs (splitR ds ps t (p : Int)), 0) else ([], 1)

theorem mem_progs (ds : List Deb) (ps : List Pay) (t k p : Int) : p ∈ progs ds ps t k ↔ ∃ d ∈ ds, settle1 ps t d = k ∧ d.pr = p := by
  unfold progs
  rw [mem_ddp, List.mem_map]
  constructor
  · rintro ⟨d, hd, rfl⟩
    rw [List.mem_filter, decide_eq_true_eq] at hd
    exact ⟨d, hd.1, hd.2, rfl⟩
  · rintro ⟨d, h1, h2, rfl⟩
    exact ⟨d, by rw [List.mem_filter, decide_eq_true_eq]; exact ⟨h1, h2⟩, rfl⟩

theorem part_eq {l m : List Int} (hl : l.Nodup) (hm : m.Nodup) (h : ∀ p, p ∈ l ↔ p ∈ m) (p : Int) : part l p = part m p := by
  unfold part
  rw [len_of_mem hl hm h]
  by_cases hp : p ∈ l
  · rw [if_pos hp, if_pos ((h p).1 hp)]
  · rw [if_neg hp, if_neg (fun e => hp ((h p).2 e))]

/-- What the map of sharers says: keys, each with its programmes, none twice. -/
structure Shares (ds : List Deb) (ps : List Pay) (t : Int) (A : List (Int × List Int)) : Prop where
  keys : (A.map (·.1)).Nodup
  pos : ∀ x ∈ A, 0 ≤ x.1
  nd : ∀ x ∈ A, x.2.Nodup
  mem : ∀ x ∈ A, ∀ p, p ∈ x.2 ↔ ∃ d ∈ ds, settle1 ps t d = x.1 ∧ d.pr = p
  all : ∀ d ∈ ds, 0 ≤ settle1 ps t d → ∃ x ∈ A, x.1 = settle1 ps t d
  ne : ∀ x ∈ A, x.2 ≠ []

theorem Shares.nil (ps : List Pay) (t : Int) : Shares [] ps t [] := ⟨by simp, by simp, by simp, by simp, by simp, by simp⟩

theorem settle1_form (ps : List Pay) (t : Int) (d : Deb) : settle1 ps t d = -1 ∨ ∃ j : Nat, j < ps.length ∧ settle1 ps t d = (j : Int) := foldl_form d ps t _ _ (.inl rfl)

/-- A programme is among those of an entry: nobody is added twice. -/
def addp (l : List Int) (p : Int) : List Int := if p ∈ l then l else l ++ [p]
theorem mem_addp (l : List Int) (p q : Int) : q ∈ addp l p ↔ q ∈ l ∨ q = p := by
  unfold addp
  by_cases h : p ∈ l
  · rw [if_pos h]; exact ⟨.inl, fun hq => hq.elim id (fun e => e ▸ h)⟩
  · rw [if_neg h]; simp
theorem nodup_addp {l : List Int} (h : l.Nodup) (p : Int) : (addp l p).Nodup := by
  unfold addp
  by_cases hp : p ∈ l
  · rw [if_pos hp]; exact h
  · rw [if_neg hp, List.nodup_append]
    exact ⟨h, by simp, fun a ha b hb e => hp (by simp at hb; rw [← hb, ← e]; exact ha)⟩

/-- A debt that nothing settles changes nothing. -/
theorem Shares.skip {ds : List Deb} {ps : List Pay} {t : Int} {A : List (Int × List Int)} (h : Shares ds ps t A) {d : Deb} (hd : settle1 ps t d < 0) : Shares (ds ++ [d]) ps t A where
  keys := h.keys
  pos := h.pos
  nd := h.nd
  ne := h.ne
  mem x hx p := by
    rw [h.mem x hx p]
    constructor
    · rintro ⟨e, h1, h2⟩; exact ⟨e, List.mem_append_left _ h1, h2⟩
    · rintro ⟨e, h1, h2, h3⟩
      rcases List.mem_append.1 h1 with h1 | h1
      · exact ⟨e, h1, h2, h3⟩
      · rw [List.mem_singleton] at h1
        subst h1
        have := h.pos x hx
        omega
  all e he h0 := by
    rcases List.mem_append.1 he with h1 | h1
    · exact h.all e h1 h0
    · rw [List.mem_singleton] at h1; subst h1; omega

/-- A debt whose payment has its entry. -/
theorem Shares.old {ds : List Deb} {ps : List Pay} {t : Int} {A : List (Int × List Int)} (h : Shares ds ps t A) {d : Deb} {i : Nat} {l : List Int} (hi : A[i]? = some (settle1 ps t d, l)) :
    Shares (ds ++ [d]) ps t (A.set i (settle1 ps t d, addp l d.pr)) := by
  have hil : i < A.length := (List.getElem?_eq_some_iff.1 hi).1
  have hmem : (settle1 ps t d, l) ∈ A := List.mem_of_getElem? hi
  have hk : (A.set i (settle1 ps t d, addp l d.pr)).map (·.1) = A.map (·.1) := by
    rw [List.map_set]
    refine List.ext_getElem? fun j => ?_
    rw [List.getElem?_set]
    split
    · rename_i e
      subst e
      rw [List.length_map, if_pos hil, List.getElem?_map, hi]; rfl
    · rfl
  have hx : ∀ x ∈ A.set i (settle1 ps t d, addp l d.pr), x = (settle1 ps t d, addp l d.pr) ∨ (x ∈ A ∧ x.1 ≠ settle1 ps t d) := by
    intro x hx
    obtain ⟨j, hj⟩ := List.mem_iff_getElem?.1 hx
    rw [List.getElem?_set] at hj
    split at hj
    · exact .inl (by first | exact (Option.some.inj hj).symm | (rw [if_pos hil] at hj; exact (Option.some.inj hj).symm))
    · rename_i e
      refine .inr ⟨List.mem_of_getElem? hj, fun e2 => e ?_⟩
      have a1 : (A.map (·.1))[i]? = some (settle1 ps t d) := by rw [List.getElem?_map, hi]; rfl
      have a2 : (A.map (·.1))[j]? = some (settle1 ps t d) := by rw [List.getElem?_map, hj, ← e2]; rfl
      exact (List.getElem?_inj (by rw [List.length_map]; exact hil) h.keys).1 (a1.trans a2.symm)
  refine ⟨by rw [hk]; exact h.keys, ?_, ?_, ?_, ?_, ?_⟩
  · intro x hxm
    rcases hx x hxm with rfl | ⟨h1, _⟩
    · exact h.pos (settle1 ps t d, l) hmem
    · exact h.pos x h1
  · intro x hxm
    rcases hx x hxm with rfl | ⟨h1, _⟩
    · exact nodup_addp (h.nd _ hmem) _
    · exact h.nd x h1
  · intro x hxm p
    rcases hx x hxm with rfl | ⟨h1, h2⟩
    · show p ∈ addp l d.pr ↔ _
      rw [mem_addp, h.mem _ hmem p]
      constructor
      · rintro (⟨e, a, b, c⟩ | rfl)
        · exact ⟨e, List.mem_append_left _ a, b, c⟩
        · exact ⟨d, by simp, rfl, rfl⟩
      · rintro ⟨e, a, b, c⟩
        rcases List.mem_append.1 a with a | a
        · exact .inl ⟨e, a, b, c⟩
        · rw [List.mem_singleton] at a; subst a; exact .inr c.symm
    · rw [h.mem x h1 p]
      constructor
      · rintro ⟨e, a, b⟩; exact ⟨e, List.mem_append_left _ a, b⟩
      · rintro ⟨e, a, b, c⟩
        rcases List.mem_append.1 a with a | a
        · exact ⟨e, a, b, c⟩
        · rw [List.mem_singleton] at a; subst a; exact absurd b.symm h2
  · intro e he h0
    rcases List.mem_append.1 he with h1 | h1
    · obtain ⟨x, h2, h3⟩ := h.all e h1 h0
      by_cases hxe : x.1 = settle1 ps t d
      · exact ⟨_, List.mem_of_getElem? (i := i) (by rw [List.getElem?_set_self hil]), by rw [← h3, hxe]⟩
      · obtain ⟨j, hj⟩ := List.mem_iff_getElem?.1 h2
        refine ⟨x, List.mem_of_getElem? (i := j) ?_, h3⟩
        rw [List.getElem?_set_ne]
        · exact hj
        · rintro rfl
          rw [hi] at hj
          exact hxe (by rw [← Option.some.inj hj])
    · rw [List.mem_singleton] at h1; subst h1
      exact ⟨_, List.mem_of_getElem? (i := i) (by rw [List.getElem?_set_self hil]), rfl⟩
  · intro x hxm
    rcases hx x hxm with rfl | ⟨h1, _⟩
    · intro e
      have : d.pr ∈ addp l d.pr := (mem_addp l _ _).2 (.inr rfl)
      rw [show addp l d.pr = [] from e] at this
      simp at this
    · exact h.ne x h1

/-- A debt whose payment has no entry yet. -/
theorem Shares.new {ds : List Deb} {ps : List Pay} {t : Int} {A : List (Int × List Int)} (h : Shares ds ps t A) {d : Deb} (h0 : 0 ≤ settle1 ps t d) (hi : ∀ x ∈ A, x.1 ≠ settle1 ps t d) :
    Shares (ds ++ [d]) ps t (A ++ [(settle1 ps t d, [d.pr])]) := by
  have hno : ∀ e ∈ ds, settle1 ps t e ≠ settle1 ps t d := fun e he hee => by
    obtain ⟨x, h1, h2⟩ := h.all e he (by omega)
    exact hi x h1 (by omega)
  refine ⟨?_, ?_, ?_, ?_, ?_, ?_⟩
  · rw [List.map_append, List.nodup_append]
    refine ⟨h.keys, by simp, fun a ha b hb e => ?_⟩
    obtain ⟨x, h1, rfl⟩ := List.mem_map.1 ha
    simp at hb
    exact hi x h1 (by omega)
  · intro x hx
    rcases List.mem_append.1 hx with hx | hx
    · exact h.pos x hx
    · rw [List.mem_singleton] at hx; subst hx; exact h0
  · intro x hx
    rcases List.mem_append.1 hx with hx | hx
    · exact h.nd x hx
    · rw [List.mem_singleton] at hx; subst hx; simp
  · intro x hx p
    rcases List.mem_append.1 hx with hx | hx
    · rw [h.mem x hx p]
      constructor
      · rintro ⟨e, a, b⟩; exact ⟨e, List.mem_append_left _ a, b⟩
      · rintro ⟨e, a, b, c⟩
        rcases List.mem_append.1 a with a | a
        · exact ⟨e, a, b, c⟩
        · rw [List.mem_singleton] at a; rw [a] at b; exact absurd b.symm (hi x hx)
    · rw [List.mem_singleton] at hx; subst hx
      show p ∈ [d.pr] ↔ _
      rw [List.mem_singleton]
      constructor
      · rintro rfl; exact ⟨d, by simp, rfl, rfl⟩
      · rintro ⟨e, a, b, c⟩
        rcases List.mem_append.1 a with a | a
        · exact absurd b (hno e a)
        · rw [List.mem_singleton] at a; subst a; exact c.symm
  · intro e he h1
    rcases List.mem_append.1 he with h2 | h2
    · obtain ⟨x, h3, h4⟩ := h.all e h2 h1
      exact ⟨x, List.mem_append_left _ h3, h4⟩
    · rw [List.mem_singleton] at h2; subst h2
      exact ⟨_, List.mem_append_right _ (List.mem_singleton.2 rfl), rfl⟩
  · intro x hx
    rcases List.mem_append.1 hx with hx | hx
    · exact h.ne x hx
    · rw [List.mem_singleton] at hx; subst hx; simp

/-- The sum over the entries, in whatever order, is the cost. -/
theorem Shares.sum {ds : List Deb} {ps : List Pay} {t : Int} {A : List (Int × List Int)} (h : Shares ds ps t A) (p : Int) : rsum (A.map fun x => part x.2 p) = splitR ds ps t p := by
  have hk0 : ∀ x ∈ A, ∃ j : Nat, j < ps.length ∧ x.1 = (j : Int) ∨ x.2 = [] := fun x hx => by
    cases hl : x.2 with
    | nil => exact ⟨0, .inr rfl⟩
    | cons q l =>
      obtain ⟨d, h1, h2, h3⟩ := (h.mem x hx q).1 (by rw [hl]; simp)
      rcases settle1_form ps t d with h4 | ⟨j, h4, h5⟩
      · have := h.pos x hx; omega
      · exact ⟨j, .inl ⟨h4, by omega⟩⟩
  have hpart : ∀ x ∈ A, part x.2 p = part (progs ds ps t x.1) p := fun x hx =>
    part_eq (h.nd x hx) (nodup_ddp _) (fun q => (h.mem x hx q).trans (mem_progs ds ps t x.1 q).symm) p
  have e1 : A.map (fun x => part x.2 p) = (A.map (·.1)).map fun k => part (progs ds ps t k) p := by
    rw [List.map_map]; exact List.map_congr_left hpart
  have e2 : ((A.map (·.1)).filter fun k => decide (k.toNat < ps.length)).map (fun k => part (progs ds ps t k) p) = (((A.map (·.1)).filter fun k => decide (k.toNat < ps.length)).map Int.toNat).map fun k : Nat => part (progs ds ps t (k : Int)) p := by
    rw [List.map_map]
    refine List.map_congr_left fun k hk => ?_
    obtain ⟨x, h1, rfl⟩ := List.mem_map.1 (List.mem_filter.1 hk).1
    have := h.pos x h1
    show part (progs ds ps t x.1) p = part (progs ds ps t ((x.1.toNat : Nat) : Int)) p
    rw [Int.toNat_of_nonneg this]
  have e3 : rsum ((A.map (·.1)).map fun k => part (progs ds ps t k) p) = rsum (((A.map (·.1)).filter fun k => decide (k.toNat < ps.length)).map fun k => part (progs ds ps t k) p) := by
    refine (rsum_filter _ _ _ fun k hk hP => ?_).symm
    obtain ⟨x, h1, rfl⟩ := List.mem_map.1 hk
    rw [← hpart x h1]
    obtain ⟨j, hj | hj⟩ := hk0 x h1
    · exfalso; have : x.1.toNat = j := by omega
      simp at hP; omega
    · unfold part; rw [hj]; simp
  rw [e1, e3, e2]
  unfold splitR
  refine rsum_range (fun k : Nat => part (progs ds ps t (k : Int)) p) ?_ ?_ ?_
  · refine nodup_map_on ?_ (h.keys.filter _)
    intro a ha b hb e
    obtain ⟨x, h1, rfl⟩ := List.mem_map.1 (List.mem_filter.1 ha).1
    obtain ⟨y, h2, rfl⟩ := List.mem_map.1 (List.mem_filter.1 hb).1
    have := h.pos x h1
    have := h.pos y h2
    omega
  · intro k hk
    obtain ⟨z, h1, rfl⟩ := List.mem_map.1 hk
    simpa using (List.mem_filter.1 h1).2
  · intro k hk hno
    unfold part
    rw [if_neg]
    intro hp
    obtain ⟨d, h1, h2, h3⟩ := (mem_progs ds ps t k p).1 hp
    obtain ⟨x, h4, h5⟩ := h.all d h1 (by omega)
    refine hno (List.mem_map.2 ⟨x.1, List.mem_filter.2 ⟨List.mem_map.2 ⟨x, h4, rfl⟩, by simp; omega⟩, by omega⟩)

theorem Shares.len {ds : List Deb} {ps : List Pay} {t : Int} {A : List (Int × List Int)} (h : Shares ds ps t A) : A.length ≤ ps.length := by
  have hn : ((A.map (·.1)).map Int.toNat).Nodup := nodup_map_on (fun a ha b hb e => by
    obtain ⟨x, h1, rfl⟩ := List.mem_map.1 ha
    obtain ⟨y, h2, rfl⟩ := List.mem_map.1 hb
    have := h.pos x h1
    have := h.pos y h2
    omega) h.keys
  have hs : (A.map (·.1)).map Int.toNat ⊆ List.range ps.length := fun k hk => by
    obtain ⟨z, h1, rfl⟩ := List.mem_map.1 hk
    obtain ⟨x, h2, rfl⟩ := List.mem_map.1 h1
    cases hl : x.2 with
    | nil => exact absurd hl (h.ne x h2)
    | cons q l =>
      obtain ⟨d, h3, h4, h5⟩ := (h.mem x h2 q).1 (by rw [hl]; simp)
      rw [List.mem_range]
      rcases settle1_form ps t d with h6 | ⟨j, h6, h7⟩
      · have := h.pos x h2; omega
      · omega
  have := hn.length_le_of_subset hs
  simpa using this
/-- At most 64 programmes share a payment, and one at least. -/
theorem Shares.few {ds : List Deb} {ps : List Pay} {t : Int} {A : List (Int × List Int)} (h : Shares ds ps t A) {m : Nat} (hm : m ≤ 64) (hd : ∀ d ∈ ds, 0 ≤ d.pr ∧ d.pr < m) {x : Int × List Int} (hx : x ∈ A) :
    0 < x.2.length ∧ x.2.length < 65 ∧ ∀ p ∈ x.2, 0 ≤ p ∧ p < m := by
  have hp : ∀ p ∈ x.2, 0 ≤ p ∧ p < m := fun p hp => by
    obtain ⟨d, h1, _, h3⟩ := (h.mem x hx p).1 hp
    have := hd d h1
    omega
  refine ⟨List.length_pos_iff.2 (h.ne x hx), ?_, hp⟩
  have hn : (x.2.map Int.toNat).Nodup := nodup_map_on (fun a ha b hb e => by
    have := hp a ha
    have := hp b hb
    omega) (h.nd x hx)
  have hs : x.2.map Int.toNat ⊆ List.range m := fun k hk => by
    obtain ⟨z, h1, rfl⟩ := List.mem_map.1 hk
    have := hp z h1
    rw [List.mem_range]; omega
  have := hn.length_le_of_subset hs
  simp at this; omega

/-! ### the state of the sums -/
def stt (m : Nat) (F : Int → Rat) : List RS := (List.range m).map fun (p : Nat) => rs (F (p : Int))
theorem stt_length (m : Nat) (F : Int → Rat) : (stt m F).length = m := by simp [stt]
theorem stt_at {m q : Nat} (F : Int → Rat) (h : q < m) : (stt m F)[q]? = some (rs (F (q : Int))) := by
  unfold stt
  rw [List.getElem?_map, List.getElem?_range h]; rfl
theorem stt_set {m q : Nat} (F : Int → Rat) (x : Rat) : (stt m F).set q (rs x) = stt m fun p => if p = (q : Int) then x else F p := by
  refine List.ext_getElem? fun i => ?_
  rw [List.getElem?_set]
  by_cases hi : i < m
  · rw [stt_at _ hi]
    by_cases e : q = i
    · subst e; rw [if_pos rfl, if_pos (by rw [stt_length]; exact hi), stt_at _ hi, if_pos rfl]
    · rw [if_neg e, stt_at _ hi, if_neg (by omega)]
  · rw [List.getElem?_eq_none (l := stt m fun p => if p = (q : Int) then x else F p) (by rw [stt_length]; omega)]
    split
    · rw [if_neg (by rw [stt_length]; omega)]
    · rw [List.getElem?_eq_none (by rw [stt_length]; omega)]
theorem stt_congr {m : Nat} {F G : Int → Rat} (h : ∀ p, F p = G p) : stt m F = stt m G := by
  rw [show F = G from funext h]

theorem Over.mono {q : Rat} {b c : Nat} (h : Over q b) (hb : b ≤ c) : Over q c := by
  obtain ⟨a, rfl, ha⟩ := h
  exact ⟨a, rfl, Nat.le_trans ha (Nat.mul_le_mul_right _ hb)⟩
theorem rAdd_over {a c : Rat} {b d : Nat} (ha : Over a b) (hc : Over c d) (hb : b ≤ 1000) (hd : d ≤ 1000) : rAdd (rs a) (rs c) = (rs (a + c), 0) := by
  unfold rAdd
  rw [rat?_rs a (ha.fit hb), rat?_rs c (hc.fit hd)]
  dsimp only
  rw [if_pos (ha.fits hc hb hd)]

def lst (B : List (Int × List Int)) (i : Nat) : List Int := ((B[i]?).map (·.2)).getD []
/-- What a programme bears of the entries s. -/
def F1 (B : List (Int × List Int)) (s : List Nat) (p : Int) : Rat := rsum (s.map fun i => part (lst B i) p)
/-- .. and of those programmes s2 of one entry more. -/
def F2 (B : List (Int × List Int)) (s : List Nat) (l : List Int) (s2 : List Nat) (p : Int) : Rat := F1 B s p + if some p ∈ s2.map (fun j => l[j]?) then mkRat 1 l.length else 0
theorem F2_start (B : List (Int × List Int)) (s : List Nat) (l : List Int) (p : Int) : F2 B s l [] p = F1 B s p := by
  unfold F2; simp [Rat.add_zero]
theorem F2_new {B : List (Int × List Int)} {s s2 : List Nat} {l : List Int} {j : Nat} {q : Int} (hl : l.Nodup) (hj : j ∉ s2) (hq : l[j]? = some q) : F2 B s l s2 q = F1 B s q := by
  unfold F2
  rw [if_neg, Rat.add_zero]
  intro h
  obtain ⟨i, h1, h2⟩ := List.mem_map.1 h
  have hjl := (List.getElem?_eq_some_iff.1 hq).1
  have := (List.getElem?_inj hjl hl).1 (hq.trans h2.symm)
  exact hj (this ▸ h1)
theorem F2_step {B : List (Int × List Int)} {s s2 : List Nat} {l : List Int} {j : Nat} {q : Int} (hq : l[j]? = some q) (p : Int) :
    F2 B s l (s2 ++ [j]) p = if p = q then F1 B s q + mkRat 1 l.length else F2 B s l s2 p := by
  unfold F2
  rw [List.map_append, List.map_cons, List.map_nil, hq]
  by_cases e : p = q
  · subst e; rw [if_pos rfl, if_pos (by simp)]
  · rw [if_neg e]
    have : (some p ∈ s2.map (fun j => l[j]?) ++ [some q]) ↔ some p ∈ s2.map (fun j => l[j]?) := by simp [e]
    by_cases h : some p ∈ s2.map (fun j => l[j]?)
    · rw [if_pos h, if_pos (this.2 h)]
    · rw [if_neg h, if_neg (fun h' => h (this.1 h'))]
theorem F2_end {B : List (Int × List Int)} {s s2 : List Nat} {l : List Int} {i : Nat} (hl : lst B i = l) (hall : ∀ j, j < l.length → j ∈ s2) (p : Int) : F2 B s l s2 p = F1 B (s ++ [i]) p := by
  unfold F2 F1
  rw [List.map_append, rsum_append, List.map_cons, List.map_nil, rsum_cons, rsum_nil, Rat.add_zero, hl]
  congr 1
  unfold part
  by_cases h : p ∈ l
  · obtain ⟨j, hj⟩ := List.mem_iff_getElem?.1 h
    rw [if_pos h, if_pos (List.mem_map.2 ⟨j, hall j (List.getElem?_eq_some_iff.1 hj).1, hj⟩)]
  · rw [if_neg h, if_neg]
    intro h'
    obtain ⟨j, _, hj⟩ := List.mem_map.1 h'
    exact h (List.mem_of_getElem? hj)
theorem part_over {l : List Int} (h0 : 0 < l.length) (h : l.length < 65) (p : Int) : Over (part l p) 1 := by
  unfold part
  split
  · exact Over.share h0 h
  · exact Over.zero.mono (by omega)
theorem F1_over {B : List (Int × List Int)} (hB : ∀ x ∈ B, 0 < x.2.length ∧ x.2.length < 65) {s : List Nat} (hs : ∀ i ∈ s, i < B.length) (p : Int) : Over (F1 B s p) s.length := by
  unfold F1
  induction s with
  | nil => exact Over.zero
  | cons i s ih =>
    have hi := hs i (by simp)
    have e : lst B i = B[i].2 := by unfold lst; rw [List.getElem?_eq_getElem hi]; rfl
    have hb := hB B[i] (List.getElem_mem hi)
    rw [List.map_cons, rsum_cons, List.length_cons, Nat.add_comm]
    exact (by rw [e]; exact part_over hb.1 hb.2 p : Over (part (lst B i) p) 1).add (ih fun j hj => hs j (List.mem_cons_of_mem _ hj))
theorem F1_end {B : List (Int × List Int)} {s : List Nat} (hn : s.Nodup) (hs : ∀ i, i ∈ s ↔ i < B.length) (p : Int) : F1 B s p = rsum (B.map fun x => part x.2 p) := by
  have hp : s.Perm (List.range B.length) := (List.perm_ext_iff_of_nodup hn List.nodup_range).2 fun i => by rw [hs, List.mem_range]
  unfold F1
  rw [rsum_perm (hp.map _)]
  congr 1
  refine List.ext_getElem? fun i => ?_
  rw [List.getElem?_map, List.getElem?_map]
  by_cases h : i < B.length
  · rw [List.getElem?_range h, List.getElem?_eq_getElem h]
    simp [lst, List.getElem?_eq_getElem h]
  · rw [List.getElem?_eq_none (by simp; omega), List.getElem?_eq_none (by omega)]; rfl
end Go.Proofs.YtcphclpekllcoaaGreatDoor.Nt


/- Plain lemmas: the costs as the reference adds them; no Go and no memory. -/
namespace Go.Proofs.YtcphclpekllcoaaGreatDoor.Nt

/-- The programmes among the first i debts that share a payment. -/
def shr (ds : List Deb) (ps : List Pay) (t k : Int) (i : Nat) : List Int := progs (ds.take i) ps t k
theorem shr_nodup (ds : List Deb) (ps : List Pay) (t k : Int) (i : Nat) : (shr ds ps t k i).Nodup := by unfold shr progs; exact nodup_ddp _
theorem shr_zero (ds : List Deb) (ps : List Pay) (t k : Int) : shr ds ps t k 0 = [] := by
  have : ∀ p, ¬ p ∈ shr ds ps t k 0 := fun p h => by
    obtain ⟨d, hd, -⟩ := (mem_progs _ ps t k p).1 h
    simp at hd
  cases h : shr ds ps t k 0 with
  | nil => rfl
  | cons x l => exact absurd (by rw [h]; simp) (this x)
theorem shr_end (ds : List Deb) (ps : List Pay) (t k : Int) : shr ds ps t k ds.length = progs ds ps t k := by unfold shr; rw [List.take_length]
theorem shr_mem_succ {ds : List Deb} {ps : List Pay} {t k : Int} {i : Nat} {d : Deb} (hd : ds[i]? = some d) (p : Int) :
    p ∈ shr ds ps t k (i + 1) ↔ p ∈ shr ds ps t k i ∨ (settle1 ps t d = k ∧ d.pr = p) := by
  have e : ds.take (i + 1) = ds.take i ++ [d] := by rw [List.take_add_one, hd]; rfl
  unfold shr
  rw [mem_progs, mem_progs, e]
  constructor
  · rintro ⟨x, hx, h⟩
    rcases List.mem_append.1 hx with hx | hx
    · exact .inl ⟨x, hx, h⟩
    · simp at hx; subst hx; exact .inr h
  · rintro (⟨x, hx, h⟩ | h)
    · exact ⟨x, List.mem_append_left _ hx, h⟩
    · exact ⟨d, by simp, h⟩
theorem shr_same {ds : List Deb} {ps : List Pay} {t k : Int} {i : Nat} {d : Deb} (hd : ds[i]? = some d) (h : settle1 ps t d = k → d.pr ∈ shr ds ps t k i) :
    (shr ds ps t k (i + 1)).length = (shr ds ps t k i).length ∧ ∀ p, p ∈ shr ds ps t k (i + 1) ↔ p ∈ shr ds ps t k i := by
  have hm : ∀ p, p ∈ shr ds ps t k (i + 1) ↔ p ∈ shr ds ps t k i := fun p => by
    rw [shr_mem_succ hd]
    exact ⟨fun h' => h'.elim id fun ⟨h1, h2⟩ => h2 ▸ h h1, .inl⟩
  exact ⟨len_of_mem (shr_nodup ..) (shr_nodup ..) hm, hm⟩
theorem shr_new {ds : List Deb} {ps : List Pay} {t k : Int} {i : Nat} {d : Deb} (hd : ds[i]? = some d) (h : settle1 ps t d = k) (hn : ¬ d.pr ∈ shr ds ps t k i) :
    (shr ds ps t k (i + 1)).length = (shr ds ps t k i).length + 1 ∧ ∀ p, p ∈ shr ds ps t k (i + 1) ↔ p ∈ shr ds ps t k i ∨ p = d.pr := by
  have hm : ∀ p, p ∈ shr ds ps t k (i + 1) ↔ p ∈ shr ds ps t k i ∨ p = d.pr := fun p => by
    rw [shr_mem_succ hd]
    exact ⟨fun h' => h'.imp id fun h => h.2.symm, fun h' => h'.imp id fun e => ⟨h, e.symm⟩⟩
  refine ⟨?_, hm⟩
  have := len_of_mem (l := shr ds ps t k (i + 1)) (m := d.pr :: shr ds ps t k i) (shr_nodup ..) (List.nodup_cons.2 ⟨hn, shr_nodup ..⟩) (fun p => by rw [hm, List.mem_cons]; exact or_comm)
  simpa using this
theorem shr_len {ds : List Deb} {ps : List Pay} {t k : Int} {q : Nat} (h : ∀ d ∈ ds, 0 ≤ d.pr ∧ d.pr < q) (i : Nat) : (shr ds ps t k i).length ≤ q := by
  have hs : shr ds ps t k i ⊆ (List.range q).map Int.ofNat := fun p hp => by
    obtain ⟨d, hd, -, rfl⟩ := (mem_progs _ ps t k p).1 hp
    have := h d (List.mem_of_mem_take hd)
    exact List.mem_map.2 ⟨d.pr.toNat, List.mem_range.2 (by omega), by simp; omega⟩
  have := (shr_nodup ds ps t k i).length_le_of_subset hs
  simpa using this

/-- What a programme bears of the first K payments. -/
def oS (ds : List Deb) (ps : List Pay) (t : Int) (K : Nat) (p : Int) : Rat := rsum ((List.range K).map fun (k : Nat) => part (progs ds ps t (k : Int)) p)
theorem oS_zero (ds : List Deb) (ps : List Pay) (t p : Int) : oS ds ps t 0 p = 0 := rfl
theorem oS_succ (ds : List Deb) (ps : List Pay) (t : Int) (K : Nat) (p : Int) : oS ds ps t (K + 1) p = oS ds ps t K p + part (progs ds ps t (K : Int)) p := by
  unfold oS
  rw [List.range_succ, List.map_append, List.map_cons, List.map_nil, rsum_snoc]
theorem oS_end (ds : List Deb) (ps : List Pay) (t p : Int) : oS ds ps t ps.length p = splitR ds ps t p := rfl
theorem oS_over {ds : List Deb} {ps : List Pay} {t : Int} {q : Nat} (hq : q ≤ 64) (h : ∀ d ∈ ds, 0 ≤ d.pr ∧ d.pr < q) (K : Nat) (p : Int) : Over (oS ds ps t K p) K := by
  induction K with
  | zero => exact Over.zero
  | succ K ih =>
    rw [oS_succ]
    refine ih.add ?_
    have hl := shr_len (ps := ps) (t := t) (k := (K : Int)) h ds.length
    rw [shr_end] at hl
    by_cases h0 : (progs ds ps t (K : Int)).length = 0
    · rw [List.length_eq_zero_iff.1 h0]
      unfold part; rw [if_neg (by simp)]
      exact Over.zero.mono (by omega)
    · exact part_over (by omega) (by omega) p
theorem part_in {l : List Int} {p : Int} (h : p ∈ l) : part l p = mkRat 1 l.length := by unfold part; rw [if_pos h]
theorem part_out {l : List Int} {p : Int} (h : ¬ p ∈ l) : part l p = 0 := by unfold part; rw [if_neg h]
/-- The row behind p programmes. -/
def oP (ds : List Deb) (ps : List Pay) (t : Int) (K p : Nat) (x : Int) : Rat := if x < p then oS ds ps t (K + 1) x else oS ds ps t K x
theorem oP_zero {m : Nat} (ds : List Deb) (ps : List Pay) (t : Int) (K : Nat) : stt m (oP ds ps t K 0) = stt m (oS ds ps t K) := by
  unfold stt
  refine List.map_congr_left fun x _ => ?_
  unfold oP; rw [if_neg (by omega)]
theorem oP_all {m : Nat} (ds : List Deb) (ps : List Pay) (t : Int) (K : Nat) : stt m (oP ds ps t K m) = stt m (oS ds ps t (K + 1)) := by
  unfold stt
  refine List.map_congr_left fun x hx => ?_
  unfold oP; rw [if_pos (by have := List.mem_range.1 hx; omega)]
theorem oP_same {m : Nat} {ds : List Deb} {ps : List Pay} {t : Int} {K p : Nat} (h : ¬ (p : Int) ∈ progs ds ps t (K : Int)) : stt m (oP ds ps t K (p + 1)) = stt m (oP ds ps t K p) := by
  unfold stt
  refine List.map_congr_left fun x _ => ?_
  unfold oP
  by_cases e : x = p
  · subst e
    rw [if_pos (by omega), if_neg (by omega), oS_succ, part_out h, Rat.add_zero]
  · by_cases hl : (x : Int) < (p : Int)
    · rw [if_pos (by omega), if_pos hl]
    · rw [if_neg (by omega), if_neg hl]
theorem oP_new {m : Nat} {ds : List Deb} {ps : List Pay} {t : Int} {K p : Nat} : stt m (oP ds ps t K (p + 1)) = (stt m (oP ds ps t K p)).set p (rs (oS ds ps t (K + 1) (p : Int))) := by
  rw [stt_set]
  unfold stt
  refine List.map_congr_left fun x _ => ?_
  unfold oP
  dsimp only
  by_cases e : (x : Int) = (p : Int)
  · rw [if_pos e, if_pos (by omega), e]
  · rw [if_neg e]
    by_cases hl : (x : Int) < (p : Int)
    · rw [if_pos (by omega), if_pos hl]
    · rw [if_neg (by omega), if_neg hl]
theorem oP_none {m : Nat} {ds : List Deb} {ps : List Pay} {t : Int} {K : Nat} (h : progs ds ps t (K : Int) = []) : stt m (oS ds ps t (K + 1)) = stt m (oS ds ps t K) := by
  unfold stt
  refine List.map_congr_left fun x _ => ?_
  rw [oS_succ, h, part_out (by simp), Rat.add_zero]
theorem oP_empty {m : Nat} {ds : List Deb} {ps : List Pay} {t : Int} {K p : Nat} (h : progs ds ps t (K : Int) = []) : stt m (oP ds ps t K p) = stt m (oS ds ps t (K + 1)) := by
  unfold stt
  refine List.map_congr_left fun x _ => ?_
  unfold oP
  have e : oS ds ps t (K + 1) (x : Int) = oS ds ps t K (x : Int) := by rw [oS_succ, h, part_out (by simp), Rat.add_zero]
  split
  · rfl
  · rw [e]
theorem oP_at {m : Nat} {ds : List Deb} {ps : List Pay} {t : Int} {K p : Nat} (h : p < m) : (stt m (oP ds ps t K p))[p]? = some (rs (oS ds ps t K (p : Int))) := by
  rw [stt_at _ h]; unfold oP; rw [if_neg (by omega)]
theorem stt_zero (m : Nat) (ds : List Deb) (ps : List Pay) (t : Int) : stt m (oS ds ps t 0) = List.replicate m (rs 0) := by
  unfold stt
  apply List.ext_getElem?
  intro i
  by_cases hi : i < m
  · rw [List.getElem?_map, List.getElem?_range hi, List.getElem?_replicate, if_pos hi]; rfl
  · rw [List.getElem?_eq_none (by simp; omega), List.getElem?_eq_none (by simp; omega)]
end Go.Proofs.YtcphclpekllcoaaGreatDoor.Nt
