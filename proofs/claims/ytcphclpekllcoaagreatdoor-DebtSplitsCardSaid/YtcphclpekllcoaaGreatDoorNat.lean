/- Plain lemmas: decimal strings and natural numbers; no Go and no memory. -/
import Derived.Lib.ItoaNum
namespace Go.Proofs.YtcphclpekllcoaaGreatDoor.Nt
open Go.Lib

def isDg (c : UInt8) : Bool := decide (48 ≤ c.toNat) && decide (c.toNat ≤ 57)
def val (l : List UInt8) : Nat := l.foldl (fun a c => 10 * a + (c.toNat - 48)) 0
def okL (l : List UInt8) : Bool :=
  decide (1 ≤ l.length) && decide (l.length ≤ 1000) && l.all isDg && (decide (l.length = 1) || decide (l.head? ≠ some 48))

theorem isDg_iff (c : UInt8) : isDg c = true ↔ 48 ≤ c.toNat ∧ c.toNat ≤ 57 := by simp [isDg]
theorem val_nil : val [] = 0 := rfl
theorem val_snoc (l : List UInt8) (c : UInt8) : val (l ++ [c]) = 10 * val l + (c.toNat - 48) := by simp [val]
theorem val_foldl (l : List UInt8) : ∀ a, l.foldl (fun a c => 10 * a + (c.toNat - 48)) a = a * 10 ^ l.length + val l := by
  induction l with
  | nil => intro a; simp [val]
  | cons c l ih =>
    intro a
    simp only [List.foldl_cons, val, List.length_cons]
    rw [ih, ih (10 * 0 + (c.toNat - 48)), Nat.pow_succ]
    generalize c.toNat - 48 = d
    generalize 10 ^ l.length = p
    rw [Nat.add_mul, Nat.add_mul]
    have : 10 * a * p = a * (p * 10) := by rw [Nat.mul_comm 10 a, Nat.mul_assoc, Nat.mul_comm 10 p]
    omega
theorem val_append (a b : List UInt8) : val (a ++ b) = val a * 10 ^ b.length + val b := by
  unfold val
  rw [List.foldl_append, val_foldl]
  rfl
theorem val_cons (c : UInt8) (l : List UInt8) : val (c :: l) = (c.toNat - 48) * 10 ^ l.length + val l := by
  have := val_append [c] l
  simpa [val] using this

theorem u8_of (d : Nat) (h : d < 10) : (UInt8.ofNat (48 + d)).toNat = 48 + d := by
  simp [UInt8.toNat_ofNat']; omega

theorem val_dec (n : Nat) : val (decDigits n) = n := by
  induction n using Nat.strongRecOn with
  | _ n ih =>
    rw [decDigits]
    split
    · rename_i h
      simp only [val, List.foldl_cons, List.foldl_nil, u8_of n h]; omega
    · rename_i h
      rw [val_snoc, ih (n / 10) (by omega), u8_of _ (by omega)]; omega

theorem dec_all (n : Nat) : (decDigits n).all isDg = true := by
  induction n using Nat.strongRecOn with
  | _ n ih =>
    rw [decDigits]
    split
    · rename_i h
      simp only [List.all_cons, List.all_nil, Bool.and_true, isDg_iff, u8_of n h]; omega
    · rename_i h
      rw [List.all_append, ih (n / 10) (by omega)]
      simp only [List.all_cons, List.all_nil, Bool.and_true, Bool.true_and, isDg_iff, u8_of _ (show n % 10 < 10 by omega)]; omega

theorem head_app {a : List UInt8} (b : List UInt8) (h : a ≠ []) : (a ++ b).head? = a.head? := by
  cases a with
  | nil => exact absurd rfl h
  | cons c a => rfl

theorem dec_ne_nil (n : Nat) : decDigits n ≠ [] := by
  intro h
  have := decDigits_length n
  rw [h] at this
  have := nDigits_pos n
  simp at *; omega

theorem dec_head (n : Nat) (h0 : 0 < n) : (decDigits n).head? ≠ some 48 := by
  induction n using Nat.strongRecOn with
  | _ n ih =>
    rw [decDigits]
    split
    · rename_i h
      simp only [List.head?_cons, ne_eq, Option.some.injEq]
      intro e
      have := congrArg UInt8.toNat e
      rw [u8_of n h] at this
      simp at this; omega
    · rename_i h
      rw [head_app _ (dec_ne_nil _)]
      exact ih (n / 10) (by omega) (by omega)

theorem p10 (a b : Nat) (h : a < b) : 10 ^ a < 10 ^ b := Nat.pow_lt_pow_right (by decide) h
theorem pow_lt_of {n b : Nat} (a : Nat) (h : n ≤ 10 ^ a) (hab : a < b) : n < 10 ^ b := Nat.lt_of_le_of_lt h (p10 a b hab)
theorem nDigits_le_iff (n k : Nat) (hk : 1 ≤ k) : nDigits n ≤ k ↔ n < 10 ^ k := by
  constructor
  · intro h
    exact Nat.lt_of_lt_of_le (lt_pow_nDigits n) (Nat.pow_le_pow_right (by decide) h)
  · induction k generalizing n with
    | zero => omega
    | succ k ih =>
      intro h
      by_cases h9 : n < 10
      · rw [nDigits_small h9]; omega
      · rw [nDigits_big h9]
        have hk1 : 1 ≤ k := by
          rcases Nat.eq_zero_or_pos k with e | e
          · subst e; simp at h; omega
          · exact e
        have := ih (n / 10) hk1 (by rw [Nat.pow_succ] at h; omega)
        omega

theorem nDigits_of {n b : Nat} (a : Nat) (h : n ≤ 10 ^ a) (hab : a < b) : nDigits n ≤ b := (nDigits_le_iff n b (by omega)).2 (pow_lt_of a h hab)
theorem okL_dec (n : Nat) : okL (decDigits n) = decide (nDigits n ≤ 1000) := by
  unfold okL
  rw [decDigits_length, dec_all]
  have h1 : decide (1 ≤ nDigits n) = true := by simpa using nDigits_pos n
  rw [h1]
  have h2 : (decide (nDigits n = 1) || decide ((decDigits n).head? ≠ some 48)) = true := by
    by_cases h : n = 0
    · subst h; rw [nDigits_small (by omega)]; simp
    · have := dec_head n (by omega)
      simp [this]
  rw [h2]; simp

theorem dec_val_aux (l : List UInt8) (hd : l.all isDg = true) (hh : l.head? ≠ some 48) (hne : l ≠ []) : 1 ≤ val l ∧ decDigits (val l) = l := by
  generalize hn : l.length = n
  induction n generalizing l with
  | zero => simp at hn; exact absurd hn hne
  | succ n ih =>
    obtain ⟨l', c, rfl⟩ : ∃ l' c, l = l' ++ [c] := ⟨l.dropLast, l.getLast hne, (List.dropLast_concat_getLast hne).symm⟩
    simp only [List.all_append, List.all_cons, List.all_nil, Bool.and_true, Bool.and_eq_true, isDg_iff] at hd
    obtain ⟨hd1, hc1, hc2⟩ := hd
    have hc : UInt8.ofNat (48 + (c.toNat - 48)) = c := by
      rw [show 48 + (c.toNat - 48) = c.toNat by omega]; simp
    by_cases he : l' = []
    · subst he
      simp only [List.nil_append, List.head?_cons, ne_eq, Option.some.injEq] at hh
      have hc48 : c.toNat ≠ 48 := fun e => hh (UInt8.toNat_inj.1 (by simpa using e))
      have hv : val ([] ++ [c]) = c.toNat - 48 := by simp [val]
      rw [hv]
      refine ⟨by omega, ?_⟩
      rw [decDigits, dif_pos (by omega), hc]; rfl
    · rw [head_app _ he] at hh
      simp at hn
      obtain ⟨h1, h2⟩ := ih l' hd1 hh he hn
      rw [val_snoc]
      refine ⟨by omega, ?_⟩
      rw [decDigits, dif_neg (by omega), show (10 * val l' + (c.toNat - 48)) / 10 = val l' by omega,
        show (10 * val l' + (c.toNat - 48)) % 10 = c.toNat - 48 by omega, h2, hc]

theorem dec_val (l : List UInt8) (h : okL l = true) : decDigits (val l) = l := by
  simp only [okL, Bool.and_eq_true, decide_eq_true_eq, Bool.or_eq_true] at h
  obtain ⟨⟨⟨h1, h2⟩, h3⟩, h4⟩ := h
  have hne : l ≠ [] := by intro e; subst e; simp at h1
  rcases h4 with h4 | h4
  · match l, h4 with
    | [c], _ =>
      simp only [List.all_cons, List.all_nil, Bool.and_true, isDg_iff] at h3
      rw [show val [c] = c.toNat - 48 by simp [val], decDigits, dif_pos (by omega), show 48 + (c.toNat - 48) = c.toNat by omega]; simp
  · exact (dec_val_aux l h3 h4 hne).2

theorem val_lt (l : List UInt8) (hd : l.all isDg = true) : val l < 10 ^ l.length := by
  generalize hn : l.length = n
  induction n generalizing l with
  | zero => simp at hn; subst hn; simp [val]
  | succ n ih =>
    have hne : l ≠ [] := by intro e; subst e; simp at hn
    obtain ⟨l', c, rfl⟩ : ∃ l' c, l = l' ++ [c] := ⟨l.dropLast, l.getLast hne, (List.dropLast_concat_getLast hne).symm⟩
    simp only [List.all_append, List.all_cons, List.all_nil, Bool.and_true, Bool.and_eq_true, isDg_iff] at hd
    have := ih l' hd.1 (by simpa using hn)
    rw [val_snoc, Nat.pow_succ]; omega

/-! ### strings of numbers -/
def num? (s : ByteArray) : Option Nat := if okL s.data.toList then some (val s.data.toList) else none
def nat2s (n : Nat) : ByteArray := ⟨(decDigits n).toArray⟩

theorem nat2s_list (n : Nat) : (nat2s n).data.toList = decDigits n := by simp [nat2s]
theorem nat2s_size (n : Nat) : (nat2s n).size = nDigits n := by
  rw [← decDigits_length]; simp [nat2s, ByteArray.size]
theorem num?_nat2s (n : Nat) (h : nDigits n ≤ 1000) : num? (nat2s n) = some n := by
  unfold num?
  rw [nat2s_list, okL_dec, val_dec]; simp [h]
theorem num?_nat2s_big (n : Nat) (h : ¬ nDigits n ≤ 1000) : num? (nat2s n) = none := by
  unfold num?
  rw [nat2s_list, okL_dec]; simp [h]
theorem num?_some {s : ByteArray} {n : Nat} (h : num? s = some n) : s = nat2s n ∧ nDigits n ≤ 1000 := by
  unfold num? at h
  split at h
  · rename_i ho
    obtain rfl : val s.data.toList = n := by simpa using h
    have hd := dec_val _ ho
    refine ⟨?_, ?_⟩
    · unfold nat2s; rw [hd]
    · rw [← hd, okL_dec] at ho; simpa using ho
  · simp at h
theorem nat2s_inj {m n : Nat} (h : nat2s m = nat2s n) : m = n := by
  have h' := congrArg (fun s : ByteArray => s.data.toList) h
  simp only [nat2s_list] at h'
  have := congrArg val h'
  rwa [val_dec, val_dec] at this
theorem nat2s_eq_iff (m n : Nat) : nat2s m = nat2s n ↔ m = n := ⟨nat2s_inj, fun h => by rw [h]⟩
theorem num?_nil : num? ByteArray.empty = none := by simp [num?, okL]

end Go.Proofs.YtcphclpekllcoaaGreatDoor.Nt
