/- Walks: the exported functions of package natural: sums, differences, products, quotients, gcd, order. -/
import Derived.Test.YtcphclpekllcoaaGreatDoorWi
namespace Go.Proofs.YtcphclpekllcoaaGreatDoor
open Go.RowKit

/-- A number as a result: its text, or ErrLimit. -/
def nOut (n : Nat) : Array Value := if Lib.nDigits n ≤ 1000 then #[.string (Nt.nat2s n), .int .i64 0] else #[.string ⟨#[]⟩, .int .i64 2]
def nErr (c : Int) : Array Value := #[.string ⟨#[]⟩, .int .i64 c]
/-- A function of two numbers: ErrArg where one is not valid. -/
def spec2 (f : Nat → Nat → Nat) (a b : ByteArray) : Array Value :=
  match Nt.num? a, Nt.num? b with
  | some m, some n => nOut (f m n)
  | _, _ => nErr 1

theorem nOut_two (n : Nat) : ∃ x y, nOut n = #[.string x, .int .i64 y] := by
  unfold nOut; split
  · exact ⟨_, _, rfl⟩
  · exact ⟨_, _, rfl⟩

theorem num_all {s : ByteArray} {n : Nat} (h : Nt.num? s = some n) : s.data.toList.all Nt.isDg = true ∧ s.size ≤ 1000 ∧ Nt.val s.data.toList = n := by
  unfold Nt.num? at h
  split at h
  · rename_i ho
    have hsz : s.data.toList.length = s.size := by rw [Array.length_toList]; rfl
    simp only [Nt.okL, Bool.and_eq_true, decide_eq_true_eq] at ho
    exact ⟨ho.1.2, by rw [← hsz]; exact ho.1.1.2, by simpa using h⟩
  · simp at h

theorem len_of_digits {n k j : Nat} (h : Lib.nDigits n ≤ k) (hk : k ≤ 9 * j) (h1 : 1 ≤ k) : (Nt.limbs n).length ≤ j := by
  rw [Nt.nDigits_le_iff _ _ h1] at h
  rw [Nt.limbs_len_le]
  refine Nat.lt_of_lt_of_le h ?_
  rw [show (1000000000 : Nat) = 10 ^ 9 from rfl, ← Nat.pow_mul]
  exact Nat.pow_le_pow_right (by decide) hk

theorem num_len {s : ByteArray} {n : Nat} (h : Nt.num? s = some n) : (Nt.limbs n).length ≤ 112 :=
  len_of_digits (Nt.num?_some h).2 (by decide) (by decide)

theorem readN (s : ByteArray) (n : Nat) (w : World) (h : Nt.num? s = some n) :
    Calls Tryz.prog 65 #[.string s] w fun e w' => ∃ v, e = .returned v ∧ LB w' v (Nt.limbs n) ∧ Below w.heap.size w w' := by
  obtain ⟨h1, h2, h3⟩ := num_all h
  have := read_any s w h1 h2
  rwa [h3] at this

theorem textN (v : Value) (n : Nat) (w : World) (h : LB w v (Nt.limbs n)) (hT : Tab w) (hl : (Nt.limbs n).length ≤ 1000) :
    Calls Tryz.prog 70 #[v] w fun e w' => e = .returned (.tuple (nOut n)) ∧ Below w.heap.size w w' := text_any v n w h hT hl

set_option maxRecDepth 100000 in
theorem both_any (f : Nat → Nat → Nat) (op : Nat) (cap : Array Value) (a b : ByteArray) (w : World) (hT : Tab w) (ha : a.size ≤ 9223372036854775807) (hb : b.size ≤ 9223372036854775807)
    (hcf : ∀ x W, (callFunc op x).run Tryz.prog W = .ok (.enter op x) W)
    (hlen : ∀ m n, (Nt.limbs m).length ≤ 112 → (Nt.limbs n).length ≤ 112 → Nt.num? a = some m → Nt.num? b = some n → (Nt.limbs (f m n)).length ≤ 1000)
    (hop : ∀ m n v u W, LB W v (Nt.limbs m) → LB W u (Nt.limbs n) → (Nt.limbs m).length ≤ 112 → (Nt.limbs n).length ≤ 112 → Below w.heap.size w W → Nt.num? a = some m → Nt.num? b = some n →
      Calls Tryz.prog op (#[v, u] ++ cap) W fun e W' => ∃ v', e = .returned v' ∧ LB W' v' (Nt.limbs (f m n)) ∧ Below W.heap.size W W') :
    Calls Tryz.prog 67 #[.string a, .string b, .func (.func op) #[] cap] w fun e w' => e = .returned (.tuple (spec2 f a b)) ∧ Below w.heap.size w w' := by
  have HOP := Lib.hid hop
  have HLEN := Lib.hid hlen
  clear hop hlen
  cases hna : Nt.num? a with
  | none =>
    have HV := Lib.hid (valid_any a w ha)
    rw [hna] at HV
    have HS : Hid (spec2 f a b = nErr 1) := by show spec2 f a b = nErr 1; unfold spec2; rw [hna]
    rw [HS.out]
    clear hna
    go_enter Tryz.func67, Tryz.ntmps67
    go_wp2_with fail
    refine HV.out.mono ?_
    rintro e W1 ⟨rfl, hb1⟩
    go_wp2_with fail
    go_ret2
    exact ⟨rfl, hb1⟩
  | some m =>
    have HV := Lib.hid (valid_any a w ha)
    rw [hna] at HV
    cases hnb : Nt.num? b with
    | none =>
      have HV2 := Lib.hid fun W => valid_any b W hb
      rw [hnb] at HV2
      have HS : Hid (spec2 f a b = nErr 1) := by show spec2 f a b = nErr 1; unfold spec2; rw [hna, hnb]
      rw [HS.out]
      clear hna hnb
      go_enter Tryz.func67, Tryz.ntmps67
      go_wp2_with fail
      refine HV.out.mono ?_
      rintro e W1 ⟨rfl, hb1⟩
      go_wp2_with fail
      refine (HV2.out _).mono ?_
      rintro e W2 ⟨rfl, hb2⟩
      go_wp2_with fail
      go_ret2
      exact ⟨rfl, below_trans hb1 hb2⟩
    | some n =>
      have HV2 := Lib.hid fun W => valid_any b W hb
      rw [hnb] at HV2
      have HS : Hid (spec2 f a b = nOut (f m n)) := by show spec2 f a b = nOut (f m n); unfold spec2; rw [hna, hnb]
      rw [HS.out]
      have HNA := Lib.hid hna
      have HNB := Lib.hid hnb
      clear hna hnb
      go_enter Tryz.func67, Tryz.ntmps67
      go_wp2_with fail
      refine HV.out.mono ?_
      rintro e W1 ⟨rfl, hb1⟩
      go_wp2_with fail
      refine (HV2.out _).mono ?_
      rintro e W2 ⟨rfl, hb2⟩
      go_wp2_with fail
      refine (readN a m W2 HNA.out).mono ?_
      rintro e W3 ⟨v3, rfl, hv3, hb3⟩
      have HV3 := Lib.hid hv3
      clear hv3
      go_wp2_with fail
      refine (readN b n W3 HNB.out).mono ?_
      rintro e W4 ⟨v4, rfl, hv4, hb4⟩
      have HV4 := Lib.hid hv4
      have hb5 : Below w.heap.size w W4 := below_trans (below_trans (below_trans hb1 hb2) hb3) hb4
      clear hv4
      go_wp2_with fail
      refine (HOP.out m n v3 v4 W4 (HV3.out.below hb4) HV4.out (num_len HNA.out) (num_len HNB.out) hb5 HNA.out HNB.out).mono ?_
      rintro e W5 ⟨v5, rfl, hv5, hb6⟩
      have HTX := Lib.hid (textN v5 _ W5 hv5 (hT.below (below_trans hb5 hb6)) (HLEN.out m n (num_len HNA.out) (num_len HNB.out) HNA.out HNB.out))
      clear hv5
      go_wp2_with fail
      refine HTX.out.mono ?_
      obtain ⟨rx, ry, hr⟩ := nOut_two (f m n)
      have HRR := Lib.hid hr
      rw [hr]
      rintro e W6 ⟨rfl, hb7⟩
      clear hr
      go_wp2
      go_ret2
      exact ⟨by rw [HRR.out]; rfl, below_trans (below_trans hb5 hb6) hb7⟩

theorem len_add {m n k : Nat} (h1 : m < 1000000000 ^ k) (h2 : n < 1000000000 ^ k) : (Nt.limbs (m + n)).length ≤ k + 1 := by
  rw [Nt.limbs_len_le, Nat.pow_succ]; omega

theorem spec2_two (f : Nat → Nat → Nat) (a b : ByteArray) : ∃ x y, spec2 f a b = #[.string x, .int .i64 y] := by
  unfold spec2; split
  · exact nOut_two _
  · exact ⟨_, _, rfl⟩

theorem natAdd_any (a b : ByteArray) (w : World) (hT : Tab w) (ha : a.size ≤ 9223372036854775807) (hb : b.size ≤ 9223372036854775807) :
    Calls Tryz.prog 64 #[.string a, .string b] w fun e w' => e = .returned (.tuple (spec2 (· + ·) a b)) ∧ Below w.heap.size w w' := by
  have HB := Lib.hid (both_any (· + ·) 84 #[] a b w hT ha hb (fun _ _ => by kernel_rfl)
    (fun m n hm hn _ _ => by
      have : (Nt.limbs (m + n)).length ≤ 113 := by
        have h1 := (Nt.limbs_len_le m _).1 hm
        have h2 := (Nt.limbs_len_le n _).1 hn
        exact len_add h1 h2
      omega)
    (fun m n v u W hv hu hm hn _ _ _ => by
      refine (add_any v u _ _ W hv hu (Nt.limbs_lt _) (Nt.limbs_lt _) (by omega) (by omega)).mono ?_
      rintro e W' ⟨v', rfl, h1, _, h2⟩
      rw [Nt.lval_limbs, Nt.lval_limbs] at h1
      exact ⟨v', rfl, h1, h2⟩))
  go_enter Tryz.func64, Tryz.ntmps64
  go_wp2_with fail
  refine HB.out.mono ?_
  obtain ⟨rx, ry, hr⟩ := spec2_two (· + ·) a b
  have HRR := Lib.hid hr
  rw [hr]
  rintro e W6 ⟨rfl, hb7⟩
  clear hr
  go_wp2
  go_ret2
  exact ⟨by rw [HRR.out]; rfl, hb7⟩

theorem natMul_any (a b : ByteArray) (w : World) (hT : Tab w) (ha : a.size ≤ 9223372036854775807) (hb : b.size ≤ 9223372036854775807) :
    Calls Tryz.prog 63 #[.string a, .string b] w fun e w' => e = .returned (.tuple (spec2 (· * ·) a b)) ∧ Below w.heap.size w w' := by
  have HB := Lib.hid (both_any (· * ·) 83 #[] a b w hT ha hb (fun _ _ => by kernel_rfl)
    (fun m n hm hn _ _ => Nat.le_trans (limbs_len_mul m n) (by omega))
    (fun m n v u W hv hu hm hn _ _ _ => mul_any v u m n W hv hu (by omega) (by omega)))
  go_enter Tryz.func63, Tryz.ntmps63
  go_wp2_with fail
  refine HB.out.mono ?_
  obtain ⟨rx, ry, hr⟩ := spec2_two (· * ·) a b
  have HRR := Lib.hid hr
  rw [hr]
  rintro e W6 ⟨rfl, hb7⟩
  clear hr
  go_wp2
  go_ret2
  exact ⟨by rw [HRR.out]; rfl, hb7⟩
end Go.Proofs.YtcphclpekllcoaaGreatDoor
