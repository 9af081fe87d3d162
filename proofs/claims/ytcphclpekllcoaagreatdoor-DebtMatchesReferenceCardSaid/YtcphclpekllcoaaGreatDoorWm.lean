/- Walks: package rational: lowest, Valid. -/
import Derived.Test.YtcphclpekllcoaaGreatDoorMC
import Derived.Test.YtcphclpekllcoaaGreatDoorMA
namespace Go.Proofs.YtcphclpekllcoaaGreatDoor
open Go.RowKit

/-- A rational number as the program holds it. -/
def rv (x : Nt.RS) : Value := .agg #[.bool x.1, .string x.2.1, .string x.2.2]

theorem num_size {s : ByteArray} {n : Nat} (h : Nt.num? s = some n) : s.size ≤ 9223372036854775807 := by
  have := (num_all h).2.1; omega
theorem num_fit {s : ByteArray} {n : Nat} (h : Nt.num? s = some n) : Lib.nDigits n ≤ 1000 := (Nt.num?_some h).2
theorem gcd_fit {m n : Nat} (hn : n ≠ 0) (h : Lib.nDigits n ≤ 1000) : Lib.nDigits (Nat.gcd m n) ≤ 1000 :=
  digits_mono (Nat.le_of_dvd (Nat.pos_of_ne_zero hn) (Nat.gcd_dvd_right m n)) h
theorem spec2_gcd {a b : ByteArray} {m n : Nat} (ha : Nt.num? a = some m) (hb : Nt.num? b = some n) (hn : n ≠ 0) : spec2 Nat.gcd a b = #[.string (Nt.nat2s (Nat.gcd m n)), .int .i64 0] := by
  unfold spec2; rw [ha, hb]
  exact nOut_fit (gcd_fit hn (num_fit hb))

theorem cells3 {W : World} {N : Nat} {t : TypeId} {a b c : Value} (h : W.heap[N]? = some (.cells #[a, b, c] t)) :
    (W.cell? ⟨N, 0, none⟩ = some a ∧ W.cell? ⟨N, 1, none⟩ = some b ∧ W.cell? ⟨N, 2, none⟩ = some c) ∧ W.frozen? ⟨N, 0, none⟩ = false ∧ W.frozen? ⟨N, 1, none⟩ = false ∧ W.frozen? ⟨N, 2, none⟩ = false :=
  ⟨⟨by simp [World.cell?, h], by simp [World.cell?, h], by simp [World.cell?, h]⟩, by simp [World.frozen?, h], by simp [World.frozen?, h], by simp [World.frozen?, h]⟩
/-- A block of the outer frame is as it was laid. -/
theorem kept_new {w W : World} {o : Obj} (h : Below (w.alloc o).heap.size (w.alloc o) W) : W.heap[w.heap.size]? = some o := by
  rw [h.block _ (World.size_alloc' w o)]
  show (w.heap.push o)[w.heap.size]? = some o
  simp

theorem load_rat {W : World} {N : Nat} {neg : Bool} {a b : ByteArray} (h0 : W.cell? ⟨N, 0, none⟩ = some (.bool neg)) (h1 : W.cell? ⟨N, 1, none⟩ = some (.string a)) (h2 : W.cell? ⟨N, 2, none⟩ = some (.string b)) :
    (loadVar 57 ⟨N, 0, none⟩).run Tryz.prog W = .ok (rv (neg, a, b)) W := by
  unfold rv
  go_simp

theorem results_rat {fn : Func} {t : Tmp} {W : World} {N : Nat} {neg : Bool} {a b : ByteArray} {tmps : Array Value} (h : fn.results = #[.cell t 57]) (ht : tmps.getD t undef = .pointer (some ⟨N, 0, none⟩))
    (hl : W.cell? ⟨N, 0, none⟩ = some (.bool neg) ∧ W.cell? ⟨N, 1, none⟩ = some (.string a) ∧ W.cell? ⟨N, 2, none⟩ = some (.string b)) :
    (results fn tmps).run Tryz.prog W = .ok (rv (neg, a, b)) W := by
  have e := load_rat hl.1 hl.2.1 hl.2.2
  rw [Array.getD_eq_getD_getElem?] at ht
  simp [results, h, ht, asAddr, e]
theorem results_ratE {fn : Func} {t u : Tmp} {W : World} {N : Nat} {neg : Bool} {a b : ByteArray} {tmps : Array Value} (h : fn.results = #[.cell t 57, .tmp u]) (ht : tmps.getD t undef = .pointer (some ⟨N, 0, none⟩))
    (hl : W.cell? ⟨N, 0, none⟩ = some (.bool neg) ∧ W.cell? ⟨N, 1, none⟩ = some (.string a) ∧ W.cell? ⟨N, 2, none⟩ = some (.string b)) :
    (results fn tmps).run Tryz.prog W = .ok (.tuple #[rv (neg, a, b), tmps.getD u undef]) W := by
  have e := load_rat hl.1 hl.2.1 hl.2.2
  rw [Array.getD_eq_getD_getElem?] at ht
  simp [results, h, ht, asAddr, e]

theorem set3 {w W : World} {N : Nat} {t : TypeId} {a b c x y z : Value} (h : W.heap[N]? = some (.cells #[a, b, c] t)) (hb : Below w.heap.size w W) (hN : w.heap.size ≤ N) :
    (((W.setCell ⟨N, 0, none⟩ x).setCell ⟨N, 1, none⟩ y).setCell ⟨N, 2, none⟩ z).heap[N]? = some (.cells #[x, y, z] t) ∧
      Below w.heap.size w (((W.setCell ⟨N, 0, none⟩ x).setCell ⟨N, 1, none⟩ y).setCell ⟨N, 2, none⟩ z) :=
  ⟨row_setCell (row_setCell (row_setCell h)), ((hb.setCell hN x).setCell hN y).setCell hN z⟩

theorem nat2s_0 : Nt.nat2s 0 = ⟨#[48]⟩ := by unfold Nt.nat2s; rw [Lib.decDigits]; rfl
theorem nat2s_1 : Nt.nat2s 1 = ⟨#[49]⟩ := by unfold Nt.nat2s; rw [Lib.decDigits]; rfl

set_option maxRecDepth 100000 in
theorem lowest_any (neg : Bool) (a b : ByteArray) (m n : Nat) (w : World) (hT : Tab w) (hna : Nt.num? a = some m) (hnb : Nt.num? b = some n) (hn : n ≠ 0) :
    Calls Tryz.prog 44 #[.bool neg, .string a, .string b] w fun e w' => e = .returned (rv (Nt.rs (Nt.low neg m n))) ∧ Below w.heap.size w w' := by
  by_cases hm : m = 0
  · have hz : (a.toList == [48]) = true := by rw [is_zero hna, decide_eq_true hm]
    have hs : Hid (Nt.rs (Nt.low neg m n) = (false, Nt.nat2s 0, Nt.nat2s 1)) := by show _ = _; rw [hm, Nt.low_zero, Nt.rs_zero]
    clear hna hnb
    go_enter Tryz.func44, Tryz.ntmps44
    go_wp2
    rw [hs.out]
    refine bodyPost_ret (results_rat rfl rfl (cells3 (kept_new (Below.refl _ _))).1) rfl ?_
    exact ⟨by rw [nat2s_0, nat2s_1], (Below.refl _ _).alloc (Nat.le_refl _) _⟩
  · have hz : (a.toList == [48]) = false := by rw [is_zero hna, decide_eq_false hm]
    have HG := Lib.hid fun W hTW => natGcd_any a b W hTW (num_size hna) (num_size hnb)
    rw [spec2_gcd hna hnb hn] at HG
    have hg : Nt.num? (Nt.nat2s (Nat.gcd m n)) = some (Nat.gcd m n) := Nt.num?_nat2s _ (gcd_fit hn (num_fit hnb))
    have hg0 : Nat.gcd m n ≠ 0 := fun e => hn (Nat.eq_zero_of_gcd_eq_zero_right e)
    have HD1 := Lib.hid fun W hTW => natDiv_any a (Nt.nat2s (Nat.gcd m n)) m (Nat.gcd m n) W hTW (num_size hna) (num_size hg) hna hg hg0
    have HD2 := Lib.hid fun W hTW => natDiv_any b (Nt.nat2s (Nat.gcd m n)) n (Nat.gcd m n) W hTW (num_size hnb) (num_size hg) hnb hg hg0
    have hs : Hid (Nt.rs (Nt.low neg m n) = (neg, Nt.nat2s (m / Nat.gcd m n), Nt.nat2s (n / Nat.gcd m n))) := Nt.low_eq neg m n hn hm
    clear hna hnb hn hm hg hg0
    generalize Nt.nat2s (Nat.gcd m n) = g at *
    generalize Nt.nat2s (m / Nat.gcd m n) = x1 at *
    generalize Nt.nat2s (n / Nat.gcd m n) = x2 at *
    generalize Nt.nat2s (m % Nat.gcd m n) = x3 at *
    generalize Nt.nat2s (n % Nat.gcd m n) = x4 at *
    go_enter Tryz.func44, Tryz.ntmps44
    go_wp2_with fail
    refine (HG.out _ (hT.below ((Below.refl _ _).alloc (Nat.le_refl _) _))).mono ?_
    rintro e W1 ⟨rfl, hb1⟩
    have hB := (Below.refl w.heap.size w).alloc (Nat.le_refl _) (.cells #[.bool false, .string ⟨#[]⟩, .string ⟨#[]⟩] 57)
    have hS := World.size_alloc' w (.cells #[.bool false, .string ⟨#[]⟩, .string ⟨#[]⟩] 57)
    go_wp2_with fail
    refine (HD1.out _ (hT.below (hB.trans (hb1.mono (Nat.le_of_lt hS))))).mono ?_
    rintro e W2 ⟨rfl, hb2⟩
    have hb2 := below_trans hb1 hb2
    go_wp2_with fail
    refine (HD2.out _ (hT.below (hB.trans (hb2.mono (Nat.le_of_lt hS))))).mono ?_
    rintro e W3 ⟨rfl, hb3⟩
    have hb3 := below_trans hb2 hb3
    obtain ⟨⟨hc0, hc1, hc2⟩, hf0, hf1, hf2⟩ := cells3 (kept_new hb3)
    have HK := Lib.hid (kept_new hb3)
    have hB := Lib.hid (hB.trans (hb3.mono (Nat.le_of_lt hS)))
    clear hb1 hb2 hb3 hS
    go_wp2
    obtain ⟨h1, h2⟩ := set3 (x := .bool neg) (y := .string x1) (z := .string x2) HK.out hB.out (Nat.le_refl _)
    refine bodyPost_ret (results_rat rfl rfl (cells3 h1).1) rfl ?_
    exact ⟨by rw [hs.out], h2⟩

theorem is_one {b : ByteArray} {n : Nat} (h : Nt.num? b = some n) : (b.toList == [49]) = decide (n = 1) := by
  obtain ⟨rfl, _⟩ := Nt.num?_some h
  have e : ([49] : List UInt8) = (Nt.nat2s 1).toList := by rw [nat2s_1, ByteArray.toList_eq]
  rw [e]
  by_cases h1 : n = 1
  · subst h1; simp
  · rw [decide_eq_false h1, beq_eq_false_iff_ne]
    intro e
    apply h1
    apply Nt.nat2s_inj
    rw [ByteArray.toList_eq, ByteArray.toList_eq] at e
    exact ByteArray.ext (Array.toList_inj.1 e)

theorem rValid_none1 {neg : Bool} {a b : ByteArray} (h : Nt.num? a = none) : Nt.rValid (neg, a, b) = false := by
  unfold Nt.rValid Nt.rat?; simp only [h]; rfl
theorem rValid_none2 {neg : Bool} {a b : ByteArray} {m : Nat} (h : Nt.num? a = some m) (hb : Nt.num? b = none) : Nt.rValid (neg, a, b) = false := by
  unfold Nt.rValid Nt.rat?; simp only [h, hb]; rfl
theorem rValid_some {neg : Bool} {a b : ByteArray} {m n : Nat} (h : Nt.num? a = some m) (hb : Nt.num? b = some n) :
    Nt.rValid (neg, a, b) = (decide (n ≠ 0) && decide (Nat.gcd m n = 1) && decide (m = 0 → neg = false)) := by
  unfold Nt.rValid Nt.rat?; simp only [h, hb]
  by_cases hc : n ≠ 0 ∧ m.Coprime n ∧ (m = 0 → neg = false)
  · rw [dif_pos hc, decide_eq_true hc.1, decide_eq_true (show Nat.gcd m n = 1 from hc.2.1), decide_eq_true hc.2.2]; rfl
  · rw [dif_neg hc]
    symm
    show _ = false
    rw [← Bool.not_eq_true]
    intro e
    simp only [Bool.and_eq_true, decide_eq_true_eq] at e
    exact hc ⟨e.1.1, e.1.2, e.2⟩

set_option maxRecDepth 100000 in
theorem ratValid_any (neg : Bool) (a b : ByteArray) (w : World) (hT : Tab w) (ha : a.size ≤ 9223372036854775807) (hb : b.size ≤ 9223372036854775807) :
    Calls Tryz.prog 41 #[rv (neg, a, b)] w fun e w' => e = .returned (.bool (Nt.rValid (neg, a, b))) ∧ Below w.heap.size w w' := by
  have HV := Lib.hid fun W => valid_any a W ha
  have HV2 := Lib.hid fun W => valid_any b W hb
  have hB := (Below.refl w.heap.size w).alloc (Nat.le_refl _) (.cells #[.bool neg, .string a, .string b] 57)
  have hS := World.size_alloc' w (.cells #[.bool neg, .string a, .string b] 57)
  unfold rv
  cases hna : Nt.num? a with
  | none =>
    rw [hna] at HV
    rw [rValid_none1 hna]
    clear hna
    go_enter Tryz.func41, Tryz.ntmps41
    go_wp2_with fail
    refine (HV.out _).mono ?_
    rintro e W1 ⟨rfl, hb1⟩
    have hB1 := Lib.hid (hB.trans (hb1.mono (Nat.le_of_lt hS)))
    clear hb1 hS hB
    go_wp2
    go_ret
    exact ⟨rfl, hB1.out⟩
  | some m =>
    rw [hna] at HV
    cases hnb : Nt.num? b with
    | none =>
      rw [hnb] at HV2
      rw [rValid_none2 hna hnb]
      clear hna hnb
      go_enter Tryz.func41, Tryz.ntmps41
      go_wp2_with fail
      refine (HV.out _).mono ?_
      rintro e W1 ⟨rfl, hb1⟩
      obtain ⟨⟨hc0, hc1, hc2⟩, -⟩ := cells3 (kept_new hb1)
      go_wp2_with fail
      refine (HV2.out _).mono ?_
      rintro e W2 ⟨rfl, hb2⟩
      have hb2 := below_trans hb1 hb2
      have hB1 := Lib.hid (hB.trans (hb2.mono (Nat.le_of_lt hS)))
      clear hb1 hS hB hb2
      go_wp2
      go_ret
      exact ⟨rfl, hB1.out⟩
    | some n =>
      rw [hnb] at HV2
      rw [rValid_some hna hnb]
      have hz := is_zero hnb
      by_cases hn : n = 0
      · rw [decide_eq_true hn] at hz
        have HR : Hid ((decide (n ≠ 0) && decide (Nat.gcd m n = 1) && decide (m = 0 → neg = false)) = false) := by
          show _ = _; rw [decide_eq_false (fun h => h hn)]; rfl
        rw [HR.out]
        clear hna hnb hn
        go_enter Tryz.func41, Tryz.ntmps41
        go_wp2_with fail
        refine (HV.out _).mono ?_
        rintro e W1 ⟨rfl, hb1⟩
        obtain ⟨⟨hc0, hc1, hc2⟩, -⟩ := cells3 (kept_new hb1)
        go_wp2_with fail
        refine (HV2.out _).mono ?_
        rintro e W2 ⟨rfl, hb2⟩
        have hb2 := below_trans hb1 hb2
        obtain ⟨⟨hd0, hd1, hd2⟩, -⟩ := cells3 (kept_new hb2)
        have hB1 := Lib.hid (hB.trans (hb2.mono (Nat.le_of_lt hS)))
        clear hb1 hS hB hb2
        go_wp2
        go_ret
        exact ⟨rfl, hB1.out⟩
      · rw [decide_eq_false hn] at hz
        have hz2 := is_zero hna
        by_cases hm : m = 0
        · rw [decide_eq_true hm] at hz2
          have ho := is_one hnb
          have HR : Hid ((decide (n ≠ 0) && decide (Nat.gcd m n = 1) && decide (m = 0 → neg = false)) = (!neg && decide (n = 1))) := by
            show _ = _; subst hm; cases neg <;> simp [hn]
          rw [HR.out]
          clear hna hnb hm hn HR
          generalize decide (n = 1) = r at *
          cases neg <;> cases r
          all_goals
            go_enter Tryz.func41, Tryz.ntmps41
            go_wp2_with fail
            refine (HV.out _).mono ?_
            rintro e W1 ⟨rfl, hb1⟩
            obtain ⟨⟨hc0, hc1, hc2⟩, -⟩ := cells3 (kept_new hb1)
            go_wp2_with fail
            refine (HV2.out _).mono ?_
            rintro e W2 ⟨rfl, hb2⟩
            have hb2 := below_trans hb1 hb2
            obtain ⟨⟨hd0, hd1, hd2⟩, -⟩ := cells3 (kept_new hb2)
            have hB1 := Lib.hid (hB.trans (hb2.mono (Nat.le_of_lt hS)))
            clear hb1 hS hB hb2
            go_wp2
            go_ret
            exact ⟨rfl, hB1.out⟩
        · rw [decide_eq_false hm] at hz2
          have HG := Lib.hid fun W hTW => natGcd_any a b W hTW (num_size hna) (num_size hnb)
          rw [spec2_gcd hna hnb hn] at HG
          have hg : Nt.num? (Nt.nat2s (Nat.gcd m n)) = some (Nat.gcd m n) := Nt.num?_nat2s _ (gcd_fit hn (num_fit hnb))
          have ho := is_one hg
          have HR : Hid ((decide (n ≠ 0) && decide (Nat.gcd m n = 1) && decide (m = 0 → neg = false)) = decide (Nat.gcd m n = 1)) := by
            show _ = _; rw [decide_eq_true hn, decide_eq_true (fun h => absurd h hm : m = 0 → neg = false)]; simp
          rw [HR.out]
          clear hna hnb hm hg hn HR
          generalize Nt.nat2s (Nat.gcd m n) = g at *
          generalize decide (Nat.gcd m n = 1) = r at *
          go_enter Tryz.func41, Tryz.ntmps41
          go_wp2_with fail
          refine (HV.out _).mono ?_
          rintro e W1 ⟨rfl, hb1⟩
          obtain ⟨⟨hc0, hc1, hc2⟩, -⟩ := cells3 (kept_new hb1)
          go_wp2_with fail
          refine (HV2.out _).mono ?_
          rintro e W2 ⟨rfl, hb2⟩
          have hb2 := below_trans hb1 hb2
          obtain ⟨⟨hd0, hd1, hd2⟩, -⟩ := cells3 (kept_new hb2)
          have hB1 := (hB.trans (hb2.mono (Nat.le_of_lt hS)))
          go_wp2_with fail
          refine (HG.out _ (hT.below hB1)).mono ?_
          rintro e W3 ⟨rfl, hb3⟩
          have hB1 := Lib.hid (below_trans hB1 hb3)
          clear hb1 hS hB hb2
          go_wp2
          go_ret
          exact ⟨rfl, hB1.out⟩
end Go.Proofs.YtcphclpekllcoaaGreatDoor
