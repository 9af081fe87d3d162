/- Walks: natural.Compare, Sub, Gcd, Div. -/
import Derived.Test.YtcphclpekllcoaaGreatDoorWj
namespace Go.Proofs.YtcphclpekllcoaaGreatDoor
open Go.RowKit

def nCmp (a b : ByteArray) : Int :=
  match Nt.num? a, Nt.num? b with
  | some m, some n => cmpI m n
  | _, _ => 0

theorem natCompare_any (a b : ByteArray) (w : World) (ha : a.size ≤ 9223372036854775807) (hb : b.size ≤ 9223372036854775807) :
    Calls Tryz.prog 46 #[.string a, .string b] w fun e w' => e = .returned (.int .i64 (nCmp a b)) ∧ Below w.heap.size w w' := by
  have HV := Lib.hid (valid_any a w ha)
  have HV2 := Lib.hid fun W => valid_any b W hb
  cases hna : Nt.num? a with
  | none =>
    rw [hna] at HV
    have HS : Hid (nCmp a b = 0) := by show nCmp a b = 0; unfold nCmp; rw [hna]
    clear hna
    go_enter Tryz.func46, Tryz.ntmps46
    go_wp2_with fail
    refine HV.out.mono ?_
    rintro e W1 ⟨rfl, hb1⟩
    go_wp2_with fail
    go_ret
    exact ⟨ret_int HS.out.symm, hb1⟩
  | some m =>
    rw [hna] at HV
    cases hnb : Nt.num? b with
    | none =>
      rw [hnb] at HV2
      have HS : Hid (nCmp a b = 0) := by show nCmp a b = 0; unfold nCmp; rw [hna, hnb]
      clear hna hnb
      go_enter Tryz.func46, Tryz.ntmps46
      go_wp2_with fail
      refine HV.out.mono ?_
      rintro e W1 ⟨rfl, hb1⟩
      go_wp2_with fail
      refine (HV2.out _).mono ?_
      rintro e W2 ⟨rfl, hb2⟩
      go_wp2_with fail
      go_ret
      exact ⟨ret_int HS.out.symm, below_trans hb1 hb2⟩
    | some n =>
      rw [hnb] at HV2
      have HS : Hid (nCmp a b = cmpI m n) := by show nCmp a b = cmpI m n; unfold nCmp; rw [hna, hnb]
      have HNA := Lib.hid hna
      have HNB := Lib.hid hnb
      clear hna hnb
      go_enter Tryz.func46, Tryz.ntmps46
      go_wp2_with fail
      refine HV.out.mono ?_
      rintro e W1 ⟨rfl, hb1⟩
      go_wp2_with fail
      refine (HV2.out _).mono ?_
      rintro e W2 ⟨rfl, hb2⟩
      go_wp2_with fail
      refine (readN a m W2 HNA.out).mono ?_
      rintro e W3 ⟨v3, rfl, hv3, hb3⟩
      have HV3 := Lib.hid hv3
      clear hv3
      go_wp2_with fail
      refine (readN b n W3 HNB.out).mono ?_
      rintro e W4 ⟨v4, rfl, hv4, hb4⟩
      have HV4 := Lib.hid hv4
      have hb5 : Below w.heap.size w W4 := below_trans (below_trans (below_trans hb1 hb2) hb3) hb4
      clear hv4
      have HCP := Lib.hid (compare_any v3 v4 m n W4 (HV3.out.below hb4) HV4.out (by have := num_len HNA.out; omega) (by have := num_len HNB.out; omega))
      go_wp2_with fail
      refine HCP.out.mono ?_
      rintro e W5 ⟨rfl, nq, rfl⟩
      go_wp2
      go_ret
      exact ⟨ret_int HS.out.symm, below_drewN hb5 nq⟩

def nSub (a b : ByteArray) : Array Value :=
  match Nt.num? a, Nt.num? b with
  | some m, some n => if m < n then nErr 9 else nOut (m - n)
  | _, _ => nErr 1

theorem nSub_two (a b : ByteArray) : ∃ x y, nSub a b = #[.string x, .int .i64 y] := by
  unfold nSub; split
  · split
    · exact ⟨_, _, rfl⟩
    · exact nOut_two _
  · exact ⟨_, _, rfl⟩

theorem bothSub (a b : ByteArray) (w : World) (hT : Tab w) (ha : a.size ≤ 9223372036854775807) (hb : b.size ≤ 9223372036854775807) (hle : ∀ m n, Nt.num? a = some m → Nt.num? b = some n → n ≤ m) :
    Calls Tryz.prog 67 #[.string a, .string b, .func (.func 68) #[] #[]] w fun e w' => e = .returned (.tuple (nSub a b)) ∧ Below w.heap.size w w' := by
  have e : spec2 (· - ·) a b = nSub a b := by
    unfold spec2 nSub
    cases h1 : Nt.num? a with
    | none => rfl
    | some m =>
      cases h2 : Nt.num? b with
      | none => rfl
      | some n =>
        show nOut (m - n) = if m < n then nErr 9 else nOut (m - n)
        rw [if_neg (Nat.not_lt.2 (hle m n h1 h2))]
  rw [← e]
  exact both_any (· - ·) 68 #[] a b w hT ha hb (fun _ _ => by kernel_rfl)
    (fun m n hm hn _ _ => Nat.le_trans (limbs_mono (Nat.sub_le m n)) (by omega))
    (fun m n v u W hv hu hm hn _ h1 h2 => by
      refine (sub_any v u _ _ W hv hu (Nt.limbs_lt _) (Nt.limbs_lt _) (by omega) (limbs_mono (hle m n h1 h2)) (by rw [Nt.lval_limbs, Nt.lval_limbs]; exact hle m n h1 h2)).mono ?_
      rintro e W' ⟨v', rfl, h1, _, h2⟩
      rw [Nt.lval_limbs, Nt.lval_limbs] at h1
      exact ⟨v', rfl, h1, h2⟩)

theorem natSub_any (a b : ByteArray) (w : World) (hT : Tab w) (ha : a.size ≤ 9223372036854775807) (hb : b.size ≤ 9223372036854775807) :
    Calls Tryz.prog 48 #[.string a, .string b] w fun e w' => e = .returned (.tuple (nSub a b)) ∧ Below w.heap.size w w' := by
  have HV := Lib.hid (valid_any a w ha)
  have HV2 := Lib.hid fun W => valid_any b W hb
  cases hna : Nt.num? a with
  | none =>
    have HB := Lib.hid fun W (hTW : Tab W) => bothSub a b W hTW ha hb (fun m n h _ => by rw [hna] at h; cases h)
    rw [hna] at HV
    clear hna
    go_enter Tryz.func48, Tryz.ntmps48
    go_wp2_with fail
    refine HV.out.mono ?_
    rintro e W1 ⟨rfl, hb1⟩
    go_wp2_with fail
    refine (HB.out W1 (hT.below hb1)).mono ?_
    obtain ⟨rx, ry, hr⟩ := nSub_two a b
    have HRR := Lib.hid hr
    rw [hr]
    rintro e W6 ⟨rfl, hb7⟩
    clear hr
    go_wp2
    go_ret2
    exact ⟨by rw [HRR.out]; rfl, below_trans hb1 hb7⟩
  | some m =>
    cases hnb : Nt.num? b with
    | none =>
      have HB := Lib.hid fun W (hTW : Tab W) => bothSub a b W hTW ha hb (fun m n _ h => by rw [hnb] at h; cases h)
      rw [hna] at HV
      rw [hnb] at HV2
      clear hna hnb
      go_enter Tryz.func48, Tryz.ntmps48
      go_wp2_with fail
      refine HV.out.mono ?_
      rintro e W1 ⟨rfl, hb1⟩
      go_wp2_with fail
      refine (HV2.out _).mono ?_
      rintro e W2 ⟨rfl, hb2⟩
      go_wp2_with fail
      refine (HB.out W2 (hT.below (below_trans hb1 hb2))).mono ?_
      obtain ⟨rx, ry, hr⟩ := nSub_two a b
      have HRR := Lib.hid hr
      rw [hr]
      rintro e W6 ⟨rfl, hb7⟩
      clear hr
      go_wp2
      go_ret2
      exact ⟨by rw [HRR.out]; rfl, below_trans (below_trans hb1 hb2) hb7⟩
    | some n =>
      have HCM := Lib.hid fun W => natCompare_any a b W ha hb
      have hcm : nCmp a b = cmpI m n := by unfold nCmp; rw [hna, hnb]
      rw [hcm] at HCM
      clear hcm
      by_cases hlt : m < n
      · have HS : Hid (nSub a b = nErr 9) := by show nSub a b = nErr 9; unfold nSub; rw [hna, hnb]; exact if_pos hlt
        rw [HS.out]
        rw [hna] at HV
        rw [hnb] at HV2
        rw [cmpI_lt hlt] at HCM
        clear hna hnb
        go_enter Tryz.func48, Tryz.ntmps48
        go_wp2_with fail
        refine HV.out.mono ?_
        rintro e W1 ⟨rfl, hb1⟩
        go_wp2_with fail
        refine (HV2.out _).mono ?_
        rintro e W2 ⟨rfl, hb2⟩
        go_wp2_with fail
        refine (HCM.out _).mono ?_
        rintro e W3 ⟨rfl, hb3⟩
        go_wp2_with fail
        go_ret2
        exact ⟨rfl, below_trans (below_trans hb1 hb2) hb3⟩
      · have HB := Lib.hid fun W (hTW : Tab W) => bothSub a b W hTW ha hb (fun m' n' h h' => by
          rw [hna] at h; rw [hnb] at h'; cases h; cases h'; omega)
        have hge : 0 ≤ cmpI m n := by
          unfold cmpI
          rw [if_neg hlt]
          split <;> omega
        generalize cmpI m n = cv at HCM hge
        rw [hna] at HV
        rw [hnb] at HV2
        clear hna hnb
        go_enter Tryz.func48, Tryz.ntmps48
        go_wp2_with fail
        refine HV.out.mono ?_
        rintro e W1 ⟨rfl, hb1⟩
        go_wp2_with fail
        refine (HV2.out _).mono ?_
        rintro e W2 ⟨rfl, hb2⟩
        go_wp2_with fail
        refine (HCM.out _).mono ?_
        rintro e W3 ⟨rfl, hb3⟩
        go_wp2_with fail
        refine (HB.out W3 (hT.below (below_trans (below_trans hb1 hb2) hb3))).mono ?_
        obtain ⟨rx, ry, hr⟩ := nSub_two a b
        have HRR := Lib.hid hr
        rw [hr]
        rintro e W6 ⟨rfl, hb7⟩
        clear hr
        go_wp2
        go_ret2
        exact ⟨by rw [HRR.out]; rfl, below_trans (below_trans (below_trans hb1 hb2) hb3) hb7⟩

/-- The number that a slice of limbs holds, read off memory. -/
noncomputable def meas (w : World) (v : Value) : Nat := open Classical in if h : ∃ n, LB w v (Nt.limbs n) then h.choose else 0

theorem LB.inj {w : World} {v : Value} {xs ys : List Nat} (h : LB w v xs) (h' : LB w v ys) : xs = ys := by
  obtain ⟨a, c, rfl, _, _, h3⟩ := h
  obtain ⟨a', c', e, _, _, h3'⟩ := h'
  simp only [Value.slice.injEq] at e
  obtain ⟨rfl, hl, rfl⟩ := e
  refine List.ext_getElem hl fun i h1 h2 => ?_
  rcases h3 with ⟨_, rfl, _⟩ | ⟨g, rfl, h3⟩
  · simp at h1
  · rcases h3' with ⟨hn, _, _⟩ | ⟨g', hg, h3'⟩
    · simp at hn
    · simp only [Option.some.injEq, Addr.mk.injEq, and_true] at hg
      subst hg
      have e1 := h3 i h1
      have e2 := h3' i h2
      rw [e1] at e2
      exact Int.ofNat_inj.1 (by simpa [List.getElem?_eq_getElem h1, List.getElem?_eq_getElem h2] using e2)

theorem meas_eq {w : World} {v : Value} {n : Nat} (h : LB w v (Nt.limbs n)) : meas w v = n := by
  unfold meas
  rw [dif_pos ⟨n, h⟩]
  exact Nt.limbs_inj (LB.inj (Exists.choose_spec (⟨n, h⟩ : ∃ n, LB w v (Nt.limbs n))) h)

set_option maxRecDepth 100000 in
theorem gcd1_any (v u : Value) (m n : Nat) (w : World) (h : LB w v (Nt.limbs m)) (h' : LB w u (Nt.limbs n)) (hl : (Nt.limbs m).length ≤ 112) (hl' : (Nt.limbs n).length ≤ 112) :
    Calls Tryz.prog 82 #[v, u] w fun e w' => ∃ v', e = .returned v' ∧ LB w' v' (Nt.limbs (Nat.gcd m n)) ∧ Below w.heap.size w w' := by
  obtain ⟨T, hT⟩ : ∃ T, T = Nat.gcd m n := ⟨_, rfl⟩
  rw [← hT]
  have HT := Lib.hid hT
  have G := Lib.hid h
  have G' := Lib.hid h'
  clear hT h h'
  go_enter Tryz.func82, Tryz.ntmps82
  go_wp2
  go_loopw [0, 1] (fun x y wr => ∃ p q : Nat, LB wr x (Nt.limbs p) ∧ LB wr y (Nt.limbs q) ∧ (Nt.limbs p).length ≤ 112 ∧ (Nt.limbs q).length ≤ 112 ∧ Nat.gcd p q = T ∧ Below w.heap.size w wr) (fun x y wr => meas wr y)
  case atStart => exact ⟨m, n, G.out, G'.out, hl, hl', HT.out.symm, Below.refl _ _⟩
  case round =>
    obtain ⟨p, q, hx, hy, hlp, hlq, hg, hB⟩ := hrel
    have HM := Lib.hid (meas_eq hy)
    have HX := Lib.hid hx
    have HY := Lib.hid hy
    have HG := Lib.hid hg
    obtain ⟨ya, yc, rfl, _, _, _⟩ := hy
    clear hx hg
    by_cases hq : q = 0
    · subst hq
      have e0 : (Nt.limbs 0).length = 0 := by rw [Nt.limbs_zero]; rfl
      have hgt := HG.out
      rw [Nat.gcd_zero_right] at hgt
      have HGT := Lib.hid hgt
      clear hgt
      go_wp2
      go_ret
      exact ⟨_, rfl, by rw [← HGT.out]; exact HX.out, hB⟩
    · have hq0 : 0 < q := by omega
      have hlen : 0 < (Nt.limbs q).length := by
        rcases Nat.eq_zero_or_pos (Nt.limbs q).length with e | e
        · exact absurd ((Nt.limbs_nil_iff q).1 (List.length_eq_zero_iff.1 e)) hq
        · exact e
      have hlm : (Nt.limbs (p % q)).length ≤ 112 := Nat.le_trans (limbs_mono (Nat.le_of_lt (Nat.mod_lt p hq0))) hlq
      have HDV := Lib.hid (div_any _ _ p q wr HX.out HY.out hq0 (by omega) (by omega))
      have HQ := Lib.hid hq
      clear hq
      go_wp2_with fail
      refine HDV.out.mono ?_
      rintro e W1 ⟨v1, v2, rfl, hv1, hv2, hb1⟩
      have HV2 := Lib.hid hv2
      clear hv1 hv2
      go_wp2
      go_roundw
      case rel => exact ⟨q, p % q, HY.out.below hb1, HV2.out, hlq, hlm, by rw [← HG.out, Nat.gcd_comm, ← Nat.gcd_rec, Nat.gcd_comm], below_trans hB hb1⟩
      case measure =>
        show meas W1 v2 < meas wr (.slice ya (Nt.limbs q).length yc)
        rw [meas_eq HV2.out, HM.out]
        exact Nat.mod_lt p hq0

theorem natGcd_any (a b : ByteArray) (w : World) (hT : Tab w) (ha : a.size ≤ 9223372036854775807) (hb : b.size ≤ 9223372036854775807) :
    Calls Tryz.prog 62 #[.string a, .string b] w fun e w' => e = .returned (.tuple (spec2 Nat.gcd a b)) ∧ Below w.heap.size w w' := by
  have HB := Lib.hid (both_any Nat.gcd 82 #[] a b w hT ha hb (fun _ _ => by kernel_rfl)
    (fun m n hm hn _ _ => by
      by_cases h0 : m = 0
      · subst h0; rw [Nat.gcd_zero_left]; omega
      · exact Nat.le_trans (limbs_mono (Nat.gcd_le_left n (by omega))) (by omega))
    (fun m n v u W hv hu hm hn _ _ _ => gcd1_any v u m n W hv hu hm hn))
  go_enter Tryz.func62, Tryz.ntmps62
  go_wp2_with fail
  refine HB.out.mono ?_
  obtain ⟨rx, ry, hr⟩ := spec2_two Nat.gcd a b
  have HRR := Lib.hid hr
  rw [hr]
  rintro e W6 ⟨rfl, hb7⟩
  clear hr
  go_wp2
  go_ret2
  exact ⟨by rw [HRR.out]; rfl, hb7⟩
end Go.Proofs.YtcphclpekllcoaaGreatDoor
