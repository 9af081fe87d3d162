/- Walks: rational.Compare. -/
import Derived.Test.YtcphclpekllcoaaGreatDoorWr
import Derived.Test.YtcphclpekllcoaaGreatDoorRatB
import Derived.Deep.LoopGhost
import Derived.Deep.RegionHeld3
import Derived.Deep.RegionLaw
import Derived.BigRegion
import Derived.Deep.CutBlock
import Derived.Deep.DeepCutAuto
namespace Go.Proofs.YtcphclpekllcoaaGreatDoor
open Go.RowKit

theorem strNe {a b : ByteArray} (h : ¬ a = b) : (a.toList == b.toList) = false := by
  rw [beq_eq_false_iff_ne]
  intro e
  rw [ByteArray.toList_eq, ByteArray.toList_eq] at e
  exact h (ByteArray.ext (Array.toList_inj.1 e))
theorem cellsP {W : World} {N : Nat} {t : TypeId} {a b : Value} (h : W.heap[N]? = some (.cells #[a, b] t)) :
    W.cell? ⟨N, 0, none⟩ = some a ∧ W.cell? ⟨N, 1, none⟩ = some b ∧ W.frozen? ⟨N, 0, none⟩ = false ∧ W.frozen? ⟨N, 1, none⟩ = false :=
  ⟨by simp [World.cell?, h], by simp [World.cell?, h], by simp [World.frozen?, h], by simp [World.frozen?, h]⟩
theorem setP {W : World} {N : Nat} {t : TypeId} {a b : Value} (h : W.heap[N]? = some (.cells #[a, b] t)) (u v : Value) : ((W.setCell ⟨N, 0, none⟩ u).setCell ⟨N, 1, none⟩ v).heap[N]? = some (.cells #[u, v] t) :=
  row_setCell (i := 1) (u := v) (row_setCell (i := 0) (u := u) h)
theorem setO {W : World} {N M i : Nat} {o : Obj} {u : Value} (h : W.heap[N]? = some o) (hne : N ≠ M) : (W.setCell ⟨M, i, none⟩ u).heap[N]? = some o := (Below.heap_setCell _ _ _ _ hne).trans h
theorem nat2s_sz {n : Nat} (h : Lib.nDigits n ≤ 1000) : (Nt.nat2s n).size ≤ 9223372036854775807 := by rw [Nt.nat2s_size]; omega
theorem cmpI_form (m n : Nat) : cmpI m n = if m < n then -1 else if n < m then 1 else 0 := rfl

theorem set3h {W : World} {N : Nat} {t : TypeId} {a b c : Value} (h : W.heap[N]? = some (.cells #[a, b, c] t)) (u v z : Value) : (((W.setCell ⟨N, 0, none⟩ u).setCell ⟨N, 1, none⟩ v).setCell ⟨N, 2, none⟩ z).heap[N]? = some (.cells #[u, v, z] t) :=
  row_setCell (i := 2) (u := z) (row_setCell (i := 1) (u := v) (row_setCell (i := 0) (u := u) h))
theorem set3o {W : World} {N M : Nat} {o : Obj} (h : W.heap[N]? = some o) (hne : N ≠ M) (u v z : Value) : (((W.setCell ⟨M, 0, none⟩ u).setCell ⟨M, 1, none⟩ v).setCell ⟨M, 2, none⟩ z).heap[N]? = some o := setO (setO (setO h hne) hne) hne
theorem below_set3 {w W : World} {B M : Nat} (h : Below B w W) (hM : B ≤ M) (u v z : Value) : Below B w (((W.setCell ⟨M, 0, none⟩ u).setCell ⟨M, 1, none⟩ v).setCell ⟨M, 2, none⟩ z) :=
  ((h.setCell (p := ⟨M, 0, none⟩) hM _).setCell (p := ⟨M, 1, none⟩) hM _).setCell (p := ⟨M, 2, none⟩) hM _
/-- Both numbers change places. -/
theorem swapped {w W : World} {N M : Nat} {t : TypeId} {a b c d e f : Value} (h1 : W.heap[N]? = some (.cells #[a, b, c] t)) (h2 : W.heap[M]? = some (.cells #[d, e, f] t)) (hne : N ≠ M) (hb : Below w.heap.size w W) (hN : w.heap.size ≤ N) (hM : w.heap.size ≤ M) (u v z u' v' z' : Value) :
    let V := ((((((W.setCell ⟨N, 0, none⟩ u).setCell ⟨N, 1, none⟩ v).setCell ⟨N, 2, none⟩ z).setCell ⟨M, 0, none⟩ u').setCell ⟨M, 1, none⟩ v').setCell ⟨M, 2, none⟩ z')
    V.heap[N]? = some (.cells #[u, v, z] t) ∧ V.heap[M]? = some (.cells #[u', v', z'] t) ∧ Below w.heap.size w V :=
  ⟨set3o (set3h h1 u v z) hne _ _ _, set3h (set3o h2 (Ne.symm hne) u v z) _ _ _, below_set3 (below_set3 hb hN _ _ _) hM _ _ _⟩
theorem isz {n : Nat} (h : Lib.nDigits n ≤ 1000) : ((Nt.nat2s n).toList == [48]) = decide (n = 0) := is_zero (Nt.num?_nat2s n h)

theorem bal (w : World) (o : Obj) : Below w.heap.size w (w.alloc o) := (Below.refl _ _).alloc (Nat.le_refl _) o
theorem fit_parts {q : Rat} (h : Nt.fitR q = true) : Lib.nDigits (Nt.nu q) ≤ 1000 ∧ Lib.nDigits q.den ≤ 1000 := by
  simp only [Nt.fitR, Bool.and_eq_true, decide_eq_true_eq] at h
  exact h
/-- Ahead of the comparison: two positive quotients in the two variables. -/
def CmpIn (w W : World) (R : Int) : Prop := ∃ (n1 d1 n2 d2 : Nat) (z : Bool), Nt.cmpN n1 d1 n2 d2 = R ∧ 0 < d1 ∧ 0 < d2 ∧ Lib.nDigits n1 ≤ 1000 ∧ Lib.nDigits d1 ≤ 1000 ∧ Lib.nDigits n2 ≤ 1000 ∧ Lib.nDigits d2 ≤ 1000 ∧
  W.heap[w.heap.size]? = some (.cells #[.bool z, .string (Nt.nat2s n1), .string (Nt.nat2s d1)] 57) ∧ W.heap[w.heap.size + 1]? = some (.cells #[.bool z, .string (Nt.nat2s n2), .string (Nt.nat2s d2)] 57) ∧ Below w.heap.size w W
/-- .. and in two arrays. -/
def CmpAt (w W : World) (u v : Value) (n1 d1 n2 d2 : Nat) : Prop := ∃ g h, u = .pointer (some ⟨g, 0, none⟩) ∧ v = .pointer (some ⟨h, 0, none⟩) ∧ g ≠ h ∧ w.heap.size ≤ g ∧ w.heap.size ≤ h ∧
  W.heap[g]? = some (.cells #[.string (Nt.nat2s n1), .string (Nt.nat2s d1)] 87) ∧ W.heap[h]? = some (.cells #[.string (Nt.nat2s n2), .string (Nt.nat2s d2)] 87) ∧ Below w.heap.size w W
/-- The state of the comparison: two quotients in the blocks g and h. -/
structure CmpSt (w W : World) (g h : Nat) (R : Int) (k : Nat) : Prop where
  ex : ∃ a b c d : Nat, k = b + d ∧ 0 < b ∧ 0 < d ∧ Lib.nDigits a ≤ 1000 ∧ Lib.nDigits b ≤ 1000 ∧ Lib.nDigits c ≤ 1000 ∧ Lib.nDigits d ≤ 1000 ∧ Nt.cmpN a b c d = R ∧
    W.heap[g]? = some (.cells #[.string (Nt.nat2s a), .string (Nt.nat2s b)] 87) ∧ W.heap[h]? = some (.cells #[.string (Nt.nat2s c), .string (Nt.nat2s d)] 87)
  below : Below w.heap.size w W

set_option maxHeartbeats 12800000 in
set_option maxRecDepth 100000 in
theorem rcompare_any (x y : Nt.RS) (w : World) (hT : Tab w) (s1 : x.2.1.size ≤ 9223372036854775807) (s2 : x.2.2.size ≤ 9223372036854775807) (s3 : y.2.1.size ≤ 9223372036854775807) (s4 : y.2.2.size ≤ 9223372036854775807) :
    Calls Tryz.prog 25 #[rv x, rv y] w fun e w' => e = .returned (.int .i64 (Nt.rCmp x y)) ∧ Below w.heap.size w w' := by
  obtain ⟨xn, x1, x2⟩ := x
  obtain ⟨yn, y1, y2⟩ := y
  dsimp only at s1 s2 s3 s4
  have HV := Lib.hid fun W hTW => ratValid_any xn x1 x2 W hTW s1 s2
  have HV2 := Lib.hid fun W hTW => ratValid_any yn y1 y2 W hTW s3 s4
  have HB0 := Lib.hid (below2 w (.cells #[.bool xn, .string x1, .string x2] 57) (.cells #[.bool yn, .string y1, .string y2] 57))
  cases hx : Nt.rat? (xn, x1, x2) with
  | none =>
    have hc : Nt.rCmp (xn, x1, x2) (yn, y1, y2) = 0 := by unfold Nt.rCmp; rw [hx]
    rw [show Nt.rValid (xn, x1, x2) = false by unfold Nt.rValid; rw [hx]; rfl] at HV
    rw [hc]
    clear hc hx
    unfold rv at *
    go_enter Tryz.func25, Tryz.ntmps25
    go_wp2_with fail
    refine (HV.out _ (hT.below HB0.out)).mono ?_
    rintro e W1 ⟨rfl, hb1⟩
    have HB1 := Lib.hid (below_trans HB0.out hb1)
    clear hb1
    go_wp2
    go_ret
    exact ⟨rfl, HB1.out⟩
  | some a =>
    rw [show Nt.rValid (xn, x1, x2) = true by unfold Nt.rValid; rw [hx]; rfl] at HV
    cases hy : Nt.rat? (yn, y1, y2) with
    | none =>
      have hc : Nt.rCmp (xn, x1, x2) (yn, y1, y2) = 0 := by unfold Nt.rCmp; rw [hx, hy]
      rw [show Nt.rValid (yn, y1, y2) = false by unfold Nt.rValid; rw [hy]; rfl] at HV2
      rw [hc]
      clear hc hx hy
      have HK := Lib.hid fun W (h : Below ((w.alloc (.cells #[.bool xn, .string x1, .string x2] 57)).alloc (.cells #[.bool yn, .string y1, .string y2] 57)).heap.size ((w.alloc (.cells #[.bool xn, .string x1, .string x2] 57)).alloc (.cells #[.bool yn, .string y1, .string y2] 57)) W) =>
        And.intro ((h.block _ (by simp; omega)).trans (heapR2 w _ _).1) ((h.block _ (by simp)).trans (heapR2 w (.cells #[.bool xn, .string x1, .string x2] 57) (.cells #[.bool yn, .string y1, .string y2] 57)).2)
      unfold rv at *
      go_enter Tryz.func25, Tryz.ntmps25
      go_wp2_with fail
      refine (HV.out _ (hT.below HB0.out)).mono ?_
      rintro e W1 ⟨rfl, hb1⟩
      obtain ⟨⟨q0, q1, q2⟩, -⟩ := cells3 (HK.out _ hb1).2
      have HB1 := Lib.hid (below_trans HB0.out hb1)
      clear hb1
      go_wp2_with fail
      refine (HV2.out _ (hT.below HB1.out)).mono ?_
      rintro e W2 ⟨rfl, hb2⟩
      have HB2 := Lib.hid (below_trans HB1.out hb2)
      clear hb2
      go_wp2
      go_ret
      exact ⟨rfl, HB2.out⟩
    | some b =>
      rw [show Nt.rValid (yn, y1, y2) = true by unfold Nt.rValid; rw [hy]; rfl] at HV2
      obtain ⟨hxs, hfa⟩ := Nt.rat?_some hx
      obtain ⟨hys, hfb⟩ := Nt.rat?_some hy
      have hc : Nt.rCmp (xn, x1, x2) (yn, y1, y2) = Nt.rcmp a b := by rw [hxs, hys, Nt.rCmp_rs _ _ hfa hfb]
      rw [hc]
      have HK := Lib.hid fun W (h : Below ((w.alloc (.cells #[.bool xn, .string x1, .string x2] 57)).alloc (.cells #[.bool yn, .string y1, .string y2] 57)).heap.size ((w.alloc (.cells #[.bool xn, .string x1, .string x2] 57)).alloc (.cells #[.bool yn, .string y1, .string y2] 57)) W) =>
        And.intro ((h.block _ (by simp; omega)).trans (heapR2 w _ _).1) ((h.block _ (by simp)).trans (heapR2 w (.cells #[.bool xn, .string x1, .string x2] 57) (.cells #[.bool yn, .string y1, .string y2] 57)).2)
      by_cases hab : a = b
      · subst hab
        obtain ⟨rfl, rfl, rfl⟩ : xn = yn ∧ x1 = y1 ∧ x2 = y2 := by
          have := hxs.trans hys.symm
          simpa using this
        rw [Nt.rcmp_self]
        clear hc hx hy hxs hys hfa hfb
        unfold rv at *
        go_enter Tryz.func25, Tryz.ntmps25
        go_wp2_with fail
        refine (HV.out _ (hT.below HB0.out)).mono ?_
        rintro e W1 ⟨rfl, hb1⟩
        obtain ⟨⟨q0, q1, q2⟩, -⟩ := cells3 (HK.out _ hb1).2
        have HB01 := Lib.hid hb1
        have HB1 := Lib.hid (below_trans HB0.out hb1)
        clear hb1
        go_wp2_with fail
        refine (HV2.out _ (hT.below HB1.out)).mono ?_
        rintro e W2 ⟨rfl, hb2⟩
        have hb02 := below_trans HB01.out hb2
        obtain ⟨⟨r0, r1, r2⟩, -⟩ := cells3 (HK.out _ hb02).2
        obtain ⟨⟨r3, r4, r5⟩, -⟩ := cells3 (HK.out _ hb02).1
        have HB2 := Lib.hid (below_trans HB1.out hb2)
        clear hb2 hb02 q0 q1 q2
        go_wp2
        go_ret
        exact ⟨rfl, HB2.out⟩
      · have hR0 : Nt.rcmp a b ≠ 0 := fun h => hab ((Nt.rcmp_zero a b).1 h)
        obtain ⟨R, hR⟩ : ∃ R, R = Nt.rcmp a b := ⟨_, rfl⟩
        rw [← hR] at hR0 ⊢
        obtain ⟨ex1, ex2, ex3⟩ : xn = Nt.ng a ∧ x1 = Nt.nat2s (Nt.nu a) ∧ x2 = Nt.nat2s a.den := by simpa [Nt.rs, Nt.ng, Nt.nu] using hxs
        obtain ⟨ey1, ey2, ey3⟩ : yn = Nt.ng b ∧ y1 = Nt.nat2s (Nt.nu b) ∧ y2 = Nt.nat2s b.den := by simpa [Nt.rs, Nt.ng, Nt.nu] using hys
        have hne : ¬ (xn = yn ∧ x1 = y1 ∧ x2 = y2) := fun ⟨h1, h2, h3⟩ => hab (Nt.rs_inj (by rw [← hxs, ← hys, h1, h2, h3]))
        have HX := Lib.hid (And.intro ex1 (And.intro ex2 ex3))
        have HY := Lib.hid (And.intro ey1 (And.intro ey2 ey3))
        have HR := Lib.hid hR
        have HR0 := Lib.hid hR0
        have HNE := Lib.hid hne
        have HFA := Lib.hid hfa
        have HFB := Lib.hid hfb
        clear hc hx hy hxs hys hfa hfb hab hR hR0 ex1 ex2 ex3 ey1 ey2 ey3 hne
        unfold rv at *
        go_enter Tryz.func25, Tryz.ntmps25
        go_upto_block 0 with fail
        go_cut [48] (fun _ wx => CmpIn w wx R)
        case first =>
          go_upto_region 1 with (fail)
          go_cut [14] (fun s wx => s = .bool false ∧ Below ((w.alloc (.cells #[.bool xn, .string x1, .string x2] 57)).alloc (.cells #[.bool yn, .string y1, .string y2] 57)).heap.size ((w.alloc (.cells #[.bool xn, .string x1, .string x2] 57)).alloc (.cells #[.bool yn, .string y1, .string y2] 57)) wx)
          case first =>
            go_wp2_with fail
            refine (HV.out _ (hT.below HB0.out)).mono ?_
            rintro e W1 ⟨rfl, hb1⟩
            obtain ⟨⟨q0, q1, q2⟩, -⟩ := cells3 (HK.out _ hb1).2
            have HB01 := Lib.hid hb1
            have HB1 := Lib.hid (below_trans HB0.out hb1)
            clear hb1
            go_wp2_with fail
            refine (HV2.out _ (hT.below HB1.out)).mono ?_
            rintro e W2 ⟨rfl, hb2⟩
            have hb02 := below_trans HB01.out hb2
            obtain ⟨⟨r0, r1, r2⟩, -⟩ := cells3 (HK.out _ hb02).2
            obtain ⟨⟨r3, r4, r5⟩, -⟩ := cells3 (HK.out _ hb02).1
            have HB2 := Lib.hid hb02
            clear hb2 hb02 q0 q1 q2
            by_cases e1 : xn = yn
            · by_cases e2 : x1 = y1
              · have hb : (x2.toList == y2.toList) = false := strNe (fun e3 => HNE.out ⟨e1, e2, e3⟩)
                subst e1 e2
                go_wp2
                go_meet
                case rel => exact ⟨rfl, HB2.out⟩
              · have hb : (x1.toList == y1.toList) = false := strNe e2
                subst e1
                go_wp2
                go_meet
                case rel => exact ⟨rfl, HB2.out⟩
            · have hb : (xn == yn) = false := by simpa using e1
              go_wp2
              go_meet
              case rel => exact ⟨rfl, HB2.out⟩
          case rest =>
            obtain ⟨rfl, hbc⟩ := hcut
            have HBC := Lib.hid hbc
            clear hbc
            have hk := HK.out _ HBC.out
            obtain ⟨⟨r0, r1, r2⟩, -⟩ := cells3 hk.2
            obtain ⟨⟨r3, r4, r5⟩, -⟩ := cells3 hk.1
            have HKK := Lib.hid hk
            clear hk
            cases xn with
            | true =>
              cases yn with
              | false =>
                obtain rfl : R = -1 := HR.out.trans (Nt.rcmp_np a b HX.out.1.symm HY.out.1.symm)
                go_wp2
                go_ret
                exact ⟨rfl, below_trans HB0.out HBC.out⟩
              | true =>
                have hz1 : (x1.toList == [48]) = false := by
                  rw [HX.out.2.1, isz (fit_parts HFA.out).1]
                  exact decide_eq_false (by have := Nt.ng_pos a HX.out.1.symm; omega)
                have hz2 : (y1.toList == [48]) = false := by
                  rw [HY.out.2.1, isz (fit_parts HFB.out).1]
                  exact decide_eq_false (by have := Nt.ng_pos b HY.out.1.symm; omega)
                have HM1 := Lib.hid fun W => minus_any true x1 x2 false W hz1
                have HM2 := Lib.hid fun W => minus_any true y1 y2 false W hz2
                unfold rv at HM1 HM2
                simp only [Bool.not_true, Bool.false_and] at HM1 HM2
                have HS : Hid (∀ {W}, Below wc.heap.size wc W → (W.cell? ⟨w.heap.size, 0, none⟩ = some (.bool true) ∧ W.cell? ⟨w.heap.size, 1, none⟩ = some (.string x1) ∧ W.cell? ⟨w.heap.size, 2, none⟩ = some (.string x2)) ∧ (W.cell? ⟨w.heap.size + 1, 0, none⟩ = some (.bool true) ∧ W.cell? ⟨w.heap.size + 1, 1, none⟩ = some (.string y1) ∧ W.cell? ⟨w.heap.size + 1, 2, none⟩ = some (.string y2)) ∧
                    W.frozen? ⟨w.heap.size, 0, none⟩ = false ∧ W.frozen? ⟨w.heap.size, 1, none⟩ = false ∧ W.frozen? ⟨w.heap.size, 2, none⟩ = false ∧ W.frozen? ⟨w.heap.size + 1, 0, none⟩ = false ∧ W.frozen? ⟨w.heap.size + 1, 1, none⟩ = false ∧ W.frozen? ⟨w.heap.size + 1, 2, none⟩ = false) := fun h => by
                  have hk := HK.out _ (below_trans HBC.out h)
                  have c2 := cells3 hk.1
                  have c3 := cells3 hk.2
                  exact ⟨c2.1, c3.1, c2.2.1, c2.2.2.1, c2.2.2.2, c3.2.1, c3.2.2.1, c3.2.2.2⟩
                have hg := Below.refl wc.heap.size wc
                clear hz1 hz2
                go_wp2_with fail
                go_region_law (first
                  | (go_simp
                     go_at_call 49
                     first
                       | with_reducible refine (HM1.out _).mono ?_
                       | with_reducible refine (HM2.out _).mono ?_
                     rintro e W' ⟨rfl, hb⟩
                     first
                       | have hg := below_trans hg hb
                       | have hg := below_trans hg.drew hb
                     obtain ⟨⟨u0, u1, u2⟩, ⟨u3, u4, u5⟩, z0, z1, z2, z3, z4, z5⟩ := HS.out hg))
                all_goals
                  have hk' := HK.out _ (below_trans HBC.out hg)
                  have hsw := swapped (w := w) hk'.1 hk'.2 (by omega) (below_trans HB0.out (below_trans HBC.out hg)) (Nat.le_refl _) (by omega) (.bool false) (.string y1) (.string y2) (.bool false) (.string x1) (.string x2)
                  have HSW := Lib.hid hsw
                  clear hsw hk'
                  go_wp2_with fail
                  go_meet
                  case rel => exact ⟨_, _, _, _, false, (HR.out.trans (Nt.rcmp_negs a b HX.out.1.symm HY.out.1.symm)).symm, b.den_pos, a.den_pos, (fit_parts HFB.out).1, (fit_parts HFB.out).2, (fit_parts HFA.out).1, (fit_parts HFA.out).2, by rw [← HY.out.2.1, ← HY.out.2.2]; exact HSW.out.1, by rw [← HX.out.2.1, ← HX.out.2.2]; exact HSW.out.2.1, HSW.out.2.2⟩
            | false =>
              cases yn with
              | true =>
                obtain rfl : R = 1 := HR.out.trans (Nt.rcmp_pn a b HX.out.1.symm HY.out.1.symm)
                go_wp2
                go_ret
                exact ⟨rfl, below_trans HB0.out HBC.out⟩
              | false =>
                go_wp2_with fail
                go_meet
                case rel => exact ⟨_, _, _, _, false, (HR.out.trans (Nt.rcmp_pos a b HX.out.1.symm HY.out.1.symm)).symm, a.den_pos, b.den_pos, (fit_parts HFA.out).1, (fit_parts HFA.out).2, (fit_parts HFB.out).1, (fit_parts HFB.out).2, by rw [← HX.out.2.1, ← HX.out.2.2]; exact HKK.out.1, by rw [← HY.out.2.1, ← HY.out.2.2]; exact HKK.out.2, below_trans HB0.out HBC.out⟩
        case rest =>
          obtain ⟨n1, d1, n2, d2, z, hcmp, hd1, hd2, f1, f2, f3, f4, hk2, hk3, hbw⟩ := hcut
          have HN1 := Lib.hid f1
          have HN2 := Lib.hid f2
          have HN3 := Lib.hid f3
          have HN4 := Lib.hid f4
          have HCMP := Lib.hid hcmp
          obtain ⟨⟨r0, r1, r2⟩, -⟩ := cells3 hk2
          obtain ⟨⟨r3, r4, r5⟩, -⟩ := cells3 hk3
          have a1 := fun o => below_cell (bal wc o) r1
          have a2 := fun o => below_cell (bal wc o) r2
          have a4 := fun o => below_cell (bal wc o) r4
          have a5 := fun o => below_cell (bal wc o) r5
          have b1 := fun o o' => below_cell (bal (wc.alloc o) o') (a1 o)
          have b2 := fun o o' => below_cell (bal (wc.alloc o) o') (a2 o)
          have b4 := fun o o' => below_cell (bal (wc.alloc o) o') (a4 o)
          have b5 := fun o o' => below_cell (bal (wc.alloc o) o') (a5 o)
          have HBW := Lib.hid hbw
          clear hbw hk2 hk3 f1 f2 f3 f4 hcmp
          go_upto_region 9 with (fail)
          go_cut [5, 6] (fun u v wx => CmpAt w wx u v n1 d1 n2 d2)
          case first =>
            go_region
            all_goals
              go_wp2_with fail
              go_meet
              case rel =>
                first
                  | exact ⟨wc.heap.size, wc.heap.size + 1, rfl, rfl, by omega, HBW.out.size, by have := HBW.out.size; omega, (heapR2 wc _ _).1, (heapR2 wc _ _).2, (((HBW.out.alloc HBW.out.size _).alloc (by have := HBW.out.size; simp; omega) _)).drew⟩
                  | exact ⟨wc.heap.size + 1, wc.heap.size, rfl, rfl, by omega, by have := HBW.out.size; omega, HBW.out.size, (heapR2 wc _ _).2, (heapR2 wc _ _).1, (((HBW.out.alloc HBW.out.size _).alloc (by have := HBW.out.size; simp; omega) _)).drew⟩
          case rest =>
            obtain ⟨g, h, rfl, rfl, hgh, hg0, hh0, hg, hh, hbw⟩ := hcut
            obtain ⟨wq, rfl⟩ : ∃ wq : World, wq = wc := ⟨wc, rfl⟩
            have hst : CmpSt w wq g h R (d1 + d2) := ⟨⟨n1, d1, n2, d2, rfl, hd1, hd2, HN1.out, HN2.out, HN3.out, HN4.out, HCMP.out, hg, hh⟩, hbw⟩
            have HST := Lib.hid hst
            have n1' : ¬ g = h := hgh
            have n2' : ¬ h = g := fun e => hgh e.symm
            clear hst hg hh hbw hgh r0 r1 r2 r3 r4 r5 a1 a2 a4 a5 b1 b2 b4 b5 HCMP HN1 HN2 HN3 HN4
            go_wp2_with fail
            go_loopg [7] (d1 + d2) (fun k _ wr => CmpSt w wr g h R k)
            case atStart => exact HST.out
            case round =>
              obtain ⟨⟨a', b', c', d', hk, hb0, hd0, e1, e2, e3, e4, hcmp, hg, hh⟩, hB⟩ := hrel
              obtain ⟨p0, p1, p2, p3⟩ := cellsP hg
              have HD1 := Lib.hid fun W hTW => natDiv_any (Nt.nat2s a') (Nt.nat2s b') a' b' W hTW (nat2s_sz e1) (nat2s_sz e2) (Nt.num?_nat2s _ e1) (Nt.num?_nat2s _ e2) (by omega)
              have HD2 := Lib.hid fun W hTW => natDiv_any (Nt.nat2s c') (Nt.nat2s d') c' d' W hTW (nat2s_sz e3) (nat2s_sz e4) (Nt.num?_nat2s _ e3) (Nt.num?_nat2s _ e4) (by omega)
              have g1 : Lib.nDigits (a' / b') ≤ 1000 := digits_mono (Nat.div_le_self _ _) e1
              have g2 : Lib.nDigits (a' % b') ≤ 1000 := digits_mono (Nat.mod_le _ _) e1
              have g3 : Lib.nDigits (c' / d') ≤ 1000 := digits_mono (Nat.div_le_self _ _) e3
              have g4 : Lib.nDigits (c' % d') ≤ 1000 := digits_mono (Nat.mod_le _ _) e3
              have hstep := Nt.cmpN_step a' b' c' d' hb0 hd0
              rw [hcmp] at hstep
              have HCO := Lib.hid fun W => natCompare_any (Nt.nat2s (a' / b')) (Nt.nat2s (c' / d')) W (nat2s_sz g1) (nat2s_sz g3)
              rw [show nCmp (Nt.nat2s (a' / b')) (Nt.nat2s (c' / d')) = cmpI (a' / b') (c' / d') by unfold nCmp; rw [Nt.num?_nat2s _ g1, Nt.num?_nat2s _ g3]] at HCO
              have hz1 := isz g2
              have hz2 := isz g4
              have hlt1 := Nat.mod_lt a' hb0
              have hlt2 := Nat.mod_lt c' hd0
              have HG := Lib.hid hg
              have HH' := Lib.hid hh
              have HBr := Lib.hid hB
              have HE2 := Lib.hid e2
              have HE4 := Lib.hid e4
              have HG2 := Lib.hid g2
              have HG4 := Lib.hid g4
              have HK := Lib.hid hk
              generalize a' / b' = m at *
              generalize a' % b' = r at *
              generalize c' / d' = n at *
              generalize c' % d' = s at *
              have HSTEP := Lib.hid hstep
              have HCM := Lib.hid hcmp
              have HZ1 := Lib.hid hz1
              have HZ2 := Lib.hid hz2
              clear hg hh hB e1 e2 e3 e4 g1 g2 g3 g4 hk hstep hcmp hz1 hz2
              go_wp2_with fail
              refine (HD1.out _ (hT.below HBr.out)).mono ?_
              rintro e W1 ⟨rfl, hb1⟩
              obtain ⟨q0, q1, q2, q3⟩ := cellsP ((hb1.block _ (lt_of_block HH'.out)).trans HH'.out)
              have HB1 := Lib.hid hb1
              clear hb1
              go_wp2_with fail
              refine (HD2.out _ (hT.below (below_trans HBr.out HB1.out))).mono ?_
              rintro e W2 ⟨rfl, hb2⟩
              have HB2 := Lib.hid (below_trans HB1.out hb2)
              clear hb2
              go_wp2_with fail
              refine (HCO.out _).mono ?_
              rintro e W3 ⟨rfl, hb3⟩
              have hb03 := below_trans HB2.out hb3
              have hg3 := (hb03.block _ (lt_of_block HG.out)).trans HG.out
              have hh3 := (hb03.block _ (lt_of_block HH'.out)).trans HH'.out
              obtain ⟨t0, t1, t2, t3⟩ := cellsP hg3
              obtain ⟨u0, u1, u2, u3⟩ := cellsP hh3
              have HG3 := Lib.hid hg3
              have HH3 := Lib.hid hh3
              have HB3 := Lib.hid (below_trans HBr.out hb03)
              clear hb3 hb03 hg3 hh3 p0 p1 p2 p3 q0 q1 q2 q3
              by_cases c1 : m < n
              · obtain rfl : R = -1 := by have := HSTEP.out; rwa [if_pos c1] at this
                rw [cmpI_lt c1]
                go_wp2
                go_ret
                exact ⟨rfl, HB3.out⟩
              · by_cases c2 : n < m
                · obtain rfl : R = 1 := by have := HSTEP.out; rwa [if_neg c1, if_pos c2] at this
                  rw [cmpI_gt c2]
                  go_wp2
                  go_ret
                  exact ⟨rfl, HB3.out⟩
                · have hR : R = Nt.cmpN d' s b' r := by have := HSTEP.out; rwa [if_neg c1, if_neg c2] at this
                  have HRR := Lib.hid hR
                  rw [show cmpI m n = 0 by unfold cmpI; rw [if_neg c1, if_neg c2]]
                  clear hR c1 c2
                  by_cases z1 : r = 0
                  · have hz := HZ1.out
                    rw [decide_eq_true z1] at hz
                    obtain rfl : R = -1 := by rw [HRR.out, z1]; exact Nt.cmpN_r0 _ _ _ hb0 (by rw [← z1, ← HRR.out]; exact HR0.out)
                    clear z1
                    go_wp2
                    go_ret
                    exact ⟨rfl, HB3.out⟩
                  · have hz := HZ1.out
                    rw [decide_eq_false z1] at hz
                    by_cases z2 : s = 0
                    · have hz' := HZ2.out
                      rw [decide_eq_true z2] at hz'
                      obtain rfl : R = 1 := by rw [HRR.out, z2]; exact Nt.cmpN_s0 _ _ _ hd0 (by omega)
                      clear z1 z2
                      go_wp2
                      go_ret
                      exact ⟨rfl, HB3.out⟩
                    · have hz' := HZ2.out
                      rw [decide_eq_false z2] at hz'
                      go_wp2
                      go_roundg (s + r)
                      case measure => have := HK.out; omega
                      case rel =>
                        exact ⟨⟨d', s, b', r, by omega, by omega, by omega, HE4.out, HG4.out, HE2.out, HG2.out, HRR.out.symm, setO (setO (setP HG3.out _ _) n1') n1', setP (setO (setO HH3.out n2') n2') _ _⟩,
                          (((HB3.out.setCell (p := ⟨g, 0, none⟩) hg0 _).setCell (p := ⟨g, 1, none⟩) hg0 _).setCell (p := ⟨h, 0, none⟩) hh0 _).setCell (p := ⟨h, 1, none⟩) hh0 _⟩
end Go.Proofs.YtcphclpekllcoaaGreatDoor
