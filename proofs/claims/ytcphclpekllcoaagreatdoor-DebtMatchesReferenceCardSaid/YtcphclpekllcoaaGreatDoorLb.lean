/- Walks: the laws' own helpers: debts. -/
import Derived.Test.YtcphclpekllcoaaGreatDoorLa
namespace Go.Proofs.YtcphclpekllcoaaGreatDoor
open Go.RowKit

theorem list_ne {α : Type} {xs ys : List α} {k : Nat} {a b : α} (h : xs[k]? = some a) (h' : ys[k]? = some b) (hne : a ≠ b) : xs ≠ ys := fun e => hne (by rw [e, h'] at h; exact (Option.some.inj h).symm)

set_option maxRecDepth 100000 in
theorem debts_any (av bv : Value) (xs ys : List Nt.Deb) (w : World) (ha : DL w av xs) (hb : DL w bv ys) (hx : xs.length ≤ 1000000) (_hy : ys.length ≤ 1000000) :
    Calls Tryz.prog 19 #[av, bv] w fun e w' => e = .returned (.bool (decide (xs = ys))) ∧ Below w.heap.size w w' := by
  obtain ⟨aa, ac, rfl, a1, a2, a3⟩ := ha
  rw [List.length_map] at a1 ⊢
  obtain ⟨ba, bc, rfl, b1, b2, b3⟩ := hb
  rw [List.length_map] at b1 ⊢
  have HA : Hid (DL w (.slice aa xs.length ac) xs) := ⟨aa, ac, by rw [List.length_map], by rw [List.length_map]; exact a1, a2, a3⟩
  have HB : Hid (DL w (.slice ba ys.length bc) ys) := ⟨ba, bc, by rw [List.length_map], by rw [List.length_map]; exact b1, b2, b3⟩
  clear a1 a2 a3 b1 b2 b3
  obtain ⟨R, hR⟩ : ∃ R, R = decide (xs = ys) := ⟨_, rfl⟩
  rw [← hR]
  have HR := Lib.hid hR
  clear hR
  by_cases hl : xs.length = ys.length
  · obtain ⟨n, hn⟩ : ∃ n, xs.length = n := ⟨_, rfl⟩
    rw [hn] at HA hx hl ⊢
    rw [← hl] at HB ⊢
    have HN := Lib.hid hn
    have HL := Lib.hid hl
    clear hn hl _hy
    go_enter Tryz.func19, Tryz.ntmps19
    go_wp2
    go_loopw [5] (fun i wr => ∃ k : Nat, i = .int .i64 k ∧ k ≤ n ∧ Below w.heap.size w wr ∧ ∀ j, j < k → xs[j]? = ys[j]?) (fun i _ => n - (intOf i).toNat)
    case atStart => exact ⟨0, rfl, Nat.zero_le _, Below.refl _ _, fun j h => absurd h (Nat.not_lt_zero j)⟩
    case round =>
      obtain ⟨k, rfl, hk, hB, hall⟩ := hrel
      by_cases hlt : k < n
      · obtain ⟨x, hx⟩ : ∃ x, xs[k]? = some x := ⟨_, List.getElem?_eq_getElem (HN.out.symm ▸ hlt)⟩
        obtain ⟨y, hy⟩ : ∃ y, ys[k]? = some y := ⟨_, List.getElem?_eq_getElem (HL.out ▸ hlt)⟩
        obtain ⟨g, rfl, -, c0, c1, c2, c3, c4, c5⟩ := DL.at HA.out hx
        obtain ⟨g', rfl, -, e0, e1, e2, e3, e4, e5⟩ := DL.at HB.out hy
        have d0 := below_cell hB c0
        have f0 := below_cell hB e0
        have d1 := below_cell hB c1
        have f1 := below_cell hB e1
        have d2 := below_cell hB c2
        have f2 := below_cell hB e2
        have d3 := below_cell hB c3
        have f3 := below_cell hB e3
        have d4 := below_cell hB c4
        have f4 := below_cell hB e4
        have d5 := below_cell hB c5
        have f5 := below_cell hB e5
        have h0 : (0 : Int) ≤ (k : Int) := Int.natCast_nonneg _
        have h1 : (k : Int) < (n : Int) := by omega
        have HX := Lib.hid hx
        have HY := Lib.hid hy
        have HALL := Lib.hid hall
        have HB0 := Lib.hid hB
        clear hx hy c0 c1 c2 c3 c4 c5 e0 e1 e2 e3 e4 e5 hall hB
        obtain ⟨xk, xt, xf, xr, xu, xp⟩ := x
        obtain ⟨yk, yt, yf, yr, yu, yp⟩ := y
        dsimp only at d0 d1 d2 d3 d4 d5 f0 f1 f2 f3 f4 f5
        by_cases h1' : xk = yk
        · by_cases h2' : xt = yt
          · by_cases h3' : xf = yf
            · by_cases h4' : xr = yr
              · by_cases h5' : xu = yu
                · by_cases h6' : xp = yp
                  · subst h1' h2' h3' h4' h5' h6'
                    go_wp2_with fail
                    go_quiet (fail)
                    go_wp2
                    go_roundw
                    case rel => exact ⟨k + 1, rfl, hlt, below_drewN HB0.out _, fun j hj => by
                      by_cases e : j = k
                      · subst e; rw [HX.out, HY.out]
                      · exact HALL.out j (by omega)⟩
                    case measure => simp [intOf]; omega
                  · have hb : (xp == yp) = false := by simpa using h6'
                    have HF : Hid (R = false) := HR.out.trans (decide_eq_false (list_ne HX.out HY.out (fun e => h6' (congrArg Nt.Deb.pr e))))
                    subst h1' h2' h3' h4' h5'
                    go_wp2_with fail
                    go_quiet (fail)
                    go_wp2
                    go_ret
                    have hF : _ = _ := HF
                    exact ⟨by rw [hF]; rfl, below_drewN HB0.out _⟩
                · have hb : (xu == yu) = false := by simpa using h5'
                  have HF : Hid (R = false) := HR.out.trans (decide_eq_false (list_ne HX.out HY.out (fun e => h5' (congrArg Nt.Deb.un e))))
                  subst h1' h2' h3' h4'
                  go_wp2_with fail
                  go_quiet (fail)
                  go_wp2
                  go_ret
                  have hF : _ = _ := HF
                  exact ⟨by rw [hF]; rfl, below_drewN HB0.out _⟩
              · have hb : (xr == yr) = false := by simpa using h4'
                have HF : Hid (R = false) := HR.out.trans (decide_eq_false (list_ne HX.out HY.out (fun e => h4' (congrArg Nt.Deb.fr e))))
                subst h1' h2' h3'
                go_wp2_with fail
                go_quiet (fail)
                go_wp2
                go_ret
                have hF : _ = _ := HF
                exact ⟨by rw [hF]; rfl, below_drewN HB0.out _⟩
            · have hb : (xf == yf) = false := by simpa using h3'
              have HF : Hid (R = false) := HR.out.trans (decide_eq_false (list_ne HX.out HY.out (fun e => h3' (congrArg Nt.Deb.f e))))
              subst h1' h2'
              go_wp2_with fail
              go_quiet (fail)
              go_wp2
              go_ret
              have hF : _ = _ := HF
              exact ⟨by rw [hF]; rfl, below_drewN HB0.out _⟩
          · have hb : (xt == yt) = false := by simpa using h2'
            have HF : Hid (R = false) := HR.out.trans (decide_eq_false (list_ne HX.out HY.out (fun e => h2' (congrArg Nt.Deb.t e))))
            subst h1'
            go_wp2_with fail
            go_quiet (fail)
            go_wp2
            go_ret
            have hF : _ = _ := HF
            exact ⟨by rw [hF]; rfl, below_drewN HB0.out _⟩
        · have hb : (xk == yk) = false := by simpa using h1'
          have HF : Hid (R = false) := HR.out.trans (decide_eq_false (list_ne HX.out HY.out (fun e => h1' (congrArg Nt.Deb.k e))))
          go_wp2_with fail
          go_quiet (fail)
          go_wp2
          go_ret
          have hF : _ = _ := HF
          exact ⟨by rw [hF]; rfl, below_drewN HB0.out _⟩
      · obtain rfl : k = n := by omega
        have HF : Hid (R = true) := HR.out.trans (decide_eq_true (List.ext_getElem? (fun j => by
          by_cases hj : j < k
          · exact hall j hj
          · rw [List.getElem?_eq_none (by have := HN.out; omega), List.getElem?_eq_none (by have := HL.out; omega)])))
        have HB0 := Lib.hid hB
        clear hall hB
        go_wp2
        go_ret
        have hF : _ = _ := HF
        exact ⟨by rw [hF]; rfl, HB0.out⟩
  · have HF : Hid (R = false) := HR.out.trans (decide_eq_false (fun e => hl (by rw [e])))
    have hb : ((xs.length : Int) == (ys.length : Int)) = false := by rw [beq_eq_false_iff_ne]; omega
    go_enter Tryz.func19, Tryz.ntmps19
    go_wp2
    go_ret
    have hF : _ = _ := HF
    exact ⟨by rw [hF]; rfl, Below.refl _ _⟩
end Go.Proofs.YtcphclpekllcoaaGreatDoor
