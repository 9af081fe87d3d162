/- Walks: the laws' own helpers: equal, fits. -/
import Derived.Test.YtcphclpekllcoaaGreatDoorDf
import Derived.BigQuiet
namespace Go.Proofs.YtcphclpekllcoaaGreatDoor
open Go.RowKit

def dv6 (d : Nt.Deb) : Value := .agg (dcells d).toArray
def pv4 (p : Nt.Pay) : Value := .agg (pcells p).toArray

set_option maxRecDepth 100000 in
theorem equal_any (av bv : Value) (xs ys : List Int) (w : World) (ha : IL w av xs) (hb : IL w bv ys) (hx : xs.length ≤ 1000000) (_hy : ys.length ≤ 1000000) :
    Calls Tryz.prog 20 #[av, bv] w fun e w' => e = .returned (.bool (decide (xs = ys))) ∧ Below w.heap.size w w' := by
  obtain ⟨aa, ac, rfl, a1, a2, a3⟩ := ha
  obtain ⟨ba, bc, rfl, b1, b2, b3⟩ := hb
  have HA : Hid (IL w (.slice aa xs.length ac) xs) := ⟨aa, ac, rfl, a1, a2, a3⟩
  have HB : Hid (IL w (.slice ba ys.length bc) ys) := ⟨ba, bc, rfl, b1, b2, b3⟩
  clear a1 a2 a3 b1 b2 b3
  obtain ⟨R, hR⟩ : ∃ R, R = decide (xs = ys) := ⟨_, rfl⟩
  rw [← hR]
  have HR := Lib.hid hR
  clear hR
  by_cases hl : xs.length = ys.length
  · obtain ⟨n, hn⟩ : ∃ n, xs.length = n := ⟨_, rfl⟩
    rw [hn] at HA hx hl ⊢
    rw [← hl] at HB ⊢
    have HN := Lib.hid hn
    have HL := Lib.hid hl
    clear hn hl _hy
    go_enter Tryz.func20, Tryz.ntmps20
    go_wp2
    go_loopw [5] (fun i wr => ∃ k : Nat, i = .int .i64 k ∧ k ≤ n ∧ Below w.heap.size w wr ∧ ∀ j, j < k → xs[j]? = ys[j]?) (fun i _ => n - (intOf i).toNat)
    case atStart => exact ⟨0, rfl, Nat.zero_le _, Below.refl _ _, fun j h => absurd h (Nat.not_lt_zero j)⟩
    case round =>
      obtain ⟨k, rfl, hk, hB, hall⟩ := hrel
      by_cases hlt : k < n
      · obtain ⟨x, hx⟩ : ∃ x, xs[k]? = some x := ⟨_, List.getElem?_eq_getElem (HN.out.symm ▸ hlt)⟩
        obtain ⟨y, hy⟩ : ∃ y, ys[k]? = some y := ⟨_, List.getElem?_eq_getElem (HL.out ▸ hlt)⟩
        obtain ⟨g, rfl, _, c0⟩ := IL.at HA.out hx
        obtain ⟨g', rfl, _, c1⟩ := IL.at HB.out hy
        have d0 := below_cell hB c0
        have d1 := below_cell hB c1
        have h0 : (0 : Int) ≤ (k : Int) := Int.natCast_nonneg _
        have h1 : (k : Int) < (n : Int) := by omega
        have HX := Lib.hid hx
        have HY := Lib.hid hy
        have HALL := Lib.hid hall
        have HB0 := Lib.hid hB
        clear hx hy c0 c1 hall hB
        by_cases he : x = y
        · have hb : (x == y) = true := by simpa using he
          have HE := Lib.hid he
          clear he
          go_wp2_with fail
          go_quiet (fail)
          go_wp2
          go_roundw
          case rel => exact ⟨k + 1, rfl, hlt, below_drewN HB0.out _, fun j hj => by
            by_cases e : j = k
            · subst e; rw [HX.out, HY.out, HE.out]
            · exact HALL.out j (by omega)⟩
          case measure => simp [intOf]; omega
        · have hb : (x == y) = false := by simpa using he
          have HF : Hid (R = false) := HR.out.trans (decide_eq_false (fun e => he (by have := HX.out; rw [e, HY.out] at this; exact (Option.some.inj this).symm)))
          clear he
          go_wp2_with fail
          go_quiet (fail)
          go_wp2
          go_ret
          have hF : _ = _ := HF
          exact ⟨by rw [hF]; rfl, below_drewN HB0.out _⟩
      · obtain rfl : k = n := by omega
        have HF : Hid (R = true) := HR.out.trans (decide_eq_true (List.ext_getElem? (fun j => by
          by_cases hj : j < k
          · exact hall j hj
          · rw [List.getElem?_eq_none (by have := HN.out; omega), List.getElem?_eq_none (by have := HL.out; omega)])))
        have HB0 := Lib.hid hB
        clear hall hB
        go_wp2
        go_ret
        have hF : _ = _ := HF
        exact ⟨by rw [hF]; rfl, HB0.out⟩
  · have HF : Hid (R = false) := HR.out.trans (decide_eq_false (fun e => hl (by rw [e])))
    have hb : ((xs.length : Int) == (ys.length : Int)) = false := by rw [beq_eq_false_iff_ne]; omega
    go_enter Tryz.func20, Tryz.ntmps20
    go_wp2
    go_ret
    have hF : _ = _ := HF
    exact ⟨by rw [hF]; rfl, Below.refl _ _⟩
end Go.Proofs.YtcphclpekllcoaaGreatDoor
