/- Walks: sums, differences and products of limbs. -/
import Derived.Test.YtcphclpekllcoaaGreatDoorWb
namespace Go.Proofs.YtcphclpekllcoaaGreatDoor
open Go.RowKit

theorem fresh_mono {B B' : Nat} {v : Value} (h : Fresh B v) (hB : B' ≤ B) : Fresh B' v := fun k hk => Nat.le_trans hB (h k hk)

theorem heap2 (w : World) (a b : Obj) : ((w.alloc a).alloc b).heap[w.heap.size]? = some a ∧ ((w.alloc a).alloc b).heap[w.heap.size + 1]? = some b := by
  show ((w.heap.push a).push b)[w.heap.size]? = _ ∧ ((w.heap.push a).push b)[w.heap.size + 1]? = _
  refine ⟨?_, ?_⟩
  · rw [Array.getElem?_push, if_neg (by simp), Array.getElem?_push, if_pos rfl]
  · rw [Array.getElem?_push, if_pos (by simp)]
theorem below2 (w : World) (a b : Obj) : Below w.heap.size w ((w.alloc a).alloc b) := ((Below.refl _ w).alloc (Nat.le_refl _) _).alloc (by simp) _
theorem below_cell {w w' : World} (hb : Below w.heap.size w w') {a : Addr} {v : Value} (h : w.cell? a = some v) : w'.cell? a = some v :=
  (hb.cell (World.block_lt_of_cell? w a h)).trans h

set_option maxRecDepth 100000 in
theorem times_any (v : Value) (xs : List Nat) (q : Nat) (w : World) (h : LB w v xs) (hd : ∀ d ∈ xs, d < 1000000000) (hq : q < 1000000000) (hl : xs.length ≤ 900000) :
    Calls Tryz.prog 90 #[v, .int .i64 q] w fun e w' => ∃ v', e = .returned v' ∧ LB w' v' (Nt.limbs (q * Nt.lval xs)) ∧ Fresh w.heap.size v' ∧ Below w.heap.size w w' := by
  obtain ⟨b0, b1⟩ := heap2 w (.cells #[v] 96) (.cells #[.int .i64 q] 3)
  have HB := Lib.hid (below2 w (.cells #[v] 96) (.cells #[.int .i64 q] 3))
  have hcf : ∀ a W, (callFunc 114 a).run Tryz.prog W = .ok (.enter 114 a) W := fun _ _ => by kernel_rfl
  have HC := Lib.hid (collect_any (fun i => (q : Int) * Nt.at0 xs i) (fun i => by have := Nt.times_range xs q hd hq i; omega) (xs.length + 1) 114
    #[.pointer (some ⟨w.heap.size + 1, 0, none⟩), .pointer (some ⟨w.heap.size, 0, none⟩)] ((w.alloc (.cells #[v] 96)).alloc (.cells #[.int .i64 q] 3)) (by omega) hcf
    (fun i W hi hB => timesOf_any (w.heap.size + 1) w.heap.size q v xs i W (below_cell hB (cell_of_one b1)) (below_cell hB (cell_of_one b0))
      ((h.below (below2 w _ _)).below hB) hd hq (by omega) (by omega)))
  rw [Nt.times_all xs q hd hq] at HC
  clear hcf b0 b1
  obtain ⟨a, c, rfl, _, _, _⟩ := h
  rw [show ((xs.length + 1 : Nat) : Int) = (xs.length : Int) + 1 from rfl] at HC
  go_enter Tryz.func90, Tryz.ntmps90
  go_wp2_with fail
  refine HC.out.mono ?_
  rintro e W1 ⟨v', rfl, hv, hfr, hb⟩
  have HFR := Lib.hid (fresh_mono hfr HB.out.size)
  clear hfr
  go_wp2
  go_ret
  exact ⟨_, rfl, hv, HFR.out, below_trans HB.out hb⟩

theorem max_cast (a b : Nat) : (if (a : Int) ≤ (b : Int) then (b : Int) else a) = ((max a b : Nat) : Int) := by
  split <;> omega

set_option maxRecDepth 100000 in
theorem add_any (v u : Value) (xs ys : List Nat) (w : World) (h : LB w v xs) (h' : LB w u ys) (hd : ∀ d ∈ xs, d < 1000000000) (hd' : ∀ d ∈ ys, d < 1000000000)
    (hl : xs.length ≤ 900000) (hl' : ys.length ≤ 900000) :
    Calls Tryz.prog 84 #[v, u] w fun e w' => ∃ v', e = .returned v' ∧ LB w' v' (Nt.limbs (Nt.lval xs + Nt.lval ys)) ∧ Fresh w.heap.size v' ∧ Below w.heap.size w w' := by
  obtain ⟨b0, b1⟩ := heap2 w (.cells #[v] 96) (.cells #[u] 96)
  have HB := Lib.hid (below2 w (.cells #[v] 96) (.cells #[u] 96))
  have hcf : ∀ a W, (callFunc 110 a).run Tryz.prog W = .ok (.enter 110 a) W := fun _ _ => by kernel_rfl
  have HC := Lib.hid (collect_any (fun i => Nt.at0 xs i + Nt.at0 ys i) (fun i => by have := Nt.at0_range xs hd i; have := Nt.at0_range ys hd' i; omega) (max xs.length ys.length + 1) 110
    #[.pointer (some ⟨w.heap.size, 0, none⟩), .pointer (some ⟨w.heap.size + 1, 0, none⟩)] ((w.alloc (.cells #[v] 96)).alloc (.cells #[u] 96)) (by omega) hcf
    (fun i W hi hB => addOf_any w.heap.size (w.heap.size + 1) v u xs ys i W (below_cell hB (cell_of_one b0)) (below_cell hB (cell_of_one b1))
      ((h.below (below2 w _ _)).below hB) ((h'.below (below2 w _ _)).below hB) hd hd' (by omega) (by omega) (by omega)))
  rw [Nt.add_all xs ys hd hd' _ rfl] at HC
  clear hcf b0 b1
  obtain ⟨a, c, rfl, _, _, _⟩ := h
  obtain ⟨a', c', rfl, _, _, _⟩ := h'
  rw [show ((max xs.length ys.length + 1 : Nat) : Int) = ((max xs.length ys.length : Nat) : Int) + 1 from rfl] at HC
  by_cases hm : xs.length < ys.length
  · rw [Nat.max_eq_right (Nat.le_of_lt hm)] at HC
    go_enter Tryz.func84, Tryz.ntmps84
    go_wp2_with fail
    refine HC.out.mono ?_
    rintro e W1 ⟨v', rfl, hv, hfr, hb⟩
    have HFR := Lib.hid (fresh_mono hfr HB.out.size)
    clear hfr
    go_wp2
    go_ret
    exact ⟨_, rfl, hv, HFR.out, below_trans HB.out hb⟩
  · rw [Nat.max_eq_left (by omega)] at HC
    go_enter Tryz.func84, Tryz.ntmps84
    go_wp2_with fail
    refine HC.out.mono ?_
    rintro e W1 ⟨v', rfl, hv, hfr, hb⟩
    have HFR := Lib.hid (fresh_mono hfr HB.out.size)
    clear hfr
    go_wp2
    go_ret
    exact ⟨_, rfl, hv, HFR.out, below_trans HB.out hb⟩

set_option maxRecDepth 100000 in
theorem sub_any (v u : Value) (xs ys : List Nat) (w : World) (h : LB w v xs) (h' : LB w u ys) (hd : ∀ d ∈ xs, d < 1000000000) (hd' : ∀ d ∈ ys, d < 1000000000)
    (hl : xs.length ≤ 900000) (hly : ys.length ≤ xs.length) (hle : Nt.lval ys ≤ Nt.lval xs) :
    Calls Tryz.prog 68 #[v, u] w fun e w' => ∃ v', e = .returned v' ∧ LB w' v' (Nt.limbs (Nt.lval xs - Nt.lval ys)) ∧ Fresh w.heap.size v' ∧ Below w.heap.size w w' := by
  obtain ⟨b0, b1⟩ := heap2 w (.cells #[v] 96) (.cells #[u] 96)
  have HB := Lib.hid (below2 w (.cells #[v] 96) (.cells #[u] 96))
  have hcf : ∀ a W, (callFunc 88 a).run Tryz.prog W = .ok (.enter 88 a) W := fun _ _ => by kernel_rfl
  have HC := Lib.hid (collect_any (fun i => Nt.at0 xs i - Nt.at0 ys i) (fun i => by have := Nt.at0_range xs hd i; have := Nt.at0_range ys hd' i; omega) xs.length 88
    #[.pointer (some ⟨w.heap.size, 0, none⟩), .pointer (some ⟨w.heap.size + 1, 0, none⟩)] ((w.alloc (.cells #[v] 96)).alloc (.cells #[u] 96)) (by omega) hcf
    (fun i W hi hB => subOf_any w.heap.size (w.heap.size + 1) v u xs ys i W (below_cell hB (cell_of_one b0)) (below_cell hB (cell_of_one b1))
      ((h.below (below2 w _ _)).below hB) ((h'.below (below2 w _ _)).below hB) hd hd' hi (by omega) (by omega)))
  rw [Nt.sub_all xs ys hd hle hly] at HC
  clear hcf b0 b1
  obtain ⟨a, c, rfl, _, _, _⟩ := h
  obtain ⟨a', c', rfl, _, _, _⟩ := h'
  go_enter Tryz.func68, Tryz.ntmps68
  go_wp2_with fail
  refine HC.out.mono ?_
  rintro e W1 ⟨v', rfl, hv, hfr, hb⟩
  have HFR := Lib.hid (fresh_mono hfr HB.out.size)
  clear hfr
  go_wp2
  go_ret
  exact ⟨_, rfl, hv, HFR.out, below_trans HB.out hb⟩

def cmpI (m n : Nat) : Int := if m < n then -1 else if n < m then 1 else 0
theorem cmpI_lt {m n : Nat} (h : m < n) : cmpI m n = -1 := by simp [cmpI, h]
theorem cmpI_gt {m n : Nat} (h : n < m) : cmpI m n = 1 := by unfold cmpI; rw [if_neg (by omega), if_pos h]
theorem cmpI_eq {m n : Nat} (h : m = n) : cmpI m n = 0 := by subst h; simp [cmpI]

theorem LB.at {w : World} {a : Option Addr} {n c : Nat} {xs : List Nat} (h : LB w (.slice a n c) xs) {i : Nat} (hi : i < xs.length) :
    ∃ g, a = some ⟨g, 0, none⟩ ∧ n = xs.length ∧ w.cell? ⟨g, i, none⟩ = some (.int .i64 ((xs[i]?.getD 0 : Nat) : Int)) := by
  obtain ⟨a', c', e, _, _, h3⟩ := h
  simp only [Value.slice.injEq] at e
  obtain ⟨rfl, rfl, rfl⟩ := e
  rcases h3 with ⟨_, rfl, _⟩ | ⟨g, rfl, h3⟩
  · simp at hi
  · exact ⟨g, rfl, rfl, h3 i hi⟩

set_option maxRecDepth 100000 in
theorem compare_any (v u : Value) (m n : Nat) (w : World) (h : LB w v (Nt.limbs m)) (h' : LB w u (Nt.limbs n)) (hl : (Nt.limbs m).length ≤ 900000) (_hl' : (Nt.limbs n).length ≤ 900000) :
    Calls Tryz.prog 66 #[v, u] w fun e w' => e = .returned (.int .i64 (cmpI m n)) ∧ ∃ k, w' = w.drewN k := by
  have g := h
  have g' := h'
  obtain ⟨a, c, rfl, _, _, _⟩ := h
  obtain ⟨a', c', rfl, _, _, _⟩ := h'
  by_cases hlen : (Nt.limbs m).length = (Nt.limbs n).length
  · have hne : (((Nt.limbs m).length : Int) != ((Nt.limbs n).length : Int)) = false := by rw [hlen]; simp
    have HL := Lib.hid hlen
    clear hlen
    go_enter Tryz.func66, Tryz.ntmps66
    go_wp2
    go_loopw [5] (fun i wr => ∃ k : Nat, k ≤ (Nt.limbs m).length ∧ i = .int .i64 ((k : Int) - 1) ∧ (∀ j, k ≤ j → (Nt.limbs m).getD j 0 = (Nt.limbs n).getD j 0) ∧ ∃ q, wr = w.drewN q) (fun i _ => (intOf i + 1).toNat)
    case atStart => exact ⟨(Nt.limbs m).length, Nat.le_refl _, rfl, fun j hj => by simp [List.getD_eq_getElem?_getD, List.getElem?_eq_none hj, List.getElem?_eq_none (HL.out ▸ hj)], 0, rfl⟩
    case round =>
      obtain ⟨k, hk, rfl, heq, q, rfl⟩ := hrel
      by_cases h0 : k = 0
      · subst h0
        have HE := Lib.hid (cmpI_eq (Nt.limbs_ext HL.out (fun j => heq j (Nat.zero_le _))))
        clear heq
        go_wp2
        go_ret
        exact ⟨ret_int HE.out.symm, q, rfl⟩
      · obtain ⟨j, rfl⟩ : ∃ j, k = j + 1 := ⟨k - 1, by omega⟩
        obtain ⟨b, rfl, _, c1⟩ := g.at (i := j) (by omega)
        obtain ⟨b', rfl, _, c2⟩ := g'.at (i := j) (by have := HL.out; omega)
        have hj' : j < (Nt.limbs n).length := by have := HL.out; omega
        have HEQ := Lib.hid heq
        have he1 : ((j + 1 : Nat) : Int) - 1 = (j : Int) := by omega
        clear heq g g'
        rw [he1]
        clear he1
        generalize hA : (Nt.limbs m)[j]?.getD 0 = A at c1
        generalize hB : (Nt.limbs n)[j]?.getD 0 = B at c2
        have HA := Lib.hid hA
        have HB := Lib.hid hB
        clear hA hB
        rcases Nat.lt_trichotomy A B with hAB | hAB | hAB
        · have hb : ((A : Int) != (B : Int)) = true := by simp; omega
          have HR := Lib.hid (cmpI_lt (m := m) (n := n) (by
            have := Nt.lval_lt_of j HL.out (Nt.limbs_lt m) (by omega) (fun t ht => HEQ.out t (by omega)) (by simp only [List.getD_eq_getElem?_getD]; rw [HA.out, HB.out]; exact hAB)
            rwa [Nt.lval_limbs, Nt.lval_limbs] at this))
          go_wp2
          go_quiet (fail)
          go_wp2
          go_quiet (fail)
          go_wp2
          go_ret
          exact ⟨ret_int HR.out.symm, _, by rw [World.drewN_drewN, World.drewN_drewN]⟩
        · have HAB := Lib.hid hAB
          subst hAB
          go_wp2
          go_quiet (fail)
          go_wp2
          go_roundw
          case rel => exact ⟨j, by omega, rfl, fun t ht => by
            by_cases e : t = j
            · subst e; simp only [List.getD_eq_getElem?_getD]; rw [HA.out, HB.out]
            · exact HEQ.out t (by omega), _, rfl⟩
          case measure => simp [intOf]
        · have hb : ((A : Int) != (B : Int)) = true := by simp; omega
          have HR := Lib.hid (cmpI_gt (m := m) (n := n) (by
            have := Nt.lval_lt_of j HL.out.symm (Nt.limbs_lt n) (by omega) (fun t ht => (HEQ.out t (by omega)).symm) (by simp only [List.getD_eq_getElem?_getD]; rw [HA.out, HB.out]; exact hAB)
            rwa [Nt.lval_limbs, Nt.lval_limbs] at this))
          go_wp2
          go_quiet (fail)
          go_wp2
          go_quiet (fail)
          go_wp2
          go_ret
          exact ⟨ret_int HR.out.symm, _, by rw [World.drewN_drewN, World.drewN_drewN]⟩
  · have hne : (((Nt.limbs m).length : Int) != ((Nt.limbs n).length : Int)) = true := by simp; omega
    by_cases hlt : (Nt.limbs m).length < (Nt.limbs n).length
    · have HR := Lib.hid (cmpI_lt (Nt.lt_of_len hlt))
      go_enter Tryz.func66, Tryz.ntmps66
      go_wp2
      go_ret
      exact ⟨ret_int HR.out.symm, 0, rfl⟩
    · have HR := Lib.hid (cmpI_gt (Nt.lt_of_len (show (Nt.limbs n).length < (Nt.limbs m).length by omega)))
      go_enter Tryz.func66, Tryz.ntmps66
      go_wp2
      go_ret
      exact ⟨ret_int HR.out.symm, 0, rfl⟩
end Go.Proofs.YtcphclpekllcoaaGreatDoor
