/- Walks: quotients of limbs. -/
import Derived.Test.YtcphclpekllcoaaGreatDoorWd
namespace Go.Proofs.YtcphclpekllcoaaGreatDoor
open Go.RowKit

/-- The quotient's row, and what is left, when the limbs from k on are done. -/
def DivI (a b : Nat) (L N : Nat) (w : World) (k : Nat) (rest : Value) (wr : World) : Prop :=
  (∃ cur : Array Value, cur.size = L ∧ (∀ j, j < L → cur[j]? = some (.int .i64 ((if k ≤ j then (Nt.limbs (a / b)).getD j 0 else 0 : Nat) : Int))) ∧ wr.heap[N]? = some (.cells cur 3 (0, 0))) ∧
  LB wr rest (Nt.limbs (a / 1000000000 ^ k % b)) ∧ Below w.heap.size w wr

theorem quot_digit (a b i : Nat) (q : Nat) (hq : q < 1000000000) (h : a / 1000000000 ^ i / b = a / 1000000000 ^ (i + 1) / b * 1000000000 + q) : (Nt.limbs (a / b)).getD i 0 = q := by
  rw [Nt.limbs_at, Nat.div_div_eq_div_mul, Nat.mul_comm, ← Nat.div_div_eq_div_mul, h]; omega

theorem DivI.start (a b : Nat) (w : World) : DivI a b (Nt.limbs a).length w.heap.size w (Nt.limbs a).length (.slice (some ⟨w.heap.size + 1, 0, none⟩) 0 0) ((w.alloc (.cells (Zs (Nt.limbs a).length) 3)).alloc (.cells #[] 3)) := by
  obtain ⟨h0, h1⟩ := heap2 w (.cells (Zs (Nt.limbs a).length) 3) (.cells #[] 3)
  refine ⟨⟨Zs (Nt.limbs a).length, Zs_size _, fun j hj => by rw [Zs_at _ j hj, if_neg (by omega)]; rfl, h0⟩, ?_, below2 w _ _⟩
  rw [Nt.div_len, Nat.zero_mod, Nt.limbs_zero]
  exact ⟨some ⟨w.heap.size + 1, 0, none⟩, 0, rfl, Nat.le_refl _, by unfold maxLen; omega, .inr ⟨_, rfl, fun i hi => by simp at hi⟩⟩

/-- The quotient's digits, with zeros behind. -/
def qrow (a b L : Nat) : List Nat := (List.range L).map fun j => (Nt.limbs (a / b)).getD j 0

theorem qrow_lval (a b : Nat) : Nt.lval (qrow a b (Nt.limbs a).length) = a / b := by
  have hl : (Nt.limbs (a / b)).length ≤ (Nt.limbs a).length := by
    rw [Nt.limbs_len_le]
    exact Nat.lt_of_le_of_lt (Nat.div_le_self _ _) ((Nt.limbs_len_le a _).1 (Nat.le_refl _))
  have e : qrow a b (Nt.limbs a).length = Nt.limbs (a / b) ++ List.replicate ((Nt.limbs a).length - (Nt.limbs (a / b)).length) 0 := by
    refine List.ext_getElem? fun i => ?_
    unfold qrow
    by_cases h1 : i < (Nt.limbs a).length
    · rw [List.getElem?_map, List.getElem?_range h1]
      simp only [Option.map_some]
      by_cases h2 : i < (Nt.limbs (a / b)).length
      · rw [List.getElem?_append_left h2, List.getD_eq_getElem?_getD, List.getElem?_eq_getElem h2]; rfl
      · rw [List.getElem?_append_right (by omega), List.getElem?_replicate, if_pos (by omega), List.getD_eq_getElem?_getD, List.getElem?_eq_none (by omega)]; rfl
    · rw [List.getElem?_eq_none (by simp; omega), List.getElem?_eq_none (by simp; omega)]
  rw [e, Nt.lval_append, Nt.lval_replicate, Nt.lval_limbs]; omega

theorem qrow_lt (a b L : Nat) : ∀ d ∈ qrow a b L, d < 1000000000 := by
  intro d hd
  simp only [qrow, List.mem_map] at hd
  obtain ⟨j, _, rfl⟩ := hd
  exact Nt.limbs_getD_lt _ _

theorem qrow_len (a b L : Nat) : (qrow a b L).length = L := by simp [qrow]

theorem DivI.done {a b L N : Nat} {wr : World}
    (h : ∃ cur : Array Value, cur.size = L ∧ (∀ j, j < L → cur[j]? = some (.int .i64 ((if 0 ≤ j then (Nt.limbs (a / b)).getD j 0 else 0 : Nat) : Int))) ∧ wr.heap[N]? = some (.cells cur 3 (0, 0))) (hL : L ≤ 1000000) :
    LB wr (.slice (some ⟨N, 0, none⟩) L L) (qrow a b L) := by
  obtain ⟨cur, hcs, hcur, h0⟩ := h
  refine ⟨some ⟨N, 0, none⟩, L, by rw [qrow_len], by rw [qrow_len]; omega, by unfold maxLen; omega, .inr ⟨_, rfl, fun i hi => ?_⟩⟩
  rw [qrow_len] at hi
  rw [cell_of_row wr N i cur 3 (0, 0) h0, hcur i hi, if_pos (Nat.zero_le _)]
  simp [qrow, hi]

theorem one_own (W : World) (B : Nat) (X : Nat) (hB : B ≤ W.heap.size) : (W.alloc (.cells #[.int .i64 X] 3)).ownsRow B 3 1 (.slice (some ⟨W.heap.size, 0, none⟩) 1 1) [X].length (ints [X]) :=
  ⟨by simp [ints], .inr ⟨W.heap.size, 1, #[.int .i64 X], rfl, hB, heap_alloc_new W _, by simp, by unfold maxLen; omega, by simp, by simp [ints]⟩⟩

theorem lval_one (X n : Nat) : Nt.lval ([X] ++ Nt.limbs n) = n * 1000000000 + X := by
  rw [List.singleton_append, Nt.lval, Nt.lval_limbs]; omega
theorem rest_lt {r b X : Nat} (h : r < b) (hX : X < 1000000000) : r * 1000000000 + X < b * 1000000000 := by
  have h2 : (r + 1) * 1000000000 ≤ b * 1000000000 := Nat.mul_le_mul_right _ h
  omega

theorem one_lt {X n : Nat} (hX : X < 1000000000) : ∀ d ∈ [X] ++ Nt.limbs n, d < 1000000000 := by
  intro d hd
  rcases List.mem_append.1 hd with hd | hd
  · rw [List.mem_singleton.1 hd]; exact hX
  · exact Nt.limbs_lt _ d hd
theorem one_len (X : Nat) {l : List Nat} (h : l.length ≤ 300) : ([X] ++ l).length ≤ 1000000 := by
  rw [List.length_append, List.length_singleton]; omega

theorem DivI.skip {a b L N j : Nat} {w wr W' : World} {r v : Value} (h : DivI a b L N w (j + 1) r wr) (hq : (Nt.limbs (a / b)).getD j 0 = 0) (hb : Below wr.heap.size wr W')
    (hv : LB W' v (Nt.limbs (a / 1000000000 ^ j % b))) : DivI a b L N w j v W' := by
  obtain ⟨⟨cur, h1, h2, h3⟩, _, h5⟩ := h
  refine ⟨⟨cur, h1, fun i hi => ?_, (hb.block N (lt_of_block h3)).trans h3⟩, hv, below_trans h5 hb⟩
  rw [h2 i hi]
  by_cases e : i = j
  · subst e; rw [if_neg (by omega), if_pos (Nat.le_refl _), hq]
  · by_cases e2 : j + 1 ≤ i
    · rw [if_pos e2, if_pos (by omega)]
    · rw [if_neg e2, if_neg (by omega)]

theorem DivI.put {a b L N j q : Nat} {w wr W' : World} {r v : Value} (h : DivI a b L N w (j + 1) r wr) (hN : w.heap.size ≤ N) (hq : (Nt.limbs (a / b)).getD j 0 = q) (hb : Below wr.heap.size wr W')
    (hv : LB (W'.setCell ⟨N, j, none⟩ (.int .i64 (q : Nat))) v (Nt.limbs (a / 1000000000 ^ j % b))) : DivI a b L N w j v (W'.setCell ⟨N, j, none⟩ (.int .i64 (q : Nat))) := by
  obtain ⟨⟨cur, h1, h2, h3⟩, _, h5⟩ := h
  have h3' := (hb.block N (lt_of_block h3)).trans h3
  refine ⟨⟨cur.setIfInBounds j (.int .i64 (q : Nat)), by simpa using h1, fun i hi => ?_, row_setCell h3'⟩, hv, (below_trans h5 hb).setCell hN _⟩
  rw [Array.getElem?_setIfInBounds]
  by_cases e : i = j
  · subst e; rw [if_pos rfl, if_pos (by omega), if_pos (Nat.le_refl _), hq]
  · rw [if_neg (fun x => e x.symm), h2 i hi]
    by_cases e2 : j + 1 ≤ i
    · rw [if_pos e2, if_pos (by omega)]
    · rw [if_neg e2, if_neg (by omega)]

theorem DivI.cell {a b L N k : Nat} {w wr W' : World} {r : Value} (h : DivI a b L N w k r wr) (hb : Below wr.heap.size wr W') {j : Nat} (hj : j < L) : (∃ x, W'.cell? ⟨N, j, none⟩ = some x) ∧ W'.frozen? ⟨N, j, none⟩ = false := by
  obtain ⟨⟨cur, h1, h2, h3⟩, _, h5⟩ := h
  have h3' := (hb.block N (lt_of_block h3)).trans h3
  exact ⟨⟨.int .i64 _, (cell_of_row W' N j cur 3 (0, 0) h3').trans (h2 j hj)⟩, by simp [World.frozen?, h3']⟩

/-- The next digit of a quotient, and what is left. -/
theorem digit_step {a b j X R q : Nat} (hb : 0 < b) (hstep : a / 1000000000 ^ j = a / 1000000000 ^ (j + 1) * 1000000000 + X) (hR : R = a / 1000000000 ^ (j + 1) % b * 1000000000 + X)
    (hq : q < 1000000000) (h1 : b * q ≤ R) (h2 : R < b * (q + 1)) : (Nt.limbs (a / b)).getD j 0 = q ∧ a / 1000000000 ^ j % b = R - b * q := by
  obtain ⟨e1, e2⟩ := Nt.div_step (a / 1000000000 ^ (j + 1)) X b q hb (hR ▸ h1) (hR ▸ h2)
  rw [← hstep] at e1 e2
  exact ⟨quot_digit a b j q hq e1, by rw [e2, hR]⟩

theorem app_len (X : Nat) {l : List Nat} (h : l.length ≤ 300) : [X].length + l.length ≤ 4000000 := by
  rw [List.length_singleton]; omega
theorem World.size_alloc' (w : World) (o : Obj) : w.heap.size < (w.alloc o).heap.size := by simp

theorem cmpI_le {m n : Nat} (h : m ≤ n) : cmpI m n ≤ 0 := by
  unfold cmpI; split
  · omega
  · rw [if_neg (by omega)]; omega
theorem len_mul9 {b M : Nat} (h : (Nt.limbs b).length ≤ 300) (hM : M < 1000000000) : (Nt.limbs (M * b)).length ≤ 900000 := by
  have h1 := limbs_len_mul M b
  have h2 : (Nt.limbs M).length ≤ 1 := by rw [Nt.limbs_len_le]; simpa using hM
  omega

theorem limbs_mono {m n : Nat} (h : m ≤ n) : (Nt.limbs m).length ≤ (Nt.limbs n).length := by
  rw [Nt.limbs_len_le]
  exact Nat.lt_of_le_of_lt h ((Nt.limbs_len_le n _).1 (Nat.le_refl _))

theorem len_up {b R n : Nat} (h : (Nt.limbs b).length ≤ n) (hR : R < b * 1000000000) : (Nt.limbs R).length ≤ n + 1 := by
  have h1 := (Nt.limbs_len_le b n).1 h
  refine (Nt.limbs_len_le R (n + 1)).2 (Nat.lt_of_lt_of_le hR ?_)
  rw [Nat.pow_succ]
  exact Nat.mul_le_mul_right _ (Nat.le_of_lt h1)

set_option maxRecDepth 100000 in
theorem div_any (v u : Value) (a b : Nat) (w : World) (h : LB w v (Nt.limbs a)) (h' : LB w u (Nt.limbs b)) (hb : 0 < b) (hl : (Nt.limbs a).length ≤ 300) (hl' : (Nt.limbs b).length ≤ 300) :
    Calls Tryz.prog 69 #[v, u] w fun e w' => ∃ v1 v2, e = .returned (.tuple #[v1, v2]) ∧ LB w' v1 (Nt.limbs (a / b)) ∧ LB w' v2 (Nt.limbs (a % b)) ∧ Below w.heap.size w w' := by
  have G := Lib.hid h
  have G' := Lib.hid h'
  have hmk := run_mk (Nt.limbs a).length (by omega)
  obtain ⟨ax, ac, rfl, _, _, _⟩ := h
  go_enter Tryz.func69, Tryz.ntmps69
  go_wp2
  go_loopw [7, 8] (fun r i wr => ∃ k : Nat, k ≤ (Nt.limbs a).length ∧ i = .int .i64 ((k : Int) - 1) ∧ DivI a b (Nt.limbs a).length w.heap.size w k r wr) (fun _ i _ => (intOf i + 1).toNat)
  case atStart => exact ⟨(Nt.limbs a).length, Nat.le_refl _, rfl, DivI.start a b w⟩
  case round =>
    obtain ⟨k, hk, rfl, hI⟩ := hrel
    by_cases h0 : k = 0
    · subst h0
      obtain ⟨hq, hr, hB⟩ := hI
      have HT := Lib.hid (trimmed_any _ _ wr (DivI.done hq (by omega)) (qrow_lt a b _) (by rw [qrow_len]; omega))
      rw [qrow_lval] at HT
      rw [Nat.pow_zero, Nat.div_one] at hr
      clear hq
      go_wp2_with fail
      refine HT.out.mono ?_
      rintro e W1 ⟨v1, rfl, hv1, _, rfl⟩
      go_wp2
      go_ret2
      exact ⟨_, _, rfl, hv1, hr, hB⟩
    · obtain ⟨j, rfl⟩ : ∃ j, k = j + 1 := ⟨k - 1, by omega⟩
      obtain ⟨wo, rfl⟩ : ∃ wo : World, wo = wr := ⟨_, rfl⟩
      obtain ⟨bx, rfl, _, c1⟩ := LB.at (G.out) (i := j) (by omega)
      have HI := Lib.hid hI
      obtain ⟨hq, hr, hB⟩ := hI
      have hc1 := below_cell hB c1
      have hX := Nt.limbs_getD_lt a j
      rw [List.getD_eq_getElem?_getD] at hX
      have hstep := Nt.step_up a j
      rw [List.getD_eq_getElem?_getD] at hstep
      generalize (Nt.limbs a)[j]?.getD 0 = X at hc1 hX hstep
      have HS := Lib.hid hstep
      have HR := Lib.hid hr
      have he1 : ((j + 1 : Nat) : Int) - 1 = (j : Int) := by omega
      clear hstep c1 hr hq
      rw [he1]
      clear he1
      have hBs : w.heap.size ≤ wo.heap.size := hB.size
      have hlr : (Nt.limbs (a / 1000000000 ^ (j + 1) % b)).length ≤ 300 := by
        have : (Nt.limbs (a / 1000000000 ^ (j + 1) % b)).length ≤ (Nt.limbs b).length := by
          rw [Nt.limbs_len_le]
          exact Nat.lt_of_lt_of_le (Nat.mod_lt _ hb) (Nat.le_of_lt ((Nt.limbs_len_le b _).1 (Nat.le_refl _)))
        omega
      go_wp2_with (at_builtin; go_must (refine wpList_append_lb rfl _ _ rfl wo.heap.size _ _ [X] (Nt.limbs (a / 1000000000 ^ (j + 1) % b)) rfl rfl (one_own wo wo.heap.size X (Nat.le_refl _)) (HR.out.below ((Below.refl _ _).alloc (Nat.le_refl _) _)) (Nat.le_of_lt (World.size_alloc' wo _)) (app_len X hlr) ?_); intro v1 W1 ho1 hb1)
      have HV := Lib.hid (trimmed_any v1 _ W1 (LB.of_own ho1) (one_lt hX) (one_len X hlr))
      rw [lval_one] at HV
      clear ho1
      refine HV.out.mono ?_
      rintro e W1' ⟨v2, rfl, hv2, hob2, rfl⟩
      clear hob2
      have HB0 : Hid (Below wo.heap.size wo W1) := ((Below.refl _ wo).alloc (Nat.le_refl _) _).trans hb1
      have HB1 : Hid (Below w.heap.size w W1) := below_trans hB HB0.out
      clear hb1
      obtain ⟨R, hReq⟩ : ∃ R, R = a / 1000000000 ^ (j + 1) % b * 1000000000 + X := ⟨_, rfl⟩
      have hRb : R < b * 1000000000 := hReq ▸ rest_lt (Nat.mod_lt (a / 1000000000 ^ (j + 1)) hb) hX
      rw [← hReq] at hv2
      have HREQ := Lib.hid hReq
      clear hReq HR HV
      have hlR : (Nt.limbs R).length ≤ 301 := len_up hl' hRb
      have HC := Lib.hid (compare_any v2 u R b W1 hv2 (G'.out.below (HB1.out)) (by omega) (by omega))
      have HV2 := Lib.hid hv2
      clear hv2
      go_wp2_with fail
      refine HC.out.mono ?_
      rintro e W2 ⟨rfl, nq, rfl⟩
      by_cases hlt : R < b
      · rw [cmpI_lt hlt]
        go_wp2
        go_roundw
        case rel =>
          obtain ⟨q1, q2⟩ := digit_step (q := 0) hb HS.out HREQ.out (by omega) (Nat.zero_le _) (by rw [Nat.zero_add, Nat.mul_one]; exact hlt)
          rw [Nat.mul_zero, Nat.sub_zero] at q2
          exact ⟨j, by omega, rfl, HI.out.skip q1 (below_drewN HB0.out nq) (by rw [q2]; exact HV2.out.drewN nq)⟩
        case measure => simp [intOf]
      · have hc0 : 0 ≤ cmpI R b := by
          unfold cmpI
          rw [if_neg hlt]
          split <;> omega
        generalize cmpI R b = cv at hc0
        have hcf : decide (cv < 0) = false := by simp; omega
        go_wp2_with fail
        obtain ⟨W1n, hW1n⟩ : ∃ W, W = W1.drewN nq := ⟨_, rfl⟩
        have HW := Lib.hid hW1n
        have hV3 : LB W1n v2 (Nt.limbs R) := by rw [hW1n]; exact HV2.out.drewN nq
        have hB3 : Below w.heap.size w W1n := by rw [hW1n]; exact below_drewN HB1.out nq
        rw [← hW1n]
        clear hW1n
        go_loopw [9, 10] (fun lo hi w2 => ∃ l h : Nat, lo = .int .i64 l ∧ hi = .int .i64 h ∧ 1 ≤ l ∧ l ≤ h ∧ h ≤ 999999999 ∧ b * l ≤ R ∧ R < b * (h + 1) ∧ Below W1n.heap.size W1n w2) (fun lo hi _ => (intOf hi - intOf lo).toNat)
        case atStart => exact ⟨1, 999999999, rfl, rfl, by omega, by omega, by omega, by omega, hRb, Below.refl _ _⟩
        case round =>
          obtain ⟨l, h, rfl, rfl, h1, h2, h3, h4, h5, hB2⟩ := hrel
          have HTT : ∀ (M : Nat) (W : World), M < 1000000000 → Below W1n.heap.size W1n W → Calls Tryz.prog 90 #[u, .int .i64 (M : Int)] W fun e w' => ∃ v', e = .returned v' ∧ LB w' v' (Nt.limbs (M * b)) ∧ Fresh W.heap.size v' ∧ Below W.heap.size W w' := fun M W hM hW => by
            have := times_any u (Nt.limbs b) M W ((G'.out.below hB3).below hW) (Nt.limbs_lt b) hM (by omega)
            rwa [Nt.lval_limbs] at this
          have HT := Lib.hid HTT
          clear HTT
          have hV4 := Lib.hid (hV3.below hB2)
          by_cases hlh : l < h
          · obtain ⟨M, hM⟩ : ∃ M, M = (l + h + 1) / 2 := ⟨_, rfl⟩
            have e1 : ((l : Int) + (h : Int) + 1) / 2 = (M : Int) := by omega
            have hM1 : l < M := by omega
            have hM2 : M ≤ h := by omega
            clear hM
            go_wp2_with fail
            refine (HT.out M _ (by omega) hB2).mono ?_
            rintro e W3 ⟨v3, rfl, hv3, hf3, hb3⟩
            clear hf3
            have HC3 := Lib.hid (compare_any v3 v2 (M * b) R W3 hv3 (hV4.out.below hb3) (len_mul9 hl' (by omega)) (by omega))
            clear hv3
            go_wp2_with fail
            refine HC3.out.mono ?_
            rintro e W4 ⟨rfl, nq2, rfl⟩
            have hB5 := Lib.hid (below_trans hB2 (below_drewN hb3 nq2))
            clear hb3
            by_cases hle : M * b ≤ R
            · have hc1 : cmpI (M * b) R ≤ 0 := cmpI_le hle
              generalize cmpI (M * b) R = cv2 at hc1
              have HLE := Lib.hid hle
              clear hle
              go_wp2
              go_roundw
              case rel => exact ⟨M, h, rfl, rfl, by omega, hM2, h3, by rw [Nat.mul_comm]; exact HLE.out, h5, hB5.out⟩
              case measure => simp [intOf]; omega
            · have hc1 : 0 < cmpI (M * b) R := by rw [cmpI_gt (by omega)]; decide
              generalize cmpI (M * b) R = cv2 at hc1
              have HLE := Lib.hid hle
              clear hle
              go_wp2
              go_roundw
              case rel => exact ⟨l, M - 1, rfl, congrArg (Value.int .i64) (by omega), h1, by omega, by omega, h4, by rw [Nat.sub_add_cancel (by omega), Nat.mul_comm]; exact Nat.lt_of_not_le HLE.out, hB5.out⟩
              case measure => simp [intOf]; omega
          · obtain rfl : l = h := by omega
            go_wp2_with fail
            refine (HT.out l _ (by omega) hB2).mono ?_
            rintro e W3 ⟨v3, rfl, hv3, hf3, hb3⟩
            clear hf3
            have HSB := Lib.hid (sub_any v2 v3 (Nt.limbs R) (Nt.limbs (l * b)) W3 (hV4.out.below hb3) hv3 (Nt.limbs_lt _) (Nt.limbs_lt _) (by omega) (limbs_mono (by rw [Nat.mul_comm]; exact h4)) (by rw [Nt.lval_limbs, Nt.lval_limbs, Nat.mul_comm]; exact h4))
            rw [Nt.lval_limbs, Nt.lval_limbs] at HSB
            clear hv3
            go_wp2_with fail
            refine HSB.out.mono ?_
            rintro e W4 ⟨v4, rfl, hv4, hf4, hb4⟩
            have HF4 := Lib.hid hf4
            clear hf4
            have HWS : Hid (w.heap.size < W3.heap.size) := by have h1 := lt_of_block HI.out.1.choose_spec.2.2; have h2 := HB0.out.size; have h3 := hB2.size; have h4 := hb3.size; have h5 : W1n.heap.size = W1.heap.size := by rw [HW.out]; rfl
                                                              show _ < _; omega
            have hB6 : Below W1n.heap.size W1n W4 := below_trans (below_trans hB2 hb3) hb4
            have HB7 : Hid (Below wo.heap.size wo W4) := below_trans (by rw [HW.out]; exact below_drewN HB0.out nq) hB6
            obtain ⟨⟨old, hold⟩, hfz⟩ := HI.out.cell HB7.out (j := j) (by omega)
            obtain ⟨q1, q2⟩ := digit_step (q := l) hb HS.out HREQ.out (by omega) h4 h5
            have HQ1 := Lib.hid q1
            have HQ2 := Lib.hid q2
            have HV5 := Lib.hid hv4
            clear q1 q2 hv4 hb3 hb4 hB6
            go_wp2
            go_roundw
            case rel => exact ⟨j, by omega, rfl, HI.out.put (Nat.le_refl _) HQ1.out HB7.out (by rw [HQ2.out, Nat.mul_comm b]; exact HV5.out.setCell HF4.out HWS.out _)⟩
            case measure => simp [intOf]
end Go.Proofs.YtcphclpekllcoaaGreatDoor
