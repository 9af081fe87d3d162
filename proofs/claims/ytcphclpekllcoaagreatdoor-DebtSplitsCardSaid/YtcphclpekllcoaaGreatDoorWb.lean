/- Walks: the closures that give limbs, and what collects them. -/
import Derived.Test.YtcphclpekllcoaaGreatDoorWa
namespace Go.Proofs.YtcphclpekllcoaaGreatDoor
open Go.RowKit

theorem drewN_zero' (w : World) : w = w.drewN 0 := rfl

set_option maxRecDepth 100000 in
theorem timesOf_any (bq bx : Nat) (q : Nat) (v : Value) (xs : List Nat) (i : Nat) (w : World) (hq : w.cell? ⟨bq, 0, none⟩ = some (.int .i64 q)) (hx : w.cell? ⟨bx, 0, none⟩ = some v)
    (h : LB w v xs) (hd : ∀ d ∈ xs, d < 1000000000) (hq9 : q < 1000000000) (hi : i ≤ 1000000) (hl : xs.length ≤ 1000000) :
    Calls Tryz.prog 114 #[.int .i64 i, .pointer (some ⟨bq, 0, none⟩), .pointer (some ⟨bx, 0, none⟩)] w fun e w' =>
      e = .returned (.int .i64 ((q : Int) * Nt.at0 xs i)) ∧ ∃ n, w' = w.drewN n := by
  have hr := Nt.times_range xs q hd hq9 i
  have hc := fun n => limb_any v xs i (w.drewN n) (h.drewN n) hi hl
  have hw : IntKind.i64.wrap ((q : Int) * Nt.at0 xs i) = (q : Int) * Nt.at0 xs i := IntWalk.i64_in _ (by omega)
  have HC := Lib.hid hc
  clear hc
  obtain ⟨a, c, rfl, h1⟩ := h
  go_enter Tryz.func114, Tryz.ntmps114
  go_wp2
  go_quiet ((go_at_call 89; exact Calls.quiet_of_same ((HC.out _).mono fun _ _ ⟨he, hw⟩ => ⟨he, hw.symm⟩)))
  go_wp2
  go_ret
  exact ⟨rfl, nq, rfl⟩

set_option maxRecDepth 100000 in
theorem addOf_any (bx by_ : Nat) (v u : Value) (xs ys : List Nat) (i : Nat) (w : World) (hx : w.cell? ⟨bx, 0, none⟩ = some v) (hy : w.cell? ⟨by_, 0, none⟩ = some u)
    (h : LB w v xs) (h' : LB w u ys) (hd : ∀ d ∈ xs, d < 1000000000) (hd' : ∀ d ∈ ys, d < 1000000000) (hi : i ≤ 1000000) (hl : xs.length ≤ 1000000) (hl' : ys.length ≤ 1000000) :
    Calls Tryz.prog 110 #[.int .i64 i, .pointer (some ⟨bx, 0, none⟩), .pointer (some ⟨by_, 0, none⟩)] w fun e w' =>
      e = .returned (.int .i64 (Nt.at0 xs i + Nt.at0 ys i)) ∧ ∃ n, w' = w.drewN n := by
  have hr := Nt.at0_range xs hd i
  have hr' := Nt.at0_range ys hd' i
  have HC := Lib.hid fun n => limb_any v xs i (w.drewN n) (h.drewN n) hi hl
  have HC' := Lib.hid fun n => limb_any u ys i (w.drewN n) (h'.drewN n) hi hl'
  have hw : IntKind.i64.wrap (Nt.at0 xs i + Nt.at0 ys i) = Nt.at0 xs i + Nt.at0 ys i := IntWalk.i64_in _ (by omega)
  clear hd hd'
  go_enter Tryz.func110, Tryz.ntmps110
  go_wp2
  go_quiet ((go_at_call 89; first | (with_reducible exact Calls.quiet_of_same ((HC.out _).mono fun _ _ ⟨he, hw⟩ => ⟨he, hw.symm⟩)) | (with_reducible exact Calls.quiet_of_same ((HC'.out _).mono fun _ _ ⟨he, hw⟩ => ⟨he, hw.symm⟩))))
  go_wp2
  go_ret
  exact ⟨rfl, nq, rfl⟩

set_option maxRecDepth 100000 in
theorem subOf_any (bx by_ : Nat) (v u : Value) (xs ys : List Nat) (i : Nat) (w : World) (hx : w.cell? ⟨bx, 0, none⟩ = some v) (hy : w.cell? ⟨by_, 0, none⟩ = some u)
    (h : LB w v xs) (h' : LB w u ys) (hd : ∀ d ∈ xs, d < 1000000000) (hd' : ∀ d ∈ ys, d < 1000000000) (hi : i < xs.length) (hl : xs.length ≤ 1000000) (hl' : ys.length ≤ 1000000) :
    Calls Tryz.prog 88 #[.int .i64 i, .pointer (some ⟨bx, 0, none⟩), .pointer (some ⟨by_, 0, none⟩)] w fun e w' =>
      e = .returned (.int .i64 (Nt.at0 xs i - Nt.at0 ys i)) ∧ ∃ n, w' = w.drewN n := by
  have hr := Nt.at0_range xs hd i
  have hr' := Nt.at0_range ys hd' i
  have HC' := Lib.hid fun n => limb_any u ys i (w.drewN n) (h'.drewN n) (by omega) hl'
  have hw : IntKind.i64.wrap (Nt.at0 xs i - Nt.at0 ys i) = Nt.at0 xs i - Nt.at0 ys i := IntWalk.i64_in _ (by omega)
  clear hd hd'
  obtain ⟨a, c, rfl, h1, h2, h3⟩ := h
  rcases h3 with ⟨_, rfl, _⟩ | ⟨g, rfl, h3⟩
  · simp at hi
  have hc := h3 i hi
  have e0 : ((xs[i]?.getD 0 : Nat) : Int) = Nt.at0 xs i := by simp [Nt.at0, List.getD_eq_getElem?_getD]
  rw [e0] at hc
  clear h3 h2 h' e0
  go_enter Tryz.func88, Tryz.ntmps88
  go_wp2
  go_quiet ((go_at_call 89; exact Calls.quiet_of_same ((HC'.out _).mono fun _ _ ⟨he, hw⟩ => ⟨he, hw.symm⟩)))
  go_wp2
  go_ret
  exact ⟨rfl, nq, rfl⟩

/-- What a round of `collect` does to memory: the limb r at i, what is carried over. -/
structure Put (bc bo N i : Nat) (c r : Int) (cur : Array Value) (w w' : World) : Prop where
  kp : Kp (fun k => k = bc ∨ k = N) w w'
  size : w'.heap.size = w.heap.size
  carry : w'.heap[bc]? = some (.cells #[.int .i64 c] 3 (0, 0))
  row : w'.heap[N]? = some (.cells (cur.setIfInBounds i (.int .i64 r)) 3 (0, 0))

theorem size_setCell (w : World) (a : Addr) (v : Value) : (w.setCell a v).heap.size = w.heap.size := by simp [World.setCell]

theorem Put.mk1 {bc bo N i : Nat} {c c0 r : Int} {cur : Array Value} {w : World} (hne : ¬ N = bc) (hc : w.heap[bc]? = some (.cells #[.int .i64 c0] 3 (0, 0)))
    (hN : w.heap[N]? = some (.cells cur 3 (0, 0))) : Put bc bo N i c r cur w ((w.setCell ⟨bc, 0, none⟩ (.int .i64 c)).setCell ⟨N, i, none⟩ (.int .i64 r)) := by
  have hN' : (w.setCell ⟨bc, 0, none⟩ (.int .i64 c)).heap[N]? = some (.cells cur 3 (0, 0)) := by rw [Below.heap_setCell _ _ _ _ hne]; exact hN
  refine ⟨((Kp.refl _ w).setCell (.inl rfl) _).setCell (.inr rfl) _, by rw [size_setCell, size_setCell], ?_, row_setCell hN'⟩
  rw [Below.heap_setCell _ _ _ _ (fun e => hne e.symm)]
  exact one_setCell hc

theorem Put.mk2 {bc bo N i : Nat} {c c0 c1 r : Int} {cur : Array Value} {w : World} (hne : ¬ N = bc) (hc : w.heap[bc]? = some (.cells #[.int .i64 c0] 3 (0, 0)))
    (hN : w.heap[N]? = some (.cells cur 3 (0, 0))) : Put bc bo N i c r cur w (((w.setCell ⟨bc, 0, none⟩ (.int .i64 c1)).setCell ⟨bc, 0, none⟩ (.int .i64 c)).setCell ⟨N, i, none⟩ (.int .i64 r)).drew := by
  have h := Put.mk1 (bo := bo) (i := i) (c := c) (r := r) (w := w.setCell ⟨bc, 0, none⟩ (.int .i64 c1)) hne (one_setCell hc) (by rw [Below.heap_setCell _ _ _ _ hne]; exact hN)
  refine ⟨((Kp.refl _ w).setCell (p := ⟨bc, 0, none⟩) (.inl rfl) (.int .i64 c1)).trans h.kp.drew, h.size.trans (size_setCell _ _ _), h.carry, h.row⟩

theorem tdiv_neg {x : Int} (h : x < 0) : (x.tmod 1000000000 < 0 → x.tmod 1000000000 + 1000000000 = x % 1000000000 ∧ x.tdiv 1000000000 - 1 = x / 1000000000) ∧
    (¬ x.tmod 1000000000 < 0 → x.tmod 1000000000 = x % 1000000000 ∧ x.tdiv 1000000000 = x / 1000000000) ∧ -1000000000 < x.tmod 1000000000 ∧ x ≤ x.tdiv 1000000000 ∧ x.tdiv 1000000000 ≤ 0 := by
  obtain ⟨y, rfl⟩ : ∃ y, x = -y := ⟨-x, by omega⟩
  rw [Int.neg_tdiv, Int.neg_tmod, Int.tdiv_eq_ediv_of_nonneg (by omega), Int.tmod_eq_emod_of_nonneg (by omega)]
  omega

set_option maxRecDepth 100000 in
theorem put_any (bc bo N n i : Nat) (s c : Int) (cur : Array Value) (w : World) (hc : w.heap[bc]? = some (.cells #[.int .i64 c] 3 (0, 0)))
    (ho : w.heap[bo]? = some (.cells #[.slice (some ⟨N, 0, none⟩) n n] 96 (0, 0))) (hN : w.heap[N]? = some (.cells cur 3 (0, 0))) (hn : cur.size = n) (hi : i < n) (hne : ¬ N = bc)
    (_hn9 : n ≤ 1000000) (hs : -2000000000000000000 ≤ s ∧ s ≤ 2000000000000000000) (hcc : -2000000000000000000 ≤ c ∧ c ≤ 2000000000000000000) :
    Calls Tryz.prog 113 #[.int .i64 i, .int .i64 s, .pointer (some ⟨bc, 0, none⟩), .pointer (some ⟨bo, 0, none⟩)] w fun e w' =>
      e = .returned (.tuple #[]) ∧ Put bc bo N i ((s + c) / 1000000000) ((s + c) % 1000000000) cur w w' := by
  have k1 := cell_of_one hc
  have k2 := free_of_one hc
  have k3 := cell_of_one ho
  have k4 : ∃ x, w.cell? ⟨N, i, none⟩ = some x := by
    refine ⟨cur[i]'(by omega), ?_⟩
    rw [cell_of_row w N i cur 3 (0, 0) hN]; simp
  obtain ⟨x, k4⟩ := k4
  have k5 : w.frozen? ⟨N, i, none⟩ = false := by simp [World.frozen?, hN]
  have hob : ¬ bo = bc := by rintro rfl; rw [hc] at ho; simp at ho
  have HC := Lib.hid hc
  have HN := Lib.hid hN
  clear hc ho hN
  by_cases hp : 0 ≤ s + c
  · go_enter Tryz.func113, Tryz.ntmps113
    go_wp2
    go_end0
    exact ⟨rfl, Put.mk1 hne HC.out HN.out⟩
  · have h1 : s + c < 0 := by omega
    obtain ⟨t1, t2, t3, t4, t5⟩ := tdiv_neg h1
    by_cases hz : (s + c).tmod 1000000000 < 0
    · obtain ⟨e1, e2⟩ := t1 hz
      have E1 := Lib.hid e1
      have E2 := Lib.hid e2
      clear t1 t2 e1 e2
      go_enter Tryz.func113, Tryz.ntmps113
      go_wp2
      go_region
      go_wp2
      go_end0
      refine ⟨rfl, ?_⟩
      rw [E1.out, E2.out]
      exact Put.mk2 hne HC.out HN.out
    · obtain ⟨e1, e2⟩ := t2 hz
      have E1 := Lib.hid e1
      have E2 := Lib.hid e2
      clear t1 t2 e1 e2
      go_enter Tryz.func113, Tryz.ntmps113
      go_wp2
      go_end0
      refine ⟨rfl, ?_⟩
      rw [E1.out, E2.out]
      exact Put.mk1 hne HC.out HN.out

theorem cst_dig (F : Nat → Int) (k : Nat) : (Nt.cst F (k + 1)).1 = (Nt.cst F k).1 ++ [((F k + (Nt.cst F k).2) % 1000000000).toNat] := rfl

/-- n limbs that are 0. -/
def Zs (n : Nat) : Array Value := madeCells #[.int .i64 0] (n * 1)
theorem Zs_size (n : Nat) : (Zs n).size = n := by simp [Zs, madeCells]
theorem Zs_at (n i : Nat) (h : i < n) : (Zs n)[i]? = some (.int .i64 0) := by
  simp [Zs, madeCells, h]
  rw [Nat.mod_one]; rfl

theorem run_mk (n : Nat) (hn : n ≤ 1000000) (w : World) : (Instr.makeSlice 96 (.int .i64 (n : Int)) (.int .i64 (n : Int))).run Tryz.prog w =
    .ok (.slice (some ⟨w.heap.size, 0, none⟩) n n) (w.alloc (.cells (Zs n) 3)) := by
  obtain ⟨i0, hi, hz0, hz1, hz2⟩ := info_parts (show (Tryz.prog.info? 3).map (fun i => (i.zero, i.size, i.bytes)) = some (some (.int .i64 0), 1, 8) by kernel_rfl)
  have := run_make (P := Tryz.prog) w 96 3 i0 (.int .i64 0) Tryz.underlying96 hi hz0 .i64 .i64 n n (by omega) (by omega) (by rw [hz2]; omega) (by omega)
  rw [this, hz1]
  rfl

theorem heap3 (w : World) (a b c : Obj) : (((w.alloc a).alloc b).alloc c).heap[w.heap.size]? = some a ∧ (((w.alloc a).alloc b).alloc c).heap[w.heap.size + 1]? = some b ∧
    (((w.alloc a).alloc b).alloc c).heap[w.heap.size + 1 + 1]? = some c := by
  show ((((w.heap.push a).push b).push c))[w.heap.size]? = _ ∧ ((((w.heap.push a).push b).push c))[w.heap.size + 1]? = _ ∧ ((((w.heap.push a).push b).push c))[w.heap.size + 1 + 1]? = _
  refine ⟨?_, ?_, ?_⟩
  · rw [Array.getElem?_push, if_neg (by simp; omega), Array.getElem?_push, if_neg (by simp), Array.getElem?_push, if_pos rfl]
  · rw [Array.getElem?_push, if_neg (by simp), Array.getElem?_push, if_pos (by simp)]
  · rw [Array.getElem?_push, if_pos (by simp)]

/-- What holds between two rounds of `collect`. -/
def ColI (F : Nat → Int) (n : Nat) (w : World) (k : Nat) (wr : World) : Prop :=
  ∃ cur : Array Value, cur.size = n ∧ (∀ j, j < n → cur[j]? = some (.int .i64 (((Nt.cst F k).1[j]?.getD 0 : Nat) : Int))) ∧
      wr.heap[w.heap.size]? = some (.cells cur 3 (0, 0)) ∧
      wr.heap[w.heap.size + 1]? = some (.cells #[.slice (some ⟨w.heap.size, 0, none⟩) n n] 96 (0, 0)) ∧
      wr.heap[w.heap.size + 1 + 1]? = some (.cells #[.int .i64 (Nt.cst F k).2] 3 (0, 0)) ∧ Below w.heap.size w wr

theorem ColI.start (F : Nat → Int) (n : Nat) (w : World) : ColI F n w 0 (((w.alloc (.cells (Zs n) 3)).alloc (.cells #[.slice (some ⟨w.heap.size, 0, none⟩) n n] 96)).alloc (.cells #[.int .i64 0] 3)) := by
  obtain ⟨h0, h1, h2⟩ := heap3 w (.cells (Zs n) 3) (.cells #[.slice (some ⟨w.heap.size, 0, none⟩) n n] 96) (.cells #[.int .i64 0] 3)
  refine ⟨Zs n, Zs_size n, fun j hj => by rw [Zs_at n j hj]; rfl, h0, h1, h2, ?_⟩
  exact (((Below.refl _ w).alloc (Nat.le_refl _) _).alloc (by simp) _).alloc (by simp; omega) _

theorem ColI.step {F : Nat → Int} {n : Nat} {w wr w' : World} {k : Nat} {cur : Array Value} (hk : k < n) (hcs : cur.size = n)
    (hcur : ∀ j, j < n → cur[j]? = some (.int .i64 (((Nt.cst F k).1[j]?.getD 0 : Nat) : Int)))
    (h1 : wr.heap[w.heap.size + 1]? = some (.cells #[.slice (some ⟨w.heap.size, 0, none⟩) n n] 96 (0, 0))) (hB : Below w.heap.size w wr)
    (hp : Put (w.heap.size + 1 + 1) (w.heap.size + 1) w.heap.size k ((F k + (Nt.cst F k).2) / 1000000000) ((F k + (Nt.cst F k).2) % 1000000000) cur wr w') :
    ColI F n w (k + 1) w' := by
  refine ⟨cur.setIfInBounds k (.int .i64 ((F k + (Nt.cst F k).2) % 1000000000)), by simpa using hcs, fun j hj => ?_, hp.row, ?_, hp.carry, ?_⟩
  · rw [Array.getElem?_setIfInBounds, cst_dig]
    have hl := Nt.cst_len F k
    by_cases e : k = j
    · subst e
      rw [if_pos rfl, if_pos (by omega), List.getElem?_append_right (by omega), hl]
      simp only [Nat.sub_self, List.getElem?_cons_zero, Option.getD_some]
      rw [Int.toNat_of_nonneg (by omega)]
    · rw [if_neg e, hcur j hj]
      by_cases hj' : j < k
      · rw [List.getElem?_append_left (by omega)]
      · rw [List.getElem?_eq_none (by omega), List.getElem?_eq_none (by simp; omega)]
  · rw [hp.kp.block _ (lt_of_block h1) (by omega)]; exact h1
  · exact hB.trans (hp.kp.below (by omega) hB.size)

theorem ColI.done {F : Nat → Int} {n : Nat} {w wr : World} (h : ColI F n w n wr) (hn : n ≤ 1000000) : LB wr (.slice (some ⟨w.heap.size, 0, none⟩) n n) (Nt.cst F n).1 := by
  obtain ⟨cur, hcs, hcur, h0, _⟩ := h
  have hl := Nt.cst_len F n
  refine ⟨some ⟨w.heap.size, 0, none⟩, n, by rw [hl], by omega, by unfold maxLen; omega, .inr ⟨_, rfl, fun i hi => ?_⟩⟩
  rw [cell_of_row wr w.heap.size i cur 3 (0, 0) h0, hcur i (by omega)]

set_option maxRecDepth 100000 in
theorem collect_any (F : Nat → Int) (hF : ∀ i, -1000000000000000000 ≤ F i ∧ F i ≤ 1000000000000000000) (n f : Nat) (cap : Array Value) (w : World) (hn : n ≤ 1000000)
    (hcf : ∀ a W, (callFunc f a).run Tryz.prog W = .ok (.enter f a) W) (hf : ∀ i W, i < n → Below w.heap.size w W → Calls Tryz.prog f (#[.int .i64 i] ++ cap) W fun e W' => e = .returned (.int .i64 (F i)) ∧ ∃ m, W' = W.drewN m) :
    Calls Tryz.prog 87 #[.int .i64 n, .func (.func f) #[] cap] w fun e w' => ∃ v, e = .returned v ∧ LB w' v (Nt.limbs (Nt.lval (Nt.cst F n).1)) ∧ Fresh w.heap.size v ∧ Below w.heap.size w w' := by
  have hmk := run_mk n hn
  have HF := Lib.hid hf
  have HC := Lib.hid (Nt.cst_carry F hF)
  clear hf
  go_enter Tryz.func87, Tryz.ntmps87
  go_wp2
  go_loopw [13] (fun i wr => ∃ k : Nat, k ≤ n ∧ i = .int .i64 k ∧ ColI F n w k wr) (fun i _ => n - (intOf i).toNat)
  case atStart => exact ⟨0, Nat.zero_le _, rfl, ColI.start F n w⟩
  case round =>
    obtain ⟨k, hk, rfl, hI⟩ := hrel
    by_cases hlt : k < n
    · obtain ⟨cur, hcs, hcur, h0, h1, h2, hB⟩ := hI
      have H0 := Lib.hid h0
      have H1 := Lib.hid h1
      have H2 := Lib.hid h2
      have HCS := Lib.hid hcs
      have HCUR := Lib.hid hcur
      have HFR := Lib.hid (hF k)
      clear h0 h1 h2 hcs hcur hF
      go_wp2_with fail
      refine (HF.out k wr hlt hB).mono ?_
      rintro e W1 ⟨rfl, m, rfl⟩
      have hfr := HFR.out
      have hcc := HC.out k
      go_wp2_with fail
      refine (put_any (w.heap.size + 1 + 1) (w.heap.size + 1) w.heap.size n k (F k) (Nt.cst F k).2 cur (wr.drewN m) H2.out H1.out H0.out HCS.out hlt (by omega) hn (by omega) (by omega)).mono ?_
      rintro e W2 ⟨rfl, hput⟩
      have HS := Lib.hid (ColI.step (w := w) (wr := wr.drewN m) hlt HCS.out HCUR.out H1.out (below_drewN hB m) hput)
      clear hput
      go_wp2
      go_roundw
      case rel => exact ⟨k + 1, by omega, by go_num, HS.out⟩
      case measure => simp [intOf]; omega
    · obtain rfl : k = n := by omega
      have HL := Lib.hid (ColI.done hI hn)
      have HB : Below w.heap.size w wr := by obtain ⟨_, _, _, _, _, _, hB⟩ := hI; exact hB
      obtain ⟨_, _, _, _, h1, _, _⟩ := hI
      have k1 := cell_of_one h1
      have HT := Lib.hid (trimmed_any _ _ wr HL.out (Nt.cst_lt F k) (by rw [Nt.cst_len]; omega))
      clear h1
      go_wp2_with fail
      refine HT.out.mono ?_
      rintro e W1 ⟨v, rfl, hv, hob, rfl⟩
      have HOB : Hid (Fresh w.heap.size v) := fun g hg => by rw [hob] at hg; simp [Value.ownBlock] at hg; omega
      clear hob
      go_wp2
      go_ret
      exact ⟨_, rfl, hv, HOB.out, HB⟩
end Go.Proofs.YtcphclpekllcoaaGreatDoor
