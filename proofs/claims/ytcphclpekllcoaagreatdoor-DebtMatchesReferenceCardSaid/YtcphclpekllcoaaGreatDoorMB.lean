/- Walks: limbs of natural numbers: reading one, trimming, comparing. -/
import Derived.WalkKit
import Derived.BigQuiet
import Derived.Deep.QuietTactic
import Derived.WalkLawsBesides
import Derived.Lib.Hide
import Derived.Test.YtcphclpekllcoaaGreatDoorProg
import Derived.Test.YtcphclpekllcoaaGreatDoorMA
import Derived.Laws.AppendOwnNone
import Derived.Deep.AppendLies
import Derived.Deep.DeepCutAuto
import Derived.Deep.CutRange
import Derived.Deep.RegionWith
import Derived.Deep.RegionLaw
import Derived.Deep.DeepMust
namespace Go.Proofs.YtcphclpekllcoaaGreatDoor
open Go.RowKit

/-- A slice value holds a list of limbs. -/
def LB (w : World) (v : Value) (xs : List Nat) : Prop :=
  ∃ a c, v = .slice a xs.length c ∧ xs.length ≤ c ∧ c ≤ maxLen ∧
    ((a = none ∧ xs = [] ∧ c = 0) ∨ ∃ g, a = some ⟨g, 0, none⟩ ∧ ∀ i, i < xs.length → w.cell? ⟨g, i, none⟩ = some (.int .i64 ((xs[i]?.getD 0 : Nat) : Int)))

theorem LB.below {w w' : World} {v : Value} {xs : List Nat} (h : LB w v xs) (hb : Below w.heap.size w w') : LB w' v xs := by
  obtain ⟨a, c, rfl, h1, h2, h3⟩ := h
  refine ⟨a, c, rfl, h1, h2, ?_⟩
  rcases h3 with h3 | ⟨g, rfl, h3⟩
  · exact .inl h3
  · refine .inr ⟨g, rfl, fun i hi => ?_⟩
    have := h3 i hi
    exact (hb.cell (p := ⟨g, i, none⟩) (World.block_lt_of_cell? w _ this)).trans this

theorem below_drewN {B : Nat} {w W : World} (h : Below B w W) (n : Nat) : Below B w (W.drewN n) := ⟨h.os, h.tape, h.output, h.size, h.block⟩
theorem LB.drewN {w : World} {v : Value} {xs : List Nat} (h : LB w v xs) (n : Nat) : LB (w.drewN n) v xs := h.below (below_drewN (Below.refl _ _) n)

/-- Only the blocks in S have turned, and new ones have come. -/
structure Kp (S : Nat → Prop) (w w' : World) : Prop where
  os : w'.os = w.os
  tape : w'.tape = w.tape
  output : w'.output = w.output
  size : w.heap.size ≤ w'.heap.size
  block : ∀ k, k < w.heap.size → ¬ S k → w'.heap[k]? = w.heap[k]?
theorem Kp.refl (S : Nat → Prop) (w : World) : Kp S w w := ⟨rfl, rfl, rfl, Nat.le_refl _, fun _ _ _ => rfl⟩
theorem Kp.trans {S : Nat → Prop} {a b c : World} (h : Kp S a b) (k : Kp S b c) : Kp S a c :=
  ⟨k.os.trans h.os, k.tape.trans h.tape, k.output.trans h.output, Nat.le_trans h.size k.size, fun i hi hs => (k.block i (Nat.lt_of_lt_of_le hi h.size) hs).trans (h.block i hi hs)⟩
theorem Kp.setCell {S : Nat → Prop} {a w : World} (h : Kp S a w) {p : Addr} (hp : S p.block) (u : Value) : Kp S a (w.setCell p u) :=
  h.trans ⟨rfl, rfl, rfl, by simp [World.setCell], fun k _ hs => Below.heap_setCell _ _ _ _ (by rintro rfl; exact hs hp)⟩
theorem Kp.drewN {S : Nat → Prop} {a w : World} (h : Kp S a w) (n : Nat) : Kp S a (w.drewN n) := ⟨h.os, h.tape, h.output, h.size, h.block⟩
theorem Kp.drew {S : Nat → Prop} {a w : World} (h : Kp S a w) : Kp S a w.drew := ⟨h.os, h.tape, h.output, h.size, h.block⟩
theorem Kp.alloc {S : Nat → Prop} {a w : World} (h : Kp S a w) (o : Obj) : Kp S a (w.alloc o) :=
  h.trans ⟨rfl, rfl, rfl, by simp, fun k hk _ => Below.heap_alloc _ _ _ hk⟩
theorem Kp.below {S : Nat → Prop} {a w : World} {B : Nat} (h : Kp S a w) (hS : ∀ k, S k → B ≤ k) (hB : B ≤ a.heap.size) : Below B a w :=
  ⟨h.os, h.tape, h.output, h.size, fun k hk => h.block k (by omega) (fun hs => by have := hS k hs; omega)⟩
theorem Kp.of_below {S : Nat → Prop} {a w : World} (h : Below a.heap.size a w) : Kp S a w :=
  ⟨h.os, h.tape, h.output, h.size, fun k hk _ => h.block k hk⟩
theorem row_setCell {w : World} {b i : Nat} {cur : Array Value} {u : Value} {t : TypeId} (h : w.heap[b]? = some (.cells cur t (0, 0))) :
    (w.setCell ⟨b, i, none⟩ u).heap[b]? = some (.cells (cur.setIfInBounds i u) t (0, 0)) := by
  have hlt := lt_of_block h
  have h' : w.heap[b] = .cells cur t (0, 0) := by simpa [Array.getElem?_eq_getElem hlt] using h
  show (w.heap.modify b _)[b]? = _
  rw [Array.getElem?_eq_getElem (by simpa using hlt), Array.getElem_modify_self, h']
  rfl

theorem below_trans {w W W' : World} (h : Below w.heap.size w W) (k : Below W.heap.size W W') : Below w.heap.size w W' := h.trans (k.mono h.size)

/-- The slice lies in a block from B on. -/
def Fresh (B : Nat) (v : Value) : Prop := ∀ k, v.ownBlock = some k → B ≤ k

theorem LB.setCell {w : World} {v : Value} {xs : List Nat} (h : LB w v xs) {B : Nat} (hf : Fresh B v) {p : Addr} (hp : p.block < B) (u : Value) : LB (w.setCell p u) v xs := by
  obtain ⟨a, c, rfl, h1, h2, h3⟩ := h
  refine ⟨a, c, rfl, h1, h2, ?_⟩
  rcases h3 with h3 | ⟨g, rfl, h3⟩
  · exact .inl h3
  · refine .inr ⟨g, rfl, fun i hi => ?_⟩
    have hg : B ≤ g := hf g rfl
    rw [World.cell?_of_block (w := w) (Below.heap_setCell w p u g (by omega))]
    exact h3 i hi

theorem ret_int {k : IntKind} {a b : Int} (h : a = b) : Ending.returned (.int k a) = .returned (.int k b) := by rw [h]

set_option maxRecDepth 100000 in
theorem limb_any (v : Value) (xs : List Nat) (i : Nat) (w : World) (h : LB w v xs) (_hi : i ≤ 1000000) (_hl : xs.length ≤ 1000000) :
    Calls Tryz.prog 89 #[v, .int .i64 i] w fun e w' => e = .returned (.int .i64 (Nt.at0 xs i)) ∧ w = w' := by
  obtain ⟨a, c, rfl, h1, h2, h3⟩ := h
  by_cases hlt : i < xs.length
  · rcases h3 with ⟨_, rfl, _⟩ | ⟨g, rfl, h3⟩
    · simp at hlt
    have hc := h3 i hlt
    clear h3 h2
    go_enter Tryz.func89, Tryz.ntmps89
    go_wp2
    go_ret
    exact ⟨ret_int (by simp [Nt.at0, List.getD_eq_getElem?_getD, List.getElem?_eq_getElem hlt]), rfl⟩
  · clear h3
    go_enter Tryz.func89, Tryz.ntmps89
    go_wp2
    go_ret
    exact ⟨ret_int (by simp [Nt.at0, List.getD_eq_getElem?_getD, List.getElem?_eq_none (Nat.le_of_not_lt hlt)]), rfl⟩

theorem LB.take {w : World} {a : Option Addr} {c n : Nat} {xs : List Nat} (h1 : xs.length ≤ c) (h2 : c ≤ maxLen)
    (h3 : (a = none ∧ xs = [] ∧ c = 0) ∨ ∃ g, a = some ⟨g, 0, none⟩ ∧ ∀ i, i < xs.length → w.cell? ⟨g, i, none⟩ = some (.int .i64 ((xs[i]?.getD 0 : Nat) : Int)))
    (hn : n ≤ xs.length) : LB w (.slice a n c) (xs.take n) := by
  have hl : (xs.take n).length = n := by rw [List.length_take]; omega
  refine ⟨a, c, by rw [hl], by omega, h2, ?_⟩
  rcases h3 with ⟨rfl, rfl, rfl⟩ | ⟨g, rfl, h3⟩
  · exact .inl ⟨rfl, by simp, rfl⟩
  · refine .inr ⟨g, rfl, fun i hi => ?_⟩
    rw [hl] at hi
    rw [h3 i (by omega), List.getElem?_take, if_pos hi]

set_option maxRecDepth 100000 in
theorem trimmed_any (v : Value) (xs : List Nat) (w : World) (h : LB w v xs) (hx : ∀ d ∈ xs, d < 1000000000) (hl : xs.length ≤ 1000000) :
    Calls Tryz.prog 86 #[v] w fun e w' => ∃ v', e = .returned v' ∧ LB w v' (Nt.limbs (Nt.lval xs)) ∧ v'.ownBlock = v.ownBlock ∧ w = w' := by
  obtain ⟨a, c, rfl, h1, h2, h3⟩ := h
  unfold maxLen at h2
  go_enter Tryz.func86, Tryz.ntmps86
  go_wp2
  go_loop [3] (fun n => ∃ k : Nat, k ≤ xs.length ∧ n = .int .i64 k ∧ ∀ i, k ≤ i → xs[i]?.getD 0 = 0) (fun n => (intOf n).toNat)
  case atStart => exact ⟨xs.length, Nat.le_refl _, rfl, fun i hi => by rw [List.getElem?_eq_none hi]; rfl⟩
  case round =>
    obtain ⟨k, hk, rfl, hz⟩ := hrel
    have fin : (k = 0 ∨ xs[k - 1]?.getD 0 ≠ 0) → LB w (.slice a k c) (Nt.limbs (Nt.lval xs)) := fun hl => by
      rw [← Nt.take_limbs xs k hx hk (fun i hi => by rw [List.getD_eq_getElem?_getD]; exact hz i hi) (by rw [List.getD_eq_getElem?_getD]; exact hl)]
      exact LB.take h1 (by unfold maxLen; omega) h3 hk
    by_cases h0 : k = 0
    · have FIN := Lib.hid (fin (.inl h0))
      clear fin
      subst h0
      go_wp2
      go_ret
      exact ⟨_, rfl, FIN.out, by cases a <;> rfl, rfl⟩
    · obtain ⟨j, rfl⟩ : ∃ j, k = j + 1 := ⟨k - 1, by omega⟩
      rcases h3 with ⟨_, rfl, _⟩ | ⟨g, rfl, h3⟩
      · simp at hk
      have hc := h3 j (by omega)
      by_cases hd : xs[j]?.getD 0 = 0
      · have hb : ((((xs[j]?.getD 0 : Nat) : Int)) == 0) = true := by rw [hd]; rfl
        have HD := Lib.hid hd
        clear hd fin
        go_wp2
        go_round
        case rel => exact ⟨j, by omega, rfl, fun i hi => by
          by_cases e : i = j
          · rw [e]; exact HD.out
          · exact hz i (by omega)⟩
        case measure => simp [intOf]
      · have hb : ((((xs[j]?.getD 0 : Nat) : Int)) == 0) = false := by simp; omega
        have FIN := Lib.hid (fin (.inr hd))
        clear fin hd
        go_wp2
        go_ret
        exact ⟨_, rfl, FIN.out, rfl, rfl⟩
end Go.Proofs.YtcphclpekllcoaaGreatDoor


/- Walks: the closures that give limbs, and what collects them. -/
namespace Go.Proofs.YtcphclpekllcoaaGreatDoor
open Go.RowKit

theorem drewN_zero' (w : World) : w = w.drewN 0 := rfl

set_option maxRecDepth 100000 in
theorem timesOf_any (bq bx : Nat) (q : Nat) (v : Value) (xs : List Nat) (i : Nat) (w : World) (hq : w.cell? ⟨bq, 0, none⟩ = some (.int .i64 q)) (hx : w.cell? ⟨bx, 0, none⟩ = some v)
    (h : LB w v xs) (hd : ∀ d ∈ xs, d < 1000000000) (hq9 : q < 1000000000) (hi : i ≤ 1000000) (hl : xs.length ≤ 1000000) :
    Calls Tryz.prog 114 #[.int .i64 i, .pointer (some ⟨bq, 0, none⟩), .pointer (some ⟨bx, 0, none⟩)] w fun e w' =>
      e = .returned (.int .i64 ((q : Int) * Nt.at0 xs i)) ∧ ∃ n, w' = w.drewN n := by
  have hr := Nt.times_range xs q hd hq9 i
  have hc := fun n => limb_any v xs i (w.drewN n) (h.drewN n) hi hl
  have hw : IntKind.i64.wrap ((q : Int) * Nt.at0 xs i) = (q : Int) * Nt.at0 xs i := IntWalk.i64_in _ (by omega)
  have HC := Lib.hid hc
  clear hc
  obtain ⟨a, c, rfl, h1⟩ := h
  go_enter Tryz.func114, Tryz.ntmps114
  go_wp2
  go_quiet ((go_at_call 89; exact Calls.quiet_of_same ((HC.out _).mono fun _ _ ⟨he, hw⟩ => ⟨he, hw.symm⟩)))
  go_wp2
  go_ret
  exact ⟨rfl, nq, rfl⟩

set_option maxRecDepth 100000 in
theorem addOf_any (bx by_ : Nat) (v u : Value) (xs ys : List Nat) (i : Nat) (w : World) (hx : w.cell? ⟨bx, 0, none⟩ = some v) (hy : w.cell? ⟨by_, 0, none⟩ = some u)
    (h : LB w v xs) (h' : LB w u ys) (hd : ∀ d ∈ xs, d < 1000000000) (hd' : ∀ d ∈ ys, d < 1000000000) (hi : i ≤ 1000000) (hl : xs.length ≤ 1000000) (hl' : ys.length ≤ 1000000) :
    Calls Tryz.prog 110 #[.int .i64 i, .pointer (some ⟨bx, 0, none⟩), .pointer (some ⟨by_, 0, none⟩)] w fun e w' =>
      e = .returned (.int .i64 (Nt.at0 xs i + Nt.at0 ys i)) ∧ ∃ n, w' = w.drewN n := by
  have hr := Nt.at0_range xs hd i
  have hr' := Nt.at0_range ys hd' i
  have HC := Lib.hid fun n => limb_any v xs i (w.drewN n) (h.drewN n) hi hl
  have HC' := Lib.hid fun n => limb_any u ys i (w.drewN n) (h'.drewN n) hi hl'
  have hw : IntKind.i64.wrap (Nt.at0 xs i + Nt.at0 ys i) = Nt.at0 xs i + Nt.at0 ys i := IntWalk.i64_in _ (by omega)
  clear hd hd'
  go_enter Tryz.func110, Tryz.ntmps110
  go_wp2
  go_quiet ((go_at_call 89; first | (with_reducible exact Calls.quiet_of_same ((HC.out _).mono fun _ _ ⟨he, hw⟩ => ⟨he, hw.symm⟩)) | (with_reducible exact Calls.quiet_of_same ((HC'.out _).mono fun _ _ ⟨he, hw⟩ => ⟨he, hw.symm⟩))))
  go_wp2
  go_ret
  exact ⟨rfl, nq, rfl⟩

set_option maxRecDepth 100000 in
theorem subOf_any (bx by_ : Nat) (v u : Value) (xs ys : List Nat) (i : Nat) (w : World) (hx : w.cell? ⟨bx, 0, none⟩ = some v) (hy : w.cell? ⟨by_, 0, none⟩ = some u)
    (h : LB w v xs) (h' : LB w u ys) (hd : ∀ d ∈ xs, d < 1000000000) (hd' : ∀ d ∈ ys, d < 1000000000) (hi : i < xs.length) (hl : xs.length ≤ 1000000) (hl' : ys.length ≤ 1000000) :
    Calls Tryz.prog 88 #[.int .i64 i, .pointer (some ⟨bx, 0, none⟩), .pointer (some ⟨by_, 0, none⟩)] w fun e w' =>
      e = .returned (.int .i64 (Nt.at0 xs i - Nt.at0 ys i)) ∧ ∃ n, w' = w.drewN n := by
  have hr := Nt.at0_range xs hd i
  have hr' := Nt.at0_range ys hd' i
  have HC' := Lib.hid fun n => limb_any u ys i (w.drewN n) (h'.drewN n) (by omega) hl'
  have hw : IntKind.i64.wrap (Nt.at0 xs i - Nt.at0 ys i) = Nt.at0 xs i - Nt.at0 ys i := IntWalk.i64_in _ (by omega)
  clear hd hd'
  obtain ⟨a, c, rfl, h1, h2, h3⟩ := h
  rcases h3 with ⟨_, rfl, _⟩ | ⟨g, rfl, h3⟩
  · simp at hi
  have hc := h3 i hi
  have e0 : ((xs[i]?.getD 0 : Nat) : Int) = Nt.at0 xs i := by simp [Nt.at0, List.getD_eq_getElem?_getD]
  rw [e0] at hc
  clear h3 h2 h' e0
  go_enter Tryz.func88, Tryz.ntmps88
  go_wp2
  go_quiet ((go_at_call 89; exact Calls.quiet_of_same ((HC'.out _).mono fun _ _ ⟨he, hw⟩ => ⟨he, hw.symm⟩)))
  go_wp2
  go_ret
  exact ⟨rfl, nq, rfl⟩

/-- What a round of `collect` does to memory: the limb r at i, what is carried over. -/
structure Put (bc bo N i : Nat) (c r : Int) (cur : Array Value) (w w' : World) : Prop where
  kp : Kp (fun k => k = bc ∨ k = N) w w'
  size : w'.heap.size = w.heap.size
  carry : w'.heap[bc]? = some (.cells #[.int .i64 c] 3 (0, 0))
  row : w'.heap[N]? = some (.cells (cur.setIfInBounds i (.int .i64 r)) 3 (0, 0))

theorem size_setCell (w : World) (a : Addr) (v : Value) : (w.setCell a v).heap.size = w.heap.size := by simp [World.setCell]

theorem Put.mk1 {bc bo N i : Nat} {c c0 r : Int} {cur : Array Value} {w : World} (hne : ¬ N = bc) (hc : w.heap[bc]? = some (.cells #[.int .i64 c0] 3 (0, 0)))
    (hN : w.heap[N]? = some (.cells cur 3 (0, 0))) : Put bc bo N i c r cur w ((w.setCell ⟨bc, 0, none⟩ (.int .i64 c)).setCell ⟨N, i, none⟩ (.int .i64 r)) := by
  have hN' : (w.setCell ⟨bc, 0, none⟩ (.int .i64 c)).heap[N]? = some (.cells cur 3 (0, 0)) := by rw [Below.heap_setCell _ _ _ _ hne]; exact hN
  refine ⟨((Kp.refl _ w).setCell (.inl rfl) _).setCell (.inr rfl) _, by rw [size_setCell, size_setCell], ?_, row_setCell hN'⟩
  rw [Below.heap_setCell _ _ _ _ (fun e => hne e.symm)]
  exact one_setCell hc

theorem Put.mk2 {bc bo N i : Nat} {c c0 c1 r : Int} {cur : Array Value} {w : World} (hne : ¬ N = bc) (hc : w.heap[bc]? = some (.cells #[.int .i64 c0] 3 (0, 0)))
    (hN : w.heap[N]? = some (.cells cur 3 (0, 0))) : Put bc bo N i c r cur w (((w.setCell ⟨bc, 0, none⟩ (.int .i64 c1)).setCell ⟨bc, 0, none⟩ (.int .i64 c)).setCell ⟨N, i, none⟩ (.int .i64 r)).drew := by
  have h := Put.mk1 (bo := bo) (i := i) (c := c) (r := r) (w := w.setCell ⟨bc, 0, none⟩ (.int .i64 c1)) hne (one_setCell hc) (by rw [Below.heap_setCell _ _ _ _ hne]; exact hN)
  refine ⟨((Kp.refl _ w).setCell (p := ⟨bc, 0, none⟩) (.inl rfl) (.int .i64 c1)).trans h.kp.drew, h.size.trans (size_setCell _ _ _), h.carry, h.row⟩

theorem tdiv_neg {x : Int} (h : x < 0) : (x.tmod 1000000000 < 0 → x.tmod 1000000000 + 1000000000 = x % 1000000000 ∧ x.tdiv 1000000000 - 1 = x / 1000000000) ∧
    (¬ x.tmod 1000000000 < 0 → x.tmod 1000000000 = x % 1000000000 ∧ x.tdiv 1000000000 = x / 1000000000) ∧ -1000000000 < x.tmod 1000000000 ∧ x ≤ x.tdiv 1000000000 ∧ x.tdiv 1000000000 ≤ 0 := by
  obtain ⟨y, rfl⟩ : ∃ y, x = -y := ⟨-x, by omega⟩
  rw [Int.neg_tdiv, Int.neg_tmod, Int.tdiv_eq_ediv_of_nonneg (by omega), Int.tmod_eq_emod_of_nonneg (by omega)]
  omega

set_option maxRecDepth 100000 in
theorem put_any (bc bo N n i : Nat) (s c : Int) (cur : Array Value) (w : World) (hc : w.heap[bc]? = some (.cells #[.int .i64 c] 3 (0, 0)))
    (ho : w.heap[bo]? = some (.cells #[.slice (some ⟨N, 0, none⟩) n n] 96 (0, 0))) (hN : w.heap[N]? = some (.cells cur 3 (0, 0))) (hn : cur.size = n) (hi : i < n) (hne : ¬ N = bc)
    (_hn9 : n ≤ 1000000) (hs : -2000000000000000000 ≤ s ∧ s ≤ 2000000000000000000) (hcc : -2000000000000000000 ≤ c ∧ c ≤ 2000000000000000000) :
    Calls Tryz.prog 113 #[.int .i64 i, .int .i64 s, .pointer (some ⟨bc, 0, none⟩), .pointer (some ⟨bo, 0, none⟩)] w fun e w' =>
      e = .returned (.tuple #[]) ∧ Put bc bo N i ((s + c) / 1000000000) ((s + c) % 1000000000) cur w w' := by
  have k1 := cell_of_one hc
  have k2 := free_of_one hc
  have k3 := cell_of_one ho
  have k4 : ∃ x, w.cell? ⟨N, i, none⟩ = some x := by
    refine ⟨cur[i]'(by omega), ?_⟩
    rw [cell_of_row w N i cur 3 (0, 0) hN]; simp
  obtain ⟨x, k4⟩ := k4
  have k5 : w.frozen? ⟨N, i, none⟩ = false := by simp [World.frozen?, hN]
  have hob : ¬ bo = bc := by rintro rfl; rw [hc] at ho; simp at ho
  have HC := Lib.hid hc
  have HN := Lib.hid hN
  clear hc ho hN
  by_cases hp : 0 ≤ s + c
  · go_enter Tryz.func113, Tryz.ntmps113
    go_wp2
    go_end0
    exact ⟨rfl, Put.mk1 hne HC.out HN.out⟩
  · have h1 : s + c < 0 := by omega
    obtain ⟨t1, t2, t3, t4, t5⟩ := tdiv_neg h1
    by_cases hz : (s + c).tmod 1000000000 < 0
    · obtain ⟨e1, e2⟩ := t1 hz
      have E1 := Lib.hid e1
      have E2 := Lib.hid e2
      clear t1 t2 e1 e2
      go_enter Tryz.func113, Tryz.ntmps113
      go_wp2
      go_region
      go_wp2
      go_end0
      refine ⟨rfl, ?_⟩
      rw [E1.out, E2.out]
      exact Put.mk2 hne HC.out HN.out
    · obtain ⟨e1, e2⟩ := t2 hz
      have E1 := Lib.hid e1
      have E2 := Lib.hid e2
      clear t1 t2 e1 e2
      go_enter Tryz.func113, Tryz.ntmps113
      go_wp2
      go_end0
      refine ⟨rfl, ?_⟩
      rw [E1.out, E2.out]
      exact Put.mk1 hne HC.out HN.out

theorem cst_dig (F : Nat → Int) (k : Nat) : (Nt.cst F (k + 1)).1 = (Nt.cst F k).1 ++ [((F k + (Nt.cst F k).2) % 1000000000).toNat] := rfl

/-- n limbs that are 0. -/
def Zs (n : Nat) : Array Value := madeCells #[.int .i64 0] (n * 1)
theorem Zs_size (n : Nat) : (Zs n).size = n := by simp [Zs, madeCells]
theorem Zs_at (n i : Nat) (h : i < n) : (Zs n)[i]? = some (.int .i64 0) := by
  simp [Zs, madeCells, h]
  rw [Nat.mod_one]; rfl

theorem run_mk (n : Nat) (hn : n ≤ 1000000) (w : World) : (Instr.makeSlice 96 (.int .i64 (n : Int)) (.int .i64 (n : Int))).run Tryz.prog w =
    .ok (.slice (some ⟨w.heap.size, 0, none⟩) n n) (w.alloc (.cells (Zs n) 3)) := by
  obtain ⟨i0, hi, hz0, hz1, hz2⟩ := info_parts (show (Tryz.prog.info? 3).map (fun i => (i.zero, i.size, i.bytes)) = some (some (.int .i64 0), 1, 8) by kernel_rfl)
  have := run_make (P := Tryz.prog) w 96 3 i0 (.int .i64 0) Tryz.underlying96 hi hz0 .i64 .i64 n n (by omega) (by omega) (by rw [hz2]; omega) (by omega)
  rw [this, hz1]
  rfl

theorem heap3 (w : World) (a b c : Obj) : (((w.alloc a).alloc b).alloc c).heap[w.heap.size]? = some a ∧ (((w.alloc a).alloc b).alloc c).heap[w.heap.size + 1]? = some b ∧
    (((w.alloc a).alloc b).alloc c).heap[w.heap.size + 1 + 1]? = some c := by
  show ((((w.heap.push a).push b).push c))[w.heap.size]? = _ ∧ ((((w.heap.push a).push b).push c))[w.heap.size + 1]? = _ ∧ ((((w.heap.push a).push b).push c))[w.heap.size + 1 + 1]? = _
  refine ⟨?_, ?_, ?_⟩
  · rw [Array.getElem?_push, if_neg (by simp; omega), Array.getElem?_push, if_neg (by simp), Array.getElem?_push, if_pos rfl]
  · rw [Array.getElem?_push, if_neg (by simp), Array.getElem?_push, if_pos (by simp)]
  · rw [Array.getElem?_push, if_pos (by simp)]

/-- What holds between two rounds of `collect`. -/
def ColI (F : Nat → Int) (n : Nat) (w : World) (k : Nat) (wr : World) : Prop :=
  ∃ cur : Array Value, cur.size = n ∧ (∀ j, j < n → cur[j]? = some (.int .i64 (((Nt.cst F k).1[j]?.getD 0 : Nat) : Int))) ∧
      wr.heap[w.heap.size]? = some (.cells cur 3 (0, 0)) ∧
      wr.heap[w.heap.size + 1]? = some (.cells #[.slice (some ⟨w.heap.size, 0, none⟩) n n] 96 (0, 0)) ∧
      wr.heap[w.heap.size + 1 + 1]? = some (.cells #[.int .i64 (Nt.cst F k).2] 3 (0, 0)) ∧ Below w.heap.size w wr

theorem ColI.start (F : Nat → Int) (n : Nat) (w : World) : ColI F n w 0 (((w.alloc (.cells (Zs n) 3)).alloc (.cells #[.slice (some ⟨w.heap.size, 0, none⟩) n n] 96)).alloc (.cells #[.int .i64 0] 3)) := by
  obtain ⟨h0, h1, h2⟩ := heap3 w (.cells (Zs n) 3) (.cells #[.slice (some ⟨w.heap.size, 0, none⟩) n n] 96) (.cells #[.int .i64 0] 3)
  refine ⟨Zs n, Zs_size n, fun j hj => by rw [Zs_at n j hj]; rfl, h0, h1, h2, ?_⟩
  exact (((Below.refl _ w).alloc (Nat.le_refl _) _).alloc (by simp) _).alloc (by simp; omega) _

theorem ColI.step {F : Nat → Int} {n : Nat} {w wr w' : World} {k : Nat} {cur : Array Value} (hk : k < n) (hcs : cur.size = n)
    (hcur : ∀ j, j < n → cur[j]? = some (.int .i64 (((Nt.cst F k).1[j]?.getD 0 : Nat) : Int)))
    (h1 : wr.heap[w.heap.size + 1]? = some (.cells #[.slice (some ⟨w.heap.size, 0, none⟩) n n] 96 (0, 0))) (hB : Below w.heap.size w wr)
    (hp : Put (w.heap.size + 1 + 1) (w.heap.size + 1) w.heap.size k ((F k + (Nt.cst F k).2) / 1000000000) ((F k + (Nt.cst F k).2) % 1000000000) cur wr w') :
    ColI F n w (k + 1) w' := by
  refine ⟨cur.setIfInBounds k (.int .i64 ((F k + (Nt.cst F k).2) % 1000000000)), by simpa using hcs, fun j hj => ?_, hp.row, ?_, hp.carry, ?_⟩
  · rw [Array.getElem?_setIfInBounds, cst_dig]
    have hl := Nt.cst_len F k
    by_cases e : k = j
    · subst e
      rw [if_pos rfl, if_pos (by omega), List.getElem?_append_right (by omega), hl]
      simp only [Nat.sub_self, List.getElem?_cons_zero, Option.getD_some]
      rw [Int.toNat_of_nonneg (by omega)]
    · rw [if_neg e, hcur j hj]
      by_cases hj' : j < k
      · rw [List.getElem?_append_left (by omega)]
      · rw [List.getElem?_eq_none (by omega), List.getElem?_eq_none (by simp; omega)]
  · rw [hp.kp.block _ (lt_of_block h1) (by omega)]; exact h1
  · exact hB.trans (hp.kp.below (by omega) hB.size)

theorem ColI.done {F : Nat → Int} {n : Nat} {w wr : World} (h : ColI F n w n wr) (hn : n ≤ 1000000) : LB wr (.slice (some ⟨w.heap.size, 0, none⟩) n n) (Nt.cst F n).1 := by
  obtain ⟨cur, hcs, hcur, h0, _⟩ := h
  have hl := Nt.cst_len F n
  refine ⟨some ⟨w.heap.size, 0, none⟩, n, by rw [hl], by omega, by unfold maxLen; omega, .inr ⟨_, rfl, fun i hi => ?_⟩⟩
  rw [cell_of_row wr w.heap.size i cur 3 (0, 0) h0, hcur i (by omega)]

set_option maxRecDepth 100000 in
theorem collect_any (F : Nat → Int) (hF : ∀ i, -1000000000000000000 ≤ F i ∧ F i ≤ 1000000000000000000) (n f : Nat) (cap : Array Value) (w : World) (hn : n ≤ 1000000)
    (hcf : ∀ a W, (callFunc f a).run Tryz.prog W = .ok (.enter f a) W) (hf : ∀ i W, i < n → Below w.heap.size w W → Calls Tryz.prog f (#[.int .i64 i] ++ cap) W fun e W' => e = .returned (.int .i64 (F i)) ∧ ∃ m, W' = W.drewN m) :
    Calls Tryz.prog 87 #[.int .i64 n, .func (.func f) #[] cap] w fun e w' => ∃ v, e = .returned v ∧ LB w' v (Nt.limbs (Nt.lval (Nt.cst F n).1)) ∧ Fresh w.heap.size v ∧ Below w.heap.size w w' := by
  have hmk := run_mk n hn
  have HF := Lib.hid hf
  have HC := Lib.hid (Nt.cst_carry F hF)
  clear hf
  go_enter Tryz.func87, Tryz.ntmps87
  go_wp2
  go_loopw [13] (fun i wr => ∃ k : Nat, k ≤ n ∧ i = .int .i64 k ∧ ColI F n w k wr) (fun i _ => n - (intOf i).toNat)
  case atStart => exact ⟨0, Nat.zero_le _, rfl, ColI.start F n w⟩
  case round =>
    obtain ⟨k, hk, rfl, hI⟩ := hrel
    by_cases hlt : k < n
    · obtain ⟨cur, hcs, hcur, h0, h1, h2, hB⟩ := hI
      have H0 := Lib.hid h0
      have H1 := Lib.hid h1
      have H2 := Lib.hid h2
      have HCS := Lib.hid hcs
      have HCUR := Lib.hid hcur
      have HFR := Lib.hid (hF k)
      clear h0 h1 h2 hcs hcur hF
      go_wp2_with fail
      refine (HF.out k wr hlt hB).mono ?_
      rintro e W1 ⟨rfl, m, rfl⟩
      have hfr := HFR.out
      have hcc := HC.out k
      go_wp2_with fail
      refine (put_any (w.heap.size + 1 + 1) (w.heap.size + 1) w.heap.size n k (F k) (Nt.cst F k).2 cur (wr.drewN m) H2.out H1.out H0.out HCS.out hlt (by omega) hn (by omega) (by omega)).mono ?_
      rintro e W2 ⟨rfl, hput⟩
      have HS := Lib.hid (ColI.step (w := w) (wr := wr.drewN m) hlt HCS.out HCUR.out H1.out (below_drewN hB m) hput)
      clear hput
      go_wp2
      go_roundw
      case rel => exact ⟨k + 1, by omega, by go_num, HS.out⟩
      case measure => simp [intOf]; omega
    · obtain rfl : k = n := by omega
      have HL := Lib.hid (ColI.done hI hn)
      have HB : Below w.heap.size w wr := by obtain ⟨_, _, _, _, _, _, hB⟩ := hI; exact hB
      obtain ⟨_, _, _, _, h1, _, _⟩ := hI
      have k1 := cell_of_one h1
      have HT := Lib.hid (trimmed_any _ _ wr HL.out (Nt.cst_lt F k) (by rw [Nt.cst_len]; omega))
      clear h1
      go_wp2_with fail
      refine HT.out.mono ?_
      rintro e W1 ⟨v, rfl, hv, hob, rfl⟩
      have HOB : Hid (Fresh w.heap.size v) := fun g hg => by rw [hob] at hg; simp [Value.ownBlock] at hg; omega
      clear hob
      go_wp2
      go_ret
      exact ⟨_, rfl, hv, HOB.out, HB⟩
end Go.Proofs.YtcphclpekllcoaaGreatDoor


/- Walks: sums, differences and products of limbs. -/
namespace Go.Proofs.YtcphclpekllcoaaGreatDoor
open Go.RowKit

theorem fresh_mono {B B' : Nat} {v : Value} (h : Fresh B v) (hB : B' ≤ B) : Fresh B' v := fun k hk => Nat.le_trans hB (h k hk)

theorem heap2 (w : World) (a b : Obj) : ((w.alloc a).alloc b).heap[w.heap.size]? = some a ∧ ((w.alloc a).alloc b).heap[w.heap.size + 1]? = some b := by
  show ((w.heap.push a).push b)[w.heap.size]? = _ ∧ ((w.heap.push a).push b)[w.heap.size + 1]? = _
  refine ⟨?_, ?_⟩
  · rw [Array.getElem?_push, if_neg (by simp), Array.getElem?_push, if_pos rfl]
  · rw [Array.getElem?_push, if_pos (by simp)]
theorem below2 (w : World) (a b : Obj) : Below w.heap.size w ((w.alloc a).alloc b) := ((Below.refl _ w).alloc (Nat.le_refl _) _).alloc (by simp) _
theorem below_cell {w w' : World} (hb : Below w.heap.size w w') {a : Addr} {v : Value} (h : w.cell? a = some v) : w'.cell? a = some v :=
  (hb.cell (World.block_lt_of_cell? w a h)).trans h

set_option maxRecDepth 100000 in
theorem times_any (v : Value) (xs : List Nat) (q : Nat) (w : World) (h : LB w v xs) (hd : ∀ d ∈ xs, d < 1000000000) (hq : q < 1000000000) (hl : xs.length ≤ 900000) :
    Calls Tryz.prog 90 #[v, .int .i64 q] w fun e w' => ∃ v', e = .returned v' ∧ LB w' v' (Nt.limbs (q * Nt.lval xs)) ∧ Fresh w.heap.size v' ∧ Below w.heap.size w w' := by
  obtain ⟨b0, b1⟩ := heap2 w (.cells #[v] 96) (.cells #[.int .i64 q] 3)
  have HB := Lib.hid (below2 w (.cells #[v] 96) (.cells #[.int .i64 q] 3))
  have hcf : ∀ a W, (callFunc 114 a).run Tryz.prog W = .ok (.enter 114 a) W := fun _ _ => by kernel_rfl
  have HC := Lib.hid (collect_any (fun i => (q : Int) * Nt.at0 xs i) (fun i => by have := Nt.times_range xs q hd hq i; omega) (xs.length + 1) 114
    #[.pointer (some ⟨w.heap.size + 1, 0, none⟩), .pointer (some ⟨w.heap.size, 0, none⟩)] ((w.alloc (.cells #[v] 96)).alloc (.cells #[.int .i64 q] 3)) (by omega) hcf
    (fun i W hi hB => timesOf_any (w.heap.size + 1) w.heap.size q v xs i W (below_cell hB (cell_of_one b1)) (below_cell hB (cell_of_one b0))
      ((h.below (below2 w _ _)).below hB) hd hq (by omega) (by omega)))
  rw [Nt.times_all xs q hd hq] at HC
  clear hcf b0 b1
  obtain ⟨a, c, rfl, _, _, _⟩ := h
  rw [show ((xs.length + 1 : Nat) : Int) = (xs.length : Int) + 1 from rfl] at HC
  go_enter Tryz.func90, Tryz.ntmps90
  go_wp2_with fail
  refine HC.out.mono ?_
  rintro e W1 ⟨v', rfl, hv, hfr, hb⟩
  have HFR := Lib.hid (fresh_mono hfr HB.out.size)
  clear hfr
  go_wp2
  go_ret
  exact ⟨_, rfl, hv, HFR.out, below_trans HB.out hb⟩

theorem max_cast (a b : Nat) : (if (a : Int) ≤ (b : Int) then (b : Int) else a) = ((max a b : Nat) : Int) := by
  split <;> omega

set_option maxRecDepth 100000 in
theorem add_any (v u : Value) (xs ys : List Nat) (w : World) (h : LB w v xs) (h' : LB w u ys) (hd : ∀ d ∈ xs, d < 1000000000) (hd' : ∀ d ∈ ys, d < 1000000000)
    (hl : xs.length ≤ 900000) (hl' : ys.length ≤ 900000) :
    Calls Tryz.prog 84 #[v, u] w fun e w' => ∃ v', e = .returned v' ∧ LB w' v' (Nt.limbs (Nt.lval xs + Nt.lval ys)) ∧ Fresh w.heap.size v' ∧ Below w.heap.size w w' := by
  obtain ⟨b0, b1⟩ := heap2 w (.cells #[v] 96) (.cells #[u] 96)
  have HB := Lib.hid (below2 w (.cells #[v] 96) (.cells #[u] 96))
  have hcf : ∀ a W, (callFunc 110 a).run Tryz.prog W = .ok (.enter 110 a) W := fun _ _ => by kernel_rfl
  have HC := Lib.hid (collect_any (fun i => Nt.at0 xs i + Nt.at0 ys i) (fun i => by have := Nt.at0_range xs hd i; have := Nt.at0_range ys hd' i; omega) (max xs.length ys.length + 1) 110
    #[.pointer (some ⟨w.heap.size, 0, none⟩), .pointer (some ⟨w.heap.size + 1, 0, none⟩)] ((w.alloc (.cells #[v] 96)).alloc (.cells #[u] 96)) (by omega) hcf
    (fun i W hi hB => addOf_any w.heap.size (w.heap.size + 1) v u xs ys i W (below_cell hB (cell_of_one b0)) (below_cell hB (cell_of_one b1))
      ((h.below (below2 w _ _)).below hB) ((h'.below (below2 w _ _)).below hB) hd hd' (by omega) (by omega) (by omega)))
  rw [Nt.add_all xs ys hd hd' _ rfl] at HC
  clear hcf b0 b1
  obtain ⟨a, c, rfl, _, _, _⟩ := h
  obtain ⟨a', c', rfl, _, _, _⟩ := h'
  rw [show ((max xs.length ys.length + 1 : Nat) : Int) = ((max xs.length ys.length : Nat) : Int) + 1 from rfl] at HC
  by_cases hm : xs.length < ys.length
  · rw [Nat.max_eq_right (Nat.le_of_lt hm)] at HC
    go_enter Tryz.func84, Tryz.ntmps84
    go_wp2_with fail
    refine HC.out.mono ?_
    rintro e W1 ⟨v', rfl, hv, hfr, hb⟩
    have HFR := Lib.hid (fresh_mono hfr HB.out.size)
    clear hfr
    go_wp2
    go_ret
    exact ⟨_, rfl, hv, HFR.out, below_trans HB.out hb⟩
  · rw [Nat.max_eq_left (by omega)] at HC
    go_enter Tryz.func84, Tryz.ntmps84
    go_wp2_with fail
    refine HC.out.mono ?_
    rintro e W1 ⟨v', rfl, hv, hfr, hb⟩
    have HFR := Lib.hid (fresh_mono hfr HB.out.size)
    clear hfr
    go_wp2
    go_ret
    exact ⟨_, rfl, hv, HFR.out, below_trans HB.out hb⟩

set_option maxRecDepth 100000 in
theorem sub_any (v u : Value) (xs ys : List Nat) (w : World) (h : LB w v xs) (h' : LB w u ys) (hd : ∀ d ∈ xs, d < 1000000000) (hd' : ∀ d ∈ ys, d < 1000000000)
    (hl : xs.length ≤ 900000) (hly : ys.length ≤ xs.length) (hle : Nt.lval ys ≤ Nt.lval xs) :
    Calls Tryz.prog 68 #[v, u] w fun e w' => ∃ v', e = .returned v' ∧ LB w' v' (Nt.limbs (Nt.lval xs - Nt.lval ys)) ∧ Fresh w.heap.size v' ∧ Below w.heap.size w w' := by
  obtain ⟨b0, b1⟩ := heap2 w (.cells #[v] 96) (.cells #[u] 96)
  have HB := Lib.hid (below2 w (.cells #[v] 96) (.cells #[u] 96))
  have hcf : ∀ a W, (callFunc 88 a).run Tryz.prog W = .ok (.enter 88 a) W := fun _ _ => by kernel_rfl
  have HC := Lib.hid (collect_any (fun i => Nt.at0 xs i - Nt.at0 ys i) (fun i => by have := Nt.at0_range xs hd i; have := Nt.at0_range ys hd' i; omega) xs.length 88
    #[.pointer (some ⟨w.heap.size, 0, none⟩), .pointer (some ⟨w.heap.size + 1, 0, none⟩)] ((w.alloc (.cells #[v] 96)).alloc (.cells #[u] 96)) (by omega) hcf
    (fun i W hi hB => subOf_any w.heap.size (w.heap.size + 1) v u xs ys i W (below_cell hB (cell_of_one b0)) (below_cell hB (cell_of_one b1))
      ((h.below (below2 w _ _)).below hB) ((h'.below (below2 w _ _)).below hB) hd hd' hi (by omega) (by omega)))
  rw [Nt.sub_all xs ys hd hle hly] at HC
  clear hcf b0 b1
  obtain ⟨a, c, rfl, _, _, _⟩ := h
  obtain ⟨a', c', rfl, _, _, _⟩ := h'
  go_enter Tryz.func68, Tryz.ntmps68
  go_wp2_with fail
  refine HC.out.mono ?_
  rintro e W1 ⟨v', rfl, hv, hfr, hb⟩
  have HFR := Lib.hid (fresh_mono hfr HB.out.size)
  clear hfr
  go_wp2
  go_ret
  exact ⟨_, rfl, hv, HFR.out, below_trans HB.out hb⟩

def cmpI (m n : Nat) : Int := if m < n then -1 else if n < m then 1 else 0
theorem cmpI_lt {m n : Nat} (h : m < n) : cmpI m n = -1 := by simp [cmpI, h]
theorem cmpI_gt {m n : Nat} (h : n < m) : cmpI m n = 1 := by unfold cmpI; rw [if_neg (by omega), if_pos h]
theorem cmpI_eq {m n : Nat} (h : m = n) : cmpI m n = 0 := by subst h; simp [cmpI]

theorem LB.at {w : World} {a : Option Addr} {n c : Nat} {xs : List Nat} (h : LB w (.slice a n c) xs) {i : Nat} (hi : i < xs.length) :
    ∃ g, a = some ⟨g, 0, none⟩ ∧ n = xs.length ∧ w.cell? ⟨g, i, none⟩ = some (.int .i64 ((xs[i]?.getD 0 : Nat) : Int)) := by
  obtain ⟨a', c', e, _, _, h3⟩ := h
  simp only [Value.slice.injEq] at e
  obtain ⟨rfl, rfl, rfl⟩ := e
  rcases h3 with ⟨_, rfl, _⟩ | ⟨g, rfl, h3⟩
  · simp at hi
  · exact ⟨g, rfl, rfl, h3 i hi⟩

set_option maxRecDepth 100000 in
theorem compare_any (v u : Value) (m n : Nat) (w : World) (h : LB w v (Nt.limbs m)) (h' : LB w u (Nt.limbs n)) (hl : (Nt.limbs m).length ≤ 900000) (_hl' : (Nt.limbs n).length ≤ 900000) :
    Calls Tryz.prog 66 #[v, u] w fun e w' => e = .returned (.int .i64 (cmpI m n)) ∧ ∃ k, w' = w.drewN k := by
  have g := h
  have g' := h'
  obtain ⟨a, c, rfl, _, _, _⟩ := h
  obtain ⟨a', c', rfl, _, _, _⟩ := h'
  by_cases hlen : (Nt.limbs m).length = (Nt.limbs n).length
  · have hne : (((Nt.limbs m).length : Int) != ((Nt.limbs n).length : Int)) = false := by rw [hlen]; simp
    have HL := Lib.hid hlen
    clear hlen
    go_enter Tryz.func66, Tryz.ntmps66
    go_wp2
    go_loopw [5] (fun i wr => ∃ k : Nat, k ≤ (Nt.limbs m).length ∧ i = .int .i64 ((k : Int) - 1) ∧ (∀ j, k ≤ j → (Nt.limbs m).getD j 0 = (Nt.limbs n).getD j 0) ∧ ∃ q, wr = w.drewN q) (fun i _ => (intOf i + 1).toNat)
    case atStart => exact ⟨(Nt.limbs m).length, Nat.le_refl _, rfl, fun j hj => by simp [List.getD_eq_getElem?_getD, List.getElem?_eq_none hj, List.getElem?_eq_none (HL.out ▸ hj)], 0, rfl⟩
    case round =>
      obtain ⟨k, hk, rfl, heq, q, rfl⟩ := hrel
      by_cases h0 : k = 0
      · subst h0
        have HE := Lib.hid (cmpI_eq (Nt.limbs_ext HL.out (fun j => heq j (Nat.zero_le _))))
        clear heq
        go_wp2
        go_ret
        exact ⟨ret_int HE.out.symm, q, rfl⟩
      · obtain ⟨j, rfl⟩ : ∃ j, k = j + 1 := ⟨k - 1, by omega⟩
        obtain ⟨b, rfl, _, c1⟩ := g.at (i := j) (by omega)
        obtain ⟨b', rfl, _, c2⟩ := g'.at (i := j) (by have := HL.out; omega)
        have hj' : j < (Nt.limbs n).length := by have := HL.out; omega
        have HEQ := Lib.hid heq
        have he1 : ((j + 1 : Nat) : Int) - 1 = (j : Int) := by omega
        clear heq g g'
        rw [he1]
        clear he1
        generalize hA : (Nt.limbs m)[j]?.getD 0 = A at c1
        generalize hB : (Nt.limbs n)[j]?.getD 0 = B at c2
        have HA := Lib.hid hA
        have HB := Lib.hid hB
        clear hA hB
        rcases Nat.lt_trichotomy A B with hAB | hAB | hAB
        · have hb : ((A : Int) != (B : Int)) = true := by simp; omega
          have HR := Lib.hid (cmpI_lt (m := m) (n := n) (by
            have := Nt.lval_lt_of j HL.out (Nt.limbs_lt m) (by omega) (fun t ht => HEQ.out t (by omega)) (by simp only [List.getD_eq_getElem?_getD]; rw [HA.out, HB.out]; exact hAB)
            rwa [Nt.lval_limbs, Nt.lval_limbs] at this))
          go_wp2
          go_quiet (fail)
          go_wp2
          go_quiet (fail)
          go_wp2
          go_ret
          exact ⟨ret_int HR.out.symm, _, by rw [World.drewN_drewN, World.drewN_drewN]⟩
        · have HAB := Lib.hid hAB
          subst hAB
          go_wp2
          go_quiet (fail)
          go_wp2
          go_roundw
          case rel => exact ⟨j, by omega, rfl, fun t ht => by
            by_cases e : t = j
            · subst e; simp only [List.getD_eq_getElem?_getD]; rw [HA.out, HB.out]
            · exact HEQ.out t (by omega), _, rfl⟩
          case measure => simp [intOf]
        · have hb : ((A : Int) != (B : Int)) = true := by simp; omega
          have HR := Lib.hid (cmpI_gt (m := m) (n := n) (by
            have := Nt.lval_lt_of j HL.out.symm (Nt.limbs_lt n) (by omega) (fun t ht => (HEQ.out t (by omega)).symm) (by simp only [List.getD_eq_getElem?_getD]; rw [HA.out, HB.out]; exact hAB)
            rwa [Nt.lval_limbs, Nt.lval_limbs] at this))
          go_wp2
          go_quiet (fail)
          go_wp2
          go_quiet (fail)
          go_wp2
          go_ret
          exact ⟨ret_int HR.out.symm, _, by rw [World.drewN_drewN, World.drewN_drewN]⟩
  · have hne : (((Nt.limbs m).length : Int) != ((Nt.limbs n).length : Int)) = true := by simp; omega
    by_cases hlt : (Nt.limbs m).length < (Nt.limbs n).length
    · have HR := Lib.hid (cmpI_lt (Nt.lt_of_len hlt))
      go_enter Tryz.func66, Tryz.ntmps66
      go_wp2
      go_ret
      exact ⟨ret_int HR.out.symm, 0, rfl⟩
    · have HR := Lib.hid (cmpI_gt (Nt.lt_of_len (show (Nt.limbs n).length < (Nt.limbs m).length by omega)))
      go_enter Tryz.func66, Tryz.ntmps66
      go_wp2
      go_ret
      exact ⟨ret_int HR.out.symm, 0, rfl⟩
end Go.Proofs.YtcphclpekllcoaaGreatDoor


/- Walks: appending limbs; reading a number; products. -/
namespace Go.Proofs.YtcphclpekllcoaaGreatDoor
open Go.RowKit

theorem add_lit (g j : Nat) : (⟨g, 0, none⟩ : Addr).add j = ⟨g, j, none⟩ := by unfold Addr.add; split <;> simp_all

def ints (xs : List Nat) : List Value := xs.map fun (x : Nat) => Value.int .i64 (x : Int)
theorem ints_at (xs : List Nat) (i : Nat) (h : i < xs.length) : (ints xs)[i]? = some (.int .i64 ((xs[i]?.getD 0 : Nat) : Int)) := by
  simp [ints, List.getElem?_eq_getElem h]

/-- A row of one's own is a list of limbs. -/
theorem LB.of_own {w : World} {B : Nat} {v : Value} {xs : List Nat} (h : w.ownsRow B 3 1 v xs.length (ints xs)) : LB w v xs := by
  have h0 := h
  obtain ⟨h1, h2⟩ := h
  rcases h2 with ⟨rfl, h2⟩ | ⟨g, cap, cur, rfl, hb, hg, hn, hm, hc, ht⟩
  · have : xs = [] := List.length_eq_zero_iff.1 h2
    subst this
    exact ⟨none, 0, rfl, Nat.le_refl _, by unfold maxLen; omega, .inl ⟨rfl, rfl, rfl⟩⟩
  · refine ⟨some ⟨g, 0, none⟩, cap, rfl, hn, hm, .inr ⟨g, rfl, fun i hi => ?_⟩⟩
    have := h0.cells (g := g) rfl i _ (ints_at xs i hi)
    rwa [add_lit] at this

theorem info_int : (Tryz.prog.info? 3).map (fun i => (i.zero, i.size, i.bytes)) = some (some (.int .i64 0), 1, 8) := by kernel_rfl

/-- What append does to a row of one's own limbs. -/
theorem run_append_lb (w : World) (B : Nat) (v u : Value) (xs ys : List Nat) (ty : TypeId) (hv : w.ownsRow B 3 1 v xs.length (ints xs)) (hu : LB w u ys) (hB : B ≤ w.heap.size)
    (hn : xs.length + ys.length ≤ 4000000) :
    ∃ v' w', (Builtin.append_ #[96, 96] ty #[v, u]).run Tryz.prog w = .ok v' w' ∧ w'.ownsRow B 3 1 v' (xs ++ ys).length (ints (xs ++ ys)) ∧ Below B w w' := by
  obtain ⟨i0, hi, hz0, hz1, hz2⟩ := info_parts info_int
  obtain ⟨a, c, rfl, h1, h2, h3⟩ := hu
  rcases h3 with ⟨rfl, rfl, rfl⟩ | ⟨g, rfl, h3⟩
  · refine ⟨v, w, ?_, by simpa using hv, Below.refl _ _⟩
    exact run_append_owned_none (P := Tryz.prog) (w := w) B 96 ty 3 i0 1 Tryz.underlying96 hi v _ _ hv
  · obtain ⟨v', w', hr, h4, h5, _⟩ := run_append_own (P := Tryz.prog) w B 96 ty 3 i0 (.int .i64 0) 1 8 Tryz.underlying96 hi hz0 hz1 hz2 rfl (by decide) v xs.length (ints xs) hv
      ⟨g, 0, none⟩ ys.length c (ints ys) (by simp [ints]) (fun j x hj => by
        have hj' : j < ys.length := by
          have := (List.getElem?_eq_some_iff.1 hj).1
          simpa [ints] using this
        rw [ints_at ys j hj'] at hj
        simp only [Option.some.injEq] at hj
        subst hj
        rw [add_lit]
        exact h3 j hj') (fun x hx => by
        simp only [ints, List.mem_map] at hx
        obtain ⟨y, _, rfl⟩ := hx
        rfl) (by unfold maxLen; omega) (by omega) hB
    refine ⟨v', w', hr, ?_, (Below.refl _ w).grown h5 hB (fun k hk => (hv.lt k hk).1)⟩
    rw [List.length_append]
    simpa [ints] using h4

theorem wp_append_lb {w : World} {o : Oper} {a : Act} {K : Act → World → Prop} {Q : Exit → Act → World → Prop} (s x : Operand)
    (ho : o.op = .call { callee := .builtin .append, args := #[s, x], argTypes := #[96, 96] })
    (B : Nat) (v u : Value) (xs ys : List Nat) (hs : a.eval s = v) (hx : a.eval x = u) (hv : w.ownsRow B 3 1 v xs.length (ints xs)) (hu : LB w u ys) (hB : B ≤ w.heap.size) (hn : xs.length + ys.length ≤ 4000000)
    (h : ∀ v' w', w'.ownsRow B 3 1 v' (xs ++ ys).length (ints (xs ++ ys)) → Below B w w' → K (a.put o.dst v') w') : o.wp Tryz.prog a w K Q := by
  obtain ⟨v', w', hr, h2, h3⟩ := run_append_lb w B v u xs ys o.type hv hu hB hn
  unfold Oper.wp execOp
  simp only [ho, resolve, invoke, builtin, Sem.run_bind, Sem.run_pure, Result.andThen_ok, List.map_toArray, List.map_cons, List.map_nil, hs, hx, hr]
  exact h v' w' h2 h3

theorem wpList_append_lb {w : World} {ops : Array Oper} {rest : List Oper} {o : Oper} {a : Act} {Q : Exit → Act → World → Prop} (hgd : o.guard = none) (s x : Operand)
    (ho : o.op = .call { callee := .builtin .append, args := #[s, x], argTypes := #[96, 96] })
    (B : Nat) (v u : Value) (xs ys : List Nat) (hs : a.eval s = v) (hx : a.eval x = u) (hv : w.ownsRow B 3 1 v xs.length (ints xs)) (hu : LB w u ys) (hB : B ≤ w.heap.size) (hn : xs.length + ys.length ≤ 4000000)
    (h : ∀ v' w', w'.ownsRow B 3 1 v' (xs ++ ys).length (ints (xs ++ ys)) → Below B w w' → wpList Tryz.prog ops Q rest (a.put o.dst v') w') : wpList Tryz.prog ops Q (o :: rest) a w :=
  wpList_plain hgd fun _ hK => wp_append_lb s x ho B v u xs ys hs hx hv hu hB hn fun v' w' h1 h2 => hK _ _ (h v' w' h1 h2)

theorem step_append_lb {w : World} {ops : Array Oper} {o : Oper} {a : Act} {K : Act → World → Prop} {Q : Exit → Act → World → Prop} {E : Prop} (hgd : o.guard = none) (s x : Operand)
    (ho : o.op = .call { callee := .builtin .append, args := #[s, x], argTypes := #[96, 96] })
    (B : Nat) (v u : Value) (xs ys : List Nat) (hs : a.eval s = v) (hx : a.eval x = u) (hv : w.ownsRow B 3 1 v xs.length (ints xs)) (hu : LB w u ys) (hB : B ≤ w.heap.size) (hn : xs.length + ys.length ≤ 4000000)
    (h : ∀ v' w', w'.ownsRow B 3 1 v' (xs ++ ys).length (ints (xs ++ ys)) → Below B w w' → K (a.put o.dst v') w') :
    if Region.wanted o (yielded ops a.tmps) = true then Oper.wp Tryz.prog o a w K Q else E := by
  have hw : Region.wanted o (yielded ops a.tmps) = true := by simp [Region.wanted, hgd]
  rw [if_pos hw]
  exact wp_append_lb s x ho B v u xs ys hs hx hv hu hB hn h

theorem lval_take_succ (l : List Nat) (k : Nat) (h : k < l.length) : Nt.lval (l.take (k + 1)) = Nt.lval (l.take k) + 1000000000 ^ k * (l[k]?.getD 0) := by
  rw [List.take_succ_eq_append_getElem h, Nt.lval_append, List.length_take, Nat.min_eq_left (by omega)]
  simp [Nt.lval, List.getElem?_eq_getElem h]

theorem part_val (k a : Nat) : Nt.lval (List.replicate k 0 ++ Nt.limbs a) = 1000000000 ^ k * a := by
  rw [Nt.lval_append, Nt.lval_replicate, List.length_replicate, Nt.lval_limbs]; omega

theorem part_lt (k a : Nat) : ∀ d ∈ List.replicate k 0 ++ Nt.limbs a, d < 1000000000 := by
  intro d hd
  rcases List.mem_append.1 hd with h | h
  · rw [(List.mem_replicate.1 h).2]; decide
  · exact Nt.limbs_lt a d h

theorem Zs_own (w : World) (B0 B k : Nat) (hB : B0 ≤ B) (h : w.heap[B]? = some (.cells (Zs k) 3 (0, 0))) (hk : k ≤ 1000000) : w.ownsRow B0 3 1 (.slice (some ⟨B, 0, none⟩) k k) (List.replicate k 0).length (ints (List.replicate k 0)) := by
  refine ⟨by simp [ints], .inr ⟨B, k, Zs k, by simp, hB, h, by simp, by unfold maxLen; omega, by rw [Zs_size]; omega, ?_⟩⟩
  simp only [List.length_replicate, Nat.mul_one, ints, List.map_replicate]
  refine List.ext_getElem? fun i => ?_
  rw [List.getElem?_take]
  split
  · rename_i hi
    rw [Array.getElem?_toList, Zs_at k i hi, List.getElem?_replicate, if_pos hi]; rfl
  · rename_i hi
    rw [List.getElem?_replicate, if_neg hi]

theorem limbs_len_mul (a b : Nat) : (Nt.limbs (a * b)).length ≤ (Nt.limbs a).length + (Nt.limbs b).length := by
  rw [Nt.limbs_len_le, Nat.pow_add]
  have h1 := (Nt.limbs_len_le a _).1 (Nat.le_refl _)
  have h2 := (Nt.limbs_len_le b _).1 (Nat.le_refl _)
  exact Nat.mul_lt_mul_of_lt_of_lt h1 h2

set_option maxRecDepth 100000 in
theorem mul_any (v u : Value) (m n : Nat) (w : World) (h : LB w v (Nt.limbs m)) (h' : LB w u (Nt.limbs n)) (hl : (Nt.limbs m).length ≤ 400000) (hl' : (Nt.limbs n).length ≤ 400000) :
    Calls Tryz.prog 83 #[v, u] w fun e w' => ∃ v', e = .returned v' ∧ LB w' v' (Nt.limbs (m * n)) ∧ Below w.heap.size w w' := by
  have G := Lib.hid h
  have G' := Lib.hid h'
  obtain ⟨a, c, rfl, _, _, _⟩ := h
  obtain ⟨a', c', rfl, _, _, _⟩ := h'
  go_enter Tryz.func83, Tryz.ntmps83
  go_wp2
  go_loopw [5, 10] (fun o i wr => ∃ k : Nat, k ≤ (Nt.limbs n).length ∧ i = .int .i64 k ∧ LB wr o (Nt.limbs (m * Nt.lval ((Nt.limbs n).take k))) ∧ Below w.heap.size w wr) (fun _ i _ => (Nt.limbs n).length - (intOf i).toNat)
  case atStart => exact ⟨0, Nat.zero_le _, rfl, ⟨none, 0, by simp [Nt.lval, Nt.limbs_zero], by simp [Nt.lval, Nt.limbs_zero], by unfold maxLen; omega, .inl ⟨rfl, by simp [Nt.lval, Nt.limbs_zero], rfl⟩⟩, Below.refl _ _⟩
  case round =>
    obtain ⟨k, hk, rfl, ho, hB⟩ := hrel
    by_cases hlt : k < (Nt.limbs n).length
    · obtain ⟨b, rfl, _, c1⟩ := LB.at (G'.out) hlt
      have hc1 := below_cell hB c1
      clear c1
      have hDlt : (Nt.limbs n)[k]?.getD 0 < 1000000000 := by have := Nt.limbs_getD_lt n k; rwa [List.getD_eq_getElem?_getD] at this
      have hsucc := lval_take_succ (Nt.limbs n) k hlt
      generalize (Nt.limbs n)[k]?.getD 0 = D at hc1 hDlt hsucc
      have HSU := Lib.hid hsucc
      clear hsucc
      have hmk := run_mk k (by omega)
      have mul_len : (Nt.limbs (D * m)).length ≤ 1 + (Nt.limbs m).length := by
        have h1 := limbs_len_mul D m
        have h2 : (Nt.limbs D).length ≤ 1 := by rw [Nt.limbs_len_le]; simpa using hDlt
        omega
      have HO := Lib.hid ho
      clear ho
      go_upto_region 5 with (fail)
      go_cut [7] (fun p wx => LB wx p (List.replicate k 0 ++ Nt.limbs (D * m)) ∧ Below wr.heap.size wr wx)
      case first =>
        have HC : Hid (∀ W, Below wr.heap.size wr W → Calls Tryz.prog 90 #[.slice a (Nt.limbs m).length c, .int .i64 (D : Int)] W fun e w' => ∃ v', e = .returned v' ∧ LB w' v' (Nt.limbs (D * Nt.lval (Nt.limbs m))) ∧ Fresh W.heap.size v' ∧ Below W.heap.size W w') := fun W hW =>
          times_any _ _ _ W ((G.out.below hB).below hW) (Nt.limbs_lt m) hDlt (by omega)
        rw [Nt.lval_limbs] at HC
        have hc2 := fun o => below_cell ((Below.refl _ wr).alloc (Nat.le_refl _) o) hc1
        have own_a : ∀ W1, Below (wr.alloc (.cells (Zs k) 3)).drew.heap.size (wr.alloc (.cells (Zs k) 3)).drew W1 →
            W1.ownsRow wr.heap.size 3 1 (.slice (some ⟨wr.heap.size, 0, none⟩) k k) (List.replicate k 0).length (ints (List.replicate k 0)) := fun W1 hb =>
          Zs_own W1 _ _ k (Nat.le_refl _) ((hb.block _ (by simp)).trans (heap_alloc_new wr _)) (by omega)
        have own_b : ∀ W1 : World, wr.heap.size ≤ W1.heap.size → (W1.alloc (.cells (Zs k) 3)).ownsRow wr.heap.size 3 1 (.slice (some ⟨W1.heap.size, 0, none⟩) k k) (List.replicate k 0).length (ints (List.replicate k 0)) := fun W1 hs =>
          Zs_own _ _ _ k hs (heap_alloc_new W1 _) (by omega)
        go_wp2_with fail
        go_region_law (first
          | (refine step_append_lb rfl (.tmp 14) (.tmp 20) rfl wr.heap.size _ _ (List.replicate k 0) (Nt.limbs (D * m)) rfl rfl ?_ ?_ ?_ ?_ ?_
             go_must (change World.ownsRow _ _ _ _ (Value.slice _ _ _) _ _)
             go_must ((first | (with_reducible exact own_a _ hb1) | (with_reducible exact own_b _ hs1)))
             go_must (change LB _ v1 _)
             go_must ((first | (with_reducible exact hv1) | (with_reducible exact hv1.below ((Below.refl _ _).alloc (Nat.le_refl _) _))))
             go_must ((first | (with_reducible exact hs1) | (simp; omega)))
             go_must ((simp only [List.length_replicate]; omega))
             intro v2 W2 ho2 hb2)
          | (go_simp
             go_at_call 90
             refine (HC.out _ ?_).mono ?_
             (first | (with_reducible exact ((Below.refl _ wr).alloc (Nat.le_refl _) _).drew) | (with_reducible exact (Below.refl _ wr).drew) | go_goals)
             rintro e W1 ⟨v1, rfl, hv1, _, hb1⟩
             have hs1 : wr.heap.size ≤ W1.heap.size := by have := hb1.size; simp at this; omega))
        all_goals
          go_wp2_with fail
          go_meet
          case rel =>
            first
              | (with_reducible exact ⟨LB.of_own ho2, (below_trans ((Below.refl _ wr).alloc (Nat.le_refl _) _).drew hb1).trans hb2⟩)
              | (with_reducible exact ⟨LB.of_own ho2, ((below_trans (Below.refl _ wr).drew hb1).alloc hs1 _).trans hb2⟩)
      case rest =>
        obtain ⟨hp, hbp⟩ := hcut
        have HA := Lib.hid (add_any _ _ _ _ wc (HO.out.below (hbp.mono (Nat.le_refl _))) hp (Nt.limbs_lt _) (part_lt k (D * m)) (by
          have h1 := limbs_len_mul m (Nt.lval ((Nt.limbs n).take k))
          have h2 : (Nt.limbs (Nt.lval ((Nt.limbs n).take k))).length ≤ k := by
            rw [Nt.limbs_len_le]
            have := Nt.lval_lt ((Nt.limbs n).take k) (fun d hd => Nt.limbs_lt n d (List.mem_of_mem_take hd))
            rwa [List.length_take, Nat.min_eq_left hk] at this
          omega) (by simp only [List.length_append, List.length_replicate]; omega))
        rw [Nt.lval_limbs, part_val] at HA
        have e : m * Nt.lval ((Nt.limbs n).take k) + 1000000000 ^ k * (D * m) = m * Nt.lval ((Nt.limbs n).take (k + 1)) := by
          rw [HSU.out, Nat.mul_add, Nat.mul_comm D m, Nat.mul_left_comm]
        rw [e] at HA
        clear e hp
        go_wp2_with fail
        refine HA.out.mono ?_
        rintro e W1 ⟨v1, rfl, hv1, _, hb1⟩
        go_wp2
        go_roundw
        case rel => exact ⟨k + 1, by omega, by go_num, hv1, below_trans hB (below_trans hbp hb1)⟩
        case measure => simp [intOf]; omega
    · obtain rfl : k = (Nt.limbs n).length := by omega
      have HT := Lib.hid (trimmed_any _ _ wr ho (Nt.limbs_lt _) (by
        rw [List.take_length, Nt.lval_limbs]; have := limbs_len_mul m n; omega))
      rw [List.take_length, Nt.lval_limbs, Nt.lval_limbs] at HT
      clear ho
      go_wp2_with fail
      refine HT.out.mono ?_
      rintro e W1 ⟨v1, rfl, hv1, _, rfl⟩
      go_wp2
      go_ret
      exact ⟨_, rfl, hv1, hB⟩
end Go.Proofs.YtcphclpekllcoaaGreatDoor


/- Walks: quotients of limbs. -/
namespace Go.Proofs.YtcphclpekllcoaaGreatDoor
open Go.RowKit

/-- The quotient's row, and what is left, when the limbs from k on are done. -/
def DivI (a b : Nat) (L N : Nat) (w : World) (k : Nat) (rest : Value) (wr : World) : Prop :=
  (∃ cur : Array Value, cur.size = L ∧ (∀ j, j < L → cur[j]? = some (.int .i64 ((if k ≤ j then (Nt.limbs (a / b)).getD j 0 else 0 : Nat) : Int))) ∧ wr.heap[N]? = some (.cells cur 3 (0, 0))) ∧
  LB wr rest (Nt.limbs (a / 1000000000 ^ k % b)) ∧ Below w.heap.size w wr

theorem quot_digit (a b i : Nat) (q : Nat) (hq : q < 1000000000) (h : a / 1000000000 ^ i / b = a / 1000000000 ^ (i + 1) / b * 1000000000 + q) : (Nt.limbs (a / b)).getD i 0 = q := by
  rw [Nt.limbs_at, Nat.div_div_eq_div_mul, Nat.mul_comm, ← Nat.div_div_eq_div_mul, h]; omega

theorem DivI.start (a b : Nat) (w : World) : DivI a b (Nt.limbs a).length w.heap.size w (Nt.limbs a).length (.slice (some ⟨w.heap.size + 1, 0, none⟩) 0 0) ((w.alloc (.cells (Zs (Nt.limbs a).length) 3)).alloc (.cells #[] 3)) := by
  obtain ⟨h0, h1⟩ := heap2 w (.cells (Zs (Nt.limbs a).length) 3) (.cells #[] 3)
  refine ⟨⟨Zs (Nt.limbs a).length, Zs_size _, fun j hj => by rw [Zs_at _ j hj, if_neg (by omega)]; rfl, h0⟩, ?_, below2 w _ _⟩
  rw [Nt.div_len, Nat.zero_mod, Nt.limbs_zero]
  exact ⟨some ⟨w.heap.size + 1, 0, none⟩, 0, rfl, Nat.le_refl _, by unfold maxLen; omega, .inr ⟨_, rfl, fun i hi => by simp at hi⟩⟩

/-- The quotient's digits, with zeros behind. -/
def qrow (a b L : Nat) : List Nat := (List.range L).map fun j => (Nt.limbs (a / b)).getD j 0

theorem qrow_lval (a b : Nat) : Nt.lval (qrow a b (Nt.limbs a).length) = a / b := by
  have hl : (Nt.limbs (a / b)).length ≤ (Nt.limbs a).length := by
    rw [Nt.limbs_len_le]
    exact Nat.lt_of_le_of_lt (Nat.div_le_self _ _) ((Nt.limbs_len_le a _).1 (Nat.le_refl _))
  have e : qrow a b (Nt.limbs a).length = Nt.limbs (a / b) ++ List.replicate ((Nt.limbs a).length - (Nt.limbs (a / b)).length) 0 := by
    refine List.ext_getElem? fun i => ?_
    unfold qrow
    by_cases h1 : i < (Nt.limbs a).length
    · rw [List.getElem?_map, List.getElem?_range h1]
      simp only [Option.map_some]
      by_cases h2 : i < (Nt.limbs (a / b)).length
      · rw [List.getElem?_append_left h2, List.getD_eq_getElem?_getD, List.getElem?_eq_getElem h2]; rfl
      · rw [List.getElem?_append_right (by omega), List.getElem?_replicate, if_pos (by omega), List.getD_eq_getElem?_getD, List.getElem?_eq_none (by omega)]; rfl
    · rw [List.getElem?_eq_none (by simp; omega), List.getElem?_eq_none (by simp; omega)]
  rw [e, Nt.lval_append, Nt.lval_replicate, Nt.lval_limbs]; omega

theorem qrow_lt (a b L : Nat) : ∀ d ∈ qrow a b L, d < 1000000000 := by
  intro d hd
  simp only [qrow, List.mem_map] at hd
  obtain ⟨j, _, rfl⟩ := hd
  exact Nt.limbs_getD_lt _ _

theorem qrow_len (a b L : Nat) : (qrow a b L).length = L := by simp [qrow]

theorem DivI.done {a b L N : Nat} {wr : World}
    (h : ∃ cur : Array Value, cur.size = L ∧ (∀ j, j < L → cur[j]? = some (.int .i64 ((if 0 ≤ j then (Nt.limbs (a / b)).getD j 0 else 0 : Nat) : Int))) ∧ wr.heap[N]? = some (.cells cur 3 (0, 0))) (hL : L ≤ 1000000) :
    LB wr (.slice (some ⟨N, 0, none⟩) L L) (qrow a b L) := by
  obtain ⟨cur, hcs, hcur, h0⟩ := h
  refine ⟨some ⟨N, 0, none⟩, L, by rw [qrow_len], by rw [qrow_len]; omega, by unfold maxLen; omega, .inr ⟨_, rfl, fun i hi => ?_⟩⟩
  rw [qrow_len] at hi
  rw [cell_of_row wr N i cur 3 (0, 0) h0, hcur i hi, if_pos (Nat.zero_le _)]
  simp [qrow, hi]

theorem one_own (W : World) (B : Nat) (X : Nat) (hB : B ≤ W.heap.size) : (W.alloc (.cells #[.int .i64 X] 3)).ownsRow B 3 1 (.slice (some ⟨W.heap.size, 0, none⟩) 1 1) [X].length (ints [X]) :=
  ⟨by simp [ints], .inr ⟨W.heap.size, 1, #[.int .i64 X], rfl, hB, heap_alloc_new W _, by simp, by unfold maxLen; omega, by simp, by simp [ints]⟩⟩

theorem lval_one (X n : Nat) : Nt.lval ([X] ++ Nt.limbs n) = n * 1000000000 + X := by
  rw [List.singleton_append, Nt.lval, Nt.lval_limbs]; omega
theorem rest_lt {r b X : Nat} (h : r < b) (hX : X < 1000000000) : r * 1000000000 + X < b * 1000000000 := by
  have h2 : (r + 1) * 1000000000 ≤ b * 1000000000 := Nat.mul_le_mul_right _ h
  omega

theorem one_lt {X n : Nat} (hX : X < 1000000000) : ∀ d ∈ [X] ++ Nt.limbs n, d < 1000000000 := by
  intro d hd
  rcases List.mem_append.1 hd with hd | hd
  · rw [List.mem_singleton.1 hd]; exact hX
  · exact Nt.limbs_lt _ d hd
theorem one_len (X : Nat) {l : List Nat} (h : l.length ≤ 300) : ([X] ++ l).length ≤ 1000000 := by
  rw [List.length_append, List.length_singleton]; omega

theorem DivI.skip {a b L N j : Nat} {w wr W' : World} {r v : Value} (h : DivI a b L N w (j + 1) r wr) (hq : (Nt.limbs (a / b)).getD j 0 = 0) (hb : Below wr.heap.size wr W')
    (hv : LB W' v (Nt.limbs (a / 1000000000 ^ j % b))) : DivI a b L N w j v W' := by
  obtain ⟨⟨cur, h1, h2, h3⟩, _, h5⟩ := h
  refine ⟨⟨cur, h1, fun i hi => ?_, (hb.block N (lt_of_block h3)).trans h3⟩, hv, below_trans h5 hb⟩
  rw [h2 i hi]
  by_cases e : i = j
  · subst e; rw [if_neg (by omega), if_pos (Nat.le_refl _), hq]
  · by_cases e2 : j + 1 ≤ i
    · rw [if_pos e2, if_pos (by omega)]
    · rw [if_neg e2, if_neg (by omega)]

theorem DivI.put {a b L N j q : Nat} {w wr W' : World} {r v : Value} (h : DivI a b L N w (j + 1) r wr) (hN : w.heap.size ≤ N) (hq : (Nt.limbs (a / b)).getD j 0 = q) (hb : Below wr.heap.size wr W')
    (hv : LB (W'.setCell ⟨N, j, none⟩ (.int .i64 (q : Nat))) v (Nt.limbs (a / 1000000000 ^ j % b))) : DivI a b L N w j v (W'.setCell ⟨N, j, none⟩ (.int .i64 (q : Nat))) := by
  obtain ⟨⟨cur, h1, h2, h3⟩, _, h5⟩ := h
  have h3' := (hb.block N (lt_of_block h3)).trans h3
  refine ⟨⟨cur.setIfInBounds j (.int .i64 (q : Nat)), by simpa using h1, fun i hi => ?_, row_setCell h3'⟩, hv, (below_trans h5 hb).setCell hN _⟩
  rw [Array.getElem?_setIfInBounds]
  by_cases e : i = j
  · subst e; rw [if_pos rfl, if_pos (by omega), if_pos (Nat.le_refl _), hq]
  · rw [if_neg (fun x => e x.symm), h2 i hi]
    by_cases e2 : j + 1 ≤ i
    · rw [if_pos e2, if_pos (by omega)]
    · rw [if_neg e2, if_neg (by omega)]

theorem DivI.cell {a b L N k : Nat} {w wr W' : World} {r : Value} (h : DivI a b L N w k r wr) (hb : Below wr.heap.size wr W') {j : Nat} (hj : j < L) : (∃ x, W'.cell? ⟨N, j, none⟩ = some x) ∧ W'.frozen? ⟨N, j, none⟩ = false := by
  obtain ⟨⟨cur, h1, h2, h3⟩, _, h5⟩ := h
  have h3' := (hb.block N (lt_of_block h3)).trans h3
  exact ⟨⟨.int .i64 _, (cell_of_row W' N j cur 3 (0, 0) h3').trans (h2 j hj)⟩, by simp [World.frozen?, h3']⟩

/-- The next digit of a quotient, and what is left. -/
theorem digit_step {a b j X R q : Nat} (hb : 0 < b) (hstep : a / 1000000000 ^ j = a / 1000000000 ^ (j + 1) * 1000000000 + X) (hR : R = a / 1000000000 ^ (j + 1) % b * 1000000000 + X)
    (hq : q < 1000000000) (h1 : b * q ≤ R) (h2 : R < b * (q + 1)) : (Nt.limbs (a / b)).getD j 0 = q ∧ a / 1000000000 ^ j % b = R - b * q := by
  obtain ⟨e1, e2⟩ := Nt.div_step (a / 1000000000 ^ (j + 1)) X b q hb (hR ▸ h1) (hR ▸ h2)
  rw [← hstep] at e1 e2
  exact ⟨quot_digit a b j q hq e1, by rw [e2, hR]⟩

theorem app_len (X : Nat) {l : List Nat} (h : l.length ≤ 300) : [X].length + l.length ≤ 4000000 := by
  rw [List.length_singleton]; omega
theorem World.size_alloc' (w : World) (o : Obj) : w.heap.size < (w.alloc o).heap.size := by simp

theorem cmpI_le {m n : Nat} (h : m ≤ n) : cmpI m n ≤ 0 := by
  unfold cmpI; split
  · omega
  · rw [if_neg (by omega)]; omega
theorem len_mul9 {b M : Nat} (h : (Nt.limbs b).length ≤ 300) (hM : M < 1000000000) : (Nt.limbs (M * b)).length ≤ 900000 := by
  have h1 := limbs_len_mul M b
  have h2 : (Nt.limbs M).length ≤ 1 := by rw [Nt.limbs_len_le]; simpa using hM
  omega

theorem limbs_mono {m n : Nat} (h : m ≤ n) : (Nt.limbs m).length ≤ (Nt.limbs n).length := by
  rw [Nt.limbs_len_le]
  exact Nat.lt_of_le_of_lt h ((Nt.limbs_len_le n _).1 (Nat.le_refl _))

theorem len_up {b R n : Nat} (h : (Nt.limbs b).length ≤ n) (hR : R < b * 1000000000) : (Nt.limbs R).length ≤ n + 1 := by
  have h1 := (Nt.limbs_len_le b n).1 h
  refine (Nt.limbs_len_le R (n + 1)).2 (Nat.lt_of_lt_of_le hR ?_)
  rw [Nat.pow_succ]
  exact Nat.mul_le_mul_right _ (Nat.le_of_lt h1)

set_option maxRecDepth 100000 in
theorem div_any (v u : Value) (a b : Nat) (w : World) (h : LB w v (Nt.limbs a)) (h' : LB w u (Nt.limbs b)) (hb : 0 < b) (hl : (Nt.limbs a).length ≤ 300) (hl' : (Nt.limbs b).length ≤ 300) :
    Calls Tryz.prog 69 #[v, u] w fun e w' => ∃ v1 v2, e = .returned (.tuple #[v1, v2]) ∧ LB w' v1 (Nt.limbs (a / b)) ∧ LB w' v2 (Nt.limbs (a % b)) ∧ Below w.heap.size w w' := by
  have G := Lib.hid h
  have G' := Lib.hid h'
  have hmk := run_mk (Nt.limbs a).length (by omega)
  obtain ⟨ax, ac, rfl, _, _, _⟩ := h
  go_enter Tryz.func69, Tryz.ntmps69
  go_wp2
  go_loopw [7, 8] (fun r i wr => ∃ k : Nat, k ≤ (Nt.limbs a).length ∧ i = .int .i64 ((k : Int) - 1) ∧ DivI a b (Nt.limbs a).length w.heap.size w k r wr) (fun _ i _ => (intOf i + 1).toNat)
  case atStart => exact ⟨(Nt.limbs a).length, Nat.le_refl _, rfl, DivI.start a b w⟩
  case round =>
    obtain ⟨k, hk, rfl, hI⟩ := hrel
    by_cases h0 : k = 0
    · subst h0
      obtain ⟨hq, hr, hB⟩ := hI
      have HT := Lib.hid (trimmed_any _ _ wr (DivI.done hq (by omega)) (qrow_lt a b _) (by rw [qrow_len]; omega))
      rw [qrow_lval] at HT
      rw [Nat.pow_zero, Nat.div_one] at hr
      clear hq
      go_wp2_with fail
      refine HT.out.mono ?_
      rintro e W1 ⟨v1, rfl, hv1, _, rfl⟩
      go_wp2
      go_ret2
      exact ⟨_, _, rfl, hv1, hr, hB⟩
    · obtain ⟨j, rfl⟩ : ∃ j, k = j + 1 := ⟨k - 1, by omega⟩
      obtain ⟨wo, rfl⟩ : ∃ wo : World, wo = wr := ⟨_, rfl⟩
      obtain ⟨bx, rfl, _, c1⟩ := LB.at (G.out) (i := j) (by omega)
      have HI := Lib.hid hI
      obtain ⟨hq, hr, hB⟩ := hI
      have hc1 := below_cell hB c1
      have hX := Nt.limbs_getD_lt a j
      rw [List.getD_eq_getElem?_getD] at hX
      have hstep := Nt.step_up a j
      rw [List.getD_eq_getElem?_getD] at hstep
      generalize (Nt.limbs a)[j]?.getD 0 = X at hc1 hX hstep
      have HS := Lib.hid hstep
      have HR := Lib.hid hr
      have he1 : ((j + 1 : Nat) : Int) - 1 = (j : Int) := by omega
      clear hstep c1 hr hq
      rw [he1]
      clear he1
      have hBs : w.heap.size ≤ wo.heap.size := hB.size
      have hlr : (Nt.limbs (a / 1000000000 ^ (j + 1) % b)).length ≤ 300 := by
        have : (Nt.limbs (a / 1000000000 ^ (j + 1) % b)).length ≤ (Nt.limbs b).length := by
          rw [Nt.limbs_len_le]
          exact Nat.lt_of_lt_of_le (Nat.mod_lt _ hb) (Nat.le_of_lt ((Nt.limbs_len_le b _).1 (Nat.le_refl _)))
        omega
      go_wp2_with (at_builtin; go_must (refine wpList_append_lb rfl _ _ rfl wo.heap.size _ _ [X] (Nt.limbs (a / 1000000000 ^ (j + 1) % b)) rfl rfl (one_own wo wo.heap.size X (Nat.le_refl _)) (HR.out.below ((Below.refl _ _).alloc (Nat.le_refl _) _)) (Nat.le_of_lt (World.size_alloc' wo _)) (app_len X hlr) ?_); intro v1 W1 ho1 hb1)
      have HV := Lib.hid (trimmed_any v1 _ W1 (LB.of_own ho1) (one_lt hX) (one_len X hlr))
      rw [lval_one] at HV
      clear ho1
      refine HV.out.mono ?_
      rintro e W1' ⟨v2, rfl, hv2, hob2, rfl⟩
      clear hob2
      have HB0 : Hid (Below wo.heap.size wo W1) := ((Below.refl _ wo).alloc (Nat.le_refl _) _).trans hb1
      have HB1 : Hid (Below w.heap.size w W1) := below_trans hB HB0.out
      clear hb1
      obtain ⟨R, hReq⟩ : ∃ R, R = a / 1000000000 ^ (j + 1) % b * 1000000000 + X := ⟨_, rfl⟩
      have hRb : R < b * 1000000000 := hReq ▸ rest_lt (Nat.mod_lt (a / 1000000000 ^ (j + 1)) hb) hX
      rw [← hReq] at hv2
      have HREQ := Lib.hid hReq
      clear hReq HR HV
      have hlR : (Nt.limbs R).length ≤ 301 := len_up hl' hRb
      have HC := Lib.hid (compare_any v2 u R b W1 hv2 (G'.out.below (HB1.out)) (by omega) (by omega))
      have HV2 := Lib.hid hv2
      clear hv2
      go_wp2_with fail
      refine HC.out.mono ?_
      rintro e W2 ⟨rfl, nq, rfl⟩
      by_cases hlt : R < b
      · rw [cmpI_lt hlt]
        go_wp2
        go_roundw
        case rel =>
          obtain ⟨q1, q2⟩ := digit_step (q := 0) hb HS.out HREQ.out (by omega) (Nat.zero_le _) (by rw [Nat.zero_add, Nat.mul_one]; exact hlt)
          rw [Nat.mul_zero, Nat.sub_zero] at q2
          exact ⟨j, by omega, rfl, HI.out.skip q1 (below_drewN HB0.out nq) (by rw [q2]; exact HV2.out.drewN nq)⟩
        case measure => simp [intOf]
      · have hc0 : 0 ≤ cmpI R b := by
          unfold cmpI
          rw [if_neg hlt]
          split <;> omega
        generalize cmpI R b = cv at hc0
        have hcf : decide (cv < 0) = false := by simp; omega
        go_wp2_with fail
        obtain ⟨W1n, hW1n⟩ : ∃ W, W = W1.drewN nq := ⟨_, rfl⟩
        have HW := Lib.hid hW1n
        have hV3 : LB W1n v2 (Nt.limbs R) := by rw [hW1n]; exact HV2.out.drewN nq
        have hB3 : Below w.heap.size w W1n := by rw [hW1n]; exact below_drewN HB1.out nq
        rw [← hW1n]
        clear hW1n
        go_loopw [9, 10] (fun lo hi w2 => ∃ l h : Nat, lo = .int .i64 l ∧ hi = .int .i64 h ∧ 1 ≤ l ∧ l ≤ h ∧ h ≤ 999999999 ∧ b * l ≤ R ∧ R < b * (h + 1) ∧ Below W1n.heap.size W1n w2) (fun lo hi _ => (intOf hi - intOf lo).toNat)
        case atStart => exact ⟨1, 999999999, rfl, rfl, by omega, by omega, by omega, by omega, hRb, Below.refl _ _⟩
        case round =>
          obtain ⟨l, h, rfl, rfl, h1, h2, h3, h4, h5, hB2⟩ := hrel
          have HTT : ∀ (M : Nat) (W : World), M < 1000000000 → Below W1n.heap.size W1n W → Calls Tryz.prog 90 #[u, .int .i64 (M : Int)] W fun e w' => ∃ v', e = .returned v' ∧ LB w' v' (Nt.limbs (M * b)) ∧ Fresh W.heap.size v' ∧ Below W.heap.size W w' := fun M W hM hW => by
            have := times_any u (Nt.limbs b) M W ((G'.out.below hB3).below hW) (Nt.limbs_lt b) hM (by omega)
            rwa [Nt.lval_limbs] at this
          have HT := Lib.hid HTT
          clear HTT
          have hV4 := Lib.hid (hV3.below hB2)
          by_cases hlh : l < h
          · obtain ⟨M, hM⟩ : ∃ M, M = (l + h + 1) / 2 := ⟨_, rfl⟩
            have e1 : ((l : Int) + (h : Int) + 1) / 2 = (M : Int) := by omega
            have hM1 : l < M := by omega
            have hM2 : M ≤ h := by omega
            clear hM
            go_wp2_with fail
            refine (HT.out M _ (by omega) hB2).mono ?_
            rintro e W3 ⟨v3, rfl, hv3, hf3, hb3⟩
            clear hf3
            have HC3 := Lib.hid (compare_any v3 v2 (M * b) R W3 hv3 (hV4.out.below hb3) (len_mul9 hl' (by omega)) (by omega))
            clear hv3
            go_wp2_with fail
            refine HC3.out.mono ?_
            rintro e W4 ⟨rfl, nq2, rfl⟩
            have hB5 := Lib.hid (below_trans hB2 (below_drewN hb3 nq2))
            clear hb3
            by_cases hle : M * b ≤ R
            · have hc1 : cmpI (M * b) R ≤ 0 := cmpI_le hle
              generalize cmpI (M * b) R = cv2 at hc1
              have HLE := Lib.hid hle
              clear hle
              go_wp2
              go_roundw
              case rel => exact ⟨M, h, rfl, rfl, by omega, hM2, h3, by rw [Nat.mul_comm]; exact HLE.out, h5, hB5.out⟩
              case measure => simp [intOf]; omega
            · have hc1 : 0 < cmpI (M * b) R := by rw [cmpI_gt (by omega)]; decide
              generalize cmpI (M * b) R = cv2 at hc1
              have HLE := Lib.hid hle
              clear hle
              go_wp2
              go_roundw
              case rel => exact ⟨l, M - 1, rfl, congrArg (Value.int .i64) (by omega), h1, by omega, by omega, h4, by rw [Nat.sub_add_cancel (by omega), Nat.mul_comm]; exact Nat.lt_of_not_le HLE.out, hB5.out⟩
              case measure => simp [intOf]; omega
          · obtain rfl : l = h := by omega
            go_wp2_with fail
            refine (HT.out l _ (by omega) hB2).mono ?_
            rintro e W3 ⟨v3, rfl, hv3, hf3, hb3⟩
            clear hf3
            have HSB := Lib.hid (sub_any v2 v3 (Nt.limbs R) (Nt.limbs (l * b)) W3 (hV4.out.below hb3) hv3 (Nt.limbs_lt _) (Nt.limbs_lt _) (by omega) (limbs_mono (by rw [Nat.mul_comm]; exact h4)) (by rw [Nt.lval_limbs, Nt.lval_limbs, Nat.mul_comm]; exact h4))
            rw [Nt.lval_limbs, Nt.lval_limbs] at HSB
            clear hv3
            go_wp2_with fail
            refine HSB.out.mono ?_
            rintro e W4 ⟨v4, rfl, hv4, hf4, hb4⟩
            have HF4 := Lib.hid hf4
            clear hf4
            have HWS : Hid (w.heap.size < W3.heap.size) := by have h1 := lt_of_block HI.out.1.choose_spec.2.2; have h2 := HB0.out.size; have h3 := hB2.size; have h4 := hb3.size; have h5 : W1n.heap.size = W1.heap.size := by rw [HW.out]; rfl
                                                              show _ < _; omega
            have hB6 : Below W1n.heap.size W1n W4 := below_trans (below_trans hB2 hb3) hb4
            have HB7 : Hid (Below wo.heap.size wo W4) := below_trans (by rw [HW.out]; exact below_drewN HB0.out nq) hB6
            obtain ⟨⟨old, hold⟩, hfz⟩ := HI.out.cell HB7.out (j := j) (by omega)
            obtain ⟨q1, q2⟩ := digit_step (q := l) hb HS.out HREQ.out (by omega) h4 h5
            have HQ1 := Lib.hid q1
            have HQ2 := Lib.hid q2
            have HV5 := Lib.hid hv4
            clear q1 q2 hv4 hb3 hb4 hB6
            go_wp2
            go_roundw
            case rel => exact ⟨j, by omega, rfl, HI.out.put (Nat.le_refl _) HQ1.out HB7.out (by rw [HQ2.out, Nat.mul_comm b]; exact HV5.out.setCell HF4.out HWS.out _)⟩
            case measure => simp [intOf]
end Go.Proofs.YtcphclpekllcoaaGreatDoor
