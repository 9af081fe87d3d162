/- Walks: limbs of natural numbers: reading one, trimming, comparing. -/
import Derived.WalkKit
import Derived.BigQuiet
import Derived.Deep.QuietTactic
import Derived.WalkLawsBesides
import Derived.Lib.Hide
import Derived.Test.YtcphclpekllcoaaGreatDoorProg
import Derived.Test.YtcphclpekllcoaaGreatDoorColl
namespace Go.Proofs.YtcphclpekllcoaaGreatDoor
open Go.RowKit

/-- A slice value holds a list of limbs. -/
def LB (w : World) (v : Value) (xs : List Nat) : Prop :=
  ∃ a c, v = .slice a xs.length c ∧ xs.length ≤ c ∧ c ≤ maxLen ∧
    ((a = none ∧ xs = [] ∧ c = 0) ∨ ∃ g, a = some ⟨g, 0, none⟩ ∧ ∀ i, i < xs.length → w.cell? ⟨g, i, none⟩ = some (.int .i64 ((xs[i]?.getD 0 : Nat) : Int)))

theorem LB.below {w w' : World} {v : Value} {xs : List Nat} (h : LB w v xs) (hb : Below w.heap.size w w') : LB w' v xs := by
  obtain ⟨a, c, rfl, h1, h2, h3⟩ := h
  refine ⟨a, c, rfl, h1, h2, ?_⟩
  rcases h3 with h3 | ⟨g, rfl, h3⟩
  · exact .inl h3
  · refine .inr ⟨g, rfl, fun i hi => ?_⟩
    have := h3 i hi
    exact (hb.cell (p := ⟨g, i, none⟩) (World.block_lt_of_cell? w _ this)).trans this

theorem below_drewN {B : Nat} {w W : World} (h : Below B w W) (n : Nat) : Below B w (W.drewN n) := ⟨h.os, h.tape, h.output, h.size, h.block⟩
theorem LB.drewN {w : World} {v : Value} {xs : List Nat} (h : LB w v xs) (n : Nat) : LB (w.drewN n) v xs := h.below (below_drewN (Below.refl _ _) n)

/-- Only the blocks in S have turned, and new ones have come. -/
structure Kp (S : Nat → Prop) (w w' : World) : Prop where
  os : w'.os = w.os
  tape : w'.tape = w.tape
  output : w'.output = w.output
  size : w.heap.size ≤ w'.heap.size
  block : ∀ k, k < w.heap.size → ¬ S k → w'.heap[k]? = w.heap[k]?
theorem Kp.refl (S : Nat → Prop) (w : World) : Kp S w w := ⟨rfl, rfl, rfl, Nat.le_refl _, fun _ _ _ => rfl⟩
theorem Kp.trans {S : Nat → Prop} {a b c : World} (h : Kp S a b) (k : Kp S b c) : Kp S a c :=
  ⟨k.os.trans h.os, k.tape.trans h.tape, k.output.trans h.output, Nat.le_trans h.size k.size, fun i hi hs => (k.block i (Nat.lt_of_lt_of_le hi h.size) hs).trans (h.block i hi hs)⟩
theorem Kp.setCell {S : Nat → Prop} {a w : World} (h : Kp S a w) {p : Addr} (hp : S p.block) (u : Value) : Kp S a (w.setCell p u) :=
  h.trans ⟨rfl, rfl, rfl, by simp [World.setCell], fun k _ hs => Below.heap_setCell _ _ _ _ (by rintro rfl; exact hs hp)⟩
theorem Kp.drewN {S : Nat → Prop} {a w : World} (h : Kp S a w) (n : Nat) : Kp S a (w.drewN n) := ⟨h.os, h.tape, h.output, h.size, h.block⟩
theorem Kp.drew {S : Nat → Prop} {a w : World} (h : Kp S a w) : Kp S a w.drew := ⟨h.os, h.tape, h.output, h.size, h.block⟩
theorem Kp.alloc {S : Nat → Prop} {a w : World} (h : Kp S a w) (o : Obj) : Kp S a (w.alloc o) :=
  h.trans ⟨rfl, rfl, rfl, by simp, fun k hk _ => Below.heap_alloc _ _ _ hk⟩
theorem Kp.below {S : Nat → Prop} {a w : World} {B : Nat} (h : Kp S a w) (hS : ∀ k, S k → B ≤ k) (hB : B ≤ a.heap.size) : Below B a w :=
  ⟨h.os, h.tape, h.output, h.size, fun k hk => h.block k (by omega) (fun hs => by have := hS k hs; omega)⟩
theorem Kp.of_below {S : Nat → Prop} {a w : World} (h : Below a.heap.size a w) : Kp S a w :=
  ⟨h.os, h.tape, h.output, h.size, fun k hk _ => h.block k hk⟩
theorem row_setCell {w : World} {b i : Nat} {cur : Array Value} {u : Value} {t : TypeId} (h : w.heap[b]? = some (.cells cur t (0, 0))) :
    (w.setCell ⟨b, i, none⟩ u).heap[b]? = some (.cells (cur.setIfInBounds i u) t (0, 0)) := by
  have hlt := lt_of_block h
  have h' : w.heap[b] = .cells cur t (0, 0) := by simpa [Array.getElem?_eq_getElem hlt] using h
  show (w.heap.modify b _)[b]? = _
  rw [Array.getElem?_eq_getElem (by simpa using hlt), Array.getElem_modify_self, h']
  rfl

theorem below_trans {w W W' : World} (h : Below w.heap.size w W) (k : Below W.heap.size W W') : Below w.heap.size w W' := h.trans (k.mono h.size)

/-- The slice lies in a block from B on. -/
def Fresh (B : Nat) (v : Value) : Prop := ∀ k, v.ownBlock = some k → B ≤ k

theorem LB.setCell {w : World} {v : Value} {xs : List Nat} (h : LB w v xs) {B : Nat} (hf : Fresh B v) {p : Addr} (hp : p.block < B) (u : Value) : LB (w.setCell p u) v xs := by
  obtain ⟨a, c, rfl, h1, h2, h3⟩ := h
  refine ⟨a, c, rfl, h1, h2, ?_⟩
  rcases h3 with h3 | ⟨g, rfl, h3⟩
  · exact .inl h3
  · refine .inr ⟨g, rfl, fun i hi => ?_⟩
    have hg : B ≤ g := hf g rfl
    rw [World.cell?_of_block (w := w) (Below.heap_setCell w p u g (by omega))]
    exact h3 i hi

theorem ret_int {k : IntKind} {a b : Int} (h : a = b) : Ending.returned (.int k a) = .returned (.int k b) := by rw [h]

set_option maxRecDepth 100000 in
theorem limb_any (v : Value) (xs : List Nat) (i : Nat) (w : World) (h : LB w v xs) (_hi : i ≤ 1000000) (_hl : xs.length ≤ 1000000) :
    Calls Tryz.prog 89 #[v, .int .i64 i] w fun e w' => e = .returned (.int .i64 (Nt.at0 xs i)) ∧ w = w' := by
  obtain ⟨a, c, rfl, h1, h2, h3⟩ := h
  by_cases hlt : i < xs.length
  · rcases h3 with ⟨_, rfl, _⟩ | ⟨g, rfl, h3⟩
    · simp at hlt
    have hc := h3 i hlt
    clear h3 h2
    go_enter Tryz.func89, Tryz.ntmps89
    go_wp2
    go_ret
    exact ⟨ret_int (by simp [Nt.at0, List.getD_eq_getElem?_getD, List.getElem?_eq_getElem hlt]), rfl⟩
  · clear h3
    go_enter Tryz.func89, Tryz.ntmps89
    go_wp2
    go_ret
    exact ⟨ret_int (by simp [Nt.at0, List.getD_eq_getElem?_getD, List.getElem?_eq_none (Nat.le_of_not_lt hlt)]), rfl⟩

theorem LB.take {w : World} {a : Option Addr} {c n : Nat} {xs : List Nat} (h1 : xs.length ≤ c) (h2 : c ≤ maxLen)
    (h3 : (a = none ∧ xs = [] ∧ c = 0) ∨ ∃ g, a = some ⟨g, 0, none⟩ ∧ ∀ i, i < xs.length → w.cell? ⟨g, i, none⟩ = some (.int .i64 ((xs[i]?.getD 0 : Nat) : Int)))
    (hn : n ≤ xs.length) : LB w (.slice a n c) (xs.take n) := by
  have hl : (xs.take n).length = n := by rw [List.length_take]; omega
  refine ⟨a, c, by rw [hl], by omega, h2, ?_⟩
  rcases h3 with ⟨rfl, rfl, rfl⟩ | ⟨g, rfl, h3⟩
  · exact .inl ⟨rfl, by simp, rfl⟩
  · refine .inr ⟨g, rfl, fun i hi => ?_⟩
    rw [hl] at hi
    rw [h3 i (by omega), List.getElem?_take, if_pos hi]

set_option maxRecDepth 100000 in
theorem trimmed_any (v : Value) (xs : List Nat) (w : World) (h : LB w v xs) (hx : ∀ d ∈ xs, d < 1000000000) (hl : xs.length ≤ 1000000) :
    Calls Tryz.prog 86 #[v] w fun e w' => ∃ v', e = .returned v' ∧ LB w v' (Nt.limbs (Nt.lval xs)) ∧ v'.ownBlock = v.ownBlock ∧ w = w' := by
  obtain ⟨a, c, rfl, h1, h2, h3⟩ := h
  unfold maxLen at h2
  go_enter Tryz.func86, Tryz.ntmps86
  go_wp2
  go_loop [3] (fun n => ∃ k : Nat, k ≤ xs.length ∧ n = .int .i64 k ∧ ∀ i, k ≤ i → xs[i]?.getD 0 = 0) (fun n => (intOf n).toNat)
  case atStart => exact ⟨xs.length, Nat.le_refl _, rfl, fun i hi => by rw [List.getElem?_eq_none hi]; rfl⟩
  case round =>
    obtain ⟨k, hk, rfl, hz⟩ := hrel
    have fin : (k = 0 ∨ xs[k - 1]?.getD 0 ≠ 0) → LB w (.slice a k c) (Nt.limbs (Nt.lval xs)) := fun hl => by
      rw [← Nt.take_limbs xs k hx hk (fun i hi => by rw [List.getD_eq_getElem?_getD]; exact hz i hi) (by rw [List.getD_eq_getElem?_getD]; exact hl)]
      exact LB.take h1 (by unfold maxLen; omega) h3 hk
    by_cases h0 : k = 0
    · have FIN := Lib.hid (fin (.inl h0))
      clear fin
      subst h0
      go_wp2
      go_ret
      exact ⟨_, rfl, FIN.out, by cases a <;> rfl, rfl⟩
    · obtain ⟨j, rfl⟩ : ∃ j, k = j + 1 := ⟨k - 1, by omega⟩
      rcases h3 with ⟨_, rfl, _⟩ | ⟨g, rfl, h3⟩
      · simp at hk
      have hc := h3 j (by omega)
      by_cases hd : xs[j]?.getD 0 = 0
      · have hb : ((((xs[j]?.getD 0 : Nat) : Int)) == 0) = true := by rw [hd]; rfl
        have HD := Lib.hid hd
        clear hd fin
        go_wp2
        go_round
        case rel => exact ⟨j, by omega, rfl, fun i hi => by
          by_cases e : i = j
          · rw [e]; exact HD.out
          · exact hz i (by omega)⟩
        case measure => simp [intOf]
      · have hb : ((((xs[j]?.getD 0 : Nat) : Int)) == 0) = false := by simp; omega
        have FIN := Lib.hid (fin (.inr hd))
        clear fin hd
        go_wp2
        go_ret
        exact ⟨_, rfl, FIN.out, rfl, rfl⟩
end Go.Proofs.YtcphclpekllcoaaGreatDoor
