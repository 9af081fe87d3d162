/- Walks: package debt: within, class.valid, Owe. -/
import Derived.Test.YtcphclpekllcoaaGreatDoorWr
import Derived.Test.YtcphclpekllcoaaGreatDoorMA
namespace Go.Proofs.YtcphclpekllcoaaGreatDoor
open Go.RowKit

def iv (n : Int) : Value := .int .i64 n

theorem within_any (n lo hi : Int) (w : World) : Calls Tryz.prog 27 #[.int .i64 n, .int .i64 lo, .int .i64 hi] w fun e w' => e = .returned (.bool (Nt.win n lo hi)) ∧ w = w' := by
  unfold Nt.win
  by_cases h1 : lo ≤ n
  · rw [decide_eq_true h1, Bool.true_and]
    go_enter Tryz.func27, Tryz.ntmps27
    go_wp2
    go_ret
    exact ⟨rfl, rfl⟩
  · rw [decide_eq_false h1, Bool.false_and]
    go_enter Tryz.func27, Tryz.ntmps27
    go_wp2
    go_ret
    exact ⟨rfl, rfl⟩

theorem below_alloc (w : World) (o : Obj) : Below w.heap.size w (w.alloc o) := (Below.refl _ _).alloc (Nat.le_refl _) o

set_option maxRecDepth 100000 in
theorem class_any (k t f : Int) (w : World) : Calls Tryz.prog 28 #[.agg #[.int .i64 k, .int .i64 t, .int .i64 f]] w fun e w' => e = .returned (.bool (Nt.clsOk k t f)) ∧ Below w.heap.size w w' := by
  have HW := Lib.hid fun W => within_any t 0 5 W
  have HW2 := Lib.hid fun W => within_any f 0 7 W
  unfold Nt.clsOk
  cases ht : Nt.win t 0 5 with
  | false =>
    rw [ht] at HW
    rw [Bool.false_and]
    clear ht
    go_enter Tryz.func28, Tryz.ntmps28
    go_wp2_with fail
    refine (HW.out _).mono ?_
    rintro e W1 ⟨rfl, rfl⟩
    go_wp2
    go_ret
    exact ⟨rfl, below_alloc _ _⟩
  | true =>
    rw [ht] at HW
    rw [Bool.true_and]
    clear ht
    by_cases h1 : k = 1
    · subst h1
      go_enter Tryz.func28, Tryz.ntmps28
      go_wp2_with fail
      refine (HW.out _).mono ?_
      rintro e W1 ⟨rfl, rfl⟩
      go_wp2
      go_ret
      exact ⟨rfl, below_alloc _ _⟩
    · rw [if_neg h1]
      have g1 : (k == 1) = false := by simpa using h1
      by_cases h2 : k = 2
      · subst h2
        clear h1
        go_enter Tryz.func28, Tryz.ntmps28
        go_wp2_with fail
        refine (HW.out _).mono ?_
        rintro e W1 ⟨rfl, rfl⟩
        go_wp2_with fail
        refine (HW2.out _).mono ?_
        rintro e W1 ⟨rfl, rfl⟩
        go_wp2
        go_ret
        exact ⟨rfl, below_alloc _ _⟩
      · have g2 : (k == 2) = false := by simpa using h2
        by_cases h3 : k = 3
        · subst h3
          clear h1 h2
          go_enter Tryz.func28, Tryz.ntmps28
          go_wp2_with fail
          refine (HW.out _).mono ?_
          rintro e W1 ⟨rfl, rfl⟩
          go_wp2_with fail
          refine (HW2.out _).mono ?_
          rintro e W1 ⟨rfl, rfl⟩
          go_wp2
          go_ret
          exact ⟨rfl, below_alloc _ _⟩
        · have g3 : (k == 3) = false := by simpa using h3
          rw [if_neg (fun h => h.elim h2 h3)]
          clear h1 h2 h3
          go_enter Tryz.func28, Tryz.ntmps28
          go_wp2_with fail
          refine (HW.out _).mono ?_
          rintro e W1 ⟨rfl, rfl⟩
          go_wp2
          go_ret
          exact ⟨rfl, below_alloc _ _⟩

/-- A slice of structs of k cells each. -/
def SC (k : Nat) (w : World) (v : Value) (xs : List (List Value)) : Prop :=
  ∃ a c, v = .slice a xs.length c ∧ xs.length ≤ c ∧ c ≤ maxLen ∧ ((a = none ∧ xs = [] ∧ c = 0) ∨ ∃ p : Addr, a = some p ∧ ∀ i j x y, xs[i]? = some x → x[j]? = some y → w.cell? (p.add (i * k + j)) = some y)

def dcells (d : Nt.Deb) : List Value := [.int .i64 d.k, .int .i64 d.t, .int .i64 d.f, .int .i64 d.fr, .int .i64 d.un, .int .i64 d.pr]
def pcells (p : Nt.Pay) : List Value := [.int .i64 p.k, .int .i64 p.t, .int .i64 p.f, .int .i64 p.at_]
def DL (w : World) (v : Value) (ds : List Nt.Deb) : Prop := SC 6 w v (ds.map dcells)
def PL (w : World) (v : Value) (ps : List Nt.Pay) : Prop := SC 4 w v (ps.map pcells)

theorem SC.below {k : Nat} {w w' : World} {v : Value} {xs : List (List Value)} (h : SC k w v xs) (hb : Below w.heap.size w w') : SC k w' v xs := by
  obtain ⟨a, c, h1, h2, h3, h4⟩ := h
  refine ⟨a, c, h1, h2, h3, ?_⟩
  rcases h4 with h4 | ⟨p, hp, h4⟩
  · exact .inl h4
  · exact .inr ⟨p, hp, fun i j x y hx hy => below_cell hb (h4 i j x y hx hy)⟩

theorem cell_add {w : World} {p : Addr} {n j : Nat} {v : Value} (h : w.cell? (p.add (n + (j + 1))) = some v) : w.cell? ⟨(p.add n).block, (p.add n).off + (j + 1), none⟩ = some v := by
  have e : (p.add n).add (j + 1) = p.add (n + (j + 1)) := by
    unfold Addr.add
    by_cases h0 : n = 0
    · subst h0; simp
    · simp [h0, Nat.add_assoc]
  rw [← e] at h
  exact h
/-- The facts of a debt in its place. -/
theorem DL.at {w : World} {a : Option Addr} {c : Nat} {n : Nat} {ds : List Nt.Deb} (h : DL w (.slice a n c) ds) {i : Nat} {d : Nt.Deb} (hd : ds[i]? = some d) :
    ∃ p : Addr, a = some p ∧ n = ds.length ∧ w.cell? (p.add (i * 6)) = some (.int .i64 d.k) ∧ w.cell? ⟨(p.add (i * 6)).block, (p.add (i * 6)).off + 1, none⟩ = some (.int .i64 d.t) ∧ w.cell? ⟨(p.add (i * 6)).block, (p.add (i * 6)).off + 2, none⟩ = some (.int .i64 d.f) ∧
      w.cell? ⟨(p.add (i * 6)).block, (p.add (i * 6)).off + 3, none⟩ = some (.int .i64 d.fr) ∧ w.cell? ⟨(p.add (i * 6)).block, (p.add (i * 6)).off + 4, none⟩ = some (.int .i64 d.un) ∧ w.cell? ⟨(p.add (i * 6)).block, (p.add (i * 6)).off + 5, none⟩ = some (.int .i64 d.pr) := by
  obtain ⟨a', c', e, h2, h3, h4⟩ := h
  simp only [Value.slice.injEq, List.length_map] at e
  obtain ⟨rfl, rfl, rfl⟩ := e
  rcases h4 with ⟨_, h4, _⟩ | ⟨p, hp, h4⟩
  · rw [List.map_eq_nil_iff] at h4; subst h4; simp at hd
  · have hx : (ds.map dcells)[i]? = some (dcells d) := by rw [List.getElem?_map, hd]; rfl
    exact ⟨p, hp, rfl, h4 i 0 _ _ hx rfl, cell_add (h4 i 1 _ _ hx rfl), cell_add (h4 i 2 _ _ hx rfl), cell_add (h4 i 3 _ _ hx rfl), cell_add (h4 i 4 _ _ hx rfl), cell_add (h4 i 5 _ _ hx rfl)⟩
theorem PL.at {w : World} {a : Option Addr} {c : Nat} {n : Nat} {ds : List Nt.Pay} (h : PL w (.slice a n c) ds) {i : Nat} {d : Nt.Pay} (hd : ds[i]? = some d) :
    ∃ p : Addr, a = some p ∧ n = ds.length ∧ w.cell? (p.add (i * 4)) = some (.int .i64 d.k) ∧ w.cell? ⟨(p.add (i * 4)).block, (p.add (i * 4)).off + 1, none⟩ = some (.int .i64 d.t) ∧ w.cell? ⟨(p.add (i * 4)).block, (p.add (i * 4)).off + 2, none⟩ = some (.int .i64 d.f) ∧
      w.cell? ⟨(p.add (i * 4)).block, (p.add (i * 4)).off + 3, none⟩ = some (.int .i64 d.at_) := by
  obtain ⟨a', c', e, h2, h3, h4⟩ := h
  simp only [Value.slice.injEq, List.length_map] at e
  obtain ⟨rfl, rfl, rfl⟩ := e
  rcases h4 with ⟨_, h4, _⟩ | ⟨p, hp, h4⟩
  · rw [List.map_eq_nil_iff] at h4; subst h4; simp at hd
  · have hx : (ds.map pcells)[i]? = some (pcells d) := by rw [List.getElem?_map, hd]; rfl
    exact ⟨p, hp, rfl, h4 i 0 _ _ hx rfl, cell_add (h4 i 1 _ _ hx rfl), cell_add (h4 i 2 _ _ hx rfl), cell_add (h4 i 3 _ _ hx rfl)⟩
end Go.Proofs.YtcphclpekllcoaaGreatDoor
