/- Plain lemmas: the costs add up to the number of payments; no Go and no memory. -/
import Derived.Test.YtcphclpekllcoaaGreatDoorSplit
namespace Go.Proofs.YtcphclpekllcoaaGreatDoor.Nt

theorem rsum_nonneg {l : List Rat} (h : ∀ x ∈ l, 0 ≤ x) : 0 ≤ rsum l := by
  induction l with
  | nil => exact Rat.le_refl
  | cons x l ih =>
    rw [rsum_cons]
    have h1 := h x (by simp)
    have h2 := ih fun y hy => h y (List.mem_cons_of_mem _ hy)
    exact Rat.add_nonneg h1 h2
theorem rsum_le {l : List Rat} (h : ∀ x ∈ l, 0 ≤ x) {x : Rat} (hx : x ∈ l) : x ≤ rsum l := by
  induction l with
  | nil => simp at hx
  | cons y l ih =>
    rw [rsum_cons]
    have h1 := h y (by simp)
    have h2 : ∀ z ∈ l, 0 ≤ z := fun z hz => h z (List.mem_cons_of_mem _ hz)
    rcases List.mem_cons.1 hx with rfl | hx
    · have h3 := rsum_nonneg h2
      have := Rat.add_le_add_left (c := x).2 h3
      rwa [Rat.add_zero] at this
    · have h3 := ih h2 hx
      have := Rat.add_le_add_right (c := rsum l).2 h1
      rw [Rat.zero_add] at this
      exact Rat.le_trans h3 this
theorem rsum_add {α : Type} (f g : α → Rat) (l : List α) : rsum (l.map fun x => f x + g x) = rsum (l.map f) + rsum (l.map g) := by
  induction l with
  | nil => simp [rsum_nil, Rat.add_zero]
  | cons x l ih =>
    simp only [List.map_cons, rsum_cons, ih]
    rw [Rat.add_assoc, Rat.add_assoc]
    congr 1
    rw [← Rat.add_assoc, ← Rat.add_assoc, Rat.add_comm (g x)]
/-- Sums over two lists may change places. -/
theorem rsum_swap {α β : Type} (g : α → β → Rat) (a : List α) (b : List β) : rsum (a.map fun x => rsum (b.map fun y => g x y)) = rsum (b.map fun y => rsum (a.map fun x => g x y)) := by
  induction a with
  | nil => simp only [List.map_nil, rsum_nil]; rw [rsum_zero]; intro x hx; obtain ⟨_, _, rfl⟩ := List.mem_map.1 hx; rfl
  | cons x a ih => simp only [List.map_cons, rsum_cons, ih]; rw [← rsum_add]
theorem mkRat_next (k : Nat) {L : Nat} (hL : L ≠ 0) : mkRat 1 L + mkRat (k : Int) L = mkRat ((k + 1 : Nat) : Int) L := by
  rw [Rat.mkRat_add_mkRat _ _ hL hL]
  have e : ((1 : Int) * (L : Int) + (k : Int) * (L : Int)) = ((k + 1 : Nat) : Int) * (L : Int) := by rw [← Int.add_mul]; congr 1; omega
  rw [e]
  exact Rat.mkRat_mul_right hL
theorem rsum_same {L : Nat} (hL : L ≠ 0) (k : Nat) : rsum (List.replicate k (mkRat 1 L)) = mkRat (k : Int) L := by
  induction k with
  | zero => simp [rsum_nil]
  | succ k ih => rw [List.replicate_succ, rsum_cons, ih, mkRat_next k hL]
theorem mkRat_one {L : Nat} (hL : L ≠ 0) : mkRat (L : Int) L = 1 := by
  have := Rat.mkRat_mul_right (n := 1) (d := 1) (a := L) hL
  rw [Int.one_mul, Nat.one_mul] at this
  rw [this]; rfl
/-- The shares of one payment add up to 1. -/
theorem part_sum {l : List Int} {n : Nat} (hn : l.Nodup) (hne : l ≠ []) (hp : ∀ p ∈ l, 0 ≤ p ∧ p < n) : rsum ((List.range n).map fun (p : Nat) => part l (p : Int)) = 1 := by
  have hL : l.length ≠ 0 := fun h => hne (List.length_eq_zero_iff.1 h)
  have hK : (l.map Int.toNat).Nodup := nodup_map_on (fun a ha b hb e => by
    have := hp a ha
    have := hp b hb
    omega) hn
  rw [← rsum_range (K := l.map Int.toNat) (fun (p : Nat) => part l (p : Int)) hK (fun k hk => by
    obtain ⟨z, hz, rfl⟩ := List.mem_map.1 hk
    have := hp z hz
    omega) (fun k _ hk => by
    unfold part
    rw [if_neg]
    intro h
    exact hk (List.mem_map.2 ⟨k, h, by simp⟩))]
  rw [List.map_map]
  have e : l.map ((fun (p : Nat) => part l (p : Int)) ∘ Int.toNat) = List.replicate l.length (mkRat 1 l.length) := by
    rw [List.eq_replicate_iff]
    refine ⟨by simp, fun x hx => ?_⟩
    obtain ⟨z, hz, rfl⟩ := List.mem_map.1 hx
    have h0 := hp z hz
    show part l ((z.toNat : Nat) : Int) = _
    rw [Int.toNat_of_nonneg h0.1]
    unfold part
    rw [if_pos hz]
  rw [e, rsum_same hL, mkRat_one hL]

/-- The payments that settle a debt. -/
def usedK (ds : List Deb) (ps : List Pay) (t : Int) (k : Nat) : Bool := ds.any fun d => decide (settle1 ps t d = (k : Int))
def whole (ds : List Deb) (ps : List Pay) (t : Int) : Nat := ((List.range ps.length).filter fun k => usedK ds ps t k).length
theorem usedK_progs (ds : List Deb) (ps : List Pay) (t : Int) (k : Nat) : usedK ds ps t k = true ↔ progs ds ps t (k : Int) ≠ [] := by
  unfold usedK
  rw [List.any_eq_true]
  constructor
  · rintro ⟨d, h1, h2⟩ h3
    have := (mem_progs ds ps t k d.pr).2 ⟨d, h1, by simpa using h2, rfl⟩
    rw [h3] at this
    simp at this
  · intro h
    cases hl : progs ds ps t (k : Int) with
    | nil => exact absurd hl h
    | cons p l =>
      obtain ⟨d, h1, h2, _⟩ := (mem_progs ds ps t k p).1 (by rw [hl]; simp)
      exact ⟨d, h1, by simpa using h2⟩
theorem rsum_ones (l : List Nat) (P : Nat → Bool) : rsum (l.map fun k => if P k = true then (1 : Rat) else 0) = mkRat ((l.filter P).length : Nat) 1 := by
  induction l with
  | nil => simp [rsum_nil]
  | cons x l ih =>
    rw [List.map_cons, rsum_cons, ih]
    cases hx : P x with
    | true =>
      rw [List.filter_cons_of_pos hx, List.length_cons, if_pos rfl]
      have := mkRat_next (l.filter P).length (L := 1) (by decide)
      rw [← this]; rfl
    | false => rw [List.filter_cons_of_neg (by rw [hx]; decide), if_neg (by decide), Rat.zero_add]
/-- The costs add up to the number of payments that settle a debt. -/
theorem split_total {ds : List Deb} {ps : List Pay} {t : Int} {n : Nat} (hd : ∀ d ∈ ds, 0 ≤ d.pr ∧ d.pr < n) : rsum ((List.range n).map fun (p : Nat) => splitR ds ps t (p : Int)) = mkRat (whole ds ps t : Nat) 1 := by
  unfold splitR whole
  rw [rsum_swap (fun (p k : Nat) => part (progs ds ps t (k : Int)) (p : Int)), ← rsum_ones]
  congr 1
  refine List.map_congr_left fun k _ => ?_
  by_cases h : usedK ds ps t k = true
  · rw [if_pos h]
    refine part_sum (nodup_ddp _) ((usedK_progs ds ps t k).1 h) fun p hp => ?_
    obtain ⟨d, h1, _, h3⟩ := (mem_progs ds ps t k p).1 hp
    have := hd d h1
    omega
  · rw [if_neg h, rsum_zero]
    intro x hx
    obtain ⟨p, _, rfl⟩ := List.mem_map.1 hx
    have : progs ds ps t (k : Int) = [] := Classical.not_not.1 fun hne => h ((usedK_progs ds ps t k).2 hne)
    rw [this]; rfl
theorem part_nonneg (l : List Int) (p : Int) : 0 ≤ part l p := by
  unfold part
  split
  · refine Rat.num_nonneg.1 ?_
    rw [Rat.num_mkRat]
    split
    · exact Int.le_refl _
    · exact Int.ediv_nonneg (by decide) (Int.natCast_nonneg _)
  · exact Rat.le_refl
theorem part_ne {l : List Int} {p : Int} (h : p ∈ l) : part l p ≠ 0 := by
  unfold part
  rw [if_pos h]
  intro e
  have hL : l.length ≠ 0 := fun e2 => by rw [List.length_eq_zero_iff] at e2; rw [e2] at h; simp at h
  have := (Rat.mkRat_eq_zero hL).1 e
  omega
theorem splitR_nonneg (ds : List Deb) (ps : List Pay) (t p : Int) : 0 ≤ splitR ds ps t p := rsum_nonneg fun x hx => by
  obtain ⟨k, _, rfl⟩ := List.mem_map.1 hx
  exact part_nonneg _ _
/-- A programme bears something exactly if one of its debts is settled. -/
theorem splitR_zero (ds : List Deb) (ps : List Pay) (t p : Int) : splitR ds ps t p = 0 ↔ ∀ d ∈ ds, d.pr = p → settle1 ps t d < 0 := by
  constructor
  · intro h d hd hp
    rcases settle1_form ps t d with h1 | ⟨j, hj, h1⟩
    · omega
    · exfalso
      have hm : p ∈ progs ds ps t (j : Int) := (mem_progs ds ps t j p).2 ⟨d, hd, h1, hp⟩
      have hle : part (progs ds ps t (j : Int)) p ≤ splitR ds ps t p := rsum_le (fun x hx => by
        obtain ⟨k, _, rfl⟩ := List.mem_map.1 hx
        exact part_nonneg _ _) (List.mem_map.2 ⟨j, List.mem_range.2 hj, rfl⟩)
      rw [h] at hle
      exact part_ne hm (Rat.le_antisymm hle (part_nonneg _ _))
  · intro h
    refine rsum_zero fun x hx => ?_
    obtain ⟨k, _, rfl⟩ := List.mem_map.1 hx
    unfold part
    rw [if_neg]
    intro hm
    obtain ⟨d, h1, h2, h3⟩ := (mem_progs ds ps t k p).1 hm
    have := h d h1 h3
    omega
theorem splitR_le {ds : List Deb} {ps : List Pay} {t : Int} {n : Nat} (hd : ∀ d ∈ ds, 0 ≤ d.pr ∧ d.pr < n) {p : Nat} (hp : p < n) : splitR ds ps t (p : Int) ≤ mkRat (whole ds ps t : Nat) 1 := by
  rw [← split_total hd]
  exact rsum_le (fun x hx => by
    obtain ⟨q, _, rfl⟩ := List.mem_map.1 hx
    exact splitR_nonneg _ _ _ _) (List.mem_map.2 ⟨p, List.mem_range.2 hp, rfl⟩)
theorem ng_nonneg {q : Rat} (h : 0 ≤ q) : ng q = false := by
  unfold ng
  exact decide_eq_false (Int.not_lt.2 (Rat.num_nonneg.2 h))
theorem rcmp_le {a b : Rat} (h : a ≤ b) : ¬ 0 < rcmp a b := by
  unfold rcmp
  rw [if_neg (show ¬ b < a from Rat.not_lt.2 h)]
  split <;> decide
/-- Whoever bears something shares a payment with at most 63 others. -/
theorem splitR_over {ds : List Deb} {ps : List Pay} {t : Int} {n : Nat} (hn : n ≤ 64) (hd : ∀ d ∈ ds, 0 ≤ d.pr ∧ d.pr < n) (p : Int) : Over (splitR ds ps t p) ps.length := by
  unfold splitR
  have : ∀ (l : List Nat), Over (rsum (l.map fun (k : Nat) => part (progs ds ps t (k : Int)) p)) l.length := by
    intro l
    induction l with
    | nil => exact Over.zero
    | cons k l ih =>
      rw [List.map_cons, rsum_cons, List.length_cons, Nat.add_comm]
      refine Over.add ?_ ih
      by_cases hne : progs ds ps t (k : Int) = []
      · rw [hne]; unfold part; rw [if_neg (by simp)]; exact Over.zero.mono (by omega)
      · have hb : ∀ q ∈ progs ds ps t (k : Int), 0 ≤ q ∧ q < n := fun q hq => by
          obtain ⟨d, h1, _, h3⟩ := (mem_progs ds ps t k q).1 hq
          have := hd d h1
          omega
        have hK : ((progs ds ps t (k : Int)).map Int.toNat).Nodup := nodup_map_on (fun a ha b hb' e => by
          have := hb a ha
          have := hb b hb'
          omega) (nodup_ddp _)
        have hs : (progs ds ps t (k : Int)).map Int.toNat ⊆ List.range n := fun j hj => by
          obtain ⟨z, h1, rfl⟩ := List.mem_map.1 hj
          have := hb z h1
          rw [List.mem_range]; omega
        have hl := hK.length_le_of_subset hs
        rw [List.length_map, List.length_range] at hl
        exact part_over (List.length_pos_iff.2 hne) (by omega) p
  have h := this (List.range ps.length)
  rwa [List.length_range] at h
/-- The sum of the first costs. -/
def partial_ (ds : List Deb) (ps : List Pay) (t : Int) (k : Nat) : Rat := rsum ((List.range k).map fun (p : Nat) => splitR ds ps t (p : Int))
theorem partial_zero (ds : List Deb) (ps : List Pay) (t : Int) : partial_ ds ps t 0 = 0 := rfl
theorem partial_succ (ds : List Deb) (ps : List Pay) (t : Int) (k : Nat) : partial_ ds ps t (k + 1) = partial_ ds ps t k + splitR ds ps t (k : Int) := by
  unfold partial_
  rw [List.range_succ, List.map_append, List.map_cons, List.map_nil, rsum_snoc]
theorem partial_over {ds : List Deb} {ps : List Pay} {t : Int} {n : Nat} (hn : n ≤ 64) (hd : ∀ d ∈ ds, 0 ≤ d.pr ∧ d.pr < n) (k : Nat) : Over (partial_ ds ps t k) (k * ps.length) := by
  induction k with
  | zero => rw [partial_zero, Nat.zero_mul]; exact Over.zero
  | succ k ih => rw [partial_succ, Nat.succ_mul]; exact ih.add (splitR_over hn hd _)
/-- The payments among the first i debts' ones. -/
def usedI (ds : List Deb) (ps : List Pay) (t : Int) (i k : Nat) : Bool := usedK (ds.take i) ps t k
def countI (ds : List Deb) (ps : List Pay) (t : Int) (i : Nat) : Nat := ((List.range ps.length).filter fun k => usedI ds ps t i k).length
theorem usedI_step {ds : List Deb} {ps : List Pay} {t : Int} {i : Nat} {d : Deb} (hd : ds[i]? = some d) (k : Nat) : usedI ds ps t (i + 1) k = (usedI ds ps t i k || decide (settle1 ps t d = (k : Int))) := by
  unfold usedI usedK
  rw [show ds.take (i + 1) = ds.take i ++ [d] by rw [List.take_add_one, hd]; rfl, List.any_append]
  simp
theorem countI_same {ds : List Deb} {ps : List Pay} {t : Int} {i : Nat} {d : Deb} (hd : ds[i]? = some d) (h : ∀ k : Nat, settle1 ps t d = (k : Int) → usedI ds ps t i k = true) : countI ds ps t (i + 1) = countI ds ps t i := by
  unfold countI
  congr 1
  refine List.filter_congr fun k _ => ?_
  rw [usedI_step hd k]
  by_cases e : settle1 ps t d = (k : Int)
  · rw [h k e]; rfl
  · rw [decide_eq_false e, Bool.or_false]
theorem filter_one {P Q : Nat → Bool} {n j : Nat} (hj : j < n) (hP : P j = false) (hQ : ∀ k, Q k = (P k || decide (j = k))) : ((List.range n).filter Q).length = ((List.range n).filter P).length + 1 := by
  induction n with
  | zero => omega
  | succ n ih =>
    rw [List.range_succ, List.filter_append, List.filter_append, List.length_append, List.length_append]
    by_cases e : j = n
    · subst e
      have h1 : (List.range j).filter Q = (List.range j).filter P := List.filter_congr fun k hk => by
        have := List.mem_range.1 hk
        rw [hQ k, decide_eq_false (by omega), Bool.or_false]
      rw [h1, List.filter_cons_of_pos (by rw [hQ j]; simp), List.filter_cons_of_neg (by rw [hP]; decide)]
      simp
    · have := ih (by omega)
      have h1 : [n].filter Q = [n].filter P := List.filter_congr fun k hk => by
        rw [List.mem_singleton] at hk
        subst hk
        rw [hQ k, decide_eq_false e, Bool.or_false]
      rw [h1, this]; omega
theorem countI_new {ds : List Deb} {ps : List Pay} {t : Int} {i j : Nat} {d : Deb} (hd : ds[i]? = some d) (hj : j < ps.length) (hs : settle1 ps t d = (j : Int)) (h : usedI ds ps t i j = false) : countI ds ps t (i + 1) = countI ds ps t i + 1 := by
  unfold countI
  refine filter_one hj h fun k => ?_
  rw [usedI_step hd k, hs]
  congr 1
  exact decide_eq_decide.2 (by omega)
theorem countI_end (ds : List Deb) (ps : List Pay) (t : Int) : countI ds ps t ds.length = whole ds ps t := by
  unfold countI usedI whole; rw [List.take_length]
theorem countI_le (ds : List Deb) (ps : List Pay) (t : Int) (i : Nat) : countI ds ps t i ≤ ps.length := by
  unfold countI
  have := List.length_filter_le (fun k => usedI ds ps t i k) (List.range ps.length)
  rwa [List.length_range] at this
end Go.Proofs.YtcphclpekllcoaaGreatDoor.Nt
