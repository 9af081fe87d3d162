/- Plain lemmas: debts and payments; no Go and no memory. -/
import Derived.Test.YtcphclpekllcoaaGreatDoorRatB
namespace Go.Proofs.YtcphclpekllcoaaGreatDoor.Nt

structure Deb where
  k : Int
  t : Int
  f : Int
  fr : Int
  un : Int
  pr : Int
deriving DecidableEq
structure Pay where
  k : Int
  t : Int
  f : Int
  at_ : Int
deriving DecidableEq

def win (n lo hi : Int) : Bool := decide (lo ≤ n) && decide (n ≤ hi)
def clsOk (k t f : Int) : Bool := win t 0 5 && (if k = 1 then f == -1 else if k = 2 ∨ k = 3 then win f 0 7 else false)
def debOk (d : Deb) : Bool := clsOk d.k d.t d.f && win d.pr 0 63 && decide (-1000 ≤ d.fr) && decide (d.un ≤ 39399) && decide (d.fr ≤ d.un)
def payOk (p : Pay) : Bool := clsOk p.k p.t p.f && win p.at_ 0 38399
def allOk (ds : List Deb) (ps : List Pay) (at_ : Int) : Bool :=
  decide (ds.length ≤ 1000) && decide (ps.length ≤ 1000) && win at_ 0 38399 && ds.all debOk && ps.all payOk

/-- A payment fits a debt up to a moment. -/
def fit (d : Deb) (p : Pay) (at_ : Int) : Bool :=
  decide (d.k = p.k) && decide (d.t = p.t) && decide (d.f = p.f) && win p.at_ d.fr (min d.un at_)

/-- The better of what is found and the payment k. -/
def better (d : Deb) (ps : List Pay) (at_ : Int) (best : Int) (k : Nat) : Int :=
  match ps[k]? with
  | none => best
  | some p => if fit d p at_ = true ∧ (best < 0 ∨ ∀ q, ps[best.toNat]? = some q → p.at_ < q.at_) then (k : Int) else best
/-- The payment that settles a debt: -1 if there is none. -/
def settle1 (ps : List Pay) (at_ : Int) (d : Deb) : Int := (List.range ps.length).foldl (better d ps at_) (-1)
def settle (ds : List Deb) (ps : List Pay) (at_ : Int) : List Int := ds.map (settle1 ps at_)

/-- What was found behind the payments up to n: it fits, and no other one up to n is earlier, or as early with a lesser index. -/
def Best (ps : List Pay) (at_ : Int) (d : Deb) (n : Nat) (b : Int) : Prop :=
  (b = -1 ∧ ∀ k p, k < n → ps[k]? = some p → fit d p at_ = false) ∨
  ∃ i p, b = ((i : Nat) : Int) ∧ i < n ∧ ps[i]? = some p ∧ fit d p at_ = true ∧ ∀ k q, k < n → ps[k]? = some q → fit d q at_ = true → p.at_ ≤ q.at_ ∧ (p.at_ = q.at_ → i ≤ k)

theorem Best.zero (ps : List Pay) (at_ : Int) (d : Deb) : Best ps at_ d 0 (-1) := .inl ⟨rfl, fun k _ h => absurd h (Nat.not_lt_zero k)⟩

theorem Best.step {ps : List Pay} {at_ : Int} {d : Deb} {n : Nat} {b : Int} (h : Best ps at_ d n b) (hn : n < ps.length) : Best ps at_ d (n + 1) (better d ps at_ b n) := by
  have hg : ps[n]? = some ps[n] := List.getElem?_eq_getElem hn
  unfold better
  rw [hg]
  show Best ps at_ d (n + 1) (if _ then _ else _)
  rcases h with ⟨rfl, h⟩ | ⟨i, p, rfl, hi, hp, hf, h⟩
  · by_cases hfit : fit d ps[n] at_ = true
    · rw [if_pos ⟨hfit, .inl (by decide)⟩]
      refine .inr ⟨n, ps[n], rfl, Nat.lt_succ_self n, hg, hfit, fun k q hk hq hfq => ?_⟩
      by_cases e : k = n
      · subst e
        rw [hg] at hq
        obtain rfl := Option.some.inj hq
        exact ⟨Int.le_refl _, fun _ => Nat.le_refl _⟩
      · rw [h k q (by omega) hq] at hfq; cases hfq
    · rw [if_neg (fun hh => hfit hh.1)]
      refine .inl ⟨rfl, fun k q hk hq => ?_⟩
      by_cases e : k = n
      · subst e
        rw [hg] at hq
        obtain rfl := Option.some.inj hq
        simpa using hfit
      · exact h k q (by omega) hq
  · have hneg : ¬ ((i : Nat) : Int) < 0 := by omega
    have htn : ((i : Nat) : Int).toNat = i := rfl
    by_cases hc : fit d ps[n] at_ = true ∧ ps[n].at_ < p.at_
    · rw [if_pos ⟨hc.1, .inr (fun q hq => by rw [htn, hp] at hq; obtain rfl := Option.some.inj hq; exact hc.2)⟩]
      refine .inr ⟨n, ps[n], rfl, Nat.lt_succ_self n, hg, hc.1, fun k q hk hq hfq => ?_⟩
      by_cases e : k = n
      · subst e
        rw [hg] at hq
        obtain rfl := Option.some.inj hq
        exact ⟨Int.le_refl _, fun _ => Nat.le_refl _⟩
      · have := h k q (by omega) hq hfq
        exact ⟨by omega, fun e => by omega⟩
    · rw [if_neg (fun hh => hc ⟨hh.1, hh.2.elim (fun h => absurd h hneg) (fun h => h p (by rw [htn]; exact hp))⟩)]
      refine .inr ⟨i, p, rfl, by omega, hp, hf, fun k q hk hq hfq => ?_⟩
      by_cases e : k = n
      · subst e
        rw [hg] at hq
        obtain rfl := Option.some.inj hq
        have : ¬ ps[k].at_ < p.at_ := fun h => hc ⟨hfq, h⟩
        exact ⟨by omega, fun _ => by omega⟩
      · exact h k q (by omega) hq hfq

theorem settle1_best (ps : List Pay) (at_ : Int) (d : Deb) : Best ps at_ d ps.length (settle1 ps at_ d) := by
  unfold settle1
  have : ∀ n, n ≤ ps.length → Best ps at_ d n ((List.range n).foldl (better d ps at_) (-1)) := by
    intro n
    induction n with
    | zero => intro _; exact Best.zero ps at_ d
    | succ n ih =>
      intro hn
      rw [List.range_succ, List.foldl_append]
      exact (ih (by omega)).step (by omega)
  exact this _ (Nat.le_refl _)

/-- It is the only one. -/
theorem Best.unique {ps : List Pay} {at_ : Int} {d : Deb} {b c : Int} (h : Best ps at_ d ps.length b) (h' : Best ps at_ d ps.length c) : b = c := by
  rcases h with ⟨rfl, h⟩ | ⟨i, p, rfl, hi, hp, hf, h⟩ <;> rcases h' with ⟨rfl, h'⟩ | ⟨j, q, rfl, hj, hq, hf', h'⟩
  · rfl
  · rw [h j q hj hq] at hf'; cases hf'
  · rw [h' i p hi hp] at hf; cases hf
  · have h1 := h j q hj hq hf'
    have h2 := h' i p hi hp hf
    have e : p.at_ = q.at_ := by omega
    have := h1.2 e
    have := h2.2 e.symm
    have : i = j := by omega
    rw [this]

/-- What is found among the first q of a list of indices. -/
def bst (d : Deb) (ps : List Pay) (t : Int) (xs : List Nat) (q : Nat) : Int := (xs.take q).foldl (better d ps t) (-1)

theorem bst_zero (d : Deb) (ps : List Pay) (t : Int) (xs : List Nat) : bst d ps t xs 0 = -1 := rfl
theorem bst_succ {d : Deb} {ps : List Pay} {t : Int} {xs : List Nat} {q k : Nat} (h : xs[q]? = some k) : bst d ps t xs (q + 1) = better d ps t (bst d ps t xs q) k := by
  unfold bst
  rw [List.take_add_one, h, List.foldl_append]; rfl

theorem better_form {d : Deb} {ps : List Pay} {t b : Int} {k : Nat} (h : b = -1 ∨ ∃ j : Nat, j < ps.length ∧ b = (j : Int)) : better d ps t b k = -1 ∨ ∃ j : Nat, j < ps.length ∧ better d ps t b k = (j : Int) := by
  unfold better
  cases hk : ps[k]? with
  | none => exact h
  | some p =>
    dsimp only
    split
    · exact .inr ⟨k, (List.getElem?_eq_some_iff.1 hk).1, rfl⟩
    · exact h
theorem foldl_form (d : Deb) (ps : List Pay) (t : Int) (xs : List Nat) : ∀ b : Int, (b = -1 ∨ ∃ j : Nat, j < ps.length ∧ b = (j : Int)) →
    xs.foldl (better d ps t) b = -1 ∨ ∃ j : Nat, j < ps.length ∧ xs.foldl (better d ps t) b = (j : Int) := by
  induction xs with
  | nil => intro b h; exact h
  | cons x xs ih => intro b h; exact ih _ (better_form h)
theorem bst_form (d : Deb) (ps : List Pay) (t : Int) (xs : List Nat) (q : Nat) : bst d ps t xs q = -1 ∨ ∃ j : Nat, j < ps.length ∧ bst d ps t xs q = (j : Int) := foldl_form d ps t _ _ (.inl rfl)

theorem better_out {d : Deb} {ps : List Pay} {t b : Int} {k : Nat} (h : ∀ p, ps[k]? = some p → fit d p t = false) : better d ps t b k = b := by
  unfold better
  cases hk : ps[k]? with
  | none => rfl
  | some p =>
    dsimp only
    rw [if_neg (fun hh => by rw [h p hk] at hh; cases hh.1)]

/-- Those that do not fit may be left out. -/
theorem foldl_filter (d : Deb) (ps : List Pay) (t : Int) (f : Nat → Bool) (hf : ∀ k p, ps[k]? = some p → f k = false → fit d p t = false) (xs : List Nat) :
    ∀ b, (xs.filter f).foldl (better d ps t) b = xs.foldl (better d ps t) b := by
  induction xs with
  | nil => intro b; rfl
  | cons x xs ih =>
    intro b
    cases hx : f x with
    | true => rw [List.filter_cons_of_pos hx]; exact ih _
    | false =>
      rw [List.filter_cons_of_neg (by rw [hx]; decide), ih]
      show _ = xs.foldl _ (better d ps t b x)
      rw [better_out (fun p hp => hf x p hp hx)]

theorem better_yes {d : Deb} {ps : List Pay} {t b : Int} {k : Nat} {p : Pay} (hk : ps[k]? = some p) (hf : fit d p t = true) (h : b < 0 ∨ ∀ q, ps[b.toNat]? = some q → p.at_ < q.at_) : better d ps t b k = (k : Int) := by
  unfold better; rw [hk]
  dsimp only
  rw [if_pos ⟨hf, h⟩]
theorem better_no {d : Deb} {ps : List Pay} {t b : Int} {k : Nat} {p : Pay} (hk : ps[k]? = some p) (h : ¬ (fit d p t = true ∧ (b < 0 ∨ ∀ q, ps[b.toNat]? = some q → p.at_ < q.at_))) : better d ps t b k = b := by
  unfold better; rw [hk]
  dsimp only
  rw [if_neg h]
end Go.Proofs.YtcphclpekllcoaaGreatDoor.Nt
