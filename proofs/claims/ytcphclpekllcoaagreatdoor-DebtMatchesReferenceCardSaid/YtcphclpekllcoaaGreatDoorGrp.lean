/- Groups: a map from classes to rows of indices that the call owns, no two in one block. -/
import Derived.Test.YtcphclpekllcoaaGreatDoorKey
namespace Go.Proofs.YtcphclpekllcoaaGreatDoor
open Go.RowKit

def nilS : Value := .slice none 0 0
structure Groups (W : World) (M : Nat) (L : List (Cls × Value)) (idx : Cls → List Nat) : Prop where
  mp : MP W cv M L
  first : ∀ (i : Nat) (c : Cls) (v : Value), L[i]? = some (c, v) → pos c L 0 = some (i, v)
  owns : ∀ (i : Nat) (c : Cls) (v : Value), L[i]? = some (c, v) → W.ownsRow (M + 1) 3 1 v (idx c).length (ints (idx c))
  apart : ∀ (i j : Nat) (c : Cls) (v : Value) (d : Cls) (u : Value), L[i]? = some (c, v) → L[j]? = some (d, u) → i ≠ j → v.ownBlock = none ∨ v.ownBlock ≠ u.ownBlock
  rest : ∀ c : Cls, pos c L 0 = none → idx c = []

theorem Groups.start {W : World} {M : Nat} (h : W.heap[M]? = some (.map #[] 0)) : Groups W M [] (fun _ => []) where
  mp := h
  first := fun i c v h => by simp at h
  owns := fun i c v h => by simp at h
  apart := fun i j c v d u h => by simp at h
  rest := fun _ _ => rfl

theorem Groups.lt {W : World} {M : Nat} {L : List (Cls × Value)} {idx : Cls → List Nat} (h : Groups W M L idx) : M < W.heap.size := lt_of_block h.mp

theorem Groups.below {W W' : World} {M : Nat} {L : List (Cls × Value)} {idx : Cls → List Nat} (h : Groups W M L idx) (hb : Below W.heap.size W W') : Groups W' M L idx where
  mp := (hb.block M h.lt).trans h.mp
  first := h.first
  owns := fun i c v hi => (h.owns i c v hi).kept_below hb
  apart := h.apart
  rest := h.rest

theorem setB_grown (W : World) (M : Nat) (o : Obj) : W.grownBy (setB W M o) (some M) :=
  ⟨rfl, rfl, rfl, by show W.heap.size ≤ (W.heap.setIfInBounds M o).size; simp, fun k _ hne => by
    show (W.heap.setIfInBounds M o)[k]? = W.heap[k]?
    rw [Array.getElem?_setIfInBounds_ne (fun e => hne (by rw [e]))]⟩

theorem own_ne {W : World} {M : Nat} {v : Value} {n : Nat} {xs : List Value} (h : W.ownsRow (M + 1) 3 1 v n xs) : v.ownBlock = none ∨ v.ownBlock ≠ some M := by
  cases hv : v.ownBlock with
  | none => exact .inl rfl
  | some k => have := (h.lt k hv).1; exact .inr (by simp; omega)

theorem pos_app (c : Cls) (L T : List (Cls × Value)) : ∀ n, pos c (L ++ T) n = match pos c L n with | some x => some x | none => pos c T (n + L.length) := by
  induction L with
  | nil => intro n; simp [pos]
  | cons x t ih =>
    intro n
    simp only [List.cons_append, pos]
    by_cases e : c = x.1
    · rw [if_pos e, if_pos e]
    · rw [if_neg e, if_neg e, ih, List.length_cons, show n + 1 + t.length = n + (t.length + 1) by omega]

/-- The entry is there. -/
theorem Groups.entry {W : World} {M : Nat} {L : List (Cls × Value)} {idx : Cls → List Nat} (h : Groups W M L idx) (c : Cls) :
    Groups (setB W M (.map (ents cv 0 (ins c nilS L)).toArray (ins c nilS L).length)) M (ins c nilS L) idx ∧ pos c (ins c nilS L) 0 = some (plc c L, got c nilS L) := by
  have hg := setB_grown W M (.map (ents cv 0 (ins c nilS L)).toArray (ins c nilS L).length)
  have hm := MP.setB cv (ins c nilS L) h.mp
  cases hp : pos c L 0 with
  | some x =>
    obtain ⟨i, v⟩ := x
    have e : ins c nilS L = L := by unfold ins; rw [hp]; rfl
    have e2 : plc c L = i := by unfold plc; rw [hp]
    have e3 : got c nilS L = v := by unfold got; rw [hp]
    rw [e] at hm hg ⊢
    rw [e2, e3]
    exact ⟨⟨hm, h.first, fun i c v hi => (h.owns i c v hi).kept hg (own_ne (h.owns i c v hi)), h.apart, h.rest⟩, hp⟩
  | none =>
    have e : ins c nilS L = L ++ [(c, nilS)] := by unfold ins; rw [hp]; rfl
    have e2 : plc c L = L.length := by unfold plc; rw [hp]
    have e3 : got c nilS L = nilS := by unfold got; rw [hp]
    rw [e] at hm hg ⊢
    rw [e2, e3]
    have hnone := (pos_none c L 0).1 hp
    have cases_at : ∀ (i : Nat) (d : Cls) (v : Value), (L ++ [(c, nilS)])[i]? = some (d, v) → (L[i]? = some (d, v) ∧ i < L.length) ∨ (i = L.length ∧ d = c ∧ v = nilS) := by
      intro i d v hi
      rw [List.getElem?_append] at hi
      split at hi
      · exact .inl ⟨hi, by assumption⟩
      · rename_i hlt
        have : i = L.length := by
          have := (List.getElem?_eq_some_iff.1 hi).1
          simp at this; omega
        subst this
        simp at hi
        exact .inr ⟨rfl, hi.1.symm, hi.2.symm⟩
    refine ⟨⟨hm, ?_, ?_, ?_, ?_⟩, ?_⟩
    · intro i d v hi
      rw [pos_app]
      rcases cases_at i d v hi with ⟨h1, _⟩ | ⟨rfl, rfl, rfl⟩
      · rw [h.first i d v h1]
      · rw [hp]; simp [pos]
    · intro i d v hi
      rcases cases_at i d v hi with ⟨h1, _⟩ | ⟨rfl, rfl, rfl⟩
      · exact (h.owns i d v h1).kept hg (own_ne (h.owns i d v h1))
      · rw [h.rest d hp]; exact World.ownsRow_nil _ _ _ _
    · intro i j d v d' u hi hj hne
      rcases cases_at i d v hi with ⟨h1, _⟩ | ⟨rfl, rfl, rfl⟩
      · rcases cases_at j d' u hj with ⟨h2, _⟩ | ⟨rfl, rfl, rfl⟩
        · exact h.apart i j d v d' u h1 h2 hne
        · cases hv : v.ownBlock with
          | none => exact .inl rfl
          | some b => exact .inr (by simp [nilS, Value.ownBlock])
      · exact .inl rfl
    · intro d hd
      rw [pos_app] at hd
      cases hpd : pos d L 0 with
      | none => exact h.rest d hpd
      | some x => rw [hpd] at hd; cases hd
    · rw [pos_app, hp]; simp [pos]

theorem pos_setv (_c d : Cls) (i : Nat) (_v w : Value) (L : List (Cls × Value)) : ∀ n, pos d (setv L i w) n = (pos d L n).map fun x => if x.1 = n + i then (x.1, w) else x := by
  unfold setv
  induction L generalizing i with
  | nil => intro n; cases i <;> simp [pos]
  | cons x t ih =>
    intro n
    cases i with
    | zero =>
      simp only [List.modify_zero_cons, pos]
      by_cases e : d = x.1
      · simp [e]
      · rw [if_neg e, if_neg e]
        cases hp : pos d t (n + 1) with
        | none => rfl
        | some y =>
          have := (pos_at d t (n + 1) y.1 y.2 hp).1
          simp
          intro e
          omega
    | succ i =>
      simp only [List.modify_succ_cons, pos]
      by_cases e : d = x.1
      · simp [e]
      · rw [if_neg e, if_neg e, ih i (n + 1), show n + 1 + i = n + (i + 1) by omega]

/-- The new row is stored. -/
theorem Groups.store {W W' : World} {M : Nat} {L : List (Cls × Value)} {idx : Cls → List Nat} (h : Groups W M L idx) {c : Cls} {i : Nat} {v v' : Value} (hp : pos c L 0 = some (i, v)) (k : Nat)
    (hg : W.grownBy W' v.ownBlock) (ho : W'.ownsRow (M + 1) 3 1 v' ((idx c).length + 1) (ints (idx c) ++ [.int .i64 k])) (hloc : v'.ownBlock = v.ownBlock ∨ v'.ownBlock = some W.heap.size) :
    MP W' cv M L ∧ i < L.length ∧ Groups (setB W' M (.map (ents cv 0 (setv L i v')).toArray (setv L i v').length)) M (setv L i v') (fun d => if d = c then idx c ++ [k] else idx d) := by
  obtain ⟨_, hat⟩ := pos_at c L 0 i v hp
  rw [Nat.sub_zero] at hat
  have hi : i < L.length := (List.getElem?_eq_some_iff.1 hat).1
  have hown := h.owns i c v hat
  have hm : MP W' cv M L := (hg.block M h.lt (fun e => by
    rcases own_ne hown with h1 | h1
    · rw [h1] at e; cases e
    · exact h1 e.symm)).trans h.mp
  refine ⟨hm, hi, ?_⟩
  have hgB := setB_grown W' M (.map (ents cv 0 (setv L i v')).toArray (setv L i v').length)
  have hat' : ∀ (j : Nat) (d : Cls) (u : Value), (setv L i v')[j]? = some (d, u) → (j = i ∧ d = c ∧ u = v') ∨ (j ≠ i ∧ L[j]? = some (d, u) ∧ d ≠ c) := by
    intro j d u hj
    unfold setv at hj
    rw [List.getElem?_modify] at hj
    by_cases e : i = j
    · subst e
      rw [hat] at hj
      simp at hj
      exact .inl ⟨rfl, hj.1.symm, hj.2.symm⟩
    · simp [e] at hj
      refine .inr ⟨fun e' => e e'.symm, hj, ?_⟩
      rintro rfl
      have := h.first j d u hj
      rw [hp] at this
      simp at this
      exact e this.1
  have kept : ∀ (j : Nat) (d : Cls) (u : Value), j ≠ i → L[j]? = some (d, u) → W'.ownsRow (M + 1) 3 1 u (idx d).length (ints (idx d)) := fun j d u hne hj =>
    (h.owns j d u hj).kept hg (h.apart j i d u c v hj hat hne)
  refine ⟨MP.setB cv _ hm, ?_, ?_, ?_, ?_⟩
  · intro j d u hj
    rw [pos_setv c d i v]
    rcases hat' j d u hj with ⟨rfl, rfl, rfl⟩ | ⟨h1, h2, h3⟩
    · rw [hp]; simp
    · rw [h.first j d u h2]; simp [h1]
  · intro j d u hj
    rcases hat' j d u hj with ⟨rfl, rfl, rfl⟩ | ⟨h1, h2, h3⟩
    · rw [if_pos rfl]
      have e : ints (idx d ++ [k]) = ints (idx d) ++ [.int .i64 k] := by simp [ints]
      rw [e, List.length_append]
      exact ho.kept hgB (own_ne ho)
    · rw [if_neg h3]
      have := kept j d u h1 h2
      exact this.kept hgB (own_ne this)
  · intro j j' d u d' u' hj hj' hne
    rcases hat' j d u hj with ⟨rfl, rfl, rfl⟩ | ⟨h1, h2, h3⟩
    · rcases hat' j' d' u' hj' with ⟨rfl, rfl, rfl⟩ | ⟨h1', h2', h3'⟩
      · exact absurd rfl hne
      · rcases hloc with hl | hl
        · rw [hl]
          exact h.apart j j' d v d' u' hat h2' hne
        · refine .inr ?_
          rw [hl]
          intro e
          have := ((h.owns j' d' u' h2').lt _ e.symm).2
          omega
    · rcases hat' j' d' u' hj' with ⟨rfl, rfl, rfl⟩ | ⟨h1', h2', h3'⟩
      · rcases hloc with hl | hl
        · rw [hl]
          exact h.apart j j' d u d' v h2 hat hne
        · refine .inr ?_
          rw [hl]
          intro e
          have := ((h.owns j d u h2).lt _ e).2
          omega
      · exact h.apart j j' d u d' u' h2 h2' hne
  · intro d hd
    rw [pos_setv c d i v] at hd
    have hd' : pos d L 0 = none := by
      cases hh : pos d L 0 with
      | none => rfl
      | some x => rw [hh] at hd; cases hd
    have : d ≠ c := by rintro rfl; rw [hp] at hd'; cases hd'
    rw [if_neg this]
    exact h.rest d hd'
end Go.Proofs.YtcphclpekllcoaaGreatDoor
