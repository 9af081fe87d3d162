/- Plain lemmas: how the costs of payments are divided; no Go and no memory. -/
import Derived.Test.YtcphclpekllcoaaGreatDoorDebt
import Derived.Test.YtcphclpekllcoaaGreatDoorShare
namespace Go.Proofs.YtcphclpekllcoaaGreatDoor.Nt

/-- A list of different numbers. -/
def ddp : List Int → List Int
  | [] => []
  | x :: t => if x ∈ t then ddp t else x :: ddp t
theorem mem_ddp (l : List Int) (p : Int) : p ∈ ddp l ↔ p ∈ l := by
  induction l with
  | nil => simp [ddp]
  | cons x t ih =>
    unfold ddp
    by_cases h : x ∈ t
    · rw [if_pos h, ih]
      constructor
      · exact List.mem_cons_of_mem _
      · intro hp
        rcases List.mem_cons.1 hp with rfl | hp
        · exact h
        · exact hp
    · rw [if_neg h, List.mem_cons, List.mem_cons, ih]
theorem nodup_ddp (l : List Int) : (ddp l).Nodup := by
  induction l with
  | nil => simp [ddp]
  | cons x t ih =>
    unfold ddp
    by_cases h : x ∈ t
    · rw [if_pos h]; exact ih
    · rw [if_neg h, List.nodup_cons]; exact ⟨fun hx => h ((mem_ddp t x).1 hx), ih⟩

/-- Lists of different numbers with the same members have the same length. -/
theorem len_of_mem {l m : List Int} (hl : l.Nodup) (hm : m.Nodup) (h : ∀ p, p ∈ l ↔ p ∈ m) : l.length = m.length :=
  ((List.perm_ext_iff_of_nodup hl hm).2 h).length_eq

def rsum (l : List Rat) : Rat := l.foldr (· + ·) 0
theorem rsum_nil : rsum [] = 0 := rfl
theorem rsum_cons (x : Rat) (l : List Rat) : rsum (x :: l) = x + rsum l := rfl
theorem rsum_append (a b : List Rat) : rsum (a ++ b) = rsum a + rsum b := by
  induction a with
  | nil => rw [List.nil_append, rsum_nil, Rat.zero_add]
  | cons x a ih => rw [List.cons_append, rsum_cons, rsum_cons, ih, Rat.add_assoc]
theorem rsum_snoc (a : List Rat) (x : Rat) : rsum (a ++ [x]) = rsum a + x := by
  rw [rsum_append, rsum_cons, rsum_nil, Rat.add_zero]
theorem rsum_perm {a b : List Rat} (h : a.Perm b) : rsum a = rsum b := by
  induction h with
  | nil => rfl
  | cons x _ ih => rw [rsum_cons, rsum_cons, ih]
  | swap x y l => simp only [rsum_cons]; rw [← Rat.add_assoc, ← Rat.add_assoc, Rat.add_comm y x]
  | trans _ _ h1 h2 => exact h1.trans h2
theorem rsum_zero {l : List Rat} (h : ∀ x ∈ l, x = 0) : rsum l = 0 := by
  induction l with
  | nil => rfl
  | cons x l ih => rw [rsum_cons, h x (by simp), ih (fun y hy => h y (List.mem_cons_of_mem _ hy)), Rat.zero_add]
theorem rsum_filter {α : Type} (f : α → Rat) (P : α → Bool) (l : List α) (h : ∀ x ∈ l, P x = false → f x = 0) : rsum ((l.filter P).map f) = rsum (l.map f) := by
  induction l with
  | nil => rfl
  | cons x l ih =>
    have ih := ih (fun y hy => h y (List.mem_cons_of_mem _ hy))
    cases hx : P x with
    | true => rw [List.filter_cons_of_pos hx, List.map_cons, List.map_cons, rsum_cons, rsum_cons, ih]
    | false => rw [List.filter_cons_of_neg (by rw [hx]; decide), List.map_cons, rsum_cons, h x (by simp) hx, Rat.zero_add, ih]
/-- A sum over different numbers below n is the sum over all, if the others bear nothing. -/
theorem rsum_range {K : List Nat} {n : Nat} (f : Nat → Rat) (hn : K.Nodup) (hlt : ∀ k ∈ K, k < n) (h0 : ∀ k, k < n → k ∉ K → f k = 0) : rsum (K.map f) = rsum ((List.range n).map f) := by
  rw [← rsum_filter f (fun k => decide (k ∈ K)) (List.range n) (fun k hk hP => h0 k (List.mem_range.1 hk) (by simpa using hP))]
  refine rsum_perm (List.Perm.map f ?_)
  refine (List.perm_ext_iff_of_nodup hn (List.nodup_range.filter _)).2 fun k => ?_
  rw [List.mem_filter, List.mem_range, decide_eq_true_eq]
  exact ⟨fun h => ⟨hlt k h, h⟩, fun h => h.2⟩

theorem nodup_map_on {α β : Type} {f : α → β} {l : List α} (h : ∀ a ∈ l, ∀ b ∈ l, f a = f b → a = b) (hn : l.Nodup) : (l.map f).Nodup := by
  induction l with
  | nil => simp
  | cons x l ih =>
    rw [List.nodup_cons] at hn
    rw [List.map_cons, List.nodup_cons]
    refine ⟨fun hx => ?_, ih (fun a ha b hb => h a (List.mem_cons_of_mem _ ha) b (List.mem_cons_of_mem _ hb)) hn.2⟩
    obtain ⟨y, h1, h2⟩ := List.mem_map.1 hx
    have := h y (List.mem_cons_of_mem _ h1) x (by simp) h2
    exact hn.1 (this ▸ h1)

/-- The different programmes whose debts a payment settles. -/
def progs (ds : List Deb) (ps : List Pay) (t : Int) (k : Int) : List Int := ddp ((ds.filter fun d => decide (settle1 ps t d = k)).map Deb.pr)
/-- What a programme bears of a payment that these share. -/
def part (l : List Int) (p : Int) : Rat := if p ∈ l then mkRat 1 l.length else 0
def splitR (ds : List Deb) (ps : List Pay) (t : Int) (p : Int) : Rat := rsum ((List.range ps.length).map fun (k : Nat) => part (progs ds ps t (k : Int)) p)
def splitOk (ds : List Deb) (ps : List Pay) (t n : Int) : Bool := allOk ds ps t && win n 1 64 && ds.all fun d => decide (d.pr < n)
def split (ds : List Deb) (ps : List Pay) (t n : Int) : List RS × Int :=
  if splitOk ds ps t n then ((List.range n.toNat).map fun (p : Nat) => rs (splitR ds ps t (p : Int)), 0) else ([], 1)

theorem mem_progs (ds : List Deb) (ps : List Pay) (t k p : Int) : p ∈ progs ds ps t k ↔ ∃ d ∈ ds, settle1 ps t d = k ∧ d.pr = p := by
  unfold progs
  rw [mem_ddp, List.mem_map]
  constructor
  · rintro ⟨d, hd, rfl⟩
    rw [List.mem_filter, decide_eq_true_eq] at hd
    exact ⟨d, hd.1, hd.2, rfl⟩
  · rintro ⟨d, h1, h2, rfl⟩
    exact ⟨d, by rw [List.mem_filter, decide_eq_true_eq]; exact ⟨h1, h2⟩, rfl⟩

theorem part_eq {l m : List Int} (hl : l.Nodup) (hm : m.Nodup) (h : ∀ p, p ∈ l ↔ p ∈ m) (p : Int) : part l p = part m p := by
  unfold part
  rw [len_of_mem hl hm h]
  by_cases hp : p ∈ l
  · rw [if_pos hp, if_pos ((h p).1 hp)]
  · rw [if_neg hp, if_neg (fun e => hp ((h p).2 e))]

/-- What the map of sharers says: keys, each with its programmes, none twice. -/
structure Shares (ds : List Deb) (ps : List Pay) (t : Int) (A : List (Int × List Int)) : Prop where
  keys : (A.map (·.1)).Nodup
  pos : ∀ x ∈ A, 0 ≤ x.1
  nd : ∀ x ∈ A, x.2.Nodup
  mem : ∀ x ∈ A, ∀ p, p ∈ x.2 ↔ ∃ d ∈ ds, settle1 ps t d = x.1 ∧ d.pr = p
  all : ∀ d ∈ ds, 0 ≤ settle1 ps t d → ∃ x ∈ A, x.1 = settle1 ps t d
  ne : ∀ x ∈ A, x.2 ≠ []

theorem Shares.nil (ps : List Pay) (t : Int) : Shares [] ps t [] := ⟨by simp, by simp, by simp, by simp, by simp, by simp⟩

theorem settle1_form (ps : List Pay) (t : Int) (d : Deb) : settle1 ps t d = -1 ∨ ∃ j : Nat, j < ps.length ∧ settle1 ps t d = (j : Int) := foldl_form d ps t _ _ (.inl rfl)

/-- A programme is among those of an entry: nobody is added twice. -/
def addp (l : List Int) (p : Int) : List Int := if p ∈ l then l else l ++ [p]
theorem mem_addp (l : List Int) (p q : Int) : q ∈ addp l p ↔ q ∈ l ∨ q = p := by
  unfold addp
  by_cases h : p ∈ l
  · rw [if_pos h]; exact ⟨.inl, fun hq => hq.elim id (fun e => e ▸ h)⟩
  · rw [if_neg h]; simp
theorem nodup_addp {l : List Int} (h : l.Nodup) (p : Int) : (addp l p).Nodup := by
  unfold addp
  by_cases hp : p ∈ l
  · rw [if_pos hp]; exact h
  · rw [if_neg hp, List.nodup_append]
    exact ⟨h, by simp, fun a ha b hb e => hp (by simp at hb; rw [← hb, ← e]; exact ha)⟩

/-- A debt that nothing settles changes nothing. -/
theorem Shares.skip {ds : List Deb} {ps : List Pay} {t : Int} {A : List (Int × List Int)} (h : Shares ds ps t A) {d : Deb} (hd : settle1 ps t d < 0) : Shares (ds ++ [d]) ps t A where
  keys := h.keys
  pos := h.pos
  nd := h.nd
  ne := h.ne
  mem x hx p := by
    rw [h.mem x hx p]
    constructor
    · rintro ⟨e, h1, h2⟩; exact ⟨e, List.mem_append_left _ h1, h2⟩
    · rintro ⟨e, h1, h2, h3⟩
      rcases List.mem_append.1 h1 with h1 | h1
      · exact ⟨e, h1, h2, h3⟩
      · rw [List.mem_singleton] at h1
        subst h1
        have := h.pos x hx
        omega
  all e he h0 := by
    rcases List.mem_append.1 he with h1 | h1
    · exact h.all e h1 h0
    · rw [List.mem_singleton] at h1; subst h1; omega

/-- A debt whose payment has its entry. -/
theorem Shares.old {ds : List Deb} {ps : List Pay} {t : Int} {A : List (Int × List Int)} (h : Shares ds ps t A) {d : Deb} {i : Nat} {l : List Int} (hi : A[i]? = some (settle1 ps t d, l)) :
    Shares (ds ++ [d]) ps t (A.set i (settle1 ps t d, addp l d.pr)) := by
  have hil : i < A.length := (List.getElem?_eq_some_iff.1 hi).1
  have hmem : (settle1 ps t d, l) ∈ A := List.mem_of_getElem? hi
  have hk : (A.set i (settle1 ps t d, addp l d.pr)).map (·.1) = A.map (·.1) := by
    rw [List.map_set]
    refine List.ext_getElem? fun j => ?_
    rw [List.getElem?_set]
    split
    · rename_i e
      subst e
      rw [List.length_map, if_pos hil, List.getElem?_map, hi]; rfl
    · rfl
  have hx : ∀ x ∈ A.set i (settle1 ps t d, addp l d.pr), x = (settle1 ps t d, addp l d.pr) ∨ (x ∈ A ∧ x.1 ≠ settle1 ps t d) := by
    intro x hx
    obtain ⟨j, hj⟩ := List.mem_iff_getElem?.1 hx
    rw [List.getElem?_set] at hj
    split at hj
    · exact .inl (by first | exact (Option.some.inj hj).symm | (rw [if_pos hil] at hj; exact (Option.some.inj hj).symm))
    · rename_i e
      refine .inr ⟨List.mem_of_getElem? hj, fun e2 => e ?_⟩
      have a1 : (A.map (·.1))[i]? = some (settle1 ps t d) := by rw [List.getElem?_map, hi]; rfl
      have a2 : (A.map (·.1))[j]? = some (settle1 ps t d) := by rw [List.getElem?_map, hj, ← e2]; rfl
      exact (List.getElem?_inj (by rw [List.length_map]; exact hil) h.keys).1 (a1.trans a2.symm)
  refine ⟨by rw [hk]; exact h.keys, ?_, ?_, ?_, ?_, ?_⟩
  · intro x hxm
    rcases hx x hxm with rfl | ⟨h1, _⟩
    · exact h.pos (settle1 ps t d, l) hmem
    · exact h.pos x h1
  · intro x hxm
    rcases hx x hxm with rfl | ⟨h1, _⟩
    · exact nodup_addp (h.nd _ hmem) _
    · exact h.nd x h1
  · intro x hxm p
    rcases hx x hxm with rfl | ⟨h1, h2⟩
    · show p ∈ addp l d.pr ↔ _
      rw [mem_addp, h.mem _ hmem p]
      constructor
      · rintro (⟨e, a, b, c⟩ | rfl)
        · exact ⟨e, List.mem_append_left _ a, b, c⟩
        · exact ⟨d, by simp, rfl, rfl⟩
      · rintro ⟨e, a, b, c⟩
        rcases List.mem_append.1 a with a | a
        · exact .inl ⟨e, a, b, c⟩
        · rw [List.mem_singleton] at a; subst a; exact .inr c.symm
    · rw [h.mem x h1 p]
      constructor
      · rintro ⟨e, a, b⟩; exact ⟨e, List.mem_append_left _ a, b⟩
      · rintro ⟨e, a, b, c⟩
        rcases List.mem_append.1 a with a | a
        · exact ⟨e, a, b, c⟩
        · rw [List.mem_singleton] at a; subst a; exact absurd b.symm h2
  · intro e he h0
    rcases List.mem_append.1 he with h1 | h1
    · obtain ⟨x, h2, h3⟩ := h.all e h1 h0
      by_cases hxe : x.1 = settle1 ps t d
      · exact ⟨_, List.mem_of_getElem? (i := i) (by rw [List.getElem?_set_self hil]), by rw [← h3, hxe]⟩
      · obtain ⟨j, hj⟩ := List.mem_iff_getElem?.1 h2
        refine ⟨x, List.mem_of_getElem? (i := j) ?_, h3⟩
        rw [List.getElem?_set_ne]
        · exact hj
        · rintro rfl
          rw [hi] at hj
          exact hxe (by rw [← Option.some.inj hj])
    · rw [List.mem_singleton] at h1; subst h1
      exact ⟨_, List.mem_of_getElem? (i := i) (by rw [List.getElem?_set_self hil]), rfl⟩
  · intro x hxm
    rcases hx x hxm with rfl | ⟨h1, _⟩
    · intro e
      have : d.pr ∈ addp l d.pr := (mem_addp l _ _).2 (.inr rfl)
      rw [show addp l d.pr = [] from e] at this
      simp at this
    · exact h.ne x h1

/-- A debt whose payment has no entry yet. -/
theorem Shares.new {ds : List Deb} {ps : List Pay} {t : Int} {A : List (Int × List Int)} (h : Shares ds ps t A) {d : Deb} (h0 : 0 ≤ settle1 ps t d) (hi : ∀ x ∈ A, x.1 ≠ settle1 ps t d) :
    Shares (ds ++ [d]) ps t (A ++ [(settle1 ps t d, [d.pr])]) := by
  have hno : ∀ e ∈ ds, settle1 ps t e ≠ settle1 ps t d := fun e he hee => by
    obtain ⟨x, h1, h2⟩ := h.all e he (by omega)
    exact hi x h1 (by omega)
  refine ⟨?_, ?_, ?_, ?_, ?_, ?_⟩
  · rw [List.map_append, List.nodup_append]
    refine ⟨h.keys, by simp, fun a ha b hb e => ?_⟩
    obtain ⟨x, h1, rfl⟩ := List.mem_map.1 ha
    simp at hb
    exact hi x h1 (by omega)
  · intro x hx
    rcases List.mem_append.1 hx with hx | hx
    · exact h.pos x hx
    · rw [List.mem_singleton] at hx; subst hx; exact h0
  · intro x hx
    rcases List.mem_append.1 hx with hx | hx
    · exact h.nd x hx
    · rw [List.mem_singleton] at hx; subst hx; simp
  · intro x hx p
    rcases List.mem_append.1 hx with hx | hx
    · rw [h.mem x hx p]
      constructor
      · rintro ⟨e, a, b⟩; exact ⟨e, List.mem_append_left _ a, b⟩
      · rintro ⟨e, a, b, c⟩
        rcases List.mem_append.1 a with a | a
        · exact ⟨e, a, b, c⟩
        · rw [List.mem_singleton] at a; rw [a] at b; exact absurd b.symm (hi x hx)
    · rw [List.mem_singleton] at hx; subst hx
      show p ∈ [d.pr] ↔ _
      rw [List.mem_singleton]
      constructor
      · rintro rfl; exact ⟨d, by simp, rfl, rfl⟩
      · rintro ⟨e, a, b, c⟩
        rcases List.mem_append.1 a with a | a
        · exact absurd b (hno e a)
        · rw [List.mem_singleton] at a; subst a; exact c.symm
  · intro e he h1
    rcases List.mem_append.1 he with h2 | h2
    · obtain ⟨x, h3, h4⟩ := h.all e h2 h1
      exact ⟨x, List.mem_append_left _ h3, h4⟩
    · rw [List.mem_singleton] at h2; subst h2
      exact ⟨_, List.mem_append_right _ (List.mem_singleton.2 rfl), rfl⟩
  · intro x hx
    rcases List.mem_append.1 hx with hx | hx
    · exact h.ne x hx
    · rw [List.mem_singleton] at hx; subst hx; simp

/-- The sum over the entries, in whatever order, is the cost. -/
theorem Shares.sum {ds : List Deb} {ps : List Pay} {t : Int} {A : List (Int × List Int)} (h : Shares ds ps t A) (p : Int) : rsum (A.map fun x => part x.2 p) = splitR ds ps t p := by
  have hk0 : ∀ x ∈ A, ∃ j : Nat, j < ps.length ∧ x.1 = (j : Int) ∨ x.2 = [] := fun x hx => by
    cases hl : x.2 with
    | nil => exact ⟨0, .inr rfl⟩
    | cons q l =>
      obtain ⟨d, h1, h2, h3⟩ := (h.mem x hx q).1 (by rw [hl]; simp)
      rcases settle1_form ps t d with h4 | ⟨j, h4, h5⟩
      · have := h.pos x hx; omega
      · exact ⟨j, .inl ⟨h4, by omega⟩⟩
  have hpart : ∀ x ∈ A, part x.2 p = part (progs ds ps t x.1) p := fun x hx =>
    part_eq (h.nd x hx) (nodup_ddp _) (fun q => (h.mem x hx q).trans (mem_progs ds ps t x.1 q).symm) p
  have e1 : A.map (fun x => part x.2 p) = (A.map (·.1)).map fun k => part (progs ds ps t k) p := by
    rw [List.map_map]; exact List.map_congr_left hpart
  have e2 : ((A.map (·.1)).filter fun k => decide (k.toNat < ps.length)).map (fun k => part (progs ds ps t k) p) = (((A.map (·.1)).filter fun k => decide (k.toNat < ps.length)).map Int.toNat).map fun k : Nat => part (progs ds ps t (k : Int)) p := by
    rw [List.map_map]
    refine List.map_congr_left fun k hk => ?_
    obtain ⟨x, h1, rfl⟩ := List.mem_map.1 (List.mem_filter.1 hk).1
    have := h.pos x h1
    show part (progs ds ps t x.1) p = part (progs ds ps t ((x.1.toNat : Nat) : Int)) p
    rw [Int.toNat_of_nonneg this]
  have e3 : rsum ((A.map (·.1)).map fun k => part (progs ds ps t k) p) = rsum (((A.map (·.1)).filter fun k => decide (k.toNat < ps.length)).map fun k => part (progs ds ps t k) p) := by
    refine (rsum_filter _ _ _ fun k hk hP => ?_).symm
    obtain ⟨x, h1, rfl⟩ := List.mem_map.1 hk
    rw [← hpart x h1]
    obtain ⟨j, hj | hj⟩ := hk0 x h1
    · exfalso; have : x.1.toNat = j := by omega
      simp at hP; omega
    · unfold part; rw [hj]; simp
  rw [e1, e3, e2]
  unfold splitR
  refine rsum_range (fun k : Nat => part (progs ds ps t (k : Int)) p) ?_ ?_ ?_
  · refine nodup_map_on ?_ (h.keys.filter _)
    intro a ha b hb e
    obtain ⟨x, h1, rfl⟩ := List.mem_map.1 (List.mem_filter.1 ha).1
    obtain ⟨y, h2, rfl⟩ := List.mem_map.1 (List.mem_filter.1 hb).1
    have := h.pos x h1
    have := h.pos y h2
    omega
  · intro k hk
    obtain ⟨z, h1, rfl⟩ := List.mem_map.1 hk
    simpa using (List.mem_filter.1 h1).2
  · intro k hk hno
    unfold part
    rw [if_neg]
    intro hp
    obtain ⟨d, h1, h2, h3⟩ := (mem_progs ds ps t k p).1 hp
    obtain ⟨x, h4, h5⟩ := h.all d h1 (by omega)
    refine hno (List.mem_map.2 ⟨x.1, List.mem_filter.2 ⟨List.mem_map.2 ⟨x, h4, rfl⟩, by simp; omega⟩, by omega⟩)

theorem Shares.len {ds : List Deb} {ps : List Pay} {t : Int} {A : List (Int × List Int)} (h : Shares ds ps t A) : A.length ≤ ps.length := by
  have hn : ((A.map (·.1)).map Int.toNat).Nodup := nodup_map_on (fun a ha b hb e => by
    obtain ⟨x, h1, rfl⟩ := List.mem_map.1 ha
    obtain ⟨y, h2, rfl⟩ := List.mem_map.1 hb
    have := h.pos x h1
    have := h.pos y h2
    omega) h.keys
  have hs : (A.map (·.1)).map Int.toNat ⊆ List.range ps.length := fun k hk => by
    obtain ⟨z, h1, rfl⟩ := List.mem_map.1 hk
    obtain ⟨x, h2, rfl⟩ := List.mem_map.1 h1
    cases hl : x.2 with
    | nil => exact absurd hl (h.ne x h2)
    | cons q l =>
      obtain ⟨d, h3, h4, h5⟩ := (h.mem x h2 q).1 (by rw [hl]; simp)
      rw [List.mem_range]
      rcases settle1_form ps t d with h6 | ⟨j, h6, h7⟩
      · have := h.pos x h2; omega
      · omega
  have := hn.length_le_of_subset hs
  simpa using this
/-- At most 64 programmes share a payment, and one at least. -/
theorem Shares.few {ds : List Deb} {ps : List Pay} {t : Int} {A : List (Int × List Int)} (h : Shares ds ps t A) {m : Nat} (hm : m ≤ 64) (hd : ∀ d ∈ ds, 0 ≤ d.pr ∧ d.pr < m) {x : Int × List Int} (hx : x ∈ A) :
    0 < x.2.length ∧ x.2.length < 65 ∧ ∀ p ∈ x.2, 0 ≤ p ∧ p < m := by
  have hp : ∀ p ∈ x.2, 0 ≤ p ∧ p < m := fun p hp => by
    obtain ⟨d, h1, _, h3⟩ := (h.mem x hx p).1 hp
    have := hd d h1
    omega
  refine ⟨List.length_pos_iff.2 (h.ne x hx), ?_, hp⟩
  have hn : (x.2.map Int.toNat).Nodup := nodup_map_on (fun a ha b hb e => by
    have := hp a ha
    have := hp b hb
    omega) (h.nd x hx)
  have hs : x.2.map Int.toNat ⊆ List.range m := fun k hk => by
    obtain ⟨z, h1, rfl⟩ := List.mem_map.1 hk
    have := hp z h1
    rw [List.mem_range]; omega
  have := hn.length_le_of_subset hs
  simp at this; omega

/-! ### the state of the sums -/
def stt (m : Nat) (F : Int → Rat) : List RS := (List.range m).map fun (p : Nat) => rs (F (p : Int))
theorem stt_length (m : Nat) (F : Int → Rat) : (stt m F).length = m := by simp [stt]
theorem stt_at {m q : Nat} (F : Int → Rat) (h : q < m) : (stt m F)[q]? = some (rs (F (q : Int))) := by
  unfold stt
  rw [List.getElem?_map, List.getElem?_range h]; rfl
theorem stt_set {m q : Nat} (F : Int → Rat) (x : Rat) : (stt m F).set q (rs x) = stt m fun p => if p = (q : Int) then x else F p := by
  refine List.ext_getElem? fun i => ?_
  rw [List.getElem?_set]
  by_cases hi : i < m
  · rw [stt_at _ hi]
    by_cases e : q = i
    · subst e; rw [if_pos rfl, if_pos (by rw [stt_length]; exact hi), stt_at _ hi, if_pos rfl]
    · rw [if_neg e, stt_at _ hi, if_neg (by omega)]
  · rw [List.getElem?_eq_none (l := stt m fun p => if p = (q : Int) then x else F p) (by rw [stt_length]; omega)]
    split
    · rw [if_neg (by rw [stt_length]; omega)]
    · rw [List.getElem?_eq_none (by rw [stt_length]; omega)]
theorem stt_congr {m : Nat} {F G : Int → Rat} (h : ∀ p, F p = G p) : stt m F = stt m G := by
  rw [show F = G from funext h]

theorem Over.mono {q : Rat} {b c : Nat} (h : Over q b) (hb : b ≤ c) : Over q c := by
  obtain ⟨a, rfl, ha⟩ := h
  exact ⟨a, rfl, Nat.le_trans ha (Nat.mul_le_mul_right _ hb)⟩
theorem rAdd_over {a c : Rat} {b d : Nat} (ha : Over a b) (hc : Over c d) (hb : b ≤ 1000) (hd : d ≤ 1000) : rAdd (rs a) (rs c) = (rs (a + c), 0) := by
  unfold rAdd
  rw [rat?_rs a (ha.fit hb), rat?_rs c (hc.fit hd)]
  dsimp only
  rw [if_pos (ha.fits hc hb hd)]

def lst (B : List (Int × List Int)) (i : Nat) : List Int := ((B[i]?).map (·.2)).getD []
/-- What a programme bears of the entries s. -/
def F1 (B : List (Int × List Int)) (s : List Nat) (p : Int) : Rat := rsum (s.map fun i => part (lst B i) p)
/-- .. and of those programmes s2 of one entry more. -/
def F2 (B : List (Int × List Int)) (s : List Nat) (l : List Int) (s2 : List Nat) (p : Int) : Rat := F1 B s p + if some p ∈ s2.map (fun j => l[j]?) then mkRat 1 l.length else 0
theorem F2_start (B : List (Int × List Int)) (s : List Nat) (l : List Int) (p : Int) : F2 B s l [] p = F1 B s p := by
  unfold F2; simp [Rat.add_zero]
theorem F2_new {B : List (Int × List Int)} {s s2 : List Nat} {l : List Int} {j : Nat} {q : Int} (hl : l.Nodup) (hj : j ∉ s2) (hq : l[j]? = some q) : F2 B s l s2 q = F1 B s q := by
  unfold F2
  rw [if_neg, Rat.add_zero]
  intro h
  obtain ⟨i, h1, h2⟩ := List.mem_map.1 h
  have hjl := (List.getElem?_eq_some_iff.1 hq).1
  have := (List.getElem?_inj hjl hl).1 (hq.trans h2.symm)
  exact hj (this ▸ h1)
theorem F2_step {B : List (Int × List Int)} {s s2 : List Nat} {l : List Int} {j : Nat} {q : Int} (hq : l[j]? = some q) (p : Int) :
    F2 B s l (s2 ++ [j]) p = if p = q then F1 B s q + mkRat 1 l.length else F2 B s l s2 p := by
  unfold F2
  rw [List.map_append, List.map_cons, List.map_nil, hq]
  by_cases e : p = q
  · subst e; rw [if_pos rfl, if_pos (by simp)]
  · rw [if_neg e]
    have : (some p ∈ s2.map (fun j => l[j]?) ++ [some q]) ↔ some p ∈ s2.map (fun j => l[j]?) := by simp [e]
    by_cases h : some p ∈ s2.map (fun j => l[j]?)
    · rw [if_pos h, if_pos (this.2 h)]
    · rw [if_neg h, if_neg (fun h' => h (this.1 h'))]
theorem F2_end {B : List (Int × List Int)} {s s2 : List Nat} {l : List Int} {i : Nat} (hl : lst B i = l) (hall : ∀ j, j < l.length → j ∈ s2) (p : Int) : F2 B s l s2 p = F1 B (s ++ [i]) p := by
  unfold F2 F1
  rw [List.map_append, rsum_append, List.map_cons, List.map_nil, rsum_cons, rsum_nil, Rat.add_zero, hl]
  congr 1
  unfold part
  by_cases h : p ∈ l
  · obtain ⟨j, hj⟩ := List.mem_iff_getElem?.1 h
    rw [if_pos h, if_pos (List.mem_map.2 ⟨j, hall j (List.getElem?_eq_some_iff.1 hj).1, hj⟩)]
  · rw [if_neg h, if_neg]
    intro h'
    obtain ⟨j, _, hj⟩ := List.mem_map.1 h'
    exact h (List.mem_of_getElem? hj)
theorem part_over {l : List Int} (h0 : 0 < l.length) (h : l.length < 65) (p : Int) : Over (part l p) 1 := by
  unfold part
  split
  · exact Over.share h0 h
  · exact Over.zero.mono (by omega)
theorem F1_over {B : List (Int × List Int)} (hB : ∀ x ∈ B, 0 < x.2.length ∧ x.2.length < 65) {s : List Nat} (hs : ∀ i ∈ s, i < B.length) (p : Int) : Over (F1 B s p) s.length := by
  unfold F1
  induction s with
  | nil => exact Over.zero
  | cons i s ih =>
    have hi := hs i (by simp)
    have e : lst B i = B[i].2 := by unfold lst; rw [List.getElem?_eq_getElem hi]; rfl
    have hb := hB B[i] (List.getElem_mem hi)
    rw [List.map_cons, rsum_cons, List.length_cons, Nat.add_comm]
    exact (by rw [e]; exact part_over hb.1 hb.2 p : Over (part (lst B i) p) 1).add (ih fun j hj => hs j (List.mem_cons_of_mem _ hj))
theorem F1_end {B : List (Int × List Int)} {s : List Nat} (hn : s.Nodup) (hs : ∀ i, i ∈ s ↔ i < B.length) (p : Int) : F1 B s p = rsum (B.map fun x => part x.2 p) := by
  have hp : s.Perm (List.range B.length) := (List.perm_ext_iff_of_nodup hn List.nodup_range).2 fun i => by rw [hs, List.mem_range]
  unfold F1
  rw [rsum_perm (hp.map _)]
  congr 1
  refine List.ext_getElem? fun i => ?_
  rw [List.getElem?_map, List.getElem?_map]
  by_cases h : i < B.length
  · rw [List.getElem?_range h, List.getElem?_eq_getElem h]
    simp [lst, List.getElem?_eq_getElem h]
  · rw [List.getElem?_eq_none (by simp; omega), List.getElem?_eq_none (by omega)]; rfl
end Go.Proofs.YtcphclpekllcoaaGreatDoor.Nt
