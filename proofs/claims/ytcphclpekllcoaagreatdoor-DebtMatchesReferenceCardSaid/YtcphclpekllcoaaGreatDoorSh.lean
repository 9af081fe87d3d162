/- Laws: a map of maps; ranging over a map that the call made. -/
import Derived.Test.YtcphclpekllcoaaGreatDoorSq
import Derived.Test.YtcphclpekllcoaaGreatDoorMA
import Derived.Maps.RangeRun
import Derived.WalkSpells
namespace Go.Proofs.YtcphclpekllcoaaGreatDoor
open Go.RowKit

section
variable {K : Type}
theorem ents_born (kv : K → Value) (L : List (K × Value)) : (ents kv 0 L).map (·.born) = List.range L.length := by
  apply List.ext_getElem?
  intro i
  rw [List.getElem?_map, ents_at]
  by_cases h : i < L.length
  · rw [List.getElem?_eq_getElem h, List.getElem?_range h]; simp
  · rw [List.getElem?_eq_none (by omega), List.getElem?_eq_none (by simp; omega)]; rfl
theorem ents_mem {kv : K → Value} {L : List (K × Value)} {e : MapEntry} (h : e ∈ ents kv 0 L) : ∃ c v, L[e.born]? = some (c, v) ∧ e.key = kv c ∧ e.val = v := by
  obtain ⟨i, hi⟩ := List.mem_iff_getElem?.1 h
  rw [ents_at] at hi
  cases hx : L[i]? with
  | none => rw [hx] at hi; cases hi
  | some x =>
    rw [hx] at hi
    obtain rfl := Option.some.inj hi
    exact ⟨x.1, x.2, by simpa using hx, rfl, rfl⟩

theorem kp_setB (W : World) (r : Nat) (o : Obj) : Kp (· = r) W (setB W r o) := ⟨rfl, rfl, rfl, by rw [setB_size]; exact Nat.le_refl _, fun k _ hk => setB_block W r o hk⟩

/-- The state of a range over the map b: s are the numbers of the entries that have come. -/
def It (W : World) (r b n : Nat) (s : List Nat) : Prop := W.heap[r]? = some (.mapIter (some b) n s.toArray n)

/-- The step of a range. -/
theorem run_next_mp {P : Program} {kv : K → Value} {W : World} (ty : TypeId) {r b : Nat} {L : List (K × Value)} {s : List Nat} (hr : It W r b L.length s) (hb : MP W kv b L) (hrb : b ≠ r) :
    ((∀ i, i < L.length → i ∈ s) ∧ (Instr.next (.pointer (some ⟨r, 0, none⟩)) false ty).run P W = .ok (.tuple #[.bool false]) W) ∨
    ∃ i c v W2, L[i]? = some (c, v) ∧ i ∉ s ∧ (Instr.next (.pointer (some ⟨r, 0, none⟩)) false ty).run P W = .ok (.tuple #[.bool true, kv c, v]) W2 ∧
      (Instr.entry (.pointer (some ⟨r, 0, none⟩))).run P W2 = .ok (.tuple #[kv c, v]) W2 ∧ Kp (· = r) W W2 ∧ It W2 r b L.length (s ++ [i]) := by
  have hold : ∀ x ∈ (ents kv 0 L).toArray.toList, x.born < L.length := fun x hx => by
    obtain ⟨c, v, h, _⟩ := ents_mem (show x ∈ ents kv 0 L from hx)
    exact (List.getElem?_eq_some_iff.1 h).1
  rcases run_next_at (P := P) W ty r b L.length L.length s.toArray (ents kv 0 L).toArray L.length hr hb hold (Nat.le_refl _) with ⟨h0, hrun⟩ | ⟨e, he, w1, hw1, hrun⟩
  · refine .inl ⟨fun i hi => ?_, hrun⟩
    have hm : (⟨kv L[i].1, L[i].2, i⟩ : MapEntry) ∈ (ents kv 0 L).toArray.toList := by
      refine List.mem_of_getElem? (i := i) ?_
      show (ents kv 0 L)[i]? = _
      rw [ents_at, List.getElem?_eq_getElem hi]; simp
    have := all_seen _ _ h0 _ hm
    simpa using this
  · obtain ⟨hmem, hs⟩ := mem_left he
    obtain ⟨c, v, h1, h2, h3⟩ := ents_mem (show e ∈ ents kv 0 L from hmem)
    have hseen : e.born ∉ s := by simpa using hs
    refine .inr ⟨e.born, c, v, _, h1, hseen, by rw [← h2, ← h3]; exact hrun, ?_, ?_, ?_⟩
    · have hrlt := lt_of_block hr
      rw [← h2, ← h3]
      refine run_entry_at (P := P) _ r b L.length s.toArray (ents kv 0 L).toArray L.length e ?_ ?_ hmem ?_
      · show (w1.heap.setIfInBounds r _)[r]? = _
        have : w1.heap.size = W.heap.size := by rcases hw1 with rfl | rfl <;> rfl
        simp [this, hrlt]
      · refine (setB_block w1 r _ hrb).trans ?_
        rcases hw1 with rfl | rfl
        · exact hb
        · exact hb
      · show ((ents kv 0 L).map (·.born)).Nodup
        rw [ents_born]; exact List.nodup_range
    · have h := kp_setB w1 r (.mapIter (some b) L.length (s.toArray.push e.born) L.length)
      rcases hw1 with rfl | rfl
      · exact h
      · exact (Kp.refl (· = r) W).drew.trans h
    · show (w1.heap.setIfInBounds r _)[r]? = _
      have : w1.heap.size = W.heap.size := by rcases hw1 with rfl | rfl <;> rfl
      have hrlt := lt_of_block hr
      simp [this, hrlt]
theorem It.kp {W W' : World} {r b n g : Nat} {s : List Nat} (h : It W r b n s) (hk : Kp (· = g) W W') (hne : r ≠ g) : It W' r b n s := (hk.block r (lt_of_block h) hne).trans h
theorem It.start {P : Program} {kv : K → Value} {W : World} {b : Nat} {L : List (K × Value)} {t k e : TypeId} (ht : P.underlying t = some (.map k e)) (hb : MP W kv b L) :
    (Instr.range t (.map (some b))).run P W = .ok (.pointer (some ⟨W.heap.size, 0, none⟩)) (W.alloc (.mapIter (some b) L.length #[] L.length)) ∧ It (W.alloc (.mapIter (some b) L.length #[] L.length)) W.heap.size b L.length [] :=
  ⟨run_range_map (P := P) W t k e b _ _ ht hb, by show (W.heap.push _)[W.heap.size]? = _; simp⟩
theorem MP.below {W W' : World} {kv : K → Value} {b B : Nat} {L : List (K × Value)} (h : MP W kv b L) (hb : Below B W W') (hlt : b < B) : MP W' kv b L := (hb.block b hlt).trans h
end

/-! ### programmes by payment -/
abbrev ShA := List (Int × Nat × List Int)
def ent (x : Int × Nat × List Int) : Int × Value := (x.1, .map (some x.2.1))
def inn (l : List Int) : List (Int × Value) := l.map fun p => (p, .bool true)
def flat (A : ShA) : List (Int × List Int) := A.map fun x => (x.1, x.2.2)
structure ShM (W : World) (M : Nat) (A : ShA) : Prop where
  mp : MP W ik M (A.map ent)
  inner : ∀ x ∈ A, MP W ik x.2.1 (inn x.2.2)
  above : ∀ x ∈ A, M < x.2.1
  apart : (A.map (·.2.1)).Nodup

theorem ShM.lt {W : World} {M : Nat} {A : ShA} (h : ShM W M A) : M < W.heap.size := lt_of_block h.mp
theorem ShM.lt' {W : World} {M : Nat} {A : ShA} (h : ShM W M A) {x : Int × Nat × List Int} (hx : x ∈ A) : x.2.1 < W.heap.size := lt_of_block (h.inner x hx)
theorem ShM.below {W W' : World} {M : Nat} {A : ShA} (h : ShM W M A) (hb : Below W.heap.size W W') : ShM W' M A :=
  ⟨(hb.block M h.lt).trans h.mp, fun x hx => (hb.block _ (h.lt' hx)).trans (h.inner x hx), h.above, h.apart⟩
theorem ShM.start {W : World} {M : Nat} (h : W.heap[M]? = some (.map #[] 0)) : ShM W M [] := ⟨h, by simp, by simp, by simp⟩

theorem pos_ent {k : Int} {A : ShA} {j : Nat} {v : Value} (h : pos k (A.map ent) 0 = some (j, v)) : ∃ b l, A[j]? = some (k, b, l) ∧ v = .map (some b) := by
  obtain ⟨_, hat⟩ := pos_at k _ 0 j v h
  rw [Nat.sub_zero, List.getElem?_map] at hat
  cases hx : A[j]? with
  | none => rw [hx] at hat; cases hat
  | some x =>
    rw [hx] at hat
    simp only [Option.map_some, Option.some.injEq, ent, Prod.mk.injEq] at hat
    obtain ⟨x1, x2, x3⟩ := x
    obtain ⟨h1, h2⟩ := hat
    simp only at h1 h2
    subst h1
    exact ⟨x2, x3, rfl, h2.symm⟩
theorem pos_ent_none {k : Int} {A : ShA} (h : pos k (A.map ent) 0 = none) : ∀ x ∈ A, x.1 ≠ k := fun x hx => (pos_none k _ 0).1 h (ent x) (List.mem_map_of_mem hx)

theorem pos_inn (p : Int) (l : List Int) : ∀ n, p ∈ l → ∃ j, pos p (inn l) n = some (j, .bool true) := by
  induction l with
  | nil => intro n h; simp at h
  | cons x t ih =>
    intro n h
    show ∃ j, (if p = x then some (n, Value.bool true) else pos p (inn t) (n + 1)) = _
    by_cases e : p = x
    · exact ⟨n, by rw [if_pos e]⟩
    · rw [if_neg e]
      exact ih _ ((List.mem_cons.1 h).resolve_left e)
theorem upd_inn (p : Int) (l : List Int) : upd p (.bool true) (inn l) = inn (Nt.addp l p) := by
  unfold upd Nt.addp
  by_cases h : p ∈ l
  · rw [if_pos h]
    obtain ⟨j, hj⟩ := pos_inn p l 0 h
    rw [hj]
    obtain ⟨_, hat⟩ := pos_at p _ 0 j _ hj
    rw [Nat.sub_zero] at hat
    show setv (inn l) j (.bool true) = inn l
    unfold setv
    refine List.ext_getElem? fun i => ?_
    rw [List.getElem?_modify]
    by_cases e : j = i
    · subst e; rw [hat]; simp
    · simp [e]
  · rw [if_neg h]
    have : pos p (inn l) 0 = none := (pos_none p _ 0).2 fun x hx => by
      obtain ⟨y, hy, rfl⟩ := List.mem_map.1 hx
      rintro rfl
      exact h hy
    rw [this]
    simp [inn]

theorem flat_setA (A : ShA) (j : Nat) (x : Int × Nat × List Int) : flat (A.set j x) = (flat A).set j (x.1, x.2.2) := by simp [flat, List.map_set]

/-- A programme more in an entry. -/
theorem ShM.add {W : World} {M : Nat} {A : ShA} (h : ShM W M A) {j b : Nat} {k : Int} {l : List Int} (hj : A[j]? = some (k, b, l)) (p : Int) :
    ∃ W2, (Instr.mapUpdate 72 (.map (some b)) (.int .i64 p) (.bool true)).run Tryz.prog W = .ok () W2 ∧ ShM W2 M (A.set j (k, b, Nt.addp l p)) ∧ Kp (· = b) W W2 := by
  have hmem := List.mem_of_getElem? hj
  have hjl : j < A.length := (List.getElem?_eq_some_iff.1 hj).1
  have hin : MP W ik b (inn l) := h.inner _ hmem
  have hab : M < b := h.above _ hmem
  have hr := run_mapUpdate keyInt Tryz.underlying72 W b (inn l) p (.bool true) hin
  have hm := MP.setB ik (upd p (.bool true) (inn l)) hin
  rw [upd_inn] at hr hm
  refine ⟨_, hr, ?_, kp_setB W b _⟩
  have hent : (A.set j (k, b, Nt.addp l p)).map ent = A.map ent := by
    rw [List.map_set]
    refine List.ext_getElem? fun i => ?_
    rw [List.getElem?_set]
    split
    · rename_i e; subst e; rw [List.length_map, if_pos hjl, List.getElem?_map, hj]; rfl
    · rfl
  have hblk : (A.set j (k, b, Nt.addp l p)).map (·.2.1) = A.map (·.2.1) := by
    rw [List.map_set]
    refine List.ext_getElem? fun i => ?_
    rw [List.getElem?_set]
    split
    · rename_i e; subst e; rw [List.length_map, if_pos hjl, List.getElem?_map, hj]; rfl
    · rfl
  have hx : ∀ x ∈ A.set j (k, b, Nt.addp l p), x = (k, b, Nt.addp l p) ∨ (x ∈ A ∧ x.2.1 ≠ b) := by
    intro x hx
    obtain ⟨i, hi⟩ := List.mem_iff_getElem?.1 hx
    rw [List.getElem?_set] at hi
    split at hi
    · exact .inl (by first | exact (Option.some.inj hi).symm | (rw [if_pos hjl] at hi; exact (Option.some.inj hi).symm))
    · rename_i e
      refine .inr ⟨List.mem_of_getElem? hi, fun e2 => e ?_⟩
      have a1 : (A.map (·.2.1))[j]? = some b := by rw [List.getElem?_map, hj]; rfl
      have a2 : (A.map (·.2.1))[i]? = some b := by rw [List.getElem?_map, hi, ← e2]; rfl
      exact (List.getElem?_inj (by rw [List.length_map]; exact hjl) h.apart).1 (a1.trans a2.symm)
  refine ⟨?_, ?_, ?_, by rw [hblk]; exact h.apart⟩
  · rw [hent]
    exact (setB_block W b _ (Nat.ne_of_lt hab)).trans h.mp
  · intro x hxm
    rcases hx x hxm with rfl | ⟨h1, h2⟩
    · exact hm
    · exact (setB_block W b _ h2).trans (h.inner x h1)
  · intro x hxm
    rcases hx x hxm with rfl | ⟨h1, h2⟩
    · exact hab
    · exact h.above x h1

/-- A new entry. -/
theorem ShM.new {W : World} {M : Nat} {A : ShA} (h : ShM W M A) {k : Int} (hk : pos k (A.map ent) 0 = none) :
    ∃ W2, (Instr.mapUpdate 71 (.map (some M)) (.int .i64 k) (.map (some W.heap.size))).run Tryz.prog (W.alloc (.map #[] 0)) = .ok () W2 ∧ ShM W2 M (A ++ [(k, W.heap.size, [])]) ∧ Kp (· = M) W W2 := by
  have hb := below_alloc W (.map #[] 0)
  have h' := h.below hb
  have hr := run_mapUpdate keyInt Tryz.underlying71 (W.alloc (.map #[] 0)) M (A.map ent) k (.map (some W.heap.size)) h'.mp
  have hm := MP.setB ik (upd k (.map (some W.heap.size)) (A.map ent)) h'.mp
  have he : upd k (.map (some W.heap.size)) (A.map ent) = (A ++ [(k, W.heap.size, [])]).map ent := by
    unfold upd; rw [hk]; simp [ent]
  rw [he] at hr hm
  refine ⟨_, hr, ⟨hm, ?_, ?_, ?_⟩, (Kp.of_below hb).trans (kp_setB _ M _)⟩
  · intro x hx
    rcases List.mem_append.1 hx with hx | hx
    · exact (setB_block _ M _ (Nat.ne_of_gt (h.above x hx))).trans (h'.inner x hx)
    · rw [List.mem_singleton] at hx; subst hx
      refine (setB_block _ M _ (Nat.ne_of_gt h.lt)).trans ?_
      show (W.heap.push _)[W.heap.size]? = _
      simp [inn, ents]
  · intro x hx
    rcases List.mem_append.1 hx with hx | hx
    · exact h.above x hx
    · rw [List.mem_singleton] at hx; subst hx; exact h.lt
  · rw [List.map_append, List.nodup_append]
    refine ⟨h.apart, by simp, fun a ha b hbm e => ?_⟩
    obtain ⟨x, h1, rfl⟩ := List.mem_map.1 ha
    simp at hbm
    have := h.lt' h1
    omega

theorem ShM.lookup {W : World} {M : Nat} {A : ShA} (h : ShM W M A) (k : Int) :
    (Instr.lookup 71 (.map (some M)) (.int .i64 k) false).run Tryz.prog W = .ok (got k (.map none) (A.map ent)) W :=
  run_lookup (kv := ik) keyInt Tryz.underlying71 (.map none) W (by kernel_rfl) M (A.map ent) k h.mp
theorem got_none {k : Int} {A : ShA} (h : pos k (A.map ent) 0 = none) : got k (.map none) (A.map ent) = .map none := by unfold got; rw [h]
theorem got_some {k : Int} {A : ShA} {j : Nat} {v : Value} (h : pos k (A.map ent) 0 = some (j, v)) : got k (.map none) (A.map ent) = v := by unfold got; rw [h]
theorem pos_snoc {k : Int} {A : ShA} {b : Nat} {l : List Int} (h : pos k (A.map ent) 0 = none) : pos k ((A ++ [(k, b, l)]).map ent) 0 = some (A.length, .map (some b)) := by
  have hn := (pos_none k (A.map ent) 0).1 h
  have : ∀ (L : List (Int × Value)) n, (∀ x ∈ L, x.1 ≠ k) → pos k (L ++ [(k, .map (some b))]) n = some (n + L.length, .map (some b)) := by
    intro L
    induction L with
    | nil => intro n _; simp [pos]
    | cons x t ih =>
      intro n hx
      show (if k = x.1 then _ else pos k (t ++ _) (n + 1)) = _
      rw [if_neg (fun e => hx x (by simp) e.symm), ih (n + 1) (fun y hy => hx y (List.mem_cons_of_mem _ hy)), List.length_cons]
      rw [show n + 1 + t.length = n + (t.length + 1) by omega]
  have h2 := this (A.map ent) 0 hn
  rw [List.map_append, List.length_map, Nat.zero_add] at *
  exact h2
end Go.Proofs.YtcphclpekllcoaaGreatDoor
