/- Plain lemmas: debts in the opposite order, and twice; no Go and no memory. -/
import Derived.Test.YtcphclpekllcoaaGreatDoorSplit
namespace Go.Proofs.YtcphclpekllcoaaGreatDoor.Nt

theorem allOk_rev (ds : List Deb) (ps : List Pay) (t : Int) : allOk ds.reverse ps t = allOk ds ps t := by
  unfold allOk; rw [List.length_reverse, List.all_reverse]
theorem allOk_twice (ds : List Deb) (ps : List Pay) (t : Int) (h : ds.length ≤ 12) : allOk (ds ++ ds.reverse) ps t = allOk ds ps t := by
  unfold allOk
  rw [List.all_append, List.all_reverse, Bool.and_self, List.length_append, List.length_reverse, decide_eq_true (show ds.length + ds.length ≤ 1000 by omega), decide_eq_true (show ds.length ≤ 1000 by omega)]
theorem settle_rev (ds : List Deb) (ps : List Pay) (t : Int) : settle ds.reverse ps t = (settle ds ps t).reverse := by
  unfold settle; rw [List.map_reverse]
theorem splitR_mem {ds es : List Deb} (ps : List Pay) (t p : Int) (h : ∀ d, d ∈ ds ↔ d ∈ es) : splitR ds ps t p = splitR es ps t p := by
  unfold splitR
  congr 1
  refine List.map_congr_left fun k _ => ?_
  have hq : ∀ q, q ∈ progs ds ps t (k : Int) ↔ q ∈ progs es ps t (k : Int) := fun q => (mem_progs ds ps t _ q).trans (Iff.trans ⟨fun ⟨d, a, b⟩ => ⟨d, (h d).1 a, b⟩, fun ⟨d, a, b⟩ => ⟨d, (h d).2 a, b⟩⟩ (mem_progs es ps t _ q).symm)
  exact part_eq (nodup_ddp _) (nodup_ddp _) hq p
theorem split_rev (ds : List Deb) (ps : List Pay) (t n : Int) : split ds.reverse ps t n = split ds ps t n := by
  unfold split splitOk
  rw [allOk_rev, List.all_reverse]
  have : (fun p : Nat => rs (splitR ds.reverse ps t (p : Int))) = fun p : Nat => rs (splitR ds ps t (p : Int)) := by
    funext p
    rw [splitR_mem ps t _ (fun d => List.mem_reverse)]
  rw [this]
theorem split_twice (ds : List Deb) (ps : List Pay) (t n : Int) (h : ds.length ≤ 12) : split (ds ++ ds.reverse) ps t n = split ds ps t n := by
  unfold split splitOk
  rw [allOk_twice _ _ _ h, List.all_append, List.all_reverse, Bool.and_self]
  have : (fun p : Nat => rs (splitR (ds ++ ds.reverse) ps t (p : Int))) = fun p : Nat => rs (splitR ds ps t (p : Int)) := by
    funext p
    rw [splitR_mem (es := ds) ps t _ (fun d => by rw [List.mem_append, List.mem_reverse, or_self])]
  rw [this]

/-! ### later moments, further payments -/
theorem win_le {n lo hi hi' : Int} (h : win n lo hi = true) (hh : hi ≤ hi') : win n lo hi' = true := by
  unfold win at *
  simp only [Bool.and_eq_true, decide_eq_true_eq] at *
  omega
theorem fit_later {d : Deb} {p : Pay} {t u : Int} (h : fit d p t = true) (hu : t ≤ u) : fit d p u = true := by
  unfold fit at *
  simp only [Bool.and_eq_true] at *
  exact ⟨h.1, win_le h.2 (by omega)⟩
theorem fit_at {d : Deb} {p : Pay} {t : Int} (h : fit d p t = true) : d.fr ≤ p.at_ ∧ p.at_ ≤ min d.un t := by
  unfold fit win at h
  simp only [Bool.and_eq_true, decide_eq_true_eq] at h
  exact h.2
theorem fit_sooner {d : Deb} {p : Pay} {t u : Int} (h : fit d p u = true) (hp : p.at_ ≤ t) : fit d p t = true := by
  have h1 := fit_at h
  unfold fit win at *
  simp only [Bool.and_eq_true, decide_eq_true_eq] at *
  omega
/-- Up to a later moment, a debt that was settled is settled by the same payment. -/
theorem settle1_later {ps : List Pay} {d : Deb} {t u : Int} (hu : t ≤ u) (h : 0 ≤ settle1 ps t d) : settle1 ps u d = settle1 ps t d := by
  rcases settle1_best ps t d with ⟨h1, _⟩ | ⟨i, p, h1, hi, hp, hf, hm⟩
  · omega
  · refine (settle1_best ps u d).unique ?_
    refine .inr ⟨i, p, h1, hi, hp, fit_later hf hu, fun k q hk hq hfq => ?_⟩
    by_cases hqt : q.at_ ≤ t
    · exact hm k q hk hq (fit_sooner hfq hqt)
    · have := fit_at hf
      exact ⟨by omega, fun e => by omega⟩
/-- With a further payment at the end: the same one, or the further one, if it is earlier. -/
theorem settle1_more {ps : List Pay} {d : Deb} {t : Int} (f : Pay) {i : Nat} {p : Pay} (hb : settle1 ps t d = (i : Int)) (hp : ps[i]? = some p) :
    settle1 (ps ++ [f]) t d = (i : Int) ∨ (settle1 (ps ++ [f]) t d = (ps.length : Int) ∧ f.at_ < p.at_) := by
  have hil : i < ps.length := (List.getElem?_eq_some_iff.1 hp).1
  have hlen : (ps ++ [f]).length = ps.length + 1 := by simp
  rcases settle1_best ps t d with ⟨h1, _⟩ | ⟨i', p', h1, hi, hp', hf, hm⟩
  · omega
  · obtain rfl : i' = i := by omega
    rw [hp] at hp'
    obtain rfl := Option.some.inj hp'
    have hpa : (ps ++ [f])[i']? = some p := by rw [List.getElem?_append_left hi]; exact hp
    rcases settle1_best (ps ++ [f]) t d with ⟨_, h2⟩ | ⟨j, q, h2, hj, hq, hfq, hmq⟩
    · have := h2 i' p (by omega) hpa
      rw [hf] at this; cases this
    · rw [h2]
      by_cases hjn : j < ps.length
      · rw [List.getElem?_append_left hjn] at hq
        have a1 := hm j q hjn hq hfq
        have a2 := hmq i' p (by omega) hpa hf
        left
        have : i' = j := by
          have e : p.at_ = q.at_ := by omega
          have := a1.2 e
          have := a2.2 e.symm
          omega
        rw [this]
      · obtain rfl : j = ps.length := by omega
        rw [List.getElem?_append_right (Nat.le_refl _), Nat.sub_self] at hq
        obtain rfl := Option.some.inj hq
        have a2 := hmq i' p (by omega) hpa hf
        refine .inr ⟨rfl, ?_⟩
        by_cases e : f.at_ = p.at_
        · have := a2.2 e; omega
        · omega
theorem settle1_range (ps : List Pay) (t : Int) (d : Deb) (h : 0 ≤ settle1 ps t d) : ∃ (i : Nat) (p : Pay), settle1 ps t d = (i : Int) ∧ ps[i]? = some p := by
  rcases settle1_best ps t d with ⟨h1, _⟩ | ⟨i, p, h1, _, hp, _, _⟩
  · omega
  · exact ⟨i, p, h1, hp⟩
end Go.Proofs.YtcphclpekllcoaaGreatDoor.Nt
