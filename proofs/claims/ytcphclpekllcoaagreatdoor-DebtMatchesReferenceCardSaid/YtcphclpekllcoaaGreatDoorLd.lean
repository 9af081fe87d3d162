/- Walks: the laws' own helpers: rats. -/
import Derived.Test.YtcphclpekllcoaaGreatDoorLc
namespace Go.Proofs.YtcphclpekllcoaaGreatDoor
open Go.RowKit

def rcells (x : Nt.RS) : List Value := [.bool x.1, .string x.2.1, .string x.2.2]
def RL (w : World) (v : Value) (xs : List Nt.RS) : Prop := SC 3 w v (xs.map rcells)
theorem RL.at {w : World} {a : Option Addr} {c : Nat} {n : Nat} {ds : List Nt.RS} (h : RL w (.slice a n c) ds) {i : Nat} {d : Nt.RS} (hd : ds[i]? = some d) :
    ∃ p : Addr, a = some p ∧ n = ds.length ∧ w.cell? (p.add (i * 3)) = some (.bool d.1) ∧ w.cell? ⟨(p.add (i * 3)).block, (p.add (i * 3)).off + 1, none⟩ = some (.string d.2.1) ∧ w.cell? ⟨(p.add (i * 3)).block, (p.add (i * 3)).off + 2, none⟩ = some (.string d.2.2) := by
  obtain ⟨a', c', e, h2, h3, h4⟩ := h
  simp only [Value.slice.injEq, List.length_map] at e
  obtain ⟨rfl, rfl, rfl⟩ := e
  rcases h4 with ⟨_, h4, _⟩ | ⟨p, hp, h4⟩
  · rw [List.map_eq_nil_iff] at h4; subst h4; simp at hd
  · have hx : (ds.map rcells)[i]? = some (rcells d) := by rw [List.getElem?_map, hd]; rfl
    exact ⟨p, hp, rfl, h4 i 0 _ _ hx rfl, cell_add (h4 i 1 _ _ hx rfl), cell_add (h4 i 2 _ _ hx rfl)⟩
theorem str_ne {a b : ByteArray} (h : ¬ a = b) : (a.toList == b.toList) = false := by
  rw [beq_eq_false_iff_ne]
  intro e
  rw [ByteArray.toList_eq, ByteArray.toList_eq] at e
  exact h (ByteArray.ext (Array.toList_inj.1 e))

set_option maxRecDepth 100000 in
theorem rats_any (av bv : Value) (xs ys : List Nt.RS) (w : World) (ha : RL w av xs) (hb : RL w bv ys) (hx : xs.length ≤ 1000000) (_hy : ys.length ≤ 1000000) :
    Calls Tryz.prog 21 #[av, bv] w fun e w' => e = .returned (.bool (decide (xs = ys))) ∧ Below w.heap.size w w' := by
  obtain ⟨aa, ac, rfl, a1, a2, a3⟩ := ha
  rw [List.length_map] at a1 ⊢
  obtain ⟨ba, bc, rfl, b1, b2, b3⟩ := hb
  rw [List.length_map] at b1 ⊢
  have HA : Hid (RL w (.slice aa xs.length ac) xs) := ⟨aa, ac, by rw [List.length_map], by rw [List.length_map]; exact a1, a2, a3⟩
  have HB : Hid (RL w (.slice ba ys.length bc) ys) := ⟨ba, bc, by rw [List.length_map], by rw [List.length_map]; exact b1, b2, b3⟩
  clear a1 a2 a3 b1 b2 b3
  obtain ⟨R, hR⟩ : ∃ R, R = decide (xs = ys) := ⟨_, rfl⟩
  rw [← hR]
  have HR := Lib.hid hR
  clear hR
  by_cases hl : xs.length = ys.length
  · obtain ⟨n, hn⟩ : ∃ n, xs.length = n := ⟨_, rfl⟩
    rw [hn] at HA hx hl ⊢
    rw [← hl] at HB ⊢
    have HN := Lib.hid hn
    have HL := Lib.hid hl
    clear hn hl _hy
    go_enter Tryz.func21, Tryz.ntmps21
    go_wp2
    go_loopw [5] (fun i wr => ∃ k : Nat, i = .int .i64 k ∧ k ≤ n ∧ Below w.heap.size w wr ∧ ∀ j, j < k → xs[j]? = ys[j]?) (fun i _ => n - (intOf i).toNat)
    case atStart => exact ⟨0, rfl, Nat.zero_le _, Below.refl _ _, fun j h => absurd h (Nat.not_lt_zero j)⟩
    case round =>
      obtain ⟨k, rfl, hk, hB, hall⟩ := hrel
      by_cases hlt : k < n
      · obtain ⟨x, hx⟩ : ∃ x, xs[k]? = some x := ⟨_, List.getElem?_eq_getElem (HN.out.symm ▸ hlt)⟩
        obtain ⟨y, hy⟩ : ∃ y, ys[k]? = some y := ⟨_, List.getElem?_eq_getElem (HL.out ▸ hlt)⟩
        obtain ⟨g, rfl, -, c0, c1, c2⟩ := RL.at HA.out hx
        obtain ⟨g', rfl, -, e0, e1, e2⟩ := RL.at HB.out hy
        have d0 := below_cell hB c0
        have f0 := below_cell hB e0
        have d1 := below_cell hB c1
        have f1 := below_cell hB e1
        have d2 := below_cell hB c2
        have f2 := below_cell hB e2
        have h0 : (0 : Int) ≤ (k : Int) := Int.natCast_nonneg _
        have h1 : (k : Int) < (n : Int) := by omega
        have HX := Lib.hid hx
        have HY := Lib.hid hy
        have HALL := Lib.hid hall
        have HB0 := Lib.hid hB
        clear hx hy c0 c1 c2 e0 e1 e2 hall hB
        obtain ⟨xn, xa, xb⟩ := x
        obtain ⟨yn, ya, yb⟩ := y
        dsimp only at d0 d1 d2 f0 f1 f2
        by_cases h1' : xn = yn
        · by_cases h2' : xa = ya
          · by_cases h3' : xb = yb
            · subst h1' h2' h3'
              go_wp2_with fail
              go_quiet (fail)
              go_wp2
              go_roundw
              case rel => exact ⟨k + 1, rfl, hlt, below_drewN HB0.out _, fun j hj => by
                by_cases e : j = k
                · subst e; rw [HX.out, HY.out]
                · exact HALL.out j (by omega)⟩
              case measure => simp [intOf]; omega
            · have hb : (xb.toList == yb.toList) = false := str_ne h3'
              have HF : Hid (R = false) := HR.out.trans (decide_eq_false (list_ne HX.out HY.out (fun e => h3' (congrArg (fun z : Nt.RS => z.2.2) e))))
              subst h1' h2'
              go_wp2_with fail
              go_quiet (fail)
              go_wp2
              go_ret
              have hF : _ = _ := HF
              exact ⟨by rw [hF]; rfl, below_drewN HB0.out _⟩
          · have hb : (xa.toList == ya.toList) = false := str_ne h2'
            have HF : Hid (R = false) := HR.out.trans (decide_eq_false (list_ne HX.out HY.out (fun e => h2' (congrArg (fun z : Nt.RS => z.2.1) e))))
            subst h1'
            go_wp2_with fail
            go_quiet (fail)
            go_wp2
            go_ret
            have hF : _ = _ := HF
            exact ⟨by rw [hF]; rfl, below_drewN HB0.out _⟩
        · have hb : (xn == yn) = false := by simpa using h1'
          have HF : Hid (R = false) := HR.out.trans (decide_eq_false (list_ne HX.out HY.out (fun e => h1' (congrArg (fun z : Nt.RS => z.1) e))))
          go_wp2_with fail
          go_quiet (fail)
          go_wp2
          go_ret
          have hF : _ = _ := HF
          exact ⟨by rw [hF]; rfl, below_drewN HB0.out _⟩
      · obtain rfl : k = n := by omega
        have HF : Hid (R = true) := HR.out.trans (decide_eq_true (List.ext_getElem? (fun j => by
          by_cases hj : j < k
          · exact hall j hj
          · rw [List.getElem?_eq_none (by have := HN.out; omega), List.getElem?_eq_none (by have := HL.out; omega)])))
        have HB0 := Lib.hid hB
        clear hall hB
        go_wp2
        go_ret
        have hF : _ = _ := HF
        exact ⟨by rw [hF]; rfl, HB0.out⟩
  · have HF : Hid (R = false) := HR.out.trans (decide_eq_false (fun e => hl (by rw [e])))
    have hb : ((xs.length : Int) == (ys.length : Int)) = false := by rw [beq_eq_false_iff_ne]; omega
    go_enter Tryz.func21, Tryz.ntmps21
    go_wp2
    go_ret
    have hF : _ = _ := HF
    exact ⟨by rw [hF]; rfl, Below.refl _ _⟩
end Go.Proofs.YtcphclpekllcoaaGreatDoor
