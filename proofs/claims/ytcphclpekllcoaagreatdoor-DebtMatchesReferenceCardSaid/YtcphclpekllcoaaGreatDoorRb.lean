/- Walks: package observatoryref03: text, add, sub. -/
import Derived.Test.YtcphclpekllcoaaGreatDoorRa
import Derived.Deep.OwnRows
import Derived.Laws.OwnMore
namespace Go.Proofs.YtcphclpekllcoaaGreatDoor
open Go.RowKit Go.Sort Go.Deep

theorem info_u8 : (Tryz.prog.info? 5).map (fun i => (i.zero, i.size, i.bytes)) = some (some (.int .u8 0), 1, 1) := by kernel_rfl
def u8s (l : List Nat) : List Value := l.map fun (d : Nat) => Value.int .u8 (d : Int)

/-- The row that text fills from its end. -/
def TextRow (W : World) (N : Nat) (l : List Nat) (k : Nat) : Prop :=
  ∃ cur : Array Value, W.heap[N]? = some (.cells cur 5) ∧ cur.size = l.length ∧ ∀ (j d : Nat), j < k → l[j]? = some d → cur[l.length - 1 - j]? = some (.int .u8 ((48 + d : Nat) : Int))
theorem TextRow.new (W : World) (l : List Nat) : TextRow (W.alloc (.cells (madeCells #[.int .u8 0] l.length) 5)) W.heap.size l 0 :=
  ⟨_, kept_new (Below.refl _ _), by simp [madeCells], fun j d h => absurd h (Nat.not_lt_zero j)⟩
theorem TextRow.cell {W : World} {N : Nat} {l : List Nat} {k j : Nat} (h : TextRow W N l k) (hj : j < l.length) : (∃ x, W.cell? ⟨N, j, none⟩ = some x) ∧ W.frozen? ⟨N, j, none⟩ = false := by
  obtain ⟨cur, h1, h2, -⟩ := h
  refine ⟨⟨cur[j]'(by omega), ?_⟩, by simp [World.frozen?, h1]⟩
  rw [cell_of_row W N j cur _ (0, 0) h1]; simp
theorem TextRow.set {W : World} {N : Nat} {l : List Nat} {k j d : Nat} (h : TextRow W N l k) (hj : l.length = k + 1 + j) (hd : l[k]? = some d) : TextRow (W.setCell ⟨N, j, none⟩ (.int .u8 ((48 + d : Nat) : Int))) N l (k + 1) := by
  obtain ⟨cur, h1, h2, h3⟩ := h
  refine ⟨_, row_setCell h1, by simp [h2], fun i e hi he => ?_⟩
  by_cases hik : i = k
  · subst hik
    rw [hd] at he
    obtain rfl := Option.some.inj he
    rw [show l.length - 1 - i = j by omega, Array.getElem?_setIfInBounds_self, if_pos (by omega)]
  · have hil := (List.getElem?_eq_some_iff.1 he).1
    rw [Array.getElem?_setIfInBounds_ne (by omega)]
    exact h3 i e (by omega) he
theorem TextRow.done {W : World} {N : Nat} {l : List Nat} (h : TextRow W N l l.length) (hd : ∀ d ∈ l, d < 10) : ∀ j (hj : j < (Nt.chars l).length), W.cell? ((⟨N, 0, none⟩ : Addr).add j) = some (.int .u8 ((Nt.chars l)[j].toNat : Int)) := by
  obtain ⟨cur, h1, h2, h3⟩ := h
  intro j hj
  rw [Nt.chars_length] at hj
  have hk : l.length - 1 - j < l.length := by omega
  have h4 := h3 _ _ hk (List.getElem?_eq_getElem hk)
  have h5 := Nt.chars_at (List.getElem?_eq_getElem hk)
  rw [show l.length - 1 - (l.length - 1 - j) = j by omega] at h4 h5
  have h6 : (Nt.chars l)[j]'(by rw [Nt.chars_length]; omega) = UInt8.ofNat (48 + l[l.length - 1 - j]) := by
    have := List.getElem?_eq_some_iff.1 h5
    exact this.2
  rw [Lib.add_plain, Nat.zero_add, cell_of_row W N j cur _ (0, 0) h1, h4, h6, Nt.u8_of _ (hd _ (List.getElem_mem _))]

set_option maxRecDepth 100000 in
theorem r3text_any (g c : Nat) (l : List Nat) (w : World) (hl : 0 < l.length) (hl2 : l.length ≤ 100000) (hd : ∀ d ∈ l, d < 10) (hc : ∀ (i d : Nat), l[i]? = some d → w.cell? ⟨g, i, none⟩ = some (.int .u8 (d : Int))) :
    Calls Tryz.prog 98 #[.slice (some ⟨g, 0, none⟩) l.length c] w fun e w' => e = .returned (.string (Nt.nat2s (Nt.lv l))) ∧ Below w.heap.size w w' := by
  have HD := Lib.hid hd
  have HC := Lib.hid hc
  have hmk := fun W => run_make_row' (P := Tryz.prog) 118 5 (.int .u8 0) 1 Tryz.underlying118 info_u8 rfl .i64 .i64 l.length (by omega) (by omega) W
  have HT := Lib.hid fun W => r3trim_any ⟨(Nt.chars l).toArray⟩ W (by simpa using Nt.chars_all hd) (by rw [ByteArray.size]; simp [Nt.chars_length]; omega) (by rw [ByteArray.size]; simp [Nt.chars_length]; omega)
  rw [show Nt.val (⟨(Nt.chars l).toArray⟩ : ByteArray).data.toList = Nt.lv l by simpa using Nt.val_chars hd] at HT
  have HLN : Hid ((Nt.chars l).length = l.length) := Nt.chars_length l
  clear hd hc
  go_enter Tryz.func98, Tryz.ntmps98
  go_wp2
  go_loopw [4] (fun i wr => ∃ k : Nat, i = .int .i64 k ∧ k ≤ l.length ∧ Below w.heap.size w wr ∧ TextRow wr w.heap.size l k) (fun i _ => l.length - (intOf i).toNat)
  case atStart => exact ⟨0, rfl, Nat.zero_le _, (Below.refl _ _).alloc (Nat.le_refl _) _, TextRow.new w l⟩
  case round =>
    obtain ⟨k, rfl, hk, hB, hR⟩ := hrel
    by_cases hlt : k < l.length
    · obtain ⟨d, hld⟩ : ∃ d, l[k]? = some d := ⟨_, List.getElem?_eq_getElem hlt⟩
      obtain ⟨j, hj⟩ : ∃ j, l.length = k + 1 + j := ⟨l.length - (k + 1), by omega⟩
      have hd9 : d < 10 := HD.out d (List.mem_of_getElem? hld)
      have c0 := below_cell hB (HC.out k d hld)
      obtain ⟨⟨x, c1⟩, f1⟩ := hR.cell (show j < l.length by omega)
      have hjn : (l.length : Int) - 1 - (k : Int) = (j : Int) := by omega
      have j0 : (0 : Int) ≤ (j : Int) := Int.natCast_nonneg _
      have j1 : (j : Int) < (l.length : Int) := by omega
      have k0 : (0 : Int) ≤ (k : Int) := Int.natCast_nonneg _
      have k1 : (k : Int) < (l.length : Int) := by omega
      have hd0 : (0 : Int) ≤ (d : Int) := Int.natCast_nonneg _
      have hd1 : (d : Int) ≤ 9 := by omega
      have HSET := Lib.hid (hR.set hj hld)
      have HB := Lib.hid hB
      clear hR hB hld hj hd9
      go_wp2
      go_roundw
      case rel => exact ⟨k + 1, rfl, hlt, HB.out.setCell (p := ⟨w.heap.size, j, none⟩) (Nat.le_refl _) _, by
        have := HSET.out
        rw [show ((48 + d : Nat) : Int) = (d : Int) + 48 by omega] at this
        exact this⟩
      case measure => simp [intOf]; omega
    · obtain rfl : k = l.length := by omega
      have hcv := run_convert_bytes_back (P := Tryz.prog) wr 118 9 5 ⟨w.heap.size, 0, none⟩ l.length (Nt.chars l) Tryz.underlying118 Tryz.underlying5 Tryz.underlying9 (hR.done HD.out)
      rw [HLN.out] at hcv
      have HB := Lib.hid hB
      clear hR hB
      go_wp2_with fail
      refine (HT.out _).mono ?_
      rintro e W2 ⟨rfl, rfl⟩
      go_wp2
      go_ret
      exact ⟨rfl, HB.out⟩

/-- What a sum or a difference has collected. -/
def OutRow (w wr : World) (v : Value) (l : List Nat) : Prop := wr.ownsRow w.heap.size 5 1 v l.length (u8s l) ∧ Below w.heap.size w wr
theorem OutRow.arg {w wr : World} {v : Value} {l : List Nat} (h : OutRow w wr v l) (hl : 0 < l.length) : ∃ g c, v = .slice (some ⟨g, 0, none⟩) l.length c ∧ ∀ (i d : Nat), l[i]? = some d → wr.cell? ⟨g, i, none⟩ = some (.int .u8 (d : Int)) := by
  obtain ⟨h1, -⟩ := h
  have h1' := h1
  obtain ⟨-, ⟨-, h0⟩ | ⟨g, cap, cur, rfl, -⟩⟩ := h1
  · omega
  · refine ⟨g, cap, rfl, fun i d hi => ?_⟩
    have hlt := (List.getElem?_eq_some_iff.1 hi).1
    rw [h1'.cellAt i (by omega)]
    unfold u8s
    rw [List.getElem?_map, hi]; rfl
theorem OutRow.start (w : World) : OutRow w w (.slice none 0 0) [] := ⟨World.ownsRow_nil _ _ _ _, Below.refl _ _⟩
theorem OutRow.grown {w wr w1 : World} {v v' : Value} {l : List Nat} {d : Nat} (h : OutRow w wr v l) (o : Obj) (hown : w1.ownsRow w.heap.size 5 1 v' (l.length + 1) (u8s l ++ [.int .u8 (d : Int)])) (hg : (wr.alloc o).grownBy w1 v.ownBlock) : OutRow w w1 v' (l ++ [d]) := by
  refine ⟨?_, ?_⟩
  · rw [List.length_append, List.length_singleton]
    have : u8s (l ++ [d]) = u8s l ++ [.int .u8 (d : Int)] := by unfold u8s; simp
    rw [this]; exact hown
  · exact (h.2.alloc h.2.size o).grown hg (Nat.le_trans h.2.size (by simp)) (fun k e => (h.1.lt k e).1)

set_option maxHeartbeats 1600000 in
set_option maxRecDepth 100000 in
theorem r3add_any (m n : Nat) (w : World) (hm : Lib.nDigits m ≤ 1000) (hn : Lib.nDigits n ≤ 1000) :
    Calls Tryz.prog 77 #[.string (Nt.nat2s m), .string (Nt.nat2s n)] w fun e w' => e = .returned (.string (Nt.nat2s (m + n))) ∧ Below w.heap.size w w' := by
  have HA1 := Lib.hid fun i W hi => r3at_any m i W (by omega) hi
  have HA2 := Lib.hid fun i W hi => r3at_any n i W (by omega) hi
  have h1 := Nt.nat2s_size m
  have h2 := Nt.nat2s_size n
  have hp := Lib.nDigits_pos m
  generalize Nt.nat2s m = s at *
  generalize Nt.nat2s n = u at *
  have HM : Hid (Lib.nDigits m ≤ s.size) := Nat.le_of_eq h1.symm
  have HN : Hid (Lib.nDigits n ≤ u.size) := Nat.le_of_eq h2.symm
  have hs1 : s.size ≤ 1000 := by omega
  have hs0 : 1 ≤ s.size := by omega
  have hu1 : u.size ≤ 1000 := by omega
  clear h1 h2 hm hn hp
  obtain ⟨i0, hi, hz0, hz1, hz2⟩ := info_parts info_u8
  go_enter Tryz.func77, Tryz.ntmps77
  go_wp2
  go_loopw [5, 6, 7, 8] (fun v c i _ wr => ∃ (k cc : Nat) (l : List Nat), i = .int .i64 k ∧ c = .int .i64 cc ∧ k ≤ 1001 ∧ Nt.AddSt m n k l cc ∧ OutRow w wr v l) (fun _ _ i _ _ => 1001 - (intOf i).toNat)
  case atStart => exact ⟨0, 0, [], rfl, rfl, by omega, Nt.AddSt.start m n, OutRow.start w⟩
  case round =>
    obtain ⟨k, cc, l, rfl, rfl, hk, hA, hO⟩ := hrel
    have hc1 := hA.car
    have hlen := hA.len
    by_cases hgo : k < s.size ∨ k < u.size ∨ 0 < cc
    · have hk2 : k ≤ 1000 := by
        apply Classical.byContradiction
        intro hk2
        obtain rfl : k = 1000 + 1 := by omega
        have := hA.nocar (by have := HM.out; omega) (by have := HN.out; omega)
        omega
      have hd1 := Nt.dgt_lt m k
      have hd2 := Nt.dgt_lt n k
      have HST := Lib.hid hA.step
      have HX1 := Lib.hid fun W => HA1.out k W (by omega)
      have HX2 := Lib.hid fun W => HA2.out k W (by omega)
      generalize Nt.dgt m k = x at *
      generalize Nt.dgt n k = y at *
      have q1 : ((x : Int) + (y : Int) + (cc : Int)) / 10 = (((x + y + cc) / 10 : Nat) : Int) := by omega
      have q2 : ((x : Int) + (y : Int) + (cc : Int)) % 10 = (((x + y + cc) % 10 : Nat) : Int) := by omega
      have x0 : (0 : Int) ≤ (x : Int) := Int.natCast_nonneg _
      have y0 : (0 : Int) ≤ (y : Int) := Int.natCast_nonneg _
      have z0 : (0 : Int) ≤ (cc : Int) := Int.natCast_nonneg _
      have x1 : (x : Int) ≤ 9 := by omega
      have y1 : (y : Int) ≤ 9 := by omega
      have z1 : (cc : Int) ≤ 1 := by omega
      have r9 : (x + y + cc) % 10 < 10 := Nat.mod_lt _ (by decide)
      have HLEN := Lib.hid hlen
      have HO := Lib.hid hO
      have hgo' : (k < s.size) ∨ (¬ k < s.size ∧ k < u.size) ∨ (¬ k < s.size ∧ ¬ k < u.size ∧ 0 < cc) := by omega
      generalize (x + y + cc) / 10 = q at *
      generalize (x + y + cc) % 10 = r at *
      clear hA hlen hO hd1 hd2 hc1 hgo
      have hown := HO.out.1.alloc (.cells #[.int .u8 (r : Int)] 5)
      have hc8 : ∀ j v, ([Value.int .u8 (r : Int)] : List Value)[j]? = some v → (wr.alloc (.cells #[.int .u8 (r : Int)] 5)).cell? ((⟨wr.heap.size, 0, none⟩ : Addr).add j) = some v := by
        intro j v hj
        cases j with
        | zero => simp at hj; subst hj; exact World.cell?_alloc_new _ _ _ _
        | succ j => simp at hj
      have hsz8 := HO.out.2.size
      have hll : l.length ≤ 1000 := by have := HLEN.out; omega
      rcases hgo' with g1 | ⟨g1, g2⟩ | ⟨g1, g2, g3⟩
      all_goals
        go_wp2_with fail
        refine (HX1.out _).mono ?_
        rintro e W1 ⟨rfl, rfl⟩
        go_wp2_with fail
        refine (HX2.out _).mono ?_
        rintro e W1 ⟨rfl, rfl⟩
        go_wp2_with (at_builtin; go_must (refine wpList_append_own _ rfl _ _ 118 rfl w.heap.size 5 i0 (.int .u8 0) 1 1 Tryz.underlying118 hi hz0 hz1 hz2 rfl (by decide) _ _ _ rfl hown ⟨wr.heap.size, 0, none⟩ 1 1 [.int .u8 (r : Int)] rfl rfl hc8 (by intro u hu; simp at hu; subst hu; rfl) (by unfold maxLen; omega) (by omega) (by simp; omega) ?_); intro v' w1 hown' hgrow _)
        have HO2 := Lib.hid (HO.out.grown _ hown' hgrow)
        clear hown hown' hgrow hc8
        go_wp2
        go_roundw
        case rel => exact ⟨k + 1, q, l ++ [r], rfl, by first | rfl | rw [q1], by omega, HST.out, HO2.out⟩
        case measure => simp [intOf]; omega
    · obtain ⟨e1, e2, e3⟩ : ¬ k < s.size ∧ ¬ k < u.size ∧ ¬ 0 < cc := by omega
      obtain rfl : cc = 0 := by omega
      have he := hA.end_ (by have := HM.out; omega) (by have := HN.out; omega)
      have hl0 : 0 < l.length := by omega
      have hl1 : l.length ≤ 100000 := by omega
      obtain ⟨g, c, rfl, hcell⟩ := hO.arg hl0
      have HTX := Lib.hid (r3text_any g c l wr hl0 hl1 hA.dig hcell)
      rw [he] at HTX
      have HB := Lib.hid hO.2
      clear he hcell hO hA hlen hgo hc1
      go_wp2_with fail
      refine HTX.out.mono ?_
      rintro e W2 ⟨rfl, hb2⟩
      go_wp2
      go_ret
      exact ⟨rfl, below_trans HB.out hb2⟩
set_option maxHeartbeats 1600000 in
set_option maxRecDepth 100000 in
theorem r3sub_any (m n : Nat) (w : World) (hm : Lib.nDigits m ≤ 1001) (hn : Lib.nDigits n ≤ 1001) (hle : n ≤ m) :
    Calls Tryz.prog 79 #[.string (Nt.nat2s m), .string (Nt.nat2s n)] w fun e w' => e = .returned (.string (Nt.nat2s (m - n))) ∧ Below w.heap.size w w' := by
  have HA1 := Lib.hid fun i W hi => r3at_any m i W (by omega) hi
  have HA2 := Lib.hid fun i W hi => r3at_any n i W (by omega) hi
  have h1 := Nt.nat2s_size m
  have hp := Lib.nDigits_pos m
  generalize Nt.nat2s m = s at *
  generalize Nt.nat2s n = u at *
  have HM : Hid (Lib.nDigits m ≤ s.size) := Nat.le_of_eq h1.symm
  have HLE := Lib.hid hle
  have hs1 : s.size ≤ 1001 := by omega
  have hs0 : 1 ≤ s.size := by omega
  clear h1 hm hn hp hle
  obtain ⟨i0, hi, hz0, hz1, hz2⟩ := info_parts info_u8
  go_enter Tryz.func79, Tryz.ntmps79
  go_wp2
  go_loopw [5, 6, 7, 8] (fun v c i _ wr => ∃ (k cc : Nat) (l : List Nat), i = .int .i64 k ∧ c = .int .i64 cc ∧ k ≤ s.size ∧ Nt.SubSt m n k l cc ∧ OutRow w wr v l) (fun _ _ i _ _ => s.size - (intOf i).toNat)
  case atStart => exact ⟨0, 0, [], rfl, rfl, by omega, Nt.SubSt.start m n, OutRow.start w⟩
  case round =>
    obtain ⟨k, cc, l, rfl, rfl, hk, hA, hO⟩ := hrel
    have hc1 := hA.bor
    have hlen := hA.len
    by_cases hgo : k < s.size
    · have hd1 := Nt.dgt_lt m k
      have hd2 := Nt.dgt_lt n k
      have HST := Lib.hid hA.step
      have HX1 := Lib.hid fun W => HA1.out k W (by omega)
      have HX2 := Lib.hid fun W => HA2.out k W (by omega)
      generalize Nt.dgt m k = x at *
      generalize Nt.dgt n k = y at *
      have q1 : 1 - ((x : Int) - (y : Int) - (cc : Int) + 10) / 10 = ((1 - (x + 10 - y - cc) / 10 : Nat) : Int) := by omega
      have q2 : ((x : Int) - (y : Int) - (cc : Int) + 10) % 10 = (((x + 10 - y - cc) % 10 : Nat) : Int) := by omega
      have x0 : (0 : Int) ≤ (x : Int) := Int.natCast_nonneg _
      have y0 : (0 : Int) ≤ (y : Int) := Int.natCast_nonneg _
      have z0 : (0 : Int) ≤ (cc : Int) := Int.natCast_nonneg _
      have x1 : (x : Int) ≤ 9 := by omega
      have y1 : (y : Int) ≤ 9 := by omega
      have z1 : (cc : Int) ≤ 1 := by omega
      have u0 : (0 : Int) ≤ (x : Int) - (y : Int) - (cc : Int) + 10 := by omega
      have u1 : (x : Int) - (y : Int) - (cc : Int) + 10 ≤ 19 := by omega
      have r9 : (x + 10 - y - cc) % 10 < 10 := Nat.mod_lt _ (by decide)
      have HLEN := Lib.hid hlen
      have HO := Lib.hid hO
      generalize 1 - (x + 10 - y - cc) / 10 = q at *
      generalize (x + 10 - y - cc) % 10 = r at *
      clear hA hlen hO hd1 hd2 hc1
      have hown := HO.out.1.alloc (.cells #[.int .u8 (r : Int)] 5)
      have hc8 : ∀ j v, ([Value.int .u8 (r : Int)] : List Value)[j]? = some v → (wr.alloc (.cells #[.int .u8 (r : Int)] 5)).cell? ((⟨wr.heap.size, 0, none⟩ : Addr).add j) = some v := by
        intro j v hj
        cases j with
        | zero => simp at hj; subst hj; exact World.cell?_alloc_new _ _ _ _
        | succ j => simp at hj
      have hsz8 := HO.out.2.size
      have hll : l.length ≤ 1001 := by have := HLEN.out; omega
      go_wp2_with fail
      refine (HX1.out _).mono ?_
      rintro e W1 ⟨rfl, rfl⟩
      go_wp2_with fail
      refine (HX2.out _).mono ?_
      rintro e W1 ⟨rfl, rfl⟩
      go_wp2_with (at_builtin; go_must (refine wpList_append_own _ rfl _ _ 118 rfl w.heap.size 5 i0 (.int .u8 0) 1 1 Tryz.underlying118 hi hz0 hz1 hz2 rfl (by decide) _ _ _ rfl hown ⟨wr.heap.size, 0, none⟩ 1 1 [.int .u8 (r : Int)] rfl rfl hc8 (by intro u hu; simp at hu; subst hu; rfl) (by unfold maxLen; omega) (by omega) (by simp; omega) ?_); intro v' w1 hown' hgrow _)
      have HO2 := Lib.hid (HO.out.grown _ hown' hgrow)
      clear hown hown' hgrow hc8
      go_wp2
      go_roundw
      case rel => exact ⟨k + 1, q, l ++ [r], rfl, by first | rfl | rw [q1], by omega, HST.out, HO2.out⟩
      case measure => simp [intOf]; omega
    · obtain rfl : k = s.size := by omega
      have he := hA.end_ HM.out HLE.out
      have hl0 : 0 < l.length := by omega
      have hl1 : l.length ≤ 100000 := by omega
      obtain ⟨g, c, rfl, hcell⟩ := hO.arg hl0
      have HTX := Lib.hid (r3text_any g c l wr hl0 hl1 hA.dig hcell)
      rw [he] at HTX
      have HB := Lib.hid hO.2
      clear he hcell hO hA hlen hgo hc1
      go_wp2_with fail
      refine HTX.out.mono ?_
      rintro e W2 ⟨rfl, hb2⟩
      go_wp2
      go_ret
      exact ⟨rfl, below_trans HB.out hb2⟩
end Go.Proofs.YtcphclpekllcoaaGreatDoor
