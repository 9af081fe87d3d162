/- Walks: rational.Add. -/
import Derived.Test.YtcphclpekllcoaaGreatDoorWp
namespace Go.Proofs.YtcphclpekllcoaaGreatDoor
open Go.RowKit

theorem heap4 (w : World) (a b c d : Obj) : let W := (((w.alloc a).alloc b).alloc c).alloc d
    W.heap[w.heap.size]? = some a ∧ W.heap[w.heap.size + 1]? = some b ∧ W.heap[w.heap.size + 2]? = some c ∧ W.heap[w.heap.size + 3]? = some d := by
  obtain ⟨h0, h1, h2⟩ := heap3 w a b c
  have hs : (((w.alloc a).alloc b).alloc c).heap.size = w.heap.size + 3 := by simp
  refine ⟨?_, ?_, ?_, ?_⟩
  · rw [← h0]; exact Below.heap_alloc _ _ _ (by omega)
  · rw [← h1]; exact Below.heap_alloc _ _ _ (by omega)
  · rw [← h2]; exact Below.heap_alloc _ _ _ (by omega)
  · have := kept_new (Below.refl ((((w.alloc a).alloc b).alloc c).alloc d).heap.size _) (w := ((w.alloc a).alloc b).alloc c) (o := d)
    rwa [hs] at this

theorem kp_cell {b : Nat} {W W' : World} (h : Kp (· = b) W W') {a : Addr} {v : Value} (hc : W.cell? a = some v) (hne : a.block ≠ b) : W'.cell? a = some v := by
  rw [← hc]
  exact World.cell?_of_block (h.block a.block (World.block_lt_of_cell? W a hc) hne)

/-- The state of a sum: the error in block B of W2's end, and nothing below is turned. -/
def G (W2 W : World) (e : Int) : Prop := Er W W2.heap.size e ∧ Below W2.heap.size W2 W
theorem G.start (W2 : World) : G W2 (W2.alloc (.cells #[.int .i64 0] 78)) 0 :=
  ⟨kept_new (Below.refl _ _), (Below.refl _ _).alloc (Nat.le_refl _) _⟩
theorem G.alloc {W2 W : World} {e : Int} (h : G W2 W e) (o : Obj) : G W2 (W.alloc o) e :=
  ⟨h.1.below ((Below.refl _ _).alloc (Nat.le_refl _) _), h.2.alloc h.2.size _⟩
theorem G.drew {W2 W : World} {e : Int} (h : G W2 W e) : G W2 W.drew e := ⟨h.1, h.2.drew⟩
theorem G.kp {W2 W W' : World} {e e' : Int} (h : G W2 W e) (hk : Kp (· = W2.heap.size) W W') (he : Er W' W2.heap.size e') : G W2 W' e' :=
  ⟨he, h.2.trans (hk.below (fun _ e => Nat.le_of_eq e.symm) h.2.size)⟩

/-- The new variable of a sum's denominator. -/
def Dd (W2 W : World) (c : Nat) : Prop := W2.heap.size < c ∧ dRat W c ⟨#[]⟩
theorem Dd.new {W2 W : World} {e : Int} (h : G W2 W e) : Dd W2 (W.alloc (.cells #[.string ⟨#[]⟩] 55)) W.heap.size :=
  ⟨h.1.lt, kept_new (Below.refl _ _)⟩
theorem Dd.newD {W2 W : World} {e : Int} (h : G W2 W e) : Dd W2 (W.drew.alloc (.cells #[.string ⟨#[]⟩] 55)) W.heap.size := Dd.new h.drew
theorem Dd.kp {W2 W W' : World} {c : Nat} (h : Dd W2 W c) (hk : Kp (· = W2.heap.size) W W') : Dd W2 W' c :=
  ⟨h.1, (hk.block c (lt_of_block h.2) (Nat.ne_of_gt h.1)).trans h.2⟩
theorem Dd.cell {W2 W : World} {c : Nat} (h : Dd W2 W c) : W.cell? ⟨c, 0, none⟩ = some (.string ⟨#[]⟩) ∧ W.frozen? ⟨c, 0, none⟩ = false := ⟨cell_of_one h.2, free_of_one h.2⟩
theorem G.set {W2 W : World} {e : Int} {c : Nat} (h : G W2 W e) (hd : Dd W2 W c) (v : Value) : G W2 (W.setCell ⟨c, 0, none⟩ v) e :=
  ⟨(Below.heap_setCell _ _ _ _ (Nat.ne_of_lt hd.1)).trans h.1, h.2.setCell (Nat.le_of_lt hd.1) v⟩

theorem rat_parts {x : Bool} {a b : ByteArray} {m d : Nat} (ha : Nt.num? a = some m) (hb : Nt.num? b = some d) (hv : Nt.rValid (x, a, b) = true) :
    ∃ q, Nt.rat? (x, a, b) = some q ∧ Nt.ng q = x ∧ Nt.nu q = m ∧ q.den = d := by
  unfold Nt.rValid at hv
  obtain ⟨q, hq⟩ := Option.isSome_iff_exists.1 hv
  refine ⟨q, hq, ?_⟩
  obtain ⟨e, hf⟩ := Nt.rat?_some hq
  simp only [Nt.rs, Prod.mk.injEq] at e
  obtain ⟨e0, e1, e2⟩ := e
  have hff := hf
  simp only [Nt.fitR, Bool.and_eq_true, decide_eq_true_eq] at hff
  refine ⟨e0.symm, ?_, ?_⟩
  · rw [e1, Nt.num?_nat2s _ hff.1] at ha
    exact Option.some.inj ha
  · rw [e2, Nt.num?_nat2s _ hff.2] at hb
    exact Option.some.inj hb

theorem addCase {x1 y1 : Bool} {a1 a2 b1 b2 : ByteArray} {m1 d1 m2 d2 : Nat} (ha1 : Nt.num? a1 = some m1) (ha2 : Nt.num? a2 = some d1) (hb1 : Nt.num? b1 = some m2) (hb2 : Nt.num? b2 = some d2)
    (hva : Nt.rValid (x1, a1, a2) = true) (hvb : Nt.rValid (y1, b1, b2) = true) :
    Nt.rAdd (x1, a1, a2) (y1, b1, b2) =
      if Nt.dig1000 (m1 * d2) = true ∧ Nt.dig1000 (m2 * d1) = true ∧ Nt.dig1000 (d1 * d2) = true then
        if x1 = y1 then if Nt.dig1000 (m1 * d2 + m2 * d1) = true then (Nt.rs (Nt.low x1 (m1 * d2 + m2 * d1) (d1 * d2)), 0) else rErr 2
        else if m1 * d2 < m2 * d1 then (Nt.rs (Nt.low y1 (m2 * d1 - m1 * d2) (d1 * d2)), 0) else (Nt.rs (Nt.low x1 (m1 * d2 - m2 * d1) (d1 * d2)), 0)
      else rErr 2 := by
  obtain ⟨q, hq, rfl, rfl, rfl⟩ := rat_parts ha1 ha2 hva
  obtain ⟨r, hr, rfl, rfl, rfl⟩ := rat_parts hb1 hb2 hvb
  unfold Nt.rAdd
  rw [hq, hr]
  show (if Nt.addFits q r = true then _ else _) = _
  unfold Nt.addFits
  simp only [Bool.and_eq_true, Bool.or_eq_true, bne_iff_ne]
  by_cases h3 : Nt.dig1000 (Nt.nu q * r.den) = true ∧ Nt.dig1000 (Nt.nu r * q.den) = true ∧ Nt.dig1000 (q.den * r.den) = true
  · rw [if_pos h3]
    by_cases hs : Nt.ng q = Nt.ng r
    · rw [if_pos hs]
      by_cases h4 : Nt.dig1000 (Nt.nu q * r.den + Nt.nu r * q.den) = true
      · rw [if_pos h4, if_pos ⟨⟨⟨h3.1, h3.2.1⟩, h3.2.2⟩, .inr h4⟩, Nt.add_same q r hs]
      · rw [if_neg h4, if_neg (fun h => h.2.elim (fun h => h hs) h4)]; rfl
    · rw [if_neg hs, if_pos ⟨⟨⟨h3.1, h3.2.1⟩, h3.2.2⟩, .inl hs⟩]
      by_cases h4 : Nt.nu q * r.den < Nt.nu r * q.den
      · rw [if_pos h4, Nt.add_less q r hs h4]
      · rw [if_neg h4, Nt.add_more q r hs (Nat.le_of_not_lt h4)]
  · rw [if_neg h3, if_neg (fun h => h3 ⟨h.1.1.1, h.1.1.2, h.1.2⟩)]; rfl

theorem nE_dig (n : Nat) : nE n = if Nt.dig1000 n = true then 0 else 2 := by simp [nE, Nt.dig1000]
theorem nS_dig {n : Nat} (h : Nt.dig1000 n = true) : nS n = Nt.nat2s n ∧ Nt.num? (nS n) = some n := by
  have h' : Lib.nDigits n ≤ 1000 := by simpa [Nt.dig1000] using h
  have e : nS n = Nt.nat2s n := if_pos h'
  exact ⟨e, by rw [e]; exact Nt.num?_nat2s n h'⟩
theorem e1_three (p q r : Nat) : e1 (e1 (e1 0 (nE p)) (nE q)) (nE r) = if Nt.dig1000 p = true ∧ Nt.dig1000 q = true ∧ Nt.dig1000 r = true then 0 else 2 := by
  simp only [e1, nE_dig]
  by_cases h1 : Nt.dig1000 p = true <;> by_cases h2 : Nt.dig1000 q = true <;> by_cases h3 : Nt.dig1000 r = true <;> simp [h1, h2, h3]

theorem join_any (b c : Nat) (neg : Bool) (S D : Nat) (r : ByteArray) (hr : Nt.num? r = some D) (hD : D ≠ 0) (X : Nt.RS × Int) (hX : X = if Nt.dig1000 S = true then (Nt.rs (Nt.low neg S D), 0) else rErr 2)
    (E : Int) (hE : E = e1 0 (nE S)) (W : World) (h : Er W b E) (hd : dRat W c r) (hT : Tab W) :
    Calls Tryz.prog 43 #[.bool neg, .string (nS S), .pointer (some ⟨b, 0, none⟩), .pointer (some ⟨c, 0, none⟩)] W fun e w' => e = .returned (.tuple (rout X)) ∧ Below W.heap.size W w' := by
  subst hX hE
  by_cases h4 : Nt.dig1000 S = true
  · have e : e1 0 (nE S) = 0 := by simp [e1, nE_dig, h4]
    rw [e] at h
    rw [if_pos h4]
    exact join_ok b c neg (nS S) r S D W h hd hT (nS_dig h4).2 hr hD
  · have e : e1 0 (nE S) = 2 := by simp [e1, nE_dig, h4]
    rw [e] at h
    rw [if_neg h4]
    exact join_err b c neg (nS S) 2 W h (by decide)

theorem G.below {W2 W W' : World} {e : Int} (h : G W2 W e) (hb : Below W.heap.size W W') : G W2 W' e := ⟨h.1.below hb, h.2.trans (hb.mono h.2.size)⟩
theorem G.set3 {W2 W : World} {e : Int} {N : Nat} (h : G W2 W e) (hN : ¬ N = W2.heap.size) (x y z : Value) : Er (((W.setCell ⟨N, 0, none⟩ x).setCell ⟨N, 1, none⟩ y).setCell ⟨N, 2, none⟩ z) W2.heap.size e :=
  (Below.heap_setCell _ _ _ _ (fun e => hN e.symm)).trans ((Below.heap_setCell _ _ _ _ (fun e => hN e.symm)).trans ((Below.heap_setCell _ _ _ _ (fun e => hN e.symm)).trans h.1))
theorem dRat.below {W W' : World} {c : Nat} {s : ByteArray} (h : dRat W c s) (hb : Below W.heap.size W W') : dRat W' c s := (hb.block c (lt_of_block h)).trans h
theorem dRat.kp {W2 W W' : World} {c : Nat} {s : ByteArray} (h : dRat W c s) (hc : c ≠ W2.heap.size) (hk : Kp (· = W2.heap.size) W W') : dRat W' c s :=
  (hk.block c (lt_of_block h) hc).trans h
theorem sub_out {p q : ByteArray} {P Q : Nat} (hp : Nt.num? p = some P) (hq : Nt.num? q = some Q) (h : Q ≤ P) : nSub p q = #[.string (nS (P - Q)), .int .i64 (nE (P - Q))] := by
  unfold nSub; rw [hp, hq]
  show (if P < Q then nErr 9 else nOut (P - Q)) = _
  rw [if_neg (Nat.not_lt.2 h), nOut_eq]

set_option maxHeartbeats 3200000 in
set_option maxRecDepth 100000 in
theorem add_sums (x1 y1 : Bool) (a1 a2 b1 b2 : ByteArray) (m1 d1 m2 d2 : Nat) (w : World) (hT : Tab w) (ha1 : Nt.num? a1 = some m1) (ha2 : Nt.num? a2 = some d1) (hb1 : Nt.num? b1 = some m2) (hb2 : Nt.num? b2 = some d2)
    (hva : Nt.rValid (x1, a1, a2) = true) (hvb : Nt.rValid (y1, b1, b2) = true) :
    Calls Tryz.prog 24 #[rv (x1, a1, a2), rv (y1, b1, b2)] w fun e w' => e = .returned (.tuple (rout (Nt.rAdd (x1, a1, a2) (y1, b1, b2)))) ∧ Below w.heap.size w w' := by
  have HV := Lib.hid fun W hTW => ratValid_any x1 a1 a2 W hTW (num_size ha1) (num_size ha2)
  have HV2 := Lib.hid fun W hTW => ratValid_any y1 b1 b2 W hTW (num_size hb1) (num_size hb2)
  have hd1 : d1 ≠ 0 := by obtain ⟨q, _, _, _, rfl⟩ := rat_parts ha1 ha2 hva; exact q.den_nz
  have hd2 : d2 ≠ 0 := by obtain ⟨q, _, _, _, rfl⟩ := rat_parts hb1 hb2 hvb; exact q.den_nz
  have HADD := Lib.hid (addCase ha1 ha2 hb1 hb2 hva hvb)
  generalize Nt.rAdd (x1, a1, a2) (y1, b1, b2) = X at *
  rw [hva] at HV
  rw [hvb] at HV2
  unfold rv at HV HV2 ⊢
  clear hva hvb
  have hcf : ∀ a W, (callFunc 42 a).run Tryz.prog W = .ok (.enter 42 a) W := fun _ _ => by kernel_rfl
  have B1 := (Below.refl w.heap.size w).alloc (Nat.le_refl _) (.cells #[.bool x1, .string a1, .string a2] 57)
  go_enter Tryz.func24, Tryz.ntmps24
  go_wp2_with fail
  refine (HV.out _ (hT.below ?_)).mono ?_
  · exact ((B1.alloc (by simp) _).alloc (by simp; omega) _)
  rintro e W1 ⟨rfl, hw1⟩
  obtain ⟨r0, r1, r2⟩ := heap3 w (.cells #[.bool x1, .string a1, .string a2] 57) (.cells #[.bool y1, .string b1, .string b2] 57) (.cells #[.bool false, .string ⟨#[]⟩, .string ⟨#[]⟩] 57)
  have B3 := ((B1.alloc (by simp) (.cells #[.bool y1, .string b1, .string b2] 57)).alloc (by simp; omega) (.cells #[.bool false, .string ⟨#[]⟩, .string ⟨#[]⟩] 57))
  have B4 := B3.trans (hw1.mono B3.size)
  obtain ⟨⟨hc0, hc1, hc2⟩, -⟩ := cells3 ((hw1.block _ (lt_of_block r1)).trans r1)
  go_wp2_with fail
  refine (HV2.out _ (hT.below B4)).mono ?_
  rintro e W2 ⟨rfl, hw2⟩
  have B5 := Lib.hid (below_trans B4 hw2)
  have hw2 := below_trans hw1 hw2
  have R0 := Lib.hid ((hw2.block _ (lt_of_block r0)).trans r0)
  have R1 := Lib.hid ((hw2.block _ (lt_of_block r1)).trans r1)
  have R2 := Lib.hid ((hw2.block _ (lt_of_block r2)).trans r2)
  clear r0 r1 r2 B1 B3 B4 hw1 hw2 hc0 hc1 hc2 HV HV2
  go_upto_region 5 with (fail)
  go_cut [8, 9, 10] (fun v8 v9 v10 wx => ∃ c, v8 = .string (nS (m1 * d2)) ∧ v9 = .string (nS (m2 * d1)) ∧ v10 = .pointer (some ⟨c, 0, none⟩) ∧ dRat wx c (nS (d1 * d2)) ∧
    Er wx W2.heap.size (e1 (e1 (e1 0 (nE (m1 * d2))) (nE (m2 * d1))) (nE (d1 * d2))) ∧ Below W2.heap.size W2 wx)
  case first =>
    have HS : Hid (∀ {W e}, G W2 W e → W.cell? ⟨w.heap.size, 1, none⟩ = some (.string a1) ∧ W.cell? ⟨w.heap.size, 2, none⟩ = some (.string a2) ∧
        W.cell? ⟨w.heap.size + 1, 1, none⟩ = some (.string b1) ∧ W.cell? ⟨w.heap.size + 1, 2, none⟩ = some (.string b2)) := fun {W e} h => by
      obtain ⟨⟨-, p1, p2⟩, -⟩ := cells3 R0.out
      obtain ⟨⟨-, q1, q2⟩, -⟩ := cells3 R1.out
      exact ⟨below_cell h.2 p1, below_cell h.2 p2, below_cell h.2 q1, below_cell h.2 q2⟩
    obtain ⟨p1, p2, q1, q2⟩ := HS.out (G.start W2)
    have HT : Hid (∀ {W}, Below W2.heap.size W2 W → Tab W) := fun h => hT.below (below_trans B5.out h)
    have hg := G.start W2
    generalize W2.alloc (.cells #[.int .i64 0] 78) = Wz at *
    go_region_held3 (fun w' => w'.cell? ⟨w.heap.size, 1, none⟩ = some (.string a1) ∧ w'.cell? ⟨w.heap.size, 2, none⟩ = some (.string a2) ∧
        w'.cell? ⟨w.heap.size + 1, 1, none⟩ = some (.string b1) ∧ w'.cell? ⟨w.heap.size + 1, 2, none⟩ = some (.string b2))
      (first | with_reducible exact HS.out hg | with_reducible exact HS.out hg.drew | with_reducible exact HS.out (hg.alloc _) | with_reducible exact HS.out (hg.alloc _).drew | with_reducible exact HS.out (hg.drew.alloc _) | with_reducible exact HS.out (hg.set hd _) | go_keep)
      (first
        | (go_at_call 42
           refine (sumsMul_any W2.heap.size _ _ _ _ _ _ ((by first | with_reducible exact hg | with_reducible exact hg.drew | with_reducible exact hg.alloc _ | with_reducible exact (hg.alloc _).drew | with_reducible exact hg.drew.alloc _ : G W2 _ _)).1
             (HT.out ((by first | with_reducible exact hg | with_reducible exact hg.drew | with_reducible exact hg.alloc _ | with_reducible exact (hg.alloc _).drew | with_reducible exact hg.drew.alloc _ : G W2 _ _)).2) (by assumption) (by assumption)).mono ?_
           rintro e W' ⟨rfl, hk, he⟩
           first
             | (have hg := hg.kp hk he
                try (have hd := hd.kp hk; have hcd := hd.cell.1; have hfd := hd.cell.2))
             | (have hg := hg.drew.kp hk he)
             | (have hd := (Dd.new hg).kp hk; have hg := (hg.alloc _).kp hk he; have hcd := hd.cell.1; have hfd := hd.cell.2)
             | (have hd := (Dd.newD hg).kp hk; have hg := (hg.drew.alloc _).kp hk he; have hcd := hd.cell.1; have hfd := hd.cell.2)))
    all_goals
      go_wp2_with fail
      go_meet
      case rel =>
        first
          | (with_reducible exact ⟨_, rfl, rfl, rfl, row_setCell hd.2, (hg.set hd _).1, (hg.set hd _).2⟩)
          | (with_reducible exact ⟨_, rfl, rfl, rfl, kept_new (Below.refl _ _), (hg.alloc _).1, (hg.alloc _).2⟩)
          | (exact ⟨_, rfl, rfl, rfl, row_setCell hd.2, (hg.set hd _).1, (hg.set hd _).2⟩)
          | (exact ⟨_, rfl, rfl, rfl, kept_new (Below.refl _ _), (hg.alloc _).1, (hg.alloc _).2⟩)
          | (trace_state; fail)
  case rest =>
    obtain ⟨c, rfl, rfl, rfl, hd, he, hbw⟩ := hcut
    rw [e1_three] at he
    have K2 := Lib.hid ((hbw.block _ (lt_of_block R2.out)).trans R2.out)
    have K0 := Lib.hid ((hbw.block _ (lt_of_block R0.out)).trans R0.out)
    have K1 := Lib.hid ((hbw.block _ (lt_of_block R1.out)).trans R1.out)
    have B6 := Lib.hid (below_trans B5.out hbw)
    have hne : ¬ w.heap.size + 1 + 1 = W2.heap.size := Nat.ne_of_lt (lt_of_block R2.out)
    have hne' : ¬ W2.heap.size = w.heap.size + 1 + 1 := fun e => hne e.symm
    have hbw' := hbw
    have B5' := B5
    have R0' := R0
    have R2' := R2
    have R1' := R1
    clear R0 R1 R2 B5 hbw
    by_cases h3 : Nt.dig1000 (m1 * d2) = true ∧ Nt.dig1000 (m2 * d1) = true ∧ Nt.dig1000 (d1 * d2) = true
    · rw [if_pos h3] at he HADD
      obtain ⟨z1, z2, z3⟩ := h3
      have hP := (nS_dig z1).2
      have hQ := (nS_dig z2).2
      have hD := (nS_dig z3).2
      have hg : G W2 wc 0 := ⟨he, hbw'⟩
      have HT : Hid (∀ {W}, Below W2.heap.size W2 W → Tab W) := fun h => hT.below (below_trans B5'.out h)
      have hcne : c ≠ W2.heap.size := by rintro rfl; have := he.symm.trans hd; simp at this
      have hDne : d1 * d2 ≠ 0 := Nat.mul_ne_zero hd1 hd2
      have hc := cell_of_one he
      obtain ⟨⟨hc0, -, -⟩, -⟩ := cells3 K0.out
      obtain ⟨⟨hk0, -, -⟩, -⟩ := cells3 K1.out
      have HD := Lib.hid hd
      generalize hpp : nS (m1 * d2) = p at *
      generalize hqq : nS (m2 * d1) = q at *
      generalize hrr : nS (d1 * d2) = r at *
      have H1 := Lib.hid (And.intro hP (And.intro hQ (And.intro hD (And.intro hDne hcne))))
      have Z1 := Lib.hid z1
      have Z2 := Lib.hid z2
      clear z1 z2 z3 hpp hqq hrr hP hQ hD hd he hDne hcne hbw'
      have HS : Hid (∀ {W e}, G W2 W e → W.cell? ⟨w.heap.size, 0, none⟩ = some (.bool x1)) := fun {W e} h => by
        obtain ⟨⟨p0, -⟩, -⟩ := cells3 R0'.out
        exact below_cell h.2 p0
      have HS3 : Hid (∀ {W e x y z}, G W2 W e → (((W.setCell ⟨w.heap.size + 1 + 1, 0, none⟩ x).setCell ⟨w.heap.size + 1 + 1, 1, none⟩ y).setCell ⟨w.heap.size + 1 + 1, 2, none⟩ z).cell? ⟨w.heap.size, 0, none⟩ = some (.bool x1)) := fun {W e x y z} h => by
        rw [World.cell?_setCell_other _ _ _ _ (by simp), World.cell?_setCell_other _ _ _ _ (by simp), World.cell?_setCell_other _ _ _ _ (by simp)]
        exact HS.out h
      have HB : Hid (∀ {W}, Below W2.heap.size W2 W → Below w.heap.size w W) := fun h => below_trans B5'.out h
      have K0' : Hid (∀ {W e}, G W2 W e → W.heap[w.heap.size]? = some (.cells #[.bool x1, .string a1, .string a2] 57)) := fun {W e} h => (h.2.block _ (lt_of_block R0'.out)).trans R0'.out
      have K1' : Hid (∀ {W e}, G W2 W e → W.heap[w.heap.size + 1]? = some (.cells #[.bool y1, .string b1, .string b2] 57)) := fun {W e} h => (h.2.block _ (lt_of_block R1'.out)).trans R1'.out
      have HT0 : Hid (∀ {W e}, G W2 W e → W.cell? ⟨w.heap.size + 1, 0, none⟩ = some (.bool y1)) := fun {W e} h => by
        obtain ⟨⟨p0, -⟩, -⟩ := cells3 R1'.out
        exact below_cell h.2 p0
      have HT3 : Hid (∀ {W e x y z}, G W2 W e → (((W.setCell ⟨w.heap.size + 1 + 1, 0, none⟩ x).setCell ⟨w.heap.size + 1 + 1, 1, none⟩ y).setCell ⟨w.heap.size + 1 + 1, 2, none⟩ z).cell? ⟨w.heap.size + 1, 0, none⟩ = some (.bool y1)) := fun {W e x y z} h => by
        rw [World.cell?_setCell_other _ _ _ _ (by simp), World.cell?_setCell_other _ _ _ _ (by simp), World.cell?_setCell_other _ _ _ _ (by simp)]
        exact HT0.out h
      have KK : Hid (∀ {W e}, G W2 W e → W.heap[w.heap.size + 1 + 1]? = some (.cells #[.bool false, .string ⟨#[]⟩, .string ⟨#[]⟩] 57)) := fun {W e} h =>
        (h.2.block _ (lt_of_block R2'.out)).trans R2'.out
      by_cases hs : x1 = y1
      · have hxy : (x1 == y1) = true := by simpa using hs
        rw [if_pos hs] at HADD
        clear hs
        obtain ⟨⟨⟨n', r1, r2⟩, ee⟩, hX⟩ : ∃ Y, Y = X := ⟨_, rfl⟩
        have HA := Lib.hid fun W h hTW => sumsAdd_any W2.heap.size p q _ _ 0 W h hTW H1.out.1 H1.out.2.1
        have HJ := Lib.hid (join_any W2.heap.size c x1 _ _ r H1.out.2.2.1 H1.out.2.2.2.1 X HADD _ rfl)
        rw [← hX] at HJ
        unfold rout rv at HJ
        generalize nS (m1 * d2 + m2 * d1) = s at *
        generalize e1 0 (nE (m1 * d2 + m2 * d1)) = E at *
        have HX := Lib.hid hX
        clear hX HADD
        go_upto_region 10 with (fail)
        go_region_held3 (fun w' => w'.cell? ⟨w.heap.size, 0, none⟩ = some (.bool x1))
          (first | with_reducible exact HS.out hg | with_reducible exact HS.out hg.drew | with_reducible exact HS3.out hg)
          (first
            | (go_at_call 45
               refine (HA.out _ ((by first | with_reducible exact hg | with_reducible exact hg.drew : G W2 _ _)).1 (HT.out ((by first | with_reducible exact hg | with_reducible exact hg.drew : G W2 _ _)).2)).mono ?_
               rintro e W' ⟨rfl, hk, he⟩
               have hd : dRat W' c r := by first | exact dRat.kp HD.out H1.out.2.2.2.2 hk | exact dRat.kp (W := World.drew _) HD.out H1.out.2.2.2.2 hk
               first
                 | have hg := hg.kp hk he
                 | have hg := hg.drew.kp hk he)
            | (go_at_call 43
               refine (HJ.out _ hg.1 hd (HT.out hg.2)).mono ?_
               rintro e W' ⟨rfl, hb⟩
               have hg := hg.below hb
               obtain ⟨⟨hc0, hc1, hc2⟩, hf0, hf1, hf2⟩ := cells3 (KK.out hg)))
        go_wp2
        obtain ⟨h1, h2⟩ := set3 (x := .bool n') (y := .string r1) (z := .string r2) (KK.out hg) (HB.out hg.2) (Nat.le_add_right _ 2)
        refine bodyPost_ret (results_ratE rfl rfl (cells3 h1).1) rfl ?_
        exact ⟨by rw [← HX.out]; rfl, h2⟩
      · have hxy : (x1 == y1) = false := by simpa using hs
        rw [if_neg hs] at HADD
        clear hs
        have HC := Lib.hid fun W => natCompare_any p q W (num_size H1.out.1) (num_size H1.out.2.1)
        have hcmp : nCmp p q = cmpI (m1 * d2) (m2 * d1) := by unfold nCmp; rw [H1.out.1, H1.out.2.1]
        rw [hcmp] at HC
        clear hcmp
        by_cases hlt : m1 * d2 < m2 * d1
        · rw [if_pos hlt] at HADD
          have hsub : Nt.dig1000 (m2 * d1 - m1 * d2) = true := Nt.dig_mono (Nat.sub_le _ _) Z2.out
          have hkk : cmpI (m1 * d2) (m2 * d1) < 0 := by unfold cmpI; rw [if_pos hlt]; decide
          generalize cmpI (m1 * d2) (m2 * d1) = kk at *
          have HLT := Lib.hid hlt
          have HSUB := Lib.hid hsub
          have HAD := Lib.hid HADD
          clear hlt hsub HADD
          go_wp2_with fail
          refine (HC.out _).mono ?_
          rintro e W3 ⟨rfl, hb3⟩
          have hg := hg.below hb3
          have hd : dRat W3 c r := HD.out.below hb3
          have hlt := HLT.out
          have hsub := HSUB.out
          have HADD := HAD.out
          obtain ⟨⟨hk0, -, -⟩, -⟩ := cells3 (K0'.out hg)
          obtain ⟨⟨hk1, -, -⟩, -⟩ := cells3 (K1'.out hg)
          clear hc hc0 hb3 HD HC HLT HSUB HAD
          obtain ⟨⟨⟨n', r1, r2⟩, ee⟩, hX⟩ : ∃ Y, Y = X := ⟨_, rfl⟩
          have HA := Lib.hid fun W hTW => natSub_any q p W hTW (num_size H1.out.2.1) (num_size H1.out.1)
          rw [sub_out H1.out.2.1 H1.out.1 (Nat.le_of_lt hlt)] at HA
          have HJ := Lib.hid (join_any W2.heap.size c y1 (m2 * d1 - m1 * d2) _ r H1.out.2.2.1 H1.out.2.2.2.1 X (by rw [if_pos hsub]; exact HADD) _ rfl)
          rw [← hX] at HJ
          unfold rout rv at HJ
          have HTK := Lib.hid fun W h => take_any W2.heap.size (nS (m2 * d1 - m1 * d2)) 0 (nE (m2 * d1 - m1 * d2)) W h
          generalize nS (m2 * d1 - m1 * d2) = s at *
          generalize nE (m2 * d1 - m1 * d2) = E0 at *
          generalize e1 0 E0 = E at *
          have HX := Lib.hid hX
          clear hX HADD hlt hsub
          go_upto_region 12 with (fail)
          go_region_held3 (fun w' => w'.cell? ⟨w.heap.size + 1, 0, none⟩ = some (.bool y1))
            (first | with_reducible exact HT0.out hg | with_reducible exact HT0.out hg.drew | with_reducible exact HT3.out hg)
            (first
              | (go_at_call 48
                 refine (HA.out _ (HT.out ((by first | with_reducible exact hg | with_reducible exact hg.drew : G W2 _ _)).2)).mono ?_
                 rintro e W' ⟨rfl, hb⟩
                 have hd : dRat W' c r := by first | exact (hd.below hb) | exact dRat.below (W := World.drew _) hd hb
                 first
                   | have hg := hg.below hb
                   | have hg := hg.drew.below hb)
              | (go_at_call 47
                 refine (HTK.out _ hg.1).mono ?_
                 rintro e W' ⟨rfl, hk, he⟩
                 have hd : dRat W' c r := hd.kp H1.out.2.2.2.2 hk
                 have hg := hg.kp hk he)
              | (go_at_call 43
                 refine (HJ.out _ hg.1 hd (HT.out hg.2)).mono ?_
                 rintro e W' ⟨rfl, hb⟩
                 have hg := hg.below hb
                 obtain ⟨⟨hc0, hc1, hc2⟩, hf0, hf1, hf2⟩ := cells3 (KK.out hg)))
          go_wp2
          obtain ⟨h1, h2⟩ := set3 (x := .bool n') (y := .string r1) (z := .string r2) (KK.out hg) (HB.out hg.2) (Nat.le_add_right _ 2)
          refine bodyPost_ret (results_ratE rfl rfl (cells3 h1).1) rfl ?_
          exact ⟨by rw [← HX.out]; rfl, h2⟩
        · rw [if_neg hlt] at HADD
          have hsub : Nt.dig1000 (m1 * d2 - m2 * d1) = true := Nt.dig_mono (Nat.sub_le _ _) Z1.out
          have hkk : 0 ≤ cmpI (m1 * d2) (m2 * d1) := by unfold cmpI; rw [if_neg hlt]; split <;> decide
          generalize cmpI (m1 * d2) (m2 * d1) = kk at *
          have HLT := Lib.hid hlt
          have HSUB := Lib.hid hsub
          have HAD := Lib.hid HADD
          clear hlt hsub HADD
          go_wp2_with fail
          refine (HC.out _).mono ?_
          rintro e W3 ⟨rfl, hb3⟩
          have hg := hg.below hb3
          have hd : dRat W3 c r := HD.out.below hb3
          have hlt := HLT.out
          have hsub := HSUB.out
          have HADD := HAD.out
          obtain ⟨⟨hk0, -, -⟩, -⟩ := cells3 (K0'.out hg)
          obtain ⟨⟨hk1, -, -⟩, -⟩ := cells3 (K1'.out hg)
          clear hc hc0 hb3 HD HC HLT HSUB HAD
          obtain ⟨⟨⟨n', r1, r2⟩, ee⟩, hX⟩ : ∃ Y, Y = X := ⟨_, rfl⟩
          have HA := Lib.hid fun W hTW => natSub_any p q W hTW (num_size H1.out.1) (num_size H1.out.2.1)
          rw [sub_out H1.out.1 H1.out.2.1 (Nat.le_of_not_lt hlt)] at HA
          have HJ := Lib.hid (join_any W2.heap.size c x1 (m1 * d2 - m2 * d1) _ r H1.out.2.2.1 H1.out.2.2.2.1 X (by rw [if_pos hsub]; exact HADD) _ rfl)
          rw [← hX] at HJ
          unfold rout rv at HJ
          have HTK := Lib.hid fun W h => take_any W2.heap.size (nS (m1 * d2 - m2 * d1)) 0 (nE (m1 * d2 - m2 * d1)) W h
          generalize nS (m1 * d2 - m2 * d1) = s at *
          generalize nE (m1 * d2 - m2 * d1) = E0 at *
          generalize e1 0 E0 = E at *
          have HX := Lib.hid hX
          clear hX HADD hlt hsub
          go_upto_region 13 with (fail)
          go_region_held3 (fun w' => w'.cell? ⟨w.heap.size, 0, none⟩ = some (.bool x1))
            (first | with_reducible exact HS.out hg | with_reducible exact HS.out hg.drew | with_reducible exact HS3.out hg)
            (first
              | (go_at_call 48
                 refine (HA.out _ (HT.out ((by first | with_reducible exact hg | with_reducible exact hg.drew : G W2 _ _)).2)).mono ?_
                 rintro e W' ⟨rfl, hb⟩
                 have hd : dRat W' c r := by first | exact (hd.below hb) | exact dRat.below (W := World.drew _) hd hb
                 first
                   | have hg := hg.below hb
                   | have hg := hg.drew.below hb)
              | (go_at_call 47
                 refine (HTK.out _ hg.1).mono ?_
                 rintro e W' ⟨rfl, hk, he⟩
                 have hd : dRat W' c r := hd.kp H1.out.2.2.2.2 hk
                 have hg := hg.kp hk he)
              | (go_at_call 43
                 refine (HJ.out _ hg.1 hd (HT.out hg.2)).mono ?_
                 rintro e W' ⟨rfl, hb⟩
                 have hg := hg.below hb
                 obtain ⟨⟨hc0, hc1, hc2⟩, hf0, hf1, hf2⟩ := cells3 (KK.out hg)))
          go_wp2
          obtain ⟨h1, h2⟩ := set3 (x := .bool n') (y := .string r1) (z := .string r2) (KK.out hg) (HB.out hg.2) (Nat.le_add_right _ 2)
          refine bodyPost_ret (results_ratE rfl rfl (cells3 h1).1) rfl ?_
          exact ⟨by rw [← HX.out]; rfl, h2⟩
    · rw [if_neg h3] at he HADD
      have hc := cell_of_one he
      obtain ⟨⟨hc0, hc1, hc2⟩, hf0, hf1, hf2⟩ := cells3 K2.out
      clear h3 he hd
      go_wp2
      go_region
      go_wp2
      obtain ⟨h1, h2⟩ := set3 (x := .bool false) (y := .string ⟨#[]⟩) (z := .string ⟨#[]⟩) K2.out B6.out (by omega)
      refine bodyPost_ret (results_ratE rfl rfl (cells3 (W := World.drew _) h1).1) rfl ?_
      exact ⟨by rw [HADD]; rfl, h2.drew⟩
end Go.Proofs.YtcphclpekllcoaaGreatDoor
