/- Walks: the laws' own helpers: fits. -/
import Derived.Test.YtcphclpekllcoaaGreatDoorLb
namespace Go.Proofs.YtcphclpekllcoaaGreatDoor
open Go.RowKit

set_option maxRecDepth 100000 in
theorem fits_any (d : Nt.Deb) (p : Nt.Pay) (t : Int) (w : World) :
    Calls Tryz.prog 22 #[dv6 d, pv4 p, .int .i64 t] w fun e w' => e = .returned (.bool (Nt.fit d p t)) ∧ Below w.heap.size w w' := by
  obtain ⟨dk, dt, df, dr, du, dp⟩ := d
  obtain ⟨pk, pt, pf, pat⟩ := p
  unfold dv6 pv4 dcells pcells
  dsimp only
  have HB := Lib.hid (below2 w (.cells #[.int .i64 dk, .int .i64 dt, .int .i64 df, .int .i64 dr, .int .i64 du, .int .i64 dp] 47) (.cells #[.int .i64 pk, .int .i64 pt, .int .i64 pf, .int .i64 pat] 49))
  by_cases h1 : dk = pk
  · by_cases h2 : dt = pt
    · by_cases h3 : df = pf
      · subst h1 h2 h3
        by_cases h4 : dr ≤ pat
        · have hX : Hid (Nt.fit ⟨dk, dt, df, dr, du, dp⟩ ⟨dk, dt, df, pat⟩ t = decide (pat ≤ min du t)) := by show _ = _; unfold Nt.fit Nt.win; simp [h4]
          go_enter Tryz.func22, Tryz.ntmps22
          go_wp2
          go_ret
          exact ⟨by have h : _ = _ := hX; rw [h]; rfl, HB.out⟩
        · have hX : Hid (Nt.fit ⟨dk, dt, df, dr, du, dp⟩ ⟨dk, dt, df, pat⟩ t = false) := by show _ = _; unfold Nt.fit Nt.win; simp [h4]
          go_enter Tryz.func22, Tryz.ntmps22
          go_wp2
          go_ret
          exact ⟨by have h : _ = _ := hX; rw [h]; rfl, HB.out⟩
      · have hb : (df == pf) = false := by simpa using h3
        have hX : Hid (Nt.fit ⟨dk, dt, df, dr, du, dp⟩ ⟨pk, pt, pf, pat⟩ t = false) := by show _ = _; unfold Nt.fit; simp [h3]
        subst h1 h2
        go_enter Tryz.func22, Tryz.ntmps22
        go_wp2
        go_ret
        exact ⟨by have h : _ = _ := hX; rw [h]; rfl, HB.out⟩
    · have hb : (dt == pt) = false := by simpa using h2
      have hX : Hid (Nt.fit ⟨dk, dt, df, dr, du, dp⟩ ⟨pk, pt, pf, pat⟩ t = false) := by show _ = _; unfold Nt.fit; simp [h2]
      subst h1
      go_enter Tryz.func22, Tryz.ntmps22
      go_wp2
      go_ret
      exact ⟨by have h : _ = _ := hX; rw [h]; rfl, HB.out⟩
  · have hb : (dk == pk) = false := by simpa using h1
    have hX : Hid (Nt.fit ⟨dk, dt, df, dr, du, dp⟩ ⟨pk, pt, pf, pat⟩ t = false) := by show _ = _; unfold Nt.fit; simp [h1]
    go_enter Tryz.func22, Tryz.ntmps22
    go_wp2
    go_ret
    exact ⟨by have h : _ = _ := hX; rw [h]; rfl, HB.out⟩
end Go.Proofs.YtcphclpekllcoaaGreatDoor
