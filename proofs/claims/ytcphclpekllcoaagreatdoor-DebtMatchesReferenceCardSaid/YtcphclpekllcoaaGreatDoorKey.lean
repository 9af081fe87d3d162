/- Key laws: classes of calibrations, ints. -/
import Derived.Test.YtcphclpekllcoaaGreatDoorMap
namespace Go.Proofs.YtcphclpekllcoaaGreatDoor
open Go.RowKit

abbrev Cls := Int × Int × Int
def cv (c : Cls) : Value := .agg #[.int .i64 c.1, .int .i64 c.2.1, .int .i64 c.2.2]
def ik (n : Int) : Value := .int .i64 n

theorem eq_cls3 (c1 c2 c3 d1 d2 d3 : Int) (W : World) : (Op.equalIn 10000 65 (.agg #[.int .i64 c1, .int .i64 c2, .int .i64 c3]) (.agg #[.int .i64 d1, .int .i64 d2, .int .i64 d3])).run Tryz.prog W =
    (if c1 = d1 then if c2 = d2 then if c3 = d3 then Result.ok true W else Result.ok false W else Result.ok false W else Result.ok false W) := by
  go_simp

set_option maxRecDepth 100000 in
theorem eq_cls (c d : Cls) (W : World) : (Op.equal 65 (cv c) (cv d)).run Tryz.prog W = .ok (decide (c = d)) W := by
  obtain ⟨c1, c2, c3⟩ := c
  obtain ⟨d1, d2, d3⟩ := d
  refine (eq_cls3 c1 c2 c3 d1 d2 d3 W).trans ?_
  by_cases h1 : c1 = d1
  · by_cases h2 : c2 = d2
    · by_cases h3 : c3 = d3
      · subst h1 h2 h3
        rw [if_pos rfl, if_pos rfl, if_pos rfl, decide_eq_true rfl]
      · rw [if_pos h1, if_pos h2, if_neg h3, decide_eq_false (fun e => h3 (by injections))]
    · rw [if_pos h1, if_neg h2, decide_eq_false (fun e => h2 (by injections))]
  · rw [if_neg h1, decide_eq_false (fun e => h1 (by injections))]

theorem find_cls (c : Cls) (W : World) (L : List (Cls × Value)) : ∀ n i : Nat, (Instr.findAsking 65 (cv c) (ents cv n L) i).run Tryz.prog W = .ok (pos c L i) W := by
  induction L with
  | nil => intro n i; rfl
  | cons x t ih =>
    intro n i
    have he := eq_cls c x.1 W
    have hi := ih (n + 1) (i + 1)
    unfold ents pos Instr.findAsking
    rw [Sem.run_bind, he]
    by_cases e : c = x.1
    · rw [decide_eq_true e, if_pos e]; rfl
    · rw [decide_eq_false e, if_neg e]
      exact hi

theorem check_cls3 (em : Bool) (c1 c2 c3 : Int) (W : World) : (Instr.checkKey em 10000 65 (.agg #[.int .i64 c1, .int .i64 c2, .int .i64 c3])).run Tryz.prog W = .ok () W := by
  have hi : ∀ x W, (Instr.checkKey em 9999 3 (.int .i64 x)).run Tryz.prog W = .ok () W := fun x W => by
    unfold Instr.checkKey
    rw [Sem.run_bind, run_underlying Tryz.underlying3]; rfl
  unfold Instr.checkKey
  rw [Sem.run_bind, run_underlying Tryz.underlying65]
  go_simp

set_option maxRecDepth 100000 in
theorem keyCls : KeyL Tryz.prog 65 cv where
  find W L c := by
    unfold Instr.findKey
    rw [Sem.run_bind, run_underlying Tryz.underlying65]
    cases L with
    | nil => rfl
    | cons x t => exact find_cls c W (x :: t) 0 0
  check em W c := by
    obtain ⟨c1, c2, c3⟩ := c
    exact check_cls3 em c1 c2 c3 W
  same c := by
    obtain ⟨c1, c2, c3⟩ := c
    simp [cv, Instr.sameBits]

theorem find_int (c : Int) (L : List (Int × Value)) : ∀ n i : Nat, Instr.findNow (.int .i64) (ik c) (ents ik n L) i = some (pos c L i) := by
  induction L with
  | nil => intro n i; rfl
  | cons x t ih =>
    intro n i
    have hi := ih (n + 1) (i + 1)
    unfold ents pos
    by_cases e : c = x.1
    · subst e; simp [Instr.findNow, Instr.sameNow, ik]
    · have hb : (c == x.1) = false := by simpa using e
      rw [if_neg e, ← hi]; simp [Instr.findNow, Instr.sameNow, ik, hb]

theorem keyInt : KeyL Tryz.prog 3 ik where
  find W L c := by
    unfold Instr.findKey
    rw [Sem.run_bind, run_underlying Tryz.underlying3]
    show Sem.run Tryz.prog (match Instr.findNow _ _ _ _ with | some r => pure r | none => _) W = _
    rw [find_int]; rfl
  check em W c := by
    unfold Instr.checkKey
    rw [Sem.run_bind, run_underlying Tryz.underlying3]; rfl
  same c := by simp [ik, Instr.sameBits]
end Go.Proofs.YtcphclpekllcoaaGreatDoor
