/- Walks: the exported functions of package natural. -/
import Derived.Test.YtcphclpekllcoaaGreatDoorWh
import Derived.Lib.SlTrimSet
import Derived.WalkSpells
namespace Go.Proofs.YtcphclpekllcoaaGreatDoor
open Go.RowKit

def digits10 : ByteArray := ⟨#[48, 49, 50, 51, 52, 53, 54, 55, 56, 57]⟩

theorem dig_mem (c : UInt8) : digits10.data.toList.contains c = Nt.isDg c := by
  have : ∀ n : Fin 256, digits10.data.toList.contains (UInt8.ofNat n.val) = Nt.isDg (UInt8.ofNat n.val) := by decide +kernel
  have h := this ⟨c.toNat, c.toNat_lt⟩
  simpa using h

theorem dropWhile_nil {α : Type} (p : α → Bool) (l : List α) : l.dropWhile p = [] ↔ l.all p = true := by
  induction l with
  | nil => simp
  | cons a l ih =>
    rw [List.dropWhile_cons]
    by_cases h : p a = true
    · simp [h, ih]
    · simp [h]

theorem dropWhile_all {α : Type} (p : α → Bool) (l : List α) : (l.dropWhile p).all p = l.all p := by
  induction l with
  | nil => rfl
  | cons a l ih =>
    rw [List.dropWhile_cons]
    by_cases h : p a = true
    · simp only [h, if_true, ih, List.all_cons, Bool.true_and]
    · simp [h]

theorem trim_nil (l : List UInt8) : Lib.trimS l digits10.data.toList = [] ↔ l.all Nt.isDg = true := by
  have e : (fun c => digits10.data.toList.contains c) = Nt.isDg := funext dig_mem
  unfold Lib.trimS Lib.trimLeftS Lib.trimRightS
  rw [e, dropWhile_nil, List.all_reverse, dropWhile_all, List.all_reverse]

theorem okL_head (s : ByteArray) (h : 0 < s.size) (h1 : s.size ≤ 1000) (hd : s.data.toList.all Nt.isDg = true) :
    Nt.okL s.data.toList = (decide (s.size = 1) || decide (s[0].toNat ≠ 48)) := by
  have hsz : s.data.toList.length = s.size := by rw [Array.length_toList]; rfl
  have hh : s.data.toList.head? = some s[0] := by
    rw [List.head?_eq_getElem?, List.getElem?_eq_getElem (by omega)]
    rfl
  unfold Nt.okL
  rw [hsz, hd, hh, decide_eq_true (by omega : 1 ≤ s.size), decide_eq_true h1]
  simp only [Bool.true_and, ne_eq, Option.some.injEq]
  congr 1
  have : (s[0] = 48) ↔ (s[0].toNat = 48) := ⟨fun e => by rw [e]; rfl, fun e => UInt8.toNat_inj.1 (by simpa using e)⟩
  simp [this]
theorem okL_48 (s : ByteArray) (h : 0 < s.size) (h1 : s.size ≤ 1000) (hd : s.data.toList.all Nt.isDg = true) (h48 : (s[0].toNat : Int) = 48) : Nt.okL s.data.toList = ((s.size : Int) == 1) := by
  rw [okL_head s h h1 hd, decide_eq_false (by omega : ¬ s[0].toNat ≠ 48), Bool.or_false]
  by_cases e : s.size = 1
  · rw [e]; rfl
  · rw [decide_eq_false e]; symm; rw [beq_eq_false_iff_ne]; omega
theorem okL_n48 (s : ByteArray) (h : 0 < s.size) (h1 : s.size ≤ 1000) (hd : s.data.toList.all Nt.isDg = true) (h48 : ¬ (s[0].toNat : Int) = 48) : Nt.okL s.data.toList = true := by
  rw [okL_head s h h1 hd, decide_eq_true (by omega : s[0].toNat ≠ 48), Bool.or_true]

theorem valid_any (s : ByteArray) (w : World) (hs : s.size ≤ 9223372036854775807) :
    Calls Tryz.prog 59 #[.string s] w fun e w' => e = .returned (.bool (Nt.num? s).isSome) ∧ Below w.heap.size w w' := by
  have hN : (Nt.num? s).isSome = Nt.okL s.data.toList := by unfold Nt.num?; split <;> simp_all
  rw [hN]
  have hsz : s.data.toList.length = s.size := by rw [Array.length_toList]; rfl
  by_cases h0 : s.size = 0
  · have e : Nt.okL s.data.toList = false := by unfold Nt.okL; rw [hsz, h0]; rfl
    rw [e]
    have h1 : ¬ (1 : Int) ≤ (s.size : Int) := by omega
    clear e hN hsz
    go_enter Tryz.func59, Tryz.ntmps59
    go_wp2
    go_ret
    exact ⟨rfl, Below.refl _ _⟩
  · by_cases h1000 : s.size ≤ 1000
    · obtain ⟨T, hT⟩ : ∃ T : ByteArray, T = ⟨(Lib.trimS s.data.toList digits10.data.toList).toArray⟩ := ⟨_, rfl⟩
      have HC := Lib.hid (Any.strings_Trim_laid Tryz.l160 (by kernel_rfl) s digits10 w hs (by decide) (Go.Proofs.ascii_of_all (by decide)))
      rw [← hT] at HC
      have hz : 1 ≤ s.size := by omega
      by_cases hd : s.data.toList.all Nt.isDg = true
      · have hTe : T.toList = [] := by rw [hT, ByteArray.toList_mk]; exact (trim_nil _).2 hd
        clear hT
        go_enter Tryz.func59, Tryz.ntmps59
        go_wp2_with fail
        refine HC.out.mono ?_
        rintro e W1 ⟨rfl, hb1⟩
        have HD := Lib.hid hd
        have HSZ := Lib.hid hsz
        clear hd hsz hN
        go_wp2
        · go_ret
          refine ⟨?_, hb1⟩
          have h48 : (s[0].toNat : Int) = 48 := by assumption
          rw [okL_48 s (by omega) h1000 HD.out h48]; rfl
        · go_ret
          refine ⟨?_, hb1⟩
          have h48 : ¬ (s[0].toNat : Int) = 48 := by assumption
          rw [okL_n48 s (by omega) h1000 HD.out h48]; rfl
      · have hTe : T.toList.isEmpty = false := by
          rw [hT, ByteArray.toList_mk]
          have := mt (trim_nil s.data.toList).1 hd
          simpa using this
        have e : Nt.okL s.data.toList = false := by unfold Nt.okL; rw [Bool.not_eq_true] at hd; rw [hd]; simp
        rw [e]
        clear hT hd e hsz hN
        go_enter Tryz.func59, Tryz.ntmps59
        go_wp2_with fail
        refine HC.out.mono ?_
        rintro e W1 ⟨rfl, hb1⟩
        go_wp2
        go_ret
        exact ⟨rfl, hb1⟩
    · have e : Nt.okL s.data.toList = false := by unfold Nt.okL; rw [hsz, decide_eq_false h1000]; simp
      rw [e]
      clear e hN hsz
      have h1 : (1 : Int) ≤ (s.size : Int) := by omega
      have h2 : ¬ (s.size : Int) ≤ 1000 := by omega
      go_enter Tryz.func59, Tryz.ntmps59
      go_wp2
      go_ret
      exact ⟨rfl, Below.refl _ _⟩
end Go.Proofs.YtcphclpekllcoaaGreatDoor
