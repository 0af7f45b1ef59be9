/- The document's small functions: bytes' kinds and capitals. No condition. -/
import Derived.Test.YtpnfcgmogjpliaaGreatDoorVal2
namespace Go.Proofs.YtpnfcgmogjpliaaGreatDoor
open Go.RowKit
attribute [local go_sem ↓] Go.wp_at_zero Go.wp_at_succ

/-- A byte as a value. -/
abbrev byV (b : UInt8) : Value := .int .u8 (b.toNat : Int)

theorem isLetter_iff (b : UInt8) : LexM.isLetter b = true ↔ b.toNat = 95 ∨ (97 ≤ b.toNat ∧ b.toNat ≤ 122) ∨ (65 ≤ b.toNat ∧ b.toNat ≤ 90) := by
  simp only [LexM.isLetter, Bool.or_eq_true, Bool.and_eq_true, decide_eq_true_eq, beq_iff_eq, ← UInt8.toNat_inj, UInt8.le_iff_toNat_le, or_assoc]
  rfl

theorem bool_of_iff {p q : Bool} (h : p = true ↔ q = true) : p = q := Bool.eq_iff_iff.2 h

set_option maxRecDepth 100000 in
theorem rDigit_calls (w : World) (b : UInt8) : Calls Tryz.prog 69 #[byV b] w fun e w' => e = .returned (.bool (LexM.isDigit b)) ∧ w = w' := by
  have hi := isDigit_iff b
  generalize LexM.isDigit b = r at hi
  go_enter Tryz.func69, Tryz.ntmps69
  go_wp2
  all_goals
    go_ret
    exact ⟨congrArg (fun b => Ending.returned (.bool b)) (bool_of_iff (by rw [hi]; simp; omega)), rfl⟩

set_option maxRecDepth 100000 in
theorem rLetter_calls (w : World) (b : UInt8) : Calls Tryz.prog 65 #[byV b] w fun e w' => e = .returned (.bool (LexM.isLetter b)) ∧ w = w' := by
  have hi := isLetter_iff b
  generalize LexM.isLetter b = r at hi
  go_enter Tryz.func65, Tryz.ntmps65
  go_wp2
  all_goals
    go_ret
    exact ⟨congrArg (fun b => Ending.returned (.bool b)) (bool_of_iff (by rw [hi]; simp; omega)), rfl⟩

theorem cap_toNat (b : UInt8) : (LexM.cap b).toNat = if 97 ≤ b.toNat ∧ b.toNat ≤ 122 then b.toNat - 32 else b.toNat := by
  unfold LexM.cap
  by_cases h : 97 ≤ b.toNat ∧ b.toNat ≤ 122
  · rw [if_pos h, if_pos (by simp [UInt8.le_iff_toNat_le]; exact h)]
    rw [UInt8.toNat_sub_of_le _ _ (by rw [UInt8.le_iff_toNat_le]; exact Nat.le_trans (by decide) h.1)]
    rfl
  · rw [if_neg h, if_neg (by simp [UInt8.le_iff_toNat_le]; omega)]

set_option maxRecDepth 100000 in
theorem rCapital_calls (w : World) (b : UInt8) : Calls Tryz.prog 85 #[byV b] w fun e w' => e = .returned (byV (LexM.cap b)) ∧ w = w' := by
  have hc := cap_toNat b
  have hb := b.toNat_lt
  unfold byV
  rw [hc]
  by_cases h : 97 ≤ b.toNat ∧ b.toNat ≤ 122
  · rw [if_pos h]
    have hw : IntKind.u8.wrap ((b.toNat : Int) - 32) = (b.toNat : Int) - 32 := by rw [IntKind.wrap_u8']; omega
    have h1 : (97 : Int) ≤ b.toNat := by omega
    have h2 : (b.toNat : Int) ≤ 122 := by omega
    go_enter Tryz.func85, Tryz.ntmps85
    go_wp2
    all_goals
      go_ret
      exact ⟨congrArg (fun n => Ending.returned (.int .u8 n)) (by omega), rfl⟩
  · rw [if_neg h]
    have h1 : (decide ((97 : Int) ≤ b.toNat) && decide ((b.toNat : Int) ≤ 122)) = false := by
      rw [Bool.and_eq_false_iff]; simp; omega
    clear hc
    by_cases h97 : 97 ≤ b.toNat
    · have t1 : decide ((97 : Int) ≤ b.toNat) = true := by simp; omega
      have t2 : decide ((b.toNat : Int) ≤ 122) = false := by simp; omega
      clear h1
      go_enter Tryz.func85, Tryz.ntmps85
      go_wp2
      go_ret
      exact ⟨rfl, rfl⟩
    · have t1 : decide ((97 : Int) ≤ b.toNat) = false := by simp; omega
      clear h1
      go_enter Tryz.func85, Tryz.ntmps85
      go_wp2
      go_ret
      exact ⟨rfl, rfl⟩

end Go.Proofs.YtpnfcgmogjpliaaGreatDoor
