/- The document's small functions: bytes' kinds, and its dates where its lexer calls them: at eight bytes. -/
import Derived.Test.YtpnfcgmogjpliaaGreatDoorRByt
namespace Go.Proofs.YtpnfcgmogjpliaaGreatDoor
open Go.RowKit
attribute [local go_sem ↓] Go.wp_at_zero Go.wp_at_succ

theorem isBlank_iff (b : UInt8) : LexM.isBlank b = true ↔ b.toNat = 9 ∨ b.toNat = 32 := by
  simp [LexM.isBlank, ← UInt8.toNat_inj]
theorem isWrong_iff (b : UInt8) : LexM.isWrong b = true ↔ b.toNat ≠ 10 ∧ b.toNat ≠ 9 ∧ (b.toNat < 32 ∨ 126 < b.toNat) := by
  simp only [LexM.isWrong, Bool.or_eq_true, Bool.and_eq_true, decide_eq_true_eq, bne_iff_ne, ne_eq, ← UInt8.toNat_inj, UInt8.lt_iff_toNat_lt, and_assoc]
  rfl
set_option maxRecDepth 100000 in
theorem rBlank_calls (w : World) (b : UInt8) : Calls Tryz.prog 39 #[byV b] w fun e w' => e = .returned (.bool (LexM.isBlank b)) ∧ w = w' := by
  have hi := isBlank_iff b
  generalize LexM.isBlank b = r at hi
  go_enter Tryz.func39, Tryz.ntmps39
  go_wp2
  all_goals
    go_ret
    exact ⟨congrArg (fun b => Ending.returned (.bool b)) (bool_of_iff (by rw [hi]; simp; omega)), rfl⟩
set_option maxRecDepth 100000 in
theorem rByte_calls (w : World) (b : UInt8) : Calls Tryz.prog 63 #[byV b] w fun e w' => e = .returned (.bool (!LexM.isWrong b)) ∧ w = w' := by
  have hi := isWrong_iff b
  generalize LexM.isWrong b = r at hi
  have hb := b.toNat_lt
  go_enter Tryz.func63, Tryz.ntmps63
  go_wp2
  all_goals
    go_ret
    refine ⟨congrArg (fun b => Ending.returned (.bool b)) ?_, rfl⟩
    cases r <;> simp at hi ⊢ <;> omega

set_option maxRecDepth 100000 in
theorem rLeap_calls (w : World) (y : Nat) (hy : y ≤ 9999) (r : Bool) (hr : LexM.isLeap y = r) :
    Calls Tryz.prog 127 #[.int .i64 y] w fun e w' => e = .returned (.bool r) ∧ w = w' := by
  have HR := Lib.hid hr
  clear hr
  go_enter Tryz.func127, Tryz.ntmps127
  go_wp2
  all_goals
    go_ret
    exact ⟨congrArg (fun b => Ending.returned (.bool b)) (by rw [← HR.out]; unfold LexM.isLeap; rw [Bool.eq_iff_iff]; simp; omega), rfl⟩

set_option maxRecDepth 100000 in
theorem rLength_calls (w : World) (y m : Nat) (hy : y ≤ 9999) (hm : m ≤ 99) :
    Calls Tryz.prog 112 #[.int .i64 y, .int .i64 m] w fun e w' => e = .returned (.int .i64 (LexM.monthLen y m)) ∧ w = w' := by
  by_cases h2 : m = 2
  · subst h2
    cases hl : LexM.isLeap y with
    | true =>
      have e : LexM.monthLen y 2 = 29 := by unfold LexM.monthLen; rw [hl]; rfl
      rw [e]
      have HL := Lib.hid hl
      clear e hl
      go_enter Tryz.func112, Tryz.ntmps112
      go_wp2_with (go_at_call 127; refine (rLeap_calls _ y hy true HL.out).mono ?_; rintro e w' ⟨rfl, rfl⟩)
      go_ret
      exact ⟨rfl, rfl⟩
    | false =>
      have e : LexM.monthLen y 2 = 28 := by unfold LexM.monthLen; rw [hl]; rfl
      rw [e]
      have HL := Lib.hid hl
      clear e hl
      go_enter Tryz.func112, Tryz.ntmps112
      go_wp2_with (go_at_call 127; refine (rLeap_calls _ y hy false HL.out).mono ?_; rintro e w' ⟨rfl, rfl⟩)
      go_ret
      exact ⟨rfl, rfl⟩
  · have t2 : ((m : Int) == 2) = false := by rw [beq_eq_false_iff_ne]; omega
    have e : LexM.monthLen y m = if m == 4 || m == 6 || m == 9 || m == 11 then 30 else 31 := by
      unfold LexM.monthLen
      rw [if_neg (by simpa using h2)]
    rw [e]
    by_cases h : m = 4 ∨ m = 6 ∨ m = 9 ∨ m = 11
    · rw [if_pos (by simpa [or_assoc] using h)]
      clear e t2 h2
      rcases h with rfl | rfl | rfl | rfl
      all_goals
        go_enter Tryz.func112, Tryz.ntmps112
        go_wp2
        go_ret
        exact ⟨rfl, rfl⟩
    · rw [if_neg (by simpa [or_assoc] using h)]
      have t4 : ((m : Int) == 4) = false := by rw [beq_eq_false_iff_ne]; omega
      have t6 : ((m : Int) == 6) = false := by rw [beq_eq_false_iff_ne]; omega
      have t9 : ((m : Int) == 9) = false := by rw [beq_eq_false_iff_ne]; omega
      have t11 : ((m : Int) == 11) = false := by rw [beq_eq_false_iff_ne]; omega
      clear e h h2
      go_enter Tryz.func112, Tryz.ntmps112
      go_wp2
      go_ret
      exact ⟨rfl, rfl⟩

set_option maxHeartbeats 1000000 in
set_option maxRecDepth 100000 in
theorem rDays_no (w : World) (y m d : Nat) (hy : y ≤ 9999) (hm : m ≤ 99) (hd : d ≤ 99) (h : ¬ (1 ≤ y ∧ 1 ≤ m ∧ m ≤ 12 ∧ 1 ≤ d ∧ d ≤ LexM.monthLen y m)) :
    Calls Tryz.prog 99 #[.int .i64 y, .int .i64 m, .int .i64 d] w fun e w' => e = .returned (.tuple #[.int .i64 0, .int .i64 1]) ∧ w = w' := by
  have hc := fun wx => rLength_calls wx y m hy hm
  have hb := monthLen_le y m
  generalize LexM.monthLen y m = l at hc hb h
  have HC := Lib.hid hc
  have ht : ∀ (a b : Nat), (decide ((a : Int) < b) = true) ∨ (decide ((a : Int) < b) = false) := fun a b => by cases decide ((a : Int) < b) <;> simp
  have hcase : y < 1 ∨ (1 ≤ y ∧ m < 1) ∨ (1 ≤ y ∧ 12 < m) ∨ (1 ≤ y ∧ 1 ≤ m ∧ m ≤ 12 ∧ d < 1) ∨ (1 ≤ y ∧ 1 ≤ m ∧ m ≤ 12 ∧ 1 ≤ d ∧ l < d) := by omega
  clear h hc ht
  rcases hcase with h1 | ⟨h1, h2⟩ | ⟨h1, h2⟩ | ⟨h1, h2, h3, h4⟩ | ⟨h1, h2, h3, h4, h5⟩
  all_goals
    go_enter Tryz.func99, Tryz.ntmps99
    go_wp2_with (go_at_call 112; refine (HC.out _).mono ?_; rintro e w' ⟨rfl, rfl⟩)
    go_ret2
    exact ⟨rfl, rfl⟩

set_option maxHeartbeats 1000000 in
set_option maxRecDepth 100000 in
theorem rDays_yes (w : World) (y m d : Nat) (hy : y ≤ 9999) (hm : m ≤ 99) (hd : d ≤ 99) (h : 1 ≤ y ∧ 1 ≤ m ∧ m ≤ 12 ∧ 1 ≤ d ∧ d ≤ LexM.monthLen y m) :
    Calls Tryz.prog 99 #[.int .i64 y, .int .i64 m, .int .i64 d] w fun e w' => (∃ n : Int, e = .returned (.tuple #[.int .i64 n, .int .i64 0])) ∧ w = w' := by
  obtain ⟨h1, h2, h3, h4, h5⟩ := h
  have hc := fun wx => rLength_calls wx y m hy hm
  have hb := monthLen_le y m
  generalize LexM.monthLen y m = l at hc h5 hb
  have HC := Lib.hid hc
  clear hc
  have t1 : decide ((y : Int) < 1) = false := by simp; omega
  have t2 : decide ((9999 : Int) < y) = false := by simp; omega
  have t3 : decide ((m : Int) < 1) = false := by simp; omega
  have t4 : decide ((12 : Int) < m) = false := by simp; omega
  have t5 : decide ((d : Int) < 1) = false := by simp; omega
  have t6 : decide (l < d) = false := by simp; omega
  go_enter Tryz.func99, Tryz.ntmps99
  go_wp2_with (go_at_call 112; refine (HC.out _).mono ?_; rintro e w' ⟨rfl, rfl⟩)
  go_loopg [8, 9] (m - 1) (fun q v u wr => ∃ (a : Int) (k : Nat), v = .int .i64 a ∧ u = .int .i64 k ∧ 0 ≤ a ∧ a ≤ 100 + 31 * k ∧ 1 ≤ k ∧ k ≤ m ∧ q = m - k ∧ w = wr)
  case atStart => exact ⟨d, 1, rfl, rfl, by omega, by omega, by omega, by omega, rfl, rfl⟩
  case round =>
    obtain ⟨a, k, rfl, rfl, ha0, ha1, hk1, hk, rfl, rfl⟩ := hrel
    by_cases hkm : k < m
    · have hc := fun wx => rLength_calls wx y k hy (by omega)
      have hb2 := monthLen_le y k
      generalize LexM.monthLen y k = l2 at hc hb2
      have HC2 := Lib.hid hc
      clear hc
      go_wp2_with (go_at_call 112; refine (HC2.out _).mono ?_; rintro e w3 ⟨rfl, rfl⟩)
      go_roundg (m - (k + 1))
      case measure => omega
      case rel => exact ⟨a + l2, k + 1, rfl, by go_num, by omega, by omega, by omega, by omega, rfl, rfl⟩
    · have hlt : ¬ (k : Int) < (m : Int) := by omega
      go_wp2
      go_ret2
      exact ⟨⟨_, rfl⟩, rfl⟩

end Go.Proofs.YtpnfcgmogjpliaaGreatDoor
