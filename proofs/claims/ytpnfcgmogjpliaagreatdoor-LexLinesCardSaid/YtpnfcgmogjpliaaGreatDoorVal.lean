/- The program's dates: isLeap, yearsDays, monthDays, Days, Val, Unstamp, where a lexer calls them: at eight bytes. -/
import Derived.Test.YtpnfcgmogjpliaaGreatDoorSc4
namespace Go.Proofs.YtpnfcgmogjpliaaGreatDoor
open Go.RowKit
attribute [local go_sem ↓] Go.wp_at_zero Go.wp_at_succ

set_option maxRecDepth 100000 in
theorem isLeap_calls (w : World) (y : Nat) (hy : y ≤ 9999) (r : Bool) (hr : LexM.isLeap y = r) :
    Calls Tryz.prog 134 #[.int .i64 y] w fun e w' => e = .returned (.bool r) ∧ w = w' := by
  have HR := Lib.hid hr
  clear hr
  go_enter Tryz.func134, Tryz.ntmps134
  go_wp2
  all_goals
    go_ret
    exact ⟨congrArg (fun b => Ending.returned (.bool b)) (by rw [← HR.out]; unfold LexM.isLeap; rw [Bool.eq_iff_iff]; simp; omega), rfl⟩

set_option maxRecDepth 100000 in
theorem yearsDays_calls (w : World) (y : Nat) (hy1 : 1 ≤ y) (hy : y ≤ 9999) :
    Calls Tryz.prog 125 #[.int .i64 y] w fun e w' => (∃ n : Int, 0 ≤ n ∧ n ≤ 4000000 ∧ e = .returned (.int .i64 n)) ∧ w = w' := by
  have h1 : (1 : Int) ≤ y := by omega
  have h2 : (y : Int) ≤ 9999 := by omega
  generalize (y : Int) = z at h1 h2
  clear hy1 hy y
  go_enter Tryz.func125, Tryz.ntmps125
  go_wp2
  go_ret
  refine ⟨⟨_, ?_, ?_, rfl⟩, rfl⟩
  · omega
  · omega

theorem idxMonth (g i : Nat) (hi : i < 12) (w : World) : (Instr.indexAt 141 (.pointer (some ⟨g, 0, none⟩)) (.int .i64 (i : Int))).run Tryz.prog w = .ok (.pointer (some ⟨g, i, none⟩)) w := by
  have ha : Tryz.prog.arrayLen 141 = 12 := by kernel_rfl
  have he : Tryz.prog.elem 141 = 3 := by kernel_rfl
  rw [run_indexAt_array w 141 ⟨g, 0, none⟩ .i64 i (by kernel_rfl), ha, he, if_pos ⟨by omega, by omega⟩]
  have hs : (sizeOf 3).run Tryz.prog w = .ok 1 w := by kernel_rfl
  rw [hs]
  simp [Result.andThen, Addr.add]
  exact fun h => h.symm

set_option maxHeartbeats 1000000 in
set_option maxRecDepth 100000 in
theorem monthDays_calls (w : World) (y m : Nat) (hy : y ≤ 9999) (hm1 : 1 ≤ m) (hm : m ≤ 12) :
    Calls Tryz.prog 124 #[.int .i64 y, .int .i64 m] w fun e w' => e = .returned (.int .i64 (LexM.monthLen y m)) ∧ Below w.heap.size w w' := by
  have hix := fun g w => idxMonth g (m - 1) (by omega) w
  have hcase : m = 1 ∨ m = 2 ∨ m = 3 ∨ m = 4 ∨ m = 5 ∨ m = 6 ∨ m = 7 ∨ m = 8 ∨ m = 9 ∨ m = 10 ∨ m = 11 ∨ m = 12 := by omega
  rcases hcase with rfl | rfl | rfl | rfl | rfl | rfl | rfl | rfl | rfl | rfl | rfl | rfl
  · have e : LexM.monthLen y 1 = 31 := rfl
    rw [e]
    clear e hm hm1
    go_enter Tryz.func124, Tryz.ntmps124
    go_wp2
    go_ret
    exact ⟨rfl, (Below.refl _ _).alloc (Nat.le_refl _) _⟩
  · cases hl : LexM.isLeap y with
    | true =>
      have e : LexM.monthLen y 2 = 29 := by unfold LexM.monthLen; rw [hl]; rfl
      rw [e]
      have HL := Lib.hid hl
      clear e hm hm1 hl
      go_enter Tryz.func124, Tryz.ntmps124
      go_wp2_with (go_at_call 134; refine (isLeap_calls _ y hy true HL.out).mono ?_; rintro e w' ⟨rfl, rfl⟩)
      go_ret
      exact ⟨rfl, (Below.refl _ _).alloc (Nat.le_refl _) _⟩
    | false =>
      have e : LexM.monthLen y 2 = 28 := by unfold LexM.monthLen; rw [hl]; rfl
      rw [e]
      have HL := Lib.hid hl
      clear e hm hm1 hl
      go_enter Tryz.func124, Tryz.ntmps124
      go_wp2_with (go_at_call 134; refine (isLeap_calls _ y hy false HL.out).mono ?_; rintro e w' ⟨rfl, rfl⟩)
      go_ret
      exact ⟨rfl, (Below.refl _ _).alloc (Nat.le_refl _) _⟩
  · have e : LexM.monthLen y 3 = 31 := rfl
    rw [e]
    clear e hm hm1
    go_enter Tryz.func124, Tryz.ntmps124
    go_wp2
    go_ret
    exact ⟨rfl, (Below.refl _ _).alloc (Nat.le_refl _) _⟩
  · have e : LexM.monthLen y 4 = 30 := rfl
    rw [e]
    clear e hm hm1
    go_enter Tryz.func124, Tryz.ntmps124
    go_wp2
    go_ret
    exact ⟨rfl, (Below.refl _ _).alloc (Nat.le_refl _) _⟩
  · have e : LexM.monthLen y 5 = 31 := rfl
    rw [e]
    clear e hm hm1
    go_enter Tryz.func124, Tryz.ntmps124
    go_wp2
    go_ret
    exact ⟨rfl, (Below.refl _ _).alloc (Nat.le_refl _) _⟩
  · have e : LexM.monthLen y 6 = 30 := rfl
    rw [e]
    clear e hm hm1
    go_enter Tryz.func124, Tryz.ntmps124
    go_wp2
    go_ret
    exact ⟨rfl, (Below.refl _ _).alloc (Nat.le_refl _) _⟩
  · have e : LexM.monthLen y 7 = 31 := rfl
    rw [e]
    clear e hm hm1
    go_enter Tryz.func124, Tryz.ntmps124
    go_wp2
    go_ret
    exact ⟨rfl, (Below.refl _ _).alloc (Nat.le_refl _) _⟩
  · have e : LexM.monthLen y 8 = 31 := rfl
    rw [e]
    clear e hm hm1
    go_enter Tryz.func124, Tryz.ntmps124
    go_wp2
    go_ret
    exact ⟨rfl, (Below.refl _ _).alloc (Nat.le_refl _) _⟩
  · have e : LexM.monthLen y 9 = 30 := rfl
    rw [e]
    clear e hm hm1
    go_enter Tryz.func124, Tryz.ntmps124
    go_wp2
    go_ret
    exact ⟨rfl, (Below.refl _ _).alloc (Nat.le_refl _) _⟩
  · have e : LexM.monthLen y 10 = 31 := rfl
    rw [e]
    clear e hm hm1
    go_enter Tryz.func124, Tryz.ntmps124
    go_wp2
    go_ret
    exact ⟨rfl, (Below.refl _ _).alloc (Nat.le_refl _) _⟩
  · have e : LexM.monthLen y 11 = 30 := rfl
    rw [e]
    clear e hm hm1
    go_enter Tryz.func124, Tryz.ntmps124
    go_wp2
    go_ret
    exact ⟨rfl, (Below.refl _ _).alloc (Nat.le_refl _) _⟩
  · have e : LexM.monthLen y 12 = 31 := rfl
    rw [e]
    clear e hm hm1
    go_enter Tryz.func124, Tryz.ntmps124
    go_wp2
    go_ret
    exact ⟨rfl, (Below.refl _ _).alloc (Nat.le_refl _) _⟩

theorem monthLen_le (y m : Nat) : 28 ≤ LexM.monthLen y m ∧ LexM.monthLen y m ≤ 31 := by
  unfold LexM.monthLen
  split
  · split <;> omega
  · split <;> omega

set_option maxHeartbeats 1000000 in
set_option maxRecDepth 100000 in
theorem days_no (w : World) (y m d : Nat) (hy : y ≤ 9999) (hm : m ≤ 99) (hd : d ≤ 99) (h : ¬ (1 ≤ y ∧ 1 ≤ m ∧ m ≤ 12 ∧ 1 ≤ d ∧ d ≤ LexM.monthLen y m)) :
    Calls Tryz.prog 110 #[.int .i64 y, .int .i64 m, .int .i64 d] w fun e w' => e = .returned (.tuple #[.int .i64 0, .int .i64 1]) ∧ Below w.heap.size w w' := by
  have hcase : y < 1 ∨ (1 ≤ y ∧ m < 1) ∨ (1 ≤ y ∧ 12 < m) ∨ (1 ≤ y ∧ 1 ≤ m ∧ m ≤ 12 ∧ d < 1) ∨ (1 ≤ y ∧ 1 ≤ m ∧ m ≤ 12 ∧ 1 ≤ d ∧ LexM.monthLen y m < d) := by omega
  clear h
  rcases hcase with h1 | ⟨h1, h2⟩ | ⟨h1, h2⟩ | ⟨h1, h2, h3, h4⟩ | ⟨h1, h2, h3, h4, h5⟩
  · go_enter Tryz.func110, Tryz.ntmps110
    go_wp2
    go_ret2
    exact ⟨rfl, Below.refl _ _⟩
  · go_enter Tryz.func110, Tryz.ntmps110
    go_wp2
    go_ret2
    exact ⟨rfl, Below.refl _ _⟩
  · go_enter Tryz.func110, Tryz.ntmps110
    go_wp2
    go_ret2
    exact ⟨rfl, Below.refl _ _⟩
  · go_enter Tryz.func110, Tryz.ntmps110
    go_wp2
    go_ret2
    exact ⟨rfl, Below.refl _ _⟩
  · have hc := fun wx => monthDays_calls wx y m hy h2 h3
    have hb := monthLen_le y m
    generalize LexM.monthLen y m = l at hc h5 hb
    have HC := Lib.hid hc
    clear hc
    go_enter Tryz.func110, Tryz.ntmps110
    go_wp2_with (go_at_call 124; refine (HC.out _).mono ?_; rintro e w' ⟨rfl, hb1⟩)
    go_ret2
    exact ⟨rfl, hb1⟩

set_option maxHeartbeats 1000000 in
set_option maxRecDepth 100000 in
theorem days_yes (w : World) (y m d : Nat) (hy : y ≤ 9999) (hm : m ≤ 99) (hd : d ≤ 99) (h : 1 ≤ y ∧ 1 ≤ m ∧ m ≤ 12 ∧ 1 ≤ d ∧ d ≤ LexM.monthLen y m) :
    Calls Tryz.prog 110 #[.int .i64 y, .int .i64 m, .int .i64 d] w fun e w' => (∃ n : Int, e = .returned (.tuple #[.int .i64 n, .int .i64 0])) ∧ Below w.heap.size w w' := by
  obtain ⟨h1, h2, h3, h4, h5⟩ := h
  have hc := fun wx => monthDays_calls wx y m hy h2 h3
  have hb := monthLen_le y m
  generalize LexM.monthLen y m = l at hc h5 hb
  have HC := Lib.hid hc
  clear hc
  go_enter Tryz.func110, Tryz.ntmps110
  go_wp2_with (first | (go_at_call 124; refine (HC.out _).mono ?_; rintro e w1 ⟨rfl, hb1⟩) | (go_at_call 125; refine (yearsDays_calls _ y h1 hy).mono ?_; rintro e w2 ⟨⟨n, hn1, hn2, rfl⟩, rfl⟩))
  go_loopg [8, 41] m (fun q v u wr => ∃ (a : Int) (k : Nat), v = .int .i64 a ∧ u = .int .i64 k ∧ 0 ≤ a ∧ a ≤ 4000100 + 31 * k ∧ k + 1 ≤ m ∧ q = m - k ∧ Aside (Below w.heap.size w wr))
  case atStart => exact ⟨n + d, 0, rfl, rfl, by omega, by omega, by omega, by omega, hb1⟩
  case round =>
    obtain ⟨a, k, rfl, rfl, ha0, ha1, hk, rfl, hbw⟩ := hrel
    by_cases hkm : k + 1 < m
    · have hc := fun wx => monthDays_calls wx y (k + 1) hy (by omega) (by omega)
      have hb := monthLen_le y (k + 1)
      generalize LexM.monthLen y (k + 1) = l2 at hc hb
      have HC2 := Lib.hid hc
      clear hc
      have hlt : (k : Int) < (m : Int) - 1 := by omega
      go_wp2_with (go_at_call 124; refine (HC2.out _).mono ?_; rintro e w3 ⟨rfl, hb3⟩)
      go_roundg (m - (k + 1))
      case measure => omega
      case rel => exact ⟨a + l2, k + 1, rfl, by go_num, by omega, by omega, by omega, rfl, hbw.out.trans (hb3.mono hbw.out.size)⟩
    · have hlt : ¬ (k : Int) < (m : Int) - 1 := by omega
      go_wp2
      go_ret2
      exact ⟨⟨_, rfl⟩, hbw.out⟩

end Go.Proofs.YtpnfcgmogjpliaaGreatDoor
