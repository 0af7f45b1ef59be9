/- The scanner's method date. The contract holds of every source of at most 20,000 bytes. -/
import Derived.Test.YtpnfcgmogjpliaaGreatDoorVal2
namespace Go.Proofs.YtpnfcgmogjpliaaGreatDoor
open Go.RowKit
attribute [local go_sem ↓] Go.wp_at_zero Go.wp_at_succ

theorem prefix_calls {p : ByteArray} (t : ByteArray) (wx : World) (r : Bool) (hp : Lib.hasPrefix t.data.toList p.data.toList = r) :
    Calls Tryz.prog 59 #[.string t, .string p] wx fun e w' => e = .returned (.bool r) ∧ wx = w' := by
  have := Tryz.strings_HasPrefix t p wx
  rw [hp] at this
  exact this.mono fun e w' h => ⟨h.1, h.2.symm⟩
theorem take_two (l : List UInt8) (a b : UInt8) : (l.take 2 == [a, b]) = Lib.hasPrefix l [a, b] := by
  rw [hasPrefix_two]
  match l with
  | [] => rfl
  | [x] => simp
  | x :: y :: l =>
    show ([x, y] == [a, b]) = (some x == some a && some y == some b)
    rw [Bool.eq_iff_iff]
    simp

/-- Unstamp at eight bytes that are not all blanks. -/
theorem unstamp_calls (w : World) (d : ByteArray) (h8 : d.size = 8) (hne : d.toList ≠ [32, 32, 32, 32, 32, 32, 32, 32]) :
    Calls Tryz.prog 97 #[.string d] w fun e w' => (∃ n : Int, e = .returned (.tuple #[.int .i64 n, .bool (LexM.isDay (bs d))])) ∧ Below w.heap.size w w' := by
  by_cases hd : ∀ b ∈ bs d, LexM.isDigit b = true
  · exact unstamp_yes w d h8 hne hd
  · refine (unstamp_no w d h8 hne hd).mono fun e w' h => ⟨⟨0, ?_⟩, h.2⟩
    have : LexM.isDay (bs d) = false := by
      unfold LexM.isDay
      rw [show (bs d).all LexM.isDigit = false by rw [← Bool.not_eq_true, List.all_eq_true]; exact hd]
      simp
    rw [this]
    exact h.1

set_option maxHeartbeats 1000000 in
set_option maxRecDepth 100000 in
theorem date_empty (w : World) (g : Nat) (s : ByteArray) (k : Nat) (ln : Bool) (bad : Int) (h : ScSt w g s k ln bad) (_hs : s.size ≤ 20000) (hk : k < s.size) (t : ByteArray) (ht : s.extract k s.size = t) (hp : Lib.hasPrefix t.data.toList [123, 125] = true) :
    Calls Tryz.prog 83 #[.pointer (some ⟨g, 0, none⟩)] w fun e w' => e = .returned (.tuple #[.string ⟨#[]⟩, .int .i64 2, .bool true]) ∧ ScSt w' g s k ln bad ∧ Ch g w w' := by
  have HS := Lib.hid h
  obtain ⟨c0, c1, c258, c259, c260⟩ := sc_cells h
  have hsl := slice_from s k k rfl (by omega)
  rw [ht] at hsl
  clear h ht
  have hpc := fun wx => prefix_calls (p := ⟨#[123, 125]⟩) t wx true hp
  have HP := Lib.hid hpc
  clear hp hpc
  go_enter Tryz.func83, Tryz.ntmps83
  go_wp2
  go_quiet (fail)
  go_wp2_with (go_at_call 59; refine (HP.out _).mono ?_; rintro e w' ⟨rfl, rfl⟩)
  go_ret3
  exact ⟨rfl, HS.out.drewN _, (Ch.refl g w).drewN _⟩

set_option maxHeartbeats 1000000 in
set_option maxRecDepth 100000 in
theorem date_not (w : World) (g : Nat) (s : ByteArray) (k : Nat) (ln : Bool) (bad : Int) (h : ScSt w g s k ln bad) (_hs : s.size ≤ 20000) (hk : k < s.size) (t : ByteArray) (ht : s.extract k s.size = t) (hp : Lib.hasPrefix t.data.toList [123, 125] = false)
    (hno : t.size < 13 ∨ ∃ h13 : 13 ≤ t.size, ((t.extract 0 2).toList == ([123, 94] : List UInt8)) = false ∨ (((t.extract 0 2).toList == ([123, 94] : List UInt8)) = true ∧ ((t[6].toNat : Int) != 45) = true) ∨ (((t.extract 0 2).toList == ([123, 94] : List UInt8)) = true ∧ ((t[6].toNat : Int) != 45) = false ∧ ((t[9].toNat : Int) != 45) = true) ∨ (((t.extract 0 2).toList == ([123, 94] : List UInt8)) = true ∧ ((t[6].toNat : Int) != 45) = false ∧ ((t[9].toNat : Int) != 45) = false ∧ ((t[12].toNat : Int) != 125) = true)) :
    Calls Tryz.prog 83 #[.pointer (some ⟨g, 0, none⟩)] w fun e w' => e = .returned (.tuple #[.string ⟨#[]⟩, .int .i64 0, .bool false]) ∧ ScSt w' g s k ln bad ∧ Ch g w w' := by
  have HS := Lib.hid h
  obtain ⟨c0, c1, c258, c259, c260⟩ := sc_cells h
  have hsl := slice_from s k k rfl (by omega)
  rw [ht] at hsl
  clear h ht
  have hpc := fun wx => prefix_calls (p := ⟨#[123, 125]⟩) t wx false hp
  have HP := Lib.hid hpc
  clear hp hpc
  rcases hno with h13 | ⟨h13, h2 | ⟨h2, h6⟩ | ⟨h2, h6, h9⟩ | ⟨h2, h6, h9, h12⟩⟩
  · have b1 : decide ((t.size : Int) < 13) = true := by simp; omega
    go_enter Tryz.func83, Tryz.ntmps83
    go_wp2
    go_quiet (fail)
    go_wp2_with (go_at_call 59; refine (HP.out _).mono ?_; rintro e w' ⟨rfl, rfl⟩)
    go_ret3
    exact ⟨rfl, HS.out.drewN _, (Ch.refl g w).drewN _⟩
  all_goals
    have sl0 := slice_to t 2 2 rfl (by omega)
    have b1 : decide ((t.size : Int) < 13) = false := by simp; omega
    go_enter Tryz.func83, Tryz.ntmps83
    go_wp2
    go_quiet (fail)
    go_wp2_with (go_at_call 59; refine (HP.out _).mono ?_; rintro e w' ⟨rfl, rfl⟩)
    go_ret3
    exact ⟨rfl, HS.out.drewN _, (Ch.refl g w).drewN _⟩

set_option maxHeartbeats 1000000 in
set_option maxRecDepth 100000 in
theorem date_blank (w : World) (g : Nat) (s : ByteArray) (k : Nat) (ln : Bool) (bad : Int) (h : ScSt w g s k ln bad) (_hs : s.size ≤ 20000) (hk : k < s.size) (t : ByteArray) (ht : s.extract k s.size = t) (h13 : 13 ≤ t.size) (hp : Lib.hasPrefix t.data.toList [123, 125] = false) (h2 : ((t.extract 0 2).toList == ([123, 94] : List UInt8)) = true) (h6 : ((t[6].toNat : Int) != 45) = false) (h9 : ((t[9].toNat : Int) != 45) = false) (h12 : ((t[12].toNat : Int) != 125) = false)
    (D : ByteArray) (hD : t.extract 2 6 ++ t.extract 7 9 ++ t.extract 10 12 = D) (hb : D.toList = [32, 32, 32, 32, 32, 32, 32, 32]) :
    Calls Tryz.prog 83 #[.pointer (some ⟨g, 0, none⟩)] w fun e w' => e = .returned (.tuple #[.string D, .int .i64 13, .bool false]) ∧ ScSt w' g s k ln bad ∧ Ch g w w' := by
  have HS := Lib.hid h
  obtain ⟨c0, c1, c258, c259, c260⟩ := sc_cells h
  have hsl := slice_from s k k rfl (by omega)
  rw [ht] at hsl
  clear h ht
  have hpc := fun wx => prefix_calls (p := ⟨#[123, 125]⟩) t wx false hp
  have HP := Lib.hid hpc
  have sl0 := slice_to t 2 2 rfl (by omega)
  have sl1 := slice_run t 2 6 2 6 rfl rfl (by omega) (by omega)
  have sl2 := slice_run t 7 9 7 9 rfl rfl (by omega) (by omega)
  have sl3 := slice_run t 10 12 10 12 rfl rfl (by omega) (by omega)
  have b1 : decide ((t.size : Int) < 13) = false := by simp; omega
  have hb' : (D.toList == ([32, 32, 32, 32, 32, 32, 32, 32] : List UInt8)) = true := beq_iff_eq.2 hb
  have hu : ∀ wx, Calls Tryz.prog 97 #[.string (t.extract 2 6 ++ t.extract 7 9 ++ t.extract 10 12)] wx fun e w' => e = .returned (.tuple #[.int .i64 0, .bool true]) ∧ Below wx.heap.size wx w' := fun wx => by
    have e : D = ⟨#[32, 32, 32, 32, 32, 32, 32, 32]⟩ := by
      rw [Lib.toList_data] at hb
      apply ByteArray.ext
      apply Array.toList_inj.1
      exact hb
    rw [hD, e]
    exact unstamp_blank wx
  have HU := Lib.hid hu
  clear hp hpc hu hb
  go_enter Tryz.func83, Tryz.ntmps83
  go_wp2
  go_quiet (fail)
  go_wp2_with (go_at_call 59; refine (HP.out _).mono ?_; rintro e w' ⟨rfl, rfl⟩)
  go_quiet (fail)
  have HD := Lib.hid hD
  rw [← hD] at hb' ⊢
  clear hD
  go_wp2_with (go_at_call 97; refine (HU.out _).mono ?_; rintro e w1 ⟨rfl, hb1⟩)
  go_ret3
  exact ⟨by rw [← HD.out]; rfl, ((HS.out.drewN _).below hb1), ((Ch.refl g w).drewN _).belowN hb1⟩

set_option maxHeartbeats 1000000 in
set_option maxRecDepth 100000 in
theorem date_day_true (w : World) (g : Nat) (s : ByteArray) (k : Nat) (ln : Bool) (bad : Int) (h : ScSt w g s k ln bad) (_hs : s.size ≤ 20000) (hk : k < s.size) (t : ByteArray) (ht : s.extract k s.size = t) (h13 : 13 ≤ t.size) (hp : Lib.hasPrefix t.data.toList [123, 125] = false) (h2 : ((t.extract 0 2).toList == ([123, 94] : List UInt8)) = true) (h6 : ((t[6].toNat : Int) != 45) = false) (h9 : ((t[9].toNat : Int) != 45) = false) (h12 : ((t[12].toNat : Int) != 125) = false)
    (D : ByteArray) (hD : t.extract 2 6 ++ t.extract 7 9 ++ t.extract 10 12 = D) (h8 : D.size = 8) (hb : ¬ D.toList = [32, 32, 32, 32, 32, 32, 32, 32]) (hday : LexM.isDay (bs D) = true) :
    Calls Tryz.prog 83 #[.pointer (some ⟨g, 0, none⟩)] w fun e w' => e = .returned (.tuple #[.string D, .int .i64 13, .bool true]) ∧ ScSt w' g s k ln bad ∧ Ch g w w' := by
  have HS := Lib.hid h
  obtain ⟨c0, c1, c258, c259, c260⟩ := sc_cells h
  have hsl := slice_from s k k rfl (by omega)
  rw [ht] at hsl
  clear h ht
  have hpc := fun wx => prefix_calls (p := ⟨#[123, 125]⟩) t wx false hp
  have HP := Lib.hid hpc
  have sl0 := slice_to t 2 2 rfl (by omega)
  have sl1 := slice_run t 2 6 2 6 rfl rfl (by omega) (by omega)
  have sl2 := slice_run t 7 9 7 9 rfl rfl (by omega) (by omega)
  have sl3 := slice_run t 10 12 10 12 rfl rfl (by omega) (by omega)
  have b1 : decide ((t.size : Int) < 13) = false := by simp; omega
  have hb' : (D.toList == ([32, 32, 32, 32, 32, 32, 32, 32] : List UInt8)) = false := beq_eq_false_iff_ne.2 hb
  have hu : ∀ wx, Calls Tryz.prog 97 #[.string (t.extract 2 6 ++ t.extract 7 9 ++ t.extract 10 12)] wx fun e w' => (∃ n : Int, e = .returned (.tuple #[.int .i64 n, .bool true])) ∧ Below wx.heap.size wx w' := fun wx => by
    have := unstamp_calls wx D h8 hb
    rw [hday] at this
    rw [hD]
    exact this
  have HU := Lib.hid hu
  clear hp hpc hu hb h8 hday
  go_enter Tryz.func83, Tryz.ntmps83
  go_wp2
  go_quiet (fail)
  go_wp2_with (go_at_call 59; refine (HP.out _).mono ?_; rintro e w' ⟨rfl, rfl⟩)
  go_quiet (fail)
  have HD := Lib.hid hD
  rw [← hD] at hb' ⊢
  clear hD
  go_wp2_with (go_at_call 97; refine (HU.out _).mono ?_; rintro e w1 ⟨⟨n, rfl⟩, hb1⟩)
  go_ret3
  exact ⟨by rw [← HD.out]; rfl, ((HS.out.drewN _).below hb1), ((Ch.refl g w).drewN _).belowN hb1⟩

set_option maxHeartbeats 1000000 in
set_option maxRecDepth 100000 in
theorem date_day_false (w : World) (g : Nat) (s : ByteArray) (k : Nat) (ln : Bool) (bad : Int) (h : ScSt w g s k ln bad) (_hs : s.size ≤ 20000) (hk : k < s.size) (t : ByteArray) (ht : s.extract k s.size = t) (h13 : 13 ≤ t.size) (hp : Lib.hasPrefix t.data.toList [123, 125] = false) (h2 : ((t.extract 0 2).toList == ([123, 94] : List UInt8)) = true) (h6 : ((t[6].toNat : Int) != 45) = false) (h9 : ((t[9].toNat : Int) != 45) = false) (h12 : ((t[12].toNat : Int) != 125) = false)
    (D : ByteArray) (hD : t.extract 2 6 ++ t.extract 7 9 ++ t.extract 10 12 = D) (h8 : D.size = 8) (hb : ¬ D.toList = [32, 32, 32, 32, 32, 32, 32, 32]) (hday : LexM.isDay (bs D) = false) :
    Calls Tryz.prog 83 #[.pointer (some ⟨g, 0, none⟩)] w fun e w' => e = .returned (.tuple #[.string D, .int .i64 13, .bool false]) ∧ ScSt w' g s k ln bad ∧ Ch g w w' := by
  have HS := Lib.hid h
  obtain ⟨c0, c1, c258, c259, c260⟩ := sc_cells h
  have hsl := slice_from s k k rfl (by omega)
  rw [ht] at hsl
  clear h ht
  have hpc := fun wx => prefix_calls (p := ⟨#[123, 125]⟩) t wx false hp
  have HP := Lib.hid hpc
  have sl0 := slice_to t 2 2 rfl (by omega)
  have sl1 := slice_run t 2 6 2 6 rfl rfl (by omega) (by omega)
  have sl2 := slice_run t 7 9 7 9 rfl rfl (by omega) (by omega)
  have sl3 := slice_run t 10 12 10 12 rfl rfl (by omega) (by omega)
  have b1 : decide ((t.size : Int) < 13) = false := by simp; omega
  have hb' : (D.toList == ([32, 32, 32, 32, 32, 32, 32, 32] : List UInt8)) = false := beq_eq_false_iff_ne.2 hb
  have hu : ∀ wx, Calls Tryz.prog 97 #[.string (t.extract 2 6 ++ t.extract 7 9 ++ t.extract 10 12)] wx fun e w' => (∃ n : Int, e = .returned (.tuple #[.int .i64 n, .bool false])) ∧ Below wx.heap.size wx w' := fun wx => by
    have := unstamp_calls wx D h8 hb
    rw [hday] at this
    rw [hD]
    exact this
  have HU := Lib.hid hu
  clear hp hpc hu hb h8 hday
  go_enter Tryz.func83, Tryz.ntmps83
  go_wp2
  go_quiet (fail)
  go_wp2_with (go_at_call 59; refine (HP.out _).mono ?_; rintro e w' ⟨rfl, rfl⟩)
  go_quiet (fail)
  have HD := Lib.hid hD
  rw [← hD] at hb' ⊢
  clear hD
  go_wp2_with (go_at_call 97; refine (HU.out _).mono ?_; rintro e w1 ⟨⟨n, rfl⟩, hb1⟩)
  go_ret3
  exact ⟨by rw [← HD.out]; rfl, ((HS.out.drewN _).below hb1), ((Ch.refl g w).drewN _).belowN hb1⟩

end Go.Proofs.YtpnfcgmogjpliaaGreatDoor
