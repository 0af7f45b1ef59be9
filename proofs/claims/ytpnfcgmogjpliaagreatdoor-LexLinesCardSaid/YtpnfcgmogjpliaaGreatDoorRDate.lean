/- The document's dateAt answers what the model says. -/
import Derived.Test.YtpnfcgmogjpliaaGreatDoorRVal3
import Derived.Test.YtpnfcgmogjpliaaGreatDoorSc9
namespace Go.Proofs.YtpnfcgmogjpliaaGreatDoor
open Go.RowKit
attribute [local go_sem ↓] Go.wp_at_zero Go.wp_at_succ

/-- Unstamp at eight bytes that are not all blanks. -/
theorem rUnstamp_calls (w : World) (d : ByteArray) (h8 : d.size = 8) (hne : d.toList ≠ [32, 32, 32, 32, 32, 32, 32, 32]) :
    Calls Tryz.prog 86 #[.string d] w fun e w' => (∃ n : Int, e = .returned (.tuple #[.int .i64 n, .bool (LexM.isDay (bs d))])) ∧ ∃ q, w' = w.drewN q := by
  by_cases hd : ∀ b ∈ bs d, LexM.isDigit b = true
  · exact rUnstamp_yes w d h8 hne hd
  · refine (rUnstamp_no w d h8 hne hd).mono fun e w' h => ⟨⟨0, ?_⟩, 0, h.2.symm⟩
    have : LexM.isDay (bs d) = false := by
      unfold LexM.isDay
      rw [show (bs d).all LexM.isDigit = false by rw [← Bool.not_eq_true, List.all_eq_true]; exact hd]
      simp
    rw [this]
    exact h.1

set_option maxHeartbeats 1000000 in
set_option maxRecDepth 100000 in
theorem rdate_empty (w : World) (s : ByteArray) (k : Nat) (hs : s.size ≤ 20000) (_hk : k < s.size) (h1 : k + 1 < s.size) (h2 : ((s.extract k (k + 2)).toList == ([123, 125] : List UInt8)) = true) :
    Calls Tryz.prog 71 #[.string s, .int .i64 k] w fun e w' => e = .returned (.tuple #[.string ⟨#[]⟩, .int .i64 2]) ∧ ∃ q, w' = w.drewN q := by
  have b1 : decide ((k : Int) + 1 < s.size) = true := by simp; omega
  have sl := slice_run s k (k + 2) k (k + 2) rfl (by omega) (by omega) (by omega)
  go_enter Tryz.func71, Tryz.ntmps71
  go_wp2
  go_ret2
  exact ⟨rfl, 0, rfl⟩

set_option maxHeartbeats 1000000 in
set_option maxRecDepth 100000 in
theorem rdate_end (w : World) (s : ByteArray) (k : Nat) (hs : s.size ≤ 20000) (hk : k < s.size) (h1 : ¬ k + 1 < s.size) :
    Calls Tryz.prog 71 #[.string s, .int .i64 k] w fun e w' => e = .returned (.tuple #[.string ⟨#[]⟩, .int .i64 0]) ∧ ∃ q, w' = w.drewN q := by
  have b1 : decide ((k : Int) + 1 < s.size) = false := by simp; omega
  have b2 : decide ((s.size : Int) < (k : Int) + 13) = true := by simp; omega
  go_enter Tryz.func71, Tryz.ntmps71
  go_wp2
  go_ret2
  exact ⟨rfl, 0, rfl⟩

set_option maxHeartbeats 1000000 in
set_option maxRecDepth 100000 in
theorem rdate_short (w : World) (s : ByteArray) (k : Nat) (hs : s.size ≤ 20000) (_hk : k < s.size) (h1 : k + 1 < s.size) (h2 : ((s.extract k (k + 2)).toList == ([123, 125] : List UInt8)) = false) (h13 : ¬ k + 13 ≤ s.size) :
    Calls Tryz.prog 71 #[.string s, .int .i64 k] w fun e w' => e = .returned (.tuple #[.string ⟨#[]⟩, .int .i64 0]) ∧ ∃ q, w' = w.drewN q := by
  have b1 : decide ((k : Int) + 1 < s.size) = true := by simp; omega
  have sl := slice_run s k (k + 2) k (k + 2) rfl (by omega) (by omega) (by omega)
  have b2 : decide ((s.size : Int) < (k : Int) + 13) = true := by simp; omega
  go_enter Tryz.func71, Tryz.ntmps71
  go_wp2
  go_ret2
  exact ⟨rfl, 0, rfl⟩

set_option maxHeartbeats 1000000 in
set_option maxRecDepth 100000 in
theorem rdate_not0 (w : World) (s : ByteArray) (k : Nat) (hs : s.size ≤ 20000) (_hk : k < s.size) (h13 : k + 13 ≤ s.size) (h2 : ((s.extract k (k + 2)).toList == ([123, 125] : List UInt8)) = false) (q0 : ((s.extract k (k + 2)).toList == ([123, 94] : List UInt8)) = false) :
    Calls Tryz.prog 71 #[.string s, .int .i64 k] w fun e w' => e = .returned (.tuple #[.string ⟨#[]⟩, .int .i64 0]) ∧ ∃ q, w' = w.drewN q := by
  have h1 : k + 1 < s.size := by omega
  have b1 : decide ((k : Int) + 1 < s.size) = true := by simp; omega
  have sl := slice_run s k (k + 2) k (k + 2) rfl (by omega) (by omega) (by omega)
  have b2 : decide ((s.size : Int) < (k : Int) + 13) = false := by simp; omega
  go_enter Tryz.func71, Tryz.ntmps71
  go_wp2
  go_ret2
  exact ⟨rfl, 0, rfl⟩

set_option maxHeartbeats 1000000 in
set_option maxRecDepth 100000 in
theorem rdate_not1 (w : World) (s : ByteArray) (k : Nat) (hs : s.size ≤ 20000) (_hk : k < s.size) (h13 : k + 13 ≤ s.size) (h2 : ((s.extract k (k + 2)).toList == ([123, 125] : List UInt8)) = false) (q0 : ((s.extract k (k + 2)).toList == ([123, 94] : List UInt8)) = true) (q1 : ((s[k + 6].toNat : Int) != 45) = true) :
    Calls Tryz.prog 71 #[.string s, .int .i64 k] w fun e w' => e = .returned (.tuple #[.string ⟨#[]⟩, .int .i64 0]) ∧ ∃ q, w' = w.drewN q := by
  have h1 : k + 1 < s.size := by omega
  have b1 : decide ((k : Int) + 1 < s.size) = true := by simp; omega
  have sl := slice_run s k (k + 2) k (k + 2) rfl (by omega) (by omega) (by omega)
  have b2 : decide ((s.size : Int) < (k : Int) + 13) = false := by simp; omega
  go_enter Tryz.func71, Tryz.ntmps71
  go_wp2
  go_ret2
  exact ⟨rfl, 0, rfl⟩

set_option maxHeartbeats 1000000 in
set_option maxRecDepth 100000 in
theorem rdate_not2 (w : World) (s : ByteArray) (k : Nat) (hs : s.size ≤ 20000) (_hk : k < s.size) (h13 : k + 13 ≤ s.size) (h2 : ((s.extract k (k + 2)).toList == ([123, 125] : List UInt8)) = false) (q0 : ((s.extract k (k + 2)).toList == ([123, 94] : List UInt8)) = true) (q1 : ((s[k + 6].toNat : Int) != 45) = false) (q2 : ((s[k + 9].toNat : Int) != 45) = true) :
    Calls Tryz.prog 71 #[.string s, .int .i64 k] w fun e w' => e = .returned (.tuple #[.string ⟨#[]⟩, .int .i64 0]) ∧ ∃ q, w' = w.drewN q := by
  have h1 : k + 1 < s.size := by omega
  have b1 : decide ((k : Int) + 1 < s.size) = true := by simp; omega
  have sl := slice_run s k (k + 2) k (k + 2) rfl (by omega) (by omega) (by omega)
  have b2 : decide ((s.size : Int) < (k : Int) + 13) = false := by simp; omega
  go_enter Tryz.func71, Tryz.ntmps71
  go_wp2
  go_ret2
  exact ⟨rfl, 0, rfl⟩

set_option maxHeartbeats 1000000 in
set_option maxRecDepth 100000 in
theorem rdate_not3 (w : World) (s : ByteArray) (k : Nat) (hs : s.size ≤ 20000) (_hk : k < s.size) (h13 : k + 13 ≤ s.size) (h2 : ((s.extract k (k + 2)).toList == ([123, 125] : List UInt8)) = false) (q0 : ((s.extract k (k + 2)).toList == ([123, 94] : List UInt8)) = true) (q1 : ((s[k + 6].toNat : Int) != 45) = false) (q2 : ((s[k + 9].toNat : Int) != 45) = false) (q3 : ((s[k + 12].toNat : Int) != 125) = true) :
    Calls Tryz.prog 71 #[.string s, .int .i64 k] w fun e w' => e = .returned (.tuple #[.string ⟨#[]⟩, .int .i64 0]) ∧ ∃ q, w' = w.drewN q := by
  have h1 : k + 1 < s.size := by omega
  have b1 : decide ((k : Int) + 1 < s.size) = true := by simp; omega
  have sl := slice_run s k (k + 2) k (k + 2) rfl (by omega) (by omega) (by omega)
  have b2 : decide ((s.size : Int) < (k : Int) + 13) = false := by simp; omega
  go_enter Tryz.func71, Tryz.ntmps71
  go_wp2
  go_ret2
  exact ⟨rfl, 0, rfl⟩

set_option maxHeartbeats 1000000 in
set_option maxRecDepth 100000 in
theorem rdate_yes (w : World) (s : ByteArray) (k : Nat) (hs : s.size ≤ 20000) (_hk : k < s.size) (h13 : k + 13 ≤ s.size) (h2 : ((s.extract k (k + 2)).toList == ([123, 125] : List UInt8)) = false) (q0 : ((s.extract k (k + 2)).toList == ([123, 94] : List UInt8)) = true) (q1 : ((s[k + 6].toNat : Int) != 45) = false) (q2 : ((s[k + 9].toNat : Int) != 45) = false) (q3 : ((s[k + 12].toNat : Int) != 125) = false) (D : ByteArray) (hD : s.extract (k + 2) (k + 6) ++ s.extract (k + 7) (k + 9) ++ s.extract (k + 10) (k + 12) = D) (h8 : D.size = 8) (hb : D.toList ≠ [32, 32, 32, 32, 32, 32, 32, 32]) (hday : LexM.isDay (bs D) = true) (hx : ((D[0].toNat : Int) == 32) = false) :
    Calls Tryz.prog 71 #[.string s, .int .i64 k] w fun e w' => e = .returned (.tuple #[.string D, .int .i64 13]) ∧ ∃ q, w' = w.drewN q := by
  have h1 : k + 1 < s.size := by omega
  have b1 : decide ((k : Int) + 1 < s.size) = true := by simp; omega
  have sl := slice_run s k (k + 2) k (k + 2) rfl (by omega) (by omega) (by omega)
  have b2 : decide ((s.size : Int) < (k : Int) + 13) = false := by simp; omega
  have sl2 := slice_run s (k + 2) (k + 6) (k + 2) (k + 6) (by omega) (by omega) (by omega) (by omega)
  have sl7 := slice_run s (k + 7) (k + 9) (k + 7) (k + 9) (by omega) (by omega) (by omega) (by omega)
  have sl10 := slice_run s (k + 10) (k + 12) (k + 10) (k + 12) (by omega) (by omega) (by omega) (by omega)
  have hu : ∀ wx, Calls Tryz.prog 86 #[.string D] wx fun e w' => (∃ n : Int, e = .returned (.tuple #[.int .i64 n, .bool true])) ∧ ∃ q, w' = wx.drewN q := fun wx => by
    have := rUnstamp_calls wx D h8 hb
    rw [hday] at this
    exact this
  have HU := Lib.hid hu
  clear hu hb hday
  go_enter Tryz.func71, Tryz.ntmps71
  go_wp2
  go_quiet (fail)
  go_wp2_with (go_at_call 86; refine (HU.out _).mono ?_; rintro e w1 ⟨⟨n, rfl⟩, ⟨q, rfl⟩⟩)
  go_ret2
  exact ⟨rfl, _, rfl⟩

set_option maxHeartbeats 1000000 in
set_option maxRecDepth 100000 in
theorem rdate_no (w : World) (s : ByteArray) (k : Nat) (hs : s.size ≤ 20000) (_hk : k < s.size) (h13 : k + 13 ≤ s.size) (h2 : ((s.extract k (k + 2)).toList == ([123, 125] : List UInt8)) = false) (q0 : ((s.extract k (k + 2)).toList == ([123, 94] : List UInt8)) = true) (q1 : ((s[k + 6].toNat : Int) != 45) = false) (q2 : ((s[k + 9].toNat : Int) != 45) = false) (q3 : ((s[k + 12].toNat : Int) != 125) = false) (D : ByteArray) (hD : s.extract (k + 2) (k + 6) ++ s.extract (k + 7) (k + 9) ++ s.extract (k + 10) (k + 12) = D) (h8 : D.size = 8) (hb : D.toList ≠ [32, 32, 32, 32, 32, 32, 32, 32]) (hday : LexM.isDay (bs D) = false) :
    Calls Tryz.prog 71 #[.string s, .int .i64 k] w fun e w' => e = .returned (.tuple #[.string ⟨#[]⟩, .int .i64 0]) ∧ ∃ q, w' = w.drewN q := by
  have h1 : k + 1 < s.size := by omega
  have b1 : decide ((k : Int) + 1 < s.size) = true := by simp; omega
  have sl := slice_run s k (k + 2) k (k + 2) rfl (by omega) (by omega) (by omega)
  have b2 : decide ((s.size : Int) < (k : Int) + 13) = false := by simp; omega
  have sl2 := slice_run s (k + 2) (k + 6) (k + 2) (k + 6) (by omega) (by omega) (by omega) (by omega)
  have sl7 := slice_run s (k + 7) (k + 9) (k + 7) (k + 9) (by omega) (by omega) (by omega) (by omega)
  have sl10 := slice_run s (k + 10) (k + 12) (k + 10) (k + 12) (by omega) (by omega) (by omega) (by omega)
  have hu : ∀ wx, Calls Tryz.prog 86 #[.string D] wx fun e w' => (∃ n : Int, e = .returned (.tuple #[.int .i64 n, .bool false])) ∧ ∃ q, w' = wx.drewN q := fun wx => by
    have := rUnstamp_calls wx D h8 hb
    rw [hday] at this
    exact this
  have HU := Lib.hid hu
  clear hu hb hday
  go_enter Tryz.func71, Tryz.ntmps71
  go_wp2
  go_quiet (fail)
  go_wp2_with (go_at_call 86; refine (HU.out _).mono ?_; rintro e w1 ⟨⟨n, rfl⟩, ⟨q, rfl⟩⟩)
  go_ret2
  exact ⟨rfl, _, rfl⟩

set_option maxHeartbeats 1000000 in
set_option maxRecDepth 100000 in
theorem rdate_blank (w : World) (s : ByteArray) (k : Nat) (hs : s.size ≤ 20000) (_hk : k < s.size) (h13 : k + 13 ≤ s.size) (h2 : ((s.extract k (k + 2)).toList == ([123, 125] : List UInt8)) = false) (q0 : ((s.extract k (k + 2)).toList == ([123, 94] : List UInt8)) = true) (q1 : ((s[k + 6].toNat : Int) != 45) = false) (q2 : ((s[k + 9].toNat : Int) != 45) = false) (q3 : ((s[k + 12].toNat : Int) != 125) = false) (D : ByteArray) (hD : s.extract (k + 2) (k + 6) ++ s.extract (k + 7) (k + 9) ++ s.extract (k + 10) (k + 12) = D) (h8 : D.size = 8) (hb : D.toList = [32, 32, 32, 32, 32, 32, 32, 32]) (hx : ((D[0].toNat : Int) == 32) = true) :
    Calls Tryz.prog 71 #[.string s, .int .i64 k] w fun e w' => e = .returned (.tuple #[.string ⟨#[]⟩, .int .i64 0]) ∧ ∃ q, w' = w.drewN q := by
  have h1 : k + 1 < s.size := by omega
  have b1 : decide ((k : Int) + 1 < s.size) = true := by simp; omega
  have sl := slice_run s k (k + 2) k (k + 2) rfl (by omega) (by omega) (by omega)
  have b2 : decide ((s.size : Int) < (k : Int) + 13) = false := by simp; omega
  have sl2 := slice_run s (k + 2) (k + 6) (k + 2) (k + 6) (by omega) (by omega) (by omega) (by omega)
  have sl7 := slice_run s (k + 7) (k + 9) (k + 7) (k + 9) (by omega) (by omega) (by omega) (by omega)
  have sl10 := slice_run s (k + 10) (k + 12) (k + 10) (k + 12) (by omega) (by omega) (by omega) (by omega)
  have hu := fun wx => rUnstamp_blank wx D hb
  have HU := Lib.hid hu
  clear hu hb
  go_enter Tryz.func71, Tryz.ntmps71
  go_wp2
  go_quiet (fail)
  go_wp2_with (go_at_call 86; refine (HU.out _).mono ?_; rintro e w1 ⟨rfl, rfl⟩)
  go_ret2
  exact ⟨rfl, _, rfl⟩


/-- What dateAt returns. -/
def dateR (r : List UInt8) : List UInt8 × Nat := (LexM.dateM r).getD ([], 0)

theorem rdate_calls (w : World) (s : ByteArray) (k : Nat) (hs : s.size ≤ 20000) (hk : k < s.size) :
    Calls Tryz.prog 71 #[.string s, .int .i64 k] w fun e w' => e = .returned (.tuple #[.string ⟨(dateR ((bs s).drop k)).1.toArray⟩, .int .i64 (dateR ((bs s).drop k)).2]) ∧ ∃ q, w' = w.drewN q := by
  have hx2 : (s.extract k (k + 2)).toList = ((bs s).drop k).take 2 := by rw [ext_toList, show k + 2 - k = 2 from by omega]
  unfold dateR LexM.dateM
  by_cases h1 : k + 1 < s.size
  · cases h2 : ((s.extract k (k + 2)).toList == ([123, 125] : List UInt8)) with
    | true =>
      rw [if_pos (by rw [← hx2]; exact h2)]
      exact rdate_empty w s k hs hk h1 h2
    | false =>
      rw [if_neg (by rw [← hx2, h2]; simp)]
      by_cases h13 : k + 13 ≤ s.size
      · have hl : 13 ≤ ((bs s).drop k).length := by rw [List.length_drop, bs_length]; omega
        have hg : ∀ i (hi : k + i < s.size), ((bs s).drop k)[i]? = some s[k + i] := fun i hi => by rw [List.getElem?_drop, bs_get s (k + i) hi]
        have hh : LexM.hasDate ((bs s).drop k) = (((s.extract k (k + 2)).toList == ([123, 94] : List UInt8)) && !((s[k + 6].toNat : Int) != 45) && !((s[k + 9].toNat : Int) != 45) && !((s[k + 12].toNat : Int) != 125)) := by
          have e6 := ne_int s[k + 6] 45
          have e9 := ne_int s[k + 9] 45
          have e12 := ne_int s[k + 12] 125
          rw [show (((45 : UInt8).toNat : Nat) : Int) = 45 from rfl] at e6 e9
          rw [show (((125 : UInt8).toNat : Nat) : Int) = 125 from rfl] at e12
          rw [e6, e9, e12, hx2]
          unfold LexM.hasDate
          rw [hg 6 (by omega), hg 9 (by omega), hg 12 (by omega), decide_eq_true hl]
          simp
        have hD : bs (s.extract (k + 2) (k + 6) ++ s.extract (k + 7) (k + 9) ++ s.extract (k + 10) (k + 12)) = LexM.dateDigits ((bs s).drop k) := by
          simp only [bs, ByteArray.data_append, Array.toList_append, LexM.dateDigits, Lib.extract_data, List.drop_drop]
          rw [show k + 6 - (k + 2) = 4 from by omega, show k + 9 - (k + 7) = 2 from by omega, show k + 12 - (k + 10) = 2 from by omega]
        obtain ⟨D, hDD⟩ : ∃ D, s.extract (k + 2) (k + 6) ++ s.extract (k + 7) (k + 9) ++ s.extract (k + 10) (k + 12) = D := ⟨_, rfl⟩
        rw [hDD] at hD
        have h8 : D.size = 8 := by
          rw [← hDD]
          simp
          omega
        have hD0 : (bs D)[0]? = some D[0] := bs_get D 0 (by omega)
        rw [hh, ← hD]
        cases q0 : ((s.extract k (k + 2)).toList == ([123, 94] : List UInt8)) with
        | false => exact rdate_not0 w s k hs hk h13 h2 q0
        | true =>
          cases q1 : ((s[k + 6].toNat : Int) != 45) with
          | true => exact rdate_not1 w s k hs hk h13 h2 q0 q1
          | false =>
            cases q2 : ((s[k + 9].toNat : Int) != 45) with
            | true => exact rdate_not2 w s k hs hk h13 h2 q0 q1 q2
            | false =>
              cases q3 : ((s[k + 12].toNat : Int) != 125) with
              | true => exact rdate_not3 w s k hs hk h13 h2 q0 q1 q2 q3
              | false =>
                by_cases hb : D.toList = [32, 32, 32, 32, 32, 32, 32, 32]
                · have hbs : bs D = [32, 32, 32, 32, 32, 32, 32, 32] := by rw [← hb, Lib.toList_data]
                  have hx : ((D[0].toNat : Int) == 32) = true := by
                    rw [hbs] at hD0
                    injection hD0 with e
                    rw [← e]
                    rfl
                  rw [hbs]
                  exact rdate_blank w s k hs hk h13 h2 q0 q1 q2 q3 D hDD h8 hb hx
                · cases hday : LexM.isDay (bs D) with
                  | true =>
                    have hx : ((D[0].toNat : Int) == 32) = false := by
                      rw [beq_eq_false_iff_ne]
                      have hdg : LexM.isDigit D[0] = true := by
                        unfold LexM.isDay at hday
                        simp only [Bool.and_eq_true] at hday
                        exact List.all_eq_true.1 hday.1.2 _ (List.mem_of_getElem? hD0)
                      have := (isDigit_iff _).1 hdg
                      omega
                    have := rdate_yes w s k hs hk h13 h2 q0 q1 q2 q3 D hDD h8 hb hday hx
                    simpa [mk_bytes] using this
                  | false => exact rdate_no w s k hs hk h13 h2 q0 q1 q2 q3 D hDD h8 hb hday
      · have hh : LexM.hasDate ((bs s).drop k) = false := by
          unfold LexM.hasDate
          rw [show decide (13 ≤ ((bs s).drop k).length) = false by rw [List.length_drop, bs_length]; simp; omega]
          rfl
        rw [hh]
        exact rdate_short w s k hs hk h1 h2 h13
  · have hl : ((bs s).drop k).length = 1 := by rw [List.length_drop, bs_length]; omega
    have h2 : (((bs s).drop k).take 2 == ([123, 125] : List UInt8)) = false := by
      rw [beq_eq_false_iff_ne]
      intro e
      have := congrArg List.length e
      rw [List.length_take, hl] at this
      exact absurd this (by decide)
    have hh : LexM.hasDate ((bs s).drop k) = false := by
      unfold LexM.hasDate
      rw [hl]
      rfl
    rw [if_neg (by rw [h2]; simp), hh]
    exact rdate_end w s k hs hk h1

end Go.Proofs.YtpnfcgmogjpliaaGreatDoor
