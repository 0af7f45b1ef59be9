/- A token as text: the program's written, for texts of at most 100,000,000 bytes. -/
import Derived.Test.YtpnfcgmogjpliaaGreatDoorTok
import Derived.Test.YtpnfcgmogjpliaaGreatDoorSc14
import Derived.Lib.IndexAny
namespace Go.Proofs.YtpnfcgmogjpliaaGreatDoor
open Go.RowKit
attribute [local go_sem ↓] Go.wp_at_zero Go.wp_at_succ

theorem str_eq {x : ByteArray} {l : List UInt8} (h : bs x = l) : Ending.returned (.string x) = Ending.returned (.string ⟨l.toArray⟩) := by
  subst h
  rfl
theorem bs_append (a b : ByteArray) : bs (a ++ b) = bs a ++ bs b := by simp [bs]
theorem bs_extract (s : ByteArray) (i j : Nat) : bs (s.extract i j) = ((bs s).drop i).take (j - i) := Lib.extract_data s i j

theorem quote34 (s : ByteArray) : (decide (0 ≤ Lib.indexByte s.data.toList 34)) = (bs s).contains 34 := (Lib.contains_iff_indexByte _ _).symm

set_option maxHeartbeats 1000000 in
set_option maxRecDepth 100000 in
theorem written_calls (w : World) (t : Tv) (R : List UInt8) (hR : LexM.written t.kt = R) (hs : t.text.size ≤ 100000000) :
    Calls Tryz.prog 48 #[tvV t] w fun e w' => e = .returned (.string ⟨R.toArray⟩) ∧ Below w.heap.size w w' := by
  obtain ⟨k, p, x⟩ := t
  unfold tvV
  unfold LexM.written Tv.kt at hR
  simp only at hR hs ⊢
  by_cases h2 : k = 2
  · subst h2
    rw [if_pos rfl] at hR
    have hc := fun wx => Tryz.strings_Contains_one x 34 wx
    rw [quote34] at hc
    cases q : (bs x).contains 34 with
    | true =>
      rw [q] at hR hc
      have HC := Lib.hid hc
      have HR := Lib.hid hR
      clear hc hR q
      go_enter Tryz.func48, Tryz.ntmps48
      go_wp2_with (go_at_call 74; refine (HC.out _).mono ?_; rintro e w' ⟨rfl, rfl⟩)
      go_ret
      exact ⟨str_eq (by rw [← HR.out]; simp), (Below.refl _ _).alloc (Nat.le_refl _) _⟩
    | false =>
      rw [q] at hR hc
      have HC := Lib.hid hc
      have HR := Lib.hid hR
      clear hc hR q
      go_enter Tryz.func48, Tryz.ntmps48
      go_wp2_with (go_at_call 74; refine (HC.out _).mono ?_; rintro e w' ⟨rfl, rfl⟩)
      go_ret
      exact ⟨str_eq (by rw [← HR.out]; simp), (Below.refl _ _).alloc (Nat.le_refl _) _⟩
  · rw [if_neg h2] at hR
    have q2 : (k == 2) = false := by simpa using h2
    by_cases h3 : k = 3
    · subst h3
      rw [if_pos rfl] at hR
      clear h2
      by_cases h8 : x.size = 8
      · rw [if_pos (by rw [bs_length]; exact h8)] at hR
        have q8 : ((x.size : Int) != 8) = false := by simp [bne, h8]
        have s1 := slice_to x 4 4 rfl (by omega)
        have s2 := slice_run x 4 6 4 6 rfl rfl (by omega) (by omega)
        have s3 := slice_from x 6 6 rfl (by omega)
        have HR := Lib.hid hR
        have H8 := Lib.hid h8
        clear hR h8
        go_enter Tryz.func48, Tryz.ntmps48
        go_wp2
        go_quiet (fail)
        go_wp2
        go_ret
        have hd6 : ((bs x).drop 6).take 2 = (bs x).drop 6 := List.take_of_length_le (by rw [List.length_drop, bs_length, H8.out]; decide)
        refine ⟨str_eq (by rw [← HR.out]; simp [H8.out]; exact hd6), ?_⟩
        exact below_drewN' ((Below.refl _ _).alloc (Nat.le_refl _) _) _
      · rw [if_neg (by rw [bs_length]; exact h8)] at hR
        have q8 : ((x.size : Int) != 8) = true := by simp [bne]; omega
        have HR := Lib.hid hR
        clear hR h8
        go_enter Tryz.func48, Tryz.ntmps48
        go_wp2
        go_ret
        exact ⟨str_eq (by rw [← HR.out]; simp), (Below.refl _ _).alloc (Nat.le_refl _) _⟩
    · rw [if_neg h3] at hR
      have q3 : (k == 3) = false := by simpa using h3
      have HR := Lib.hid hR
      clear hR h3 h2
      go_enter Tryz.func48, Tryz.ntmps48
      go_wp2
      go_ret
      exact ⟨str_eq (by rw [← HR.out]), (Below.refl _ _).alloc (Nat.le_refl _) _⟩

end Go.Proofs.YtpnfcgmogjpliaaGreatDoor
