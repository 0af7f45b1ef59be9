/- The document's Unstamp at eight bytes. -/
import Derived.Test.YtpnfcgmogjpliaaGreatDoorRVal2
namespace Go.Proofs.YtpnfcgmogjpliaaGreatDoor
open Go.RowKit
attribute [local go_sem ↓] Go.wp_at_zero Go.wp_at_succ

set_option maxRecDepth 100000 in
theorem rUnstamp_blank (w : World) (d : ByteArray) (hb : d.toList = [32, 32, 32, 32, 32, 32, 32, 32]) : Calls Tryz.prog 86 #[.string d] w fun e w' => e = .returned (.tuple #[.int .i64 0, .bool true]) ∧ w = w' := by
  have h : (d.toList == ([32, 32, 32, 32, 32, 32, 32, 32] : List UInt8)) = true := beq_iff_eq.2 hb
  clear hb
  go_enter Tryz.func86, Tryz.ntmps86
  go_wp2
  go_ret2
  exact ⟨rfl, rfl⟩

set_option maxHeartbeats 1000000 in
set_option maxRecDepth 100000 in
theorem rUnstamp_no (w : World) (d : ByteArray) (h8 : d.size = 8) (hne : d.toList ≠ [32, 32, 32, 32, 32, 32, 32, 32]) (hd : ¬ ∀ b ∈ bs d, LexM.isDigit b = true) :
    Calls Tryz.prog 86 #[.string d] w fun e w' => e = .returned (.tuple #[.int .i64 0, .bool false]) ∧ w = w' := by
  have hb : (d.toList == ([32, 32, 32, 32, 32, 32, 32, 32] : List UInt8)) = false := beq_eq_false_iff_ne.mpr hne
  have hat : ∀ b ∈ bs d, ∃ i, ∃ hi : i < d.size, d[i] = b := fun b hb => by
    obtain ⟨i, hi, e⟩ := List.mem_iff_getElem.1 hb
    rw [bs_length] at hi
    have := bs_get d i hi
    rw [List.getElem?_eq_getElem (by rw [bs_length]; exact hi), e] at this
    exact ⟨i, hi, (Option.some.inj this).symm⟩
  have HAT := Lib.hid hat
  have HND := Lib.hid hd
  clear hd hne hat
  go_enter Tryz.func86, Tryz.ntmps86
  go_wp2
  go_loopg [4] 8 (fun q u wr => ∃ i : Nat, u = .int .i64 i ∧ i ≤ 8 ∧ q = 8 - i ∧ Aside (∀ j (hj : j < d.size), j < i → LexM.isDigit d[j] = true) ∧ w = wr)
  case atStart => exact ⟨0, rfl, by omega, rfl, fun j hj h => absurd h (by omega), rfl⟩
  case round =>
    obtain ⟨i, rfl, hi, rfl, hdi, rfl⟩ := hrel
    by_cases h : i = 8
    · exact absurd (fun b hb => by obtain ⟨j, hj, e⟩ := HAT.out b hb; rw [← e]; exact hdi.out j hj (by omega)) HND.out
    · have hlt : (i : Int) < 8 := by omega
      have hid : i < d.size := by omega
      cases hg : LexM.isDigit d[i] with
      | true =>
        have hcall := fun wx => rDigit_calls wx d[i]
        rw [hg] at hcall
        have HCL := Lib.hid hcall
        have HG := Lib.hid hg
        clear hcall hg h
        go_wp2_with (go_at_call 69; refine (HCL.out _).mono ?_; rintro e w' ⟨rfl, rfl⟩)
        go_roundg (8 - (i + 1))
        case measure => omega
        case rel =>
          refine ⟨i + 1, by go_num, by omega, rfl, fun j hj hji => ?_, rfl⟩
          by_cases e : j = i
          · subst e
            exact HG.out
          · exact hdi.out j hj (by omega)
      | false =>
        have hcall := fun wx => rDigit_calls wx d[i]
        rw [hg] at hcall
        have HCL := Lib.hid hcall
        clear hcall hg h
        go_wp2_with (go_at_call 69; refine (HCL.out _).mono ?_; rintro e w' ⟨rfl, rfl⟩)
        go_ret2
        exact ⟨rfl, rfl⟩

set_option maxHeartbeats 2000000 in
set_option maxRecDepth 100000 in
theorem rUnstamp_yes (w : World) (d : ByteArray) (h8 : d.size = 8) (hne : d.toList ≠ [32, 32, 32, 32, 32, 32, 32, 32]) (hd : ∀ b ∈ bs d, LexM.isDigit b = true) :
    Calls Tryz.prog 86 #[.string d] w fun e w' => (∃ n : Int, e = .returned (.tuple #[.int .i64 n, .bool (LexM.isDay (bs d))])) ∧ ∃ q, w' = w.drewN q := by
  have hb : (d.toList == ([32, 32, 32, 32, 32, 32, 32, 32] : List UInt8)) = false := beq_eq_false_iff_ne.mpr hne
  have hdg : ∀ i (hi : i < d.size), LexM.isDigit d[i] = true := fun i hi => hd _ (List.mem_of_getElem? (bs_get d i hi))
  have HDG := Lib.hid hdg
  clear hdg
  have sl1 := slice_to d 4 4 rfl (by omega)
  have sl2 := slice_run d 4 6 4 6 rfl rfl (by omega) (by omega)
  have sl3 := slice_from d 6 6 rfl (by omega)
  have x1 : (d.extract 0 4).data.toList = (bs d).take 4 := by rw [Lib.extract_data]; rfl
  have x2 : (d.extract 4 6).data.toList = ((bs d).drop 4).take 2 := Lib.extract_data d 4 6
  have x3 : (d.extract 6 d.size).data.toList = (bs d).drop 6 := Lib.extract_to_end d 6
  have v1 := fun wx => rVal_calls wx (d.extract 0 4) (by simp; omega) (by simp; omega) (fun b hb => hd b (by rw [bs, x1] at hb; exact List.mem_of_mem_take hb))
  have v2 := fun wx => rVal_calls wx (d.extract 4 6) (by simp; omega) (by simp; omega) (fun b hb => hd b (by rw [bs, x2] at hb; exact List.mem_of_mem_drop (List.mem_of_mem_take hb)))
  have v3 := fun wx => rVal_calls wx (d.extract 6 d.size) (by simp; omega) (by simp; omega) (fun b hb => hd b (by rw [bs, x3] at hb; exact List.mem_of_mem_drop hb))
  simp only [bs, x1, x2, x3] at v1 v2 v3
  have n1 : LexM.num ((bs d).take 4) < 10 ^ 4 := num_lt 4 _ (by rw [List.length_take, bs_length]; omega) (fun b hb => hd b (List.mem_of_mem_take hb))
  have n2 : LexM.num (((bs d).drop 4).take 2) < 10 ^ 2 := num_lt 2 _ (by rw [List.length_take, List.length_drop, bs_length]; omega) (fun b hb => hd b (List.mem_of_mem_drop (List.mem_of_mem_take hb)))
  have n3 : LexM.num ((bs d).drop 6) < 10 ^ 2 := num_lt 2 _ (by rw [List.length_drop, bs_length]; omega) (fun b hb => hd b (List.mem_of_mem_drop hb))
  have hday : LexM.isDay (bs d) = (let y := LexM.num ((bs d).take 4); let m := LexM.num (((bs d).drop 4).take 2); let e := LexM.num ((bs d).drop 6); decide (1 ≤ y) && decide (1 ≤ m) && decide (m ≤ 12) && decide (1 ≤ e) && decide (e ≤ LexM.monthLen y m)) := by
    unfold LexM.isDay
    rw [bs_length, h8, List.all_eq_true.2 hd]
    rfl
  dsimp only at hday
  obtain ⟨Y, hY⟩ : ∃ Y, LexM.num ((bs d).take 4) = Y := ⟨_, rfl⟩
  obtain ⟨M, hM⟩ : ∃ M, LexM.num (((bs d).drop 4).take 2) = M := ⟨_, rfl⟩
  obtain ⟨D, hD⟩ : ∃ D, LexM.num ((bs d).drop 6) = D := ⟨_, rfl⟩
  simp only [bs] at hY hM hD n1 n2 n3 hday
  rw [hY] at v1 n1 hday
  rw [hM] at v2 n2 hday
  rw [hD] at v3 n3 hday
  have V1 := Lib.hid v1
  have V2 := Lib.hid v2
  have V3 := Lib.hid v3
  have hdays : ∃ er : Int, ((er == 0) = LexM.isDay (bs d)) ∧ ∀ wx, Calls Tryz.prog 99 #[.int .i64 Y, .int .i64 M, .int .i64 D] wx fun e w' => (∃ n : Int, e = .returned (.tuple #[.int .i64 n, .int .i64 er])) ∧ wx = w' := by
    cases hR : LexM.isDay (bs d) with
    | true =>
      rw [hday] at hR
      refine ⟨0, rfl, fun wx => ?_⟩
      simp only [Bool.and_eq_true, decide_eq_true_eq] at hR
      exact rDays_yes wx Y M D (by omega) (by omega) (by omega) (by omega)
    | false =>
      rw [hday] at hR
      refine ⟨1, rfl, fun wx => ?_⟩
      have hn : ¬ (1 ≤ Y ∧ 1 ≤ M ∧ M ≤ 12 ∧ 1 ≤ D ∧ D ≤ LexM.monthLen Y M) := by
        intro h
        simp [h] at hR
      exact (rDays_no wx Y M D (by omega) (by omega) (by omega) hn).mono fun e w' h => ⟨⟨0, h.1⟩, h.2⟩
  obtain ⟨er, her, hdays⟩ := hdays
  have HDY := Lib.hid hdays
  rw [← her]
  have h8' : ((d.size : Int) != 8) = false := by rw [bne_eq_false_iff_eq]; omega
  have H8 := Lib.hid h8
  clear hd hne v1 v2 v3 x1 x2 x3 hY hM hD hdays hday n1 n2 n3 her h8
  go_enter Tryz.func86, Tryz.ntmps86
  go_wp2
  go_loopg [4] 8 (fun q u wr => ∃ i : Nat, u = .int .i64 i ∧ i ≤ 8 ∧ q = 8 - i ∧ w = wr)
  case atStart => exact ⟨0, rfl, by omega, rfl, rfl⟩
  case round =>
    obtain ⟨i, rfl, hi, rfl, rfl⟩ := hrel
    by_cases h : i = 8
    · subst h
      go_wp2
      go_region_held3 (fun _ => True) (trivial) (first | (go_at_call 100; ((with_reducible refine (V1.out _).mono ?_); rintro e w2 ⟨rfl, rfl⟩)) | (go_at_call 100; ((with_reducible refine (V2.out _).mono ?_); rintro e w2 ⟨rfl, rfl⟩)) | (go_at_call 100; ((with_reducible refine (V3.out _).mono ?_); rintro e w2 ⟨rfl, rfl⟩)) | (go_at_call 99; refine (HDY.out _).mono ?_; rintro e w3 ⟨⟨n, rfl⟩, rfl⟩))
      go_wp2
      go_ret2
      exact ⟨⟨n, rfl⟩, ⟨_, rfl⟩⟩
    · have hlt : (i : Int) < 8 := by omega
      have hid : i < d.size := by have := H8.out; omega
      have hcall := fun wx => rDigit_calls wx d[i]
      rw [HDG.out i hid] at hcall
      have HCL := Lib.hid hcall
      clear hcall h
      go_wp2_with (go_at_call 69; refine (HCL.out _).mono ?_; rintro e w' ⟨rfl, rfl⟩)
      go_roundg (8 - (i + 1))
      case measure => omega
      case rel => exact ⟨i + 1, by go_num, by omega, rfl, rfl⟩

end Go.Proofs.YtpnfcgmogjpliaaGreatDoor
