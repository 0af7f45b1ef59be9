/- The document's Val and Unstamp at eight bytes, and its dateAt, as its lexer calls them. -/
import Derived.Test.YtpnfcgmogjpliaaGreatDoorRVal
import Derived.Test.YtpnfcgmogjpliaaGreatDoorSc5
namespace Go.Proofs.YtpnfcgmogjpliaaGreatDoor
open Go.RowKit
attribute [local go_sem ↓] Go.wp_at_zero Go.wp_at_succ

set_option maxHeartbeats 1000000 in
set_option maxRecDepth 100000 in
theorem rVal_calls (w : World) (s : ByteArray) (hs1 : 1 ≤ s.size) (hs : s.size ≤ 4) (hd : ∀ b ∈ bs s, LexM.isDigit b = true) :
    Calls Tryz.prog 100 #[.string s] w fun e w' => e = .returned (.int .i64 (LexM.num (bs s))) ∧ w = w' := by
  have hby : ∀ i (hi : i < s.size), 48 ≤ s[i].toNat ∧ s[i].toNat ≤ 57 := fun i hi => (isDigit_iff _).1 (hd _ (List.mem_of_getElem? (bs_get s i hi)))
  have hdg : ∀ i (hi : i < s.size), LexM.isDigit s[i] = true := fun i hi => hd _ (List.mem_of_getElem? (bs_get s i hi))
  have HB := Lib.hid hby
  have HG := Lib.hid hdg
  have HD := Lib.hid hd
  have b0 := hby 0 (by omega)
  have h32 : ((s[0].toNat : Int) == 32) = false := by rw [beq_eq_false_iff_ne]; omega
  have h45 : ((s[0].toNat : Int) == 45) = false := by rw [beq_eq_false_iff_ne]; omega
  have h43 : ((s[0].toNat : Int) == 43) = false := by rw [beq_eq_false_iff_ne]; omega
  clear hby hd b0 hdg
  go_enter Tryz.func100, Tryz.ntmps100
  go_wp2
  go_loopg [3] 0 (fun q u wr => u = .int .i64 0 ∧ q = 0 ∧ w = wr)
  case atStart => exact ⟨rfl, rfl, rfl⟩
  case round =>
    obtain ⟨rfl, rfl, rfl⟩ := hrel
    go_wp2
    go_loopg [3, 5] s.size (fun q u v wr => ∃ i : Nat, i ≤ s.size ∧ u = .int .i64 i ∧ v = .int .i64 (LexM.num ((bs s).take i) : Nat) ∧ q = s.size - i ∧ w = wr)
    case atStart => exact ⟨0, by omega, rfl, rfl, rfl, rfl⟩
    case round =>
      obtain ⟨i, hi, rfl, rfl, rfl, rfl⟩ := hrel
      by_cases hlt : i < s.size
      · have hb := HB.out i hlt
        have hg := HG.out i hlt
        have hnl := num_lt i ((bs s).take i) (by rw [List.length_take, bs_length]; omega) (fun b hb => HD.out b (List.mem_of_mem_take hb))
        have hsn := take_snoc s i hlt
        have hpw : 10 ^ i ≤ 10 ^ 3 := Nat.pow_le_pow_right (by omega) (by omega)
        obtain ⟨c, hc⟩ : ∃ c, s[i].toNat = c := ⟨_, rfl⟩
        have HS : Hid (LexM.num ((bs s).take (i + 1)) = 10 * LexM.num ((bs s).take i) + (s[i].toNat - 48)) := by rw [hsn]; exact num_snoc _ _
        have hb1 : (48 : Int) ≤ (s[i].toNat : Int) := by omega
        have hb2 : (s[i].toNat : Int) ≤ 57 := by omega
        have hN : LexM.num ((bs s).take i) ≤ 999 := by omega
        have hcall := fun wx => rDigit_calls wx s[i]
        rw [hg] at hcall
        have HCL := Lib.hid hcall
        clear hsn hc hnl hpw hb hg hcall
        generalize LexM.num ((bs s).take i) = N at HS hN
        go_wp2_with (go_at_call 69; refine (HCL.out _).mono ?_; rintro e w' ⟨rfl, rfl⟩)
        go_roundg (s.size - (i + 1))
        case measure => omega
        case rel => exact ⟨i + 1, by omega, by go_num, congrArg (Value.int .i64) (by rw [HS.out]; omega), rfl, rfl⟩
      · obtain rfl : i = s.size := by omega
        have e : (bs s).take s.size = bs s := List.take_of_length_le (by rw [bs_length]; omega)
        rw [e]
        have hN := num_lt s.size (bs s) (bs_length s) HD.out
        have hpw : 10 ^ s.size ≤ 10 ^ 4 := Nat.pow_le_pow_right (by omega) hs
        obtain ⟨N, hNN⟩ : ∃ N, LexM.num (bs s) = N := ⟨_, rfl⟩
        have HN := Lib.hid hNN
        rw [hNN] at hN ⊢
        have hN' : N ≤ 9999 := by omega
        clear hpw hN e hNN
        go_wp2
        go_ret
        exact ⟨congrArg (fun n => Ending.returned (.int .i64 n)) (by rw [HN.out]), rfl⟩

end Go.Proofs.YtpnfcgmogjpliaaGreatDoor
