/- The document's reader: what its methods read. Each contract holds of every source of at most 20,000 bytes. -/
import Derived.Test.YtpnfcgmogjpliaaGreatDoorRSign
import Derived.Test.YtpnfcgmogjpliaaGreatDoorRDate
import Derived.Test.YtpnfcgmogjpliaaGreatDoorSc3
namespace Go.Proofs.YtpnfcgmogjpliaaGreatDoor
open Go.RowKit
attribute [local go_sem ↓] Go.wp_at_zero Go.wp_at_succ

/-- How far bytes that p holds of go on from a place. -/
def twTo (p : UInt8 → Bool) (s : ByteArray) (k : Nat) : Nat := k + (((bs s).drop k).takeWhile p).length
theorem drop_cons {s : ByteArray} {k : Nat} (h : k < s.size) : (bs s).drop k = s[k] :: (bs s).drop (k + 1) := by
  rw [List.drop_eq_getElem_cons (by rw [bs_length]; exact h)]
  rfl
theorem twTo_yes {p : UInt8 → Bool} {s : ByteArray} {k : Nat} (h : k < s.size) (hp : p s[k] = true) : twTo p s (k + 1) = twTo p s k := by
  unfold twTo
  rw [drop_cons h, List.takeWhile_cons, if_pos hp, List.length_cons]
  omega
theorem twTo_no {p : UInt8 → Bool} {s : ByteArray} {k : Nat} (h : k < s.size) (hp : p s[k] = false) : twTo p s k = k := by
  unfold twTo
  rw [drop_cons h, List.takeWhile_cons, if_neg (by rw [hp]; simp)]
  rfl
theorem twTo_end {p : UInt8 → Bool} {s : ByteArray} {k : Nat} (h : s.size ≤ k) : twTo p s k = k := by
  unfold twTo
  rw [List.drop_of_length_le (by rw [bs_length]; exact h)]
  rfl
theorem twTo_le {p : UInt8 → Bool} {s : ByteArray} {k : Nat} (h : k ≤ s.size) : k ≤ twTo p s k ∧ twTo p s k ≤ s.size := by
  have := LexM.tw_le p ((bs s).drop k)
  rw [List.length_drop, bs_length] at this
  unfold twTo
  omega
theorem lineTo_tw (s : ByteArray) (k : Nat) : lineTo s k = twTo (· != 10) s k := rfl
theorem skipTo_tw (s : ByteArray) (k : Nat) : skipTo s k = twTo LexM.isBlank s k := rfl

/-- The next byte, if there is one. -/
def nextIs (s : ByteArray) (k : Nat) (c : UInt8) : Bool := ((bs s).drop k).head? == some c
theorem nextIs_get {s : ByteArray} {k : Nat} (h : k < s.size) (c : UInt8) : nextIs s k c = (s[k] == c) := by
  unfold nextIs
  rw [drop_cons h]
  rw [Bool.eq_iff_iff]
  simp
theorem nextIs_end {s : ByteArray} {k : Nat} (h : s.size ≤ k) (c : UInt8) : nextIs s k c = false := by
  unfold nextIs
  rw [List.drop_of_length_le (by rw [bs_length]; exact h)]
  rfl

theorem index_run (s : ByteArray) (i : Nat) (a : Int) (ha : a = i) (hi : i < s.size) (wx : World) : (Instr.index 9 (.string s) (.int .i64 a)).run Tryz.prog wx = .ok (.int .u8 (s[i].toNat : Int)) wx := by
  subst ha
  rw [run_index_string (P := Tryz.prog) wx 9 s .i64 i Tryz.underlying9, dif_pos ⟨by omega, by omega⟩]
  rfl
set_option maxRecDepth 100000 in
theorem risComment_calls (w : World) (g : Nat) (s : ByteArray) (k : Nat) (c0 : w.cell? ⟨g, 0, none⟩ = some (.string s)) (c1 : w.cell? ⟨g, 1, none⟩ = some (.int .i64 k)) (hs : s.size ≤ 20000) (hk : k < s.size) (r : Bool) (hr : (nextIs s k 38 && nextIs s (k + 1) 38) = r) :
    Calls Tryz.prog 40 #[.pointer (some ⟨g, 0, none⟩)] w fun e w' => e = .returned (.bool r) ∧ ∃ q, w' = w.drewN q := by
  have hw : IntKind.i64.wrap ((k : Int) + 1) = (k : Int) + 1 := wrap_small _ (by omega) (by omega)
  by_cases h1 : k + 1 < s.size
  · have b1 : decide ((k : Int) + 1 < s.size) = true := by simp; omega
    rw [nextIs_get hk, nextIs_get h1] at hr
    have hix := index_run s (k + 1) ((k : Int) + 1) (by omega) h1
    have e0 := eq_int s[k] 38
    have e1 := eq_int s[k + 1] 38
    rw [show (((38 : UInt8).toNat : Nat) : Int) = 38 from rfl] at e0 e1
    rw [← e0, ← e1] at hr
    clear e0 e1
    cases q0 : ((s[k].toNat : Int) == 38) with
    | false =>
      rw [q0, Bool.false_and] at hr
      subst hr
      go_enter Tryz.func40, Tryz.ntmps40
      go_wp2
      go_quiet (fail)
      go_wp2
      go_ret
      exact ⟨rfl, _, rfl⟩
    | true =>
      rw [q0, Bool.true_and] at hr
      cases q1 : ((s[k + 1].toNat : Int) == 38) with
      | false =>
        rw [q1] at hr
        subst hr
        go_enter Tryz.func40, Tryz.ntmps40
        go_wp2
        go_quiet (fail)
        go_wp2
        go_ret
        exact ⟨rfl, _, rfl⟩
      | true =>
        rw [q1] at hr
        subst hr
        go_enter Tryz.func40, Tryz.ntmps40
        go_wp2
        go_quiet (fail)
        go_wp2
        go_ret
        exact ⟨rfl, _, rfl⟩
  · have b1 : decide ((k : Int) + 1 < s.size) = false := by simp; omega
    rw [nextIs_end (k := k + 1) (by omega), Bool.and_false] at hr
    subst hr
    clear h1
    go_enter Tryz.func40, Tryz.ntmps40
    go_wp2
    go_quiet (fail)
    go_wp2
    go_ret
    exact ⟨rfl, _, rfl⟩

set_option maxRecDepth 100000 in
theorem rend_calls (w : World) (g : Nat) (s : ByteArray) (k : Nat) (c0 : w.cell? ⟨g, 0, none⟩ = some (.string s)) (hs : s.size ≤ 20000) (hk : k ≤ s.size) (E : Nat) (hE : lineTo s k = E) :
    Calls Tryz.prog 43 #[.pointer (some ⟨g, 0, none⟩), .int .i64 k] w fun e w' => e = .returned (.int .i64 E) ∧ w = w' := by
  have HE := Lib.hid hE
  clear hE
  go_enter Tryz.func43, Tryz.ntmps43
  go_wp2
  go_loopg [1] (s.size - k) (fun q u wr => ∃ i : Nat, u = .int .i64 i ∧ i ≤ s.size ∧ q = s.size - i ∧ Aside (lineTo s i = E) ∧ w = wr)
  case atStart => exact ⟨k, rfl, hk, rfl, HE.out, rfl⟩
  case round =>
    obtain ⟨i, rfl, hi, rfl, hE, rfl⟩ := hrel
    by_cases hlt : i < s.size
    · have e0 := ne_int s[i] 10
      rw [show (((10 : UInt8).toNat : Nat) : Int) = 10 from rfl] at e0
      cases q0 : ((s[i].toNat : Int) != 10) with
      | true =>
        have hE' : lineTo s (i + 1) = E := by
          rw [lineTo_tw, twTo_yes hlt (by simpa [q0] using e0.symm), ← lineTo_tw]
          exact hE.out
        have HE' := Lib.hid hE'
        clear e0 hE'
        go_wp2
        go_roundg (s.size - (i + 1))
        case measure => omega
        case rel => exact ⟨i + 1, by go_num, by omega, rfl, HE'.out, rfl⟩
      | false =>
        have hE' : i = E := by
          rw [← hE.out, lineTo_tw, twTo_no hlt (by simpa [q0] using e0.symm)]
        clear e0
        subst hE'
        go_wp2
        go_ret
        exact ⟨rfl, rfl⟩
    · obtain rfl : i = s.size := by omega
      have hE' : s.size = E := by rw [← hE.out, lineTo_tw, twTo_end (Nat.le_refl _)]
      have HEE := Lib.hid hE'
      clear hE' HE hE
      go_wp2
      go_ret
      exact ⟨by rw [← HEE.out]; rfl, rfl⟩

/-- Only blanks stand before a place in its line. -/
def Fresh (s : ByteArray) (k : Nat) : Prop := ∃ j, j ≤ k ∧ (∀ i (hi : i < s.size), j ≤ i → i < k → LexM.isBlank s[i] = true) ∧ (j = 0 ∨ ∃ hj : j - 1 < s.size, 0 < j ∧ s[j - 1] = 10)

set_option maxRecDepth 100000 in
theorem rfirst_calls (w : World) (g : Nat) (s : ByteArray) (k : Nat) (c0 : w.cell? ⟨g, 0, none⟩ = some (.string s)) (c1 : w.cell? ⟨g, 1, none⟩ = some (.int .i64 k)) (hs : s.size ≤ 20000) (hk : k ≤ s.size) (hF : Fresh s k) :
    Calls Tryz.prog 41 #[.pointer (some ⟨g, 0, none⟩)] w fun e w' => e = .returned (.bool true) ∧ w = w' := by
  obtain ⟨j0, hj0, hbl, hst⟩ := hF
  have HBL := Lib.hid hbl
  have HST := Lib.hid hst
  clear hbl hst
  go_enter Tryz.func41, Tryz.ntmps41
  go_wp2
  go_loopg [3] k (fun q u wr => ∃ j : Nat, u = .int .i64 ((j : Int) - 1) ∧ j0 ≤ j ∧ j ≤ k ∧ j = q ∧ w = wr)
  case atStart => exact ⟨k, rfl, hj0, Nat.le_refl _, rfl, rfl⟩
  case round =>
    obtain ⟨j, rfl, hj1, hj2, rfl, rfl⟩ := hrel
    by_cases hz : j = 0
    · subst hz
      go_wp2
      go_ret
      exact ⟨rfl, rfl⟩
    · obtain ⟨i, rfl⟩ : ∃ i, j = i + 1 := ⟨j - 1, by omega⟩
      have hi : i < s.size := by omega
      have ei : ((i + 1 : Nat) : Int) - 1 = i := by omega
      rw [ei]
      have b1 : decide ((0 : Int) ≤ (i : Int)) = true := by simp
      by_cases hjj : j0 = i + 1
      · obtain ⟨_, _, h10⟩ : ∃ hj : j0 - 1 < s.size, 0 < j0 ∧ s[j0 - 1] = 10 := by
          rcases HST.out with h | h
          · omega
          · exact h
        subst hjj
        have h10' : s[i] = 10 := h10
        have hcall := fun wx => rBlank_calls wx s[i]
        rw [h10'] at hcall
        have q10 : ((s[i].toNat : Int) == 10) = true := by rw [h10']; rfl
        have hcall' : ∀ wx, Calls Tryz.prog 39 #[byV s[i]] wx fun e w' => e = .returned (.bool false) ∧ wx = w' := by rw [h10']; exact hcall
        have HCL := Lib.hid hcall'
        clear hcall hcall' h10 h10' HBL HST hj1 hz ei
        go_wp2_with (go_at_call 39; refine (HCL.out _).mono ?_; rintro e w' ⟨rfl, rfl⟩)
        go_ret
        exact ⟨rfl, rfl⟩
      · have hcall := fun wx => rBlank_calls wx s[i]
        rw [HBL.out i hi (by omega) (by omega)] at hcall
        have HCL := Lib.hid hcall
        clear hcall hz ei
        go_wp2_with (go_at_call 39; refine (HCL.out _).mono ?_; rintro e w' ⟨rfl, rfl⟩)
        go_roundg i
        case measure => omega
        case rel => exact ⟨i, by go_num, by omega, by omega, rfl, rfl⟩

set_option maxHeartbeats 1000000 in
set_option maxRecDepth 100000 in
theorem rgoesOn_calls (w : World) (g : Nat) (s : ByteArray) (k : Nat) (c0 : w.cell? ⟨g, 0, none⟩ = some (.string s)) (c1 : w.cell? ⟨g, 1, none⟩ = some (.int .i64 k)) (hs : s.size ≤ 20000) (hk : k < s.size) (r : Bool) (hr : LexM.goes ((bs s).drop (k + 1)) = r) :
    Calls Tryz.prog 44 #[.pointer (some ⟨g, 0, none⟩)] w fun e w' => e = .returned (.bool r) ∧ w = w' := by
  obtain ⟨E, hE⟩ : ∃ E, twTo LexM.isBlank s (k + 1) = E := ⟨_, rfl⟩
  have hE2 := twTo_le (p := LexM.isBlank) (s := s) (k := k + 1) (by omega)
  rw [hE] at hE2
  unfold LexM.goes at hr
  rw [← drop_skipTo, skipTo_tw, hE] at hr
  have HE := Lib.hid hE
  have HR := Lib.hid hr
  clear hE hr
  go_enter Tryz.func44, Tryz.ntmps44
  go_wp2
  go_loopg [3] (s.size - (k + 1)) (fun q u wr => ∃ i : Nat, u = .int .i64 i ∧ i ≤ s.size ∧ q = s.size - i ∧ Aside (twTo LexM.isBlank s i = E) ∧ w = wr)
  case atStart => exact ⟨k + 1, by go_num, by omega, rfl, HE.out, rfl⟩
  case round =>
    obtain ⟨i, rfl, hi, rfl, hE, rfl⟩ := hrel
    by_cases hlt : i < s.size
    · cases hb : LexM.isBlank s[i] with
      | true =>
        have hcall := fun wx => rBlank_calls wx s[i]
        rw [hb] at hcall
        have HCL := Lib.hid hcall
        have hE' : twTo LexM.isBlank s (i + 1) = E := by
          rw [twTo_yes hlt hb]
          exact hE.out
        have HE' := Lib.hid hE'
        clear hcall hE' hb
        go_wp2_with (go_at_call 39; refine (HCL.out _).mono ?_; rintro e w' ⟨rfl, rfl⟩)
        go_roundg (s.size - (i + 1))
        case measure => omega
        case rel => exact ⟨i + 1, by go_num, by omega, rfl, HE'.out, rfl⟩
      | false =>
        have hcall := fun wx => rBlank_calls wx s[i]
        rw [hb] at hcall
        have HCL := Lib.hid hcall
        have hE' : i = E := by rw [← hE.out, twTo_no hlt hb]
        subst hE'
        have b0 : decide (s.size ≤ i) = false := by simp; omega
        have hr := HR.out
        rw [drop_cons hlt] at hr
        simp only at hr
        have e0 := eq_int s[i] 10
        rw [show (((10 : UInt8).toNat : Nat) : Int) = 10 from rfl] at e0
        rw [← e0] at hr
        cases q10 : ((s[i].toNat : Int) == 10) with
        | true =>
          rw [q10, Bool.true_or] at hr
          subst hr
          clear hcall hb HR hE HE e0 hE2
          go_wp2_with (go_at_call 39; refine (HCL.out _).mono ?_; rintro e w' ⟨rfl, rfl⟩)
          go_ret
          exact ⟨rfl, rfl⟩
        | false =>
          rw [q10, Bool.false_or] at hr
          by_cases h1 : i + 1 < s.size
          · have b1 : decide ((i : Int) + 1 < s.size) = true := by simp; omega
            have sl := slice_run s i (i + 2) i (i + 2) rfl (by omega) (by omega) (by omega)
            have hx : ((s.extract i (i + 2)).toList == ([38, 38] : List UInt8)) = r := by
              rw [← hr, ext_toList, show i + 2 - i = 2 from by omega, take_two, drop_cons hlt, hasPrefix_two]
              rw [Bool.eq_iff_iff]
              simp
            clear hcall hb HR hE HE e0 hE2 hr h1
            go_wp2_with (go_at_call 39; refine (HCL.out _).mono ?_; rintro e w' ⟨rfl, rfl⟩)
            go_ret
            exact ⟨rfl, rfl⟩
          · have b1 : decide ((i : Int) + 1 < s.size) = false := by simp; omega
            have hd0 : (bs s).drop (i + 1) = [] := List.drop_of_length_le (by rw [bs_length]; omega)
            rw [hd0] at hr
            have hr' : false = r := by rw [← hr]; simp
            subst hr'
            clear hcall hb HR hE HE e0 hE2 hr h1 hd0
            go_wp2_with (go_at_call 39; refine (HCL.out _).mono ?_; rintro e w' ⟨rfl, rfl⟩)
            go_ret
            exact ⟨rfl, rfl⟩
    · obtain rfl : i = s.size := by omega
      have hE' : s.size = E := by rw [← hE.out, twTo_end (Nat.le_refl _)]
      subst hE'
      have hr := HR.out
      rw [List.drop_of_length_le (by rw [bs_length]; omega)] at hr
      subst hr
      clear HR HE hE
      go_wp2
      go_ret
      exact ⟨rfl, rfl⟩

end Go.Proofs.YtpnfcgmogjpliaaGreatDoor
