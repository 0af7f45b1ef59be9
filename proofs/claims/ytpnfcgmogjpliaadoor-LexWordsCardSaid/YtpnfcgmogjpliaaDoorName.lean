/- Which texts are names: the program's IsName and the document's IsName answer one thing, of every string. -/
import Derived.Test.YtpnfcgmogjpliaaDoorRByt
import Derived.Test.YtpnfcgmogjpliaaDoorSc14
namespace Go.Proofs.YtpnfcgmogjpliaaDoor
open Go.RowKit
attribute [local go_sem ↓] Go.wp_at_zero Go.wp_at_succ

def isLow (b : UInt8) : Bool := 97 ≤ b && b ≤ 122
/-- What is left of a name; first: nothing stands before it. -/
def nameTail : List UInt8 → Bool → Bool
  | [], _ => true
  | b :: t, first => ((LexM.isLetter b || (!first && LexM.isDigit b)) && !isLow b) && nameTail t false
def nameB (l : List UInt8) : Bool := decide (1 ≤ l.length) && decide (l.length ≤ 10) && nameTail l true

def nameSet : List UInt8 := [65, 66, 67, 68, 69, 70, 71, 72, 73, 74, 75, 76, 77, 78, 79, 80, 81, 82, 83, 84, 85, 86, 87, 88, 89, 90, 48, 49, 50, 51, 52, 53, 54, 55, 56, 57, 95]
theorem name_in (b : UInt8) : nameSet.contains b = ((LexM.isLetter b || LexM.isDigit b) && !isLow b) := by
  have := all_bytes (fun b => nameSet.contains b == ((LexM.isLetter b || LexM.isDigit b) && !isLow b)) (by kernel_rfl) b
  simpa using this
theorem nameTail_false : ∀ l : List UInt8, nameTail l false = l.all nameSet.contains
  | [] => rfl
  | b :: t => by
    rw [nameTail, List.all_cons, nameTail_false t, name_in]
    rfl
theorem nameTail_true (b : UInt8) (t : List UInt8) : nameTail (b :: t) true = (!LexM.isDigit b && (b :: t).all nameSet.contains) := by
  rw [nameTail, nameTail_false, List.all_cons, name_in]
  have hd := all_bytes (fun b => !(LexM.isLetter b && LexM.isDigit b)) (by kernel_rfl) b
  cases h1 : LexM.isLetter b <;> cases h2 : LexM.isDigit b <;> simp_all

theorem trimn_calls (w : World) (s : ByteArray) (hs : s.size ≤ 20000) :
    Calls Tryd.prog 30 #[.string s, .string ⟨#[65, 66, 67, 68, 69, 70, 71, 72, 73, 74, 75, 76, 77, 78, 79, 80, 81, 82, 83, 84, 85, 86, 87, 88, 89, 90, 48, 49, 50, 51, 52, 53, 54, 55, 56, 57, 95]⟩] w fun e w' => e = .returned (.string ⟨(Lib.trimS (bs s) nameSet).toArray⟩) ∧ Below w.heap.size w w' :=
  Any.strings_Trim_laid Tryd.lays160 (by kernel_rfl) s ⟨#[65, 66, 67, 68, 69, 70, 71, 72, 73, 74, 75, 76, 77, 78, 79, 80, 81, 82, 83, 84, 85, 86, 87, 88, 89, 90, 48, 49, 50, 51, 52, 53, 54, 55, 56, 57, 95]⟩ w (by omega) (by decide) (by
    intro j b hb
    have : b ∈ nameSet := List.mem_of_getElem? hb
    have h2 : ∀ b ∈ nameSet, b.toNat < 128 := by decide
    exact h2 b this)

theorem isEmpty_trim (s : ByteArray) : (⟨(Lib.trimS (bs s) nameSet).toArray⟩ : ByteArray).toList.isEmpty = (bs s).all nameSet.contains := by
  rw [Lib.toList_data, Bool.eq_iff_iff, List.isEmpty_iff, List.all_eq_true]
  exact trimS_nil _ _

set_option maxHeartbeats 1000000 in
set_option maxRecDepth 100000 in
theorem isName_calls (w : World) (s : ByteArray) (r : Bool) (hr : nameB (bs s) = r) :
    Calls Tryd.prog 14 #[.string s] w fun e w' => e = .returned (.bool r) ∧ Below w.heap.size w w' := by
  unfold nameB at hr
  rw [bs_length] at hr
  by_cases h0 : s.size = 0
  · have e0 : s.toList.isEmpty = true := by
      rw [Lib.toList_data, List.isEmpty_iff]
      exact List.eq_nil_of_length_eq_zero (by rw [bs_length]; exact h0)
    have e0' : s.toList = [] := by simpa using e0
    have e0'' : (s.toList == ([] : List UInt8)) = true := by simp [e0']
    rw [h0] at hr
    simp at hr
    subst hr
    clear h0 e0'
    go_enter Tryd.func14, Tryd.ntmps14
    go_wp2
    go_ret
    exact ⟨rfl, Below.refl _ _⟩
  · have e0 : s.toList.isEmpty = false := by
      rw [Lib.toList_data, ← Bool.not_eq_true, List.isEmpty_iff]
      intro e
      have h1 := bs_length s
      rw [show bs s = [] from e] at h1
      exact h0 h1.symm
    have e0'' : (s.toList == ([] : List UInt8)) = false := by
      rw [← Bool.not_eq_true, beq_iff_eq]
      intro e
      rw [e] at e0
      cases e0
    by_cases h10 : 10 < s.size
    · have q : decide ((10 : Int) < (s.size : Int)) = true := by simp; omega
      rw [decide_eq_false (show ¬ s.size ≤ 10 by omega), Bool.and_false, Bool.false_and] at hr
      subst hr
      clear h0 h10
      go_enter Tryd.func14, Tryd.ntmps14
      go_wp2
      go_ret
      exact ⟨rfl, Below.refl _ _⟩
    · have q : decide ((10 : Int) < (s.size : Int)) = false := by simp; omega
      have hs0 : 0 < s.size := by omega
      have hs0' : (0 : Int) < (s.size : Int) := by omega
      rw [decide_eq_true (show 1 ≤ s.size by omega), decide_eq_true (show s.size ≤ 10 by omega), Bool.true_and, Bool.true_and] at hr
      have hcons : bs s = s[0] :: (bs s).drop 1 := by
        have := List.drop_eq_getElem_cons (l := bs s) (i := 0) (by rw [bs_length]; exact hs0)
        rw [List.drop_zero] at this
        exact this
      rw [hcons, nameTail_true, ← hcons] at hr
      have hdi := isDigit_iff s[0]
      have htr := fun wx => trimn_calls wx s (by omega)
      have het := isEmpty_trim s
      obtain ⟨X, hX⟩ : ∃ X : ByteArray, (⟨(Lib.trimS (bs s) nameSet).toArray⟩ : ByteArray) = X := ⟨_, rfl⟩
      rw [hX] at htr het
      have HTR := Lib.hid htr
      cases hd : LexM.isDigit s[0] with
      | true =>
        rw [hd] at hr
        simp at hr
        subst hr
        have h1 : decide ((48 : Int) ≤ (s[0].toNat : Int)) = true := by rw [decide_eq_true_iff]; have := hdi.1 hd; omega
        have h2 : decide ((s[0].toNat : Int) ≤ 57) = true := by rw [decide_eq_true_iff]; have := hdi.1 hd; omega
        clear hcons hdi htr het hX hd h0 h10
        go_enter Tryd.func14, Tryd.ntmps14
        go_wp2
        go_ret
        exact ⟨rfl, Below.refl _ _⟩
      | false =>
        rw [hd, Bool.not_false, Bool.true_and, ← het] at hr
        have hnd : ¬ (48 ≤ s[0].toNat ∧ s[0].toNat ≤ 57) := fun h => by
          rw [hdi.2 h] at hd
          cases hd
        have hem : (X.toList == ([] : List UInt8)) = X.toList.isEmpty := by cases X.toList <;> rfl
        have HEM := Lib.hid hem
        have HR := Lib.hid hr
        clear hcons hdi htr het hX hd h0 h10 hem hr
        by_cases h48 : 48 ≤ s[0].toNat
        · have h1 : decide ((48 : Int) ≤ (s[0].toNat : Int)) = true := by rw [decide_eq_true_iff]; omega
          have h2 : decide ((s[0].toNat : Int) ≤ 57) = false := by rw [decide_eq_false_iff_not]; omega
          clear hnd h48
          go_enter Tryd.func14, Tryd.ntmps14
          go_wp2_with (go_at_call 30; refine (HTR.out _).mono ?_; rintro e w1 ⟨rfl, hb1⟩; have HB1 := Lib.hid hb1; clear hb1)
          go_ret
          exact ⟨by (rw [← HR.out]; rfl), HB1.out⟩
        · have h1 : decide ((48 : Int) ≤ (s[0].toNat : Int)) = false := by rw [decide_eq_false_iff_not]; omega
          clear hnd h48
          go_enter Tryd.func14, Tryd.ntmps14
          go_wp2_with (go_at_call 30; refine (HTR.out _).mono ?_; rintro e w1 ⟨rfl, hb1⟩; have HB1 := Lib.hid hb1; clear hb1)
          go_ret
          exact ⟨by (rw [← HR.out]; rfl), HB1.out⟩

set_option maxHeartbeats 1000000 in
set_option maxRecDepth 100000 in
theorem rIsWord_calls (w : World) (s : ByteArray) (r : Bool) (hr : nameB (bs s) = r) :
    Calls Tryd.prog 31 #[.string s, .int .i64 10] w fun e w' => e = .returned (.bool r) ∧ w = w' := by
  unfold nameB at hr
  rw [bs_length] at hr
  by_cases h0 : s.size < 1
  · have q : decide ((s.size : Int) < 1) = true := by simp; omega
    have q' : decide (s.size < 1) = true := by simpa using h0
    rw [decide_eq_false (show ¬ 1 ≤ s.size by omega), Bool.false_and, Bool.false_and] at hr
    subst hr
    clear h0
    go_enter Tryd.func31, Tryd.ntmps31
    go_wp2
    go_ret
    exact ⟨rfl, rfl⟩
  · have q : decide ((s.size : Int) < 1) = false := by simp; omega
    by_cases h10 : 10 < s.size
    · have q2 : decide ((10 : Int) < (s.size : Int)) = true := by simp; omega
      rw [decide_eq_false (show ¬ s.size ≤ 10 by omega), Bool.and_false, Bool.false_and] at hr
      subst hr
      clear h0 h10
      go_enter Tryd.func31, Tryd.ntmps31
      go_wp2
      go_ret
      exact ⟨rfl, rfl⟩
    · have q2 : decide ((10 : Int) < (s.size : Int)) = false := by simp; omega
      rw [decide_eq_true (show 1 ≤ s.size by omega), decide_eq_true (show s.size ≤ 10 by omega), Bool.true_and, Bool.true_and] at hr
      have HR := Lib.hid hr
      have hs10 : s.size ≤ 10 := by omega
      clear hr h0 h10
      go_enter Tryd.func31, Tryd.ntmps31
      go_wp2_with fail
      go_loopg [5] s.size (fun q u wr => ∃ i : Nat, u = .int .i64 i ∧ i ≤ s.size ∧ q = s.size - i ∧ Aside (nameTail ((bs s).drop i) (i == 0) = r) ∧ w = wr)
      case atStart => exact ⟨0, rfl, by omega, rfl, HR.out, rfl⟩
      case round =>
        obtain ⟨i, rfl, hi, rfl, hN, rfl⟩ := hrel
        by_cases hlt : i < s.size
        · have hltz : decide ((i : Int) < (s.size : Int)) = true := by simp; omega
          have hcons : (bs s).drop i = s[i] :: (bs s).drop (i + 1) := List.drop_eq_getElem_cons (by rw [bs_length]; exact hlt)
          have hn := hN.out
          rw [hcons, nameTail] at hn
          have hlet := fun wx => rLetter_calls wx s[i]
          have hdg := fun wx => rDigit_calls wx s[i]
          have hli := isLetter_iff s[i]
          have hdi := isDigit_iff s[i]
          have hlo : isLow s[i] = true ↔ 97 ≤ s[i].toNat ∧ s[i].toNat ≤ 122 := by
            unfold isLow
            simp only [Bool.and_eq_true, decide_eq_true_eq, UInt8.le_iff_toNat_le]
            rfl
          have hi0 : decide ((0 : Int) < (i : Int)) = !(i == 0) := by
            rw [Bool.eq_iff_iff]
            simp
            omega
          obtain ⟨l, hl⟩ : ∃ l, LexM.isLetter s[i] = l := ⟨_, rfl⟩
          obtain ⟨d, hd⟩ : ∃ d, LexM.isDigit s[i] = d := ⟨_, rfl⟩
          obtain ⟨o, ho⟩ : ∃ o, isLow s[i] = o := ⟨_, rfl⟩
          rw [hl] at hn hlet hli
          rw [hd] at hn hdg hdi
          rw [ho] at hn hlo
          have HL := Lib.hid hlet
          have HD := Lib.hid hdg
          cases l with
          | true =>
            cases o with
            | true =>
              have h97 : decide ((97 : Int) ≤ (s[i].toNat : Int)) = true := by rw [decide_eq_true_iff]; have := hlo.1 rfl; omega
              have h122 : decide ((s[i].toNat : Int) ≤ 122) = true := by rw [decide_eq_true_iff]; have := hlo.1 rfl; omega
              have hr' : false = r := by rw [← hn]; simp
              have HR' := Lib.hid hr'
              clear hcons hn hlet hdg hli hdi hlo hl hd ho hr' hi0
              go_wp2_with (first | (go_at_call 49; refine (HL.out _).mono ?_; rintro e w' ⟨rfl, rfl⟩) | (go_at_call 50; refine (HD.out _).mono ?_; rintro e w' ⟨rfl, rfl⟩))
              go_ret
              exact ⟨by (rw [← HR'.out]; rfl), rfl⟩
            | false =>
              have h97 : decide ((97 : Int) ≤ (s[i].toNat : Int)) = false := by
                rw [decide_eq_false_iff_not]
                have h1 := hli.1 rfl
                intro h
                have := hlo.2 ⟨by omega, by omega⟩
                cases this
              have hr' : nameTail ((bs s).drop (i + 1)) (i + 1 == 0) = r := by rw [← hn]; simp
              have HR' := Lib.hid hr'
              clear hcons hn hlet hdg hli hdi hlo hl hd ho hr' hi0
              go_wp2_with (first | (go_at_call 49; refine (HL.out _).mono ?_; rintro e w' ⟨rfl, rfl⟩) | (go_at_call 50; refine (HD.out _).mono ?_; rintro e w' ⟨rfl, rfl⟩))
              go_roundg (s.size - (i + 1))
              case measure => omega
              case rel => exact ⟨i + 1, by go_num, by omega, rfl, HR'.out, rfl⟩
          | false =>
            cases hz : (i == 0) with
            | true =>
              rw [hz] at hi0 hn
              have hr' : false = r := by rw [← hn]; simp
              have HR' := Lib.hid hr'
              obtain rfl : i = 0 := by simpa using hz
              clear hcons hn hlet hdg hli hdi hlo hl hd ho hr' hi0 hz
              go_wp2_with (first | (go_at_call 49; refine (HL.out _).mono ?_; rintro e w' ⟨rfl, rfl⟩) | (go_at_call 50; refine (HD.out _).mono ?_; rintro e w' ⟨rfl, rfl⟩))
              go_ret
              exact ⟨by (rw [← HR'.out]; rfl), rfl⟩
            | false =>
              rw [hz] at hi0 hn
              rw [Bool.not_false] at hi0
              have hpos : 0 < i := by simpa using hi0
              have hpos' : decide (0 < i) = true := by simpa using hpos
              cases d with
              | true =>
                have h97 : decide ((97 : Int) ≤ (s[i].toNat : Int)) = false := by
                  rw [decide_eq_false_iff_not]
                  have h1 := hdi.1 rfl
                  omega
                have ho' : o = false := by
                  cases o with
                  | false => rfl
                  | true => have h1 := hdi.1 rfl; have h2 := hlo.1 rfl; omega
                rw [ho'] at hn
                have hr' : nameTail ((bs s).drop (i + 1)) (i + 1 == 0) = r := by rw [← hn]; simp
                have HR' := Lib.hid hr'
                clear hcons hn hlet hdg hli hdi hlo hl hd ho hr' ho' hz
                go_wp2_with (first | (go_at_call 49; refine (HL.out _).mono ?_; rintro e w' ⟨rfl, rfl⟩) | (go_at_call 50; refine (HD.out _).mono ?_; rintro e w' ⟨rfl, rfl⟩))
                go_roundg (s.size - (i + 1))
                case measure => omega
                case rel => exact ⟨i + 1, by go_num, by omega, rfl, HR'.out, rfl⟩
              | false =>
                have hr' : false = r := by rw [← hn]; simp
                have HR' := Lib.hid hr'
                clear hcons hn hlet hdg hli hdi hlo hl hd ho hr' hz
                go_wp2_with (first | (go_at_call 49; refine (HL.out _).mono ?_; rintro e w' ⟨rfl, rfl⟩) | (go_at_call 50; refine (HD.out _).mono ?_; rintro e w' ⟨rfl, rfl⟩))
                go_ret
                exact ⟨by (rw [← HR'.out]; rfl), rfl⟩
        · obtain rfl : i = s.size := by omega
          have hr' : true = r := by
            rw [← hN.out, List.drop_of_length_le (by rw [bs_length]; exact Nat.le_refl _)]
            rfl
          have HR' := Lib.hid hr'
          clear hr'
          go_wp2
          go_ret
          exact ⟨by (rw [← HR'.out]; rfl), rfl⟩

set_option maxRecDepth 100000 in
theorem rIsName_calls (w : World) (s : ByteArray) (r : Bool) (hr : nameB (bs s) = r) :
    Calls Tryd.prog 15 #[.string s] w fun e w' => e = .returned (.bool r) ∧ w = w' := by
  have H := Lib.hid (rIsWord_calls w s r hr)
  clear hr
  go_enter Tryd.func15, Tryd.ntmps15
  go_wp2_with (go_at_call 31; refine H.out.mono ?_; rintro e w' ⟨rfl, rfl⟩)
  go_ret
  exact ⟨rfl, rfl⟩

end Go.Proofs.YtpnfcgmogjpliaaDoor
