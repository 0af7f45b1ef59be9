/- The scanner's method continues. Each contract holds of every source of at most 20,000 bytes. -/
import Derived.Test.YtpnfcgmogjpliaaGreatDoorSc2
namespace Go.Proofs.YtpnfcgmogjpliaaGreatDoor
open Go.RowKit

theorem drop_skipTo (s : ByteArray) (k : Nat) : (bs s).drop (skipTo s k) = ((bs s).drop k).dropWhile LexM.isBlank := by
  unfold skipTo
  rw [← List.drop_drop]
  generalize (bs s).drop k = l
  induction l with
  | nil => rfl
  | cons b t ih =>
    by_cases h : LexM.isBlank b = true
    · simp only [List.takeWhile_cons, List.dropWhile_cons, h, if_true, List.length_cons, List.drop_succ_cons]
      exact ih
    · simp [h]
theorem skipTo_le {s : ByteArray} {k : Nat} (h : k ≤ s.size) : k ≤ skipTo s k ∧ skipTo s k ≤ s.size := by
  have := LexM.tw_le LexM.isBlank ((bs s).drop k)
  rw [List.length_drop, bs_length] at this
  unfold skipTo
  omega
theorem hasPrefix_two (l : List UInt8) (a b : UInt8) : Lib.hasPrefix l [a, b] = (l.head? == some a && l.tail.head? == some b) := by
  match l with
  | [] => rfl
  | [x] => simp [Lib.hasPrefix, List.isPrefixOf]
  | x :: y :: l =>
    show (a == x && (b == y && true)) = (some x == some a && some y == some b)
    rw [Bool.eq_iff_iff]
    simp only [Bool.and_eq_true, beq_iff_eq, Option.some.injEq, Bool.and_true]
    constructor <;> (rintro ⟨rfl, rfl⟩; exact ⟨rfl, rfl⟩)

/-- Where a semicolon that goes on leads to. -/
def contTo (s : ByteArray) (k : Nat) : Nat := if (cmt s (skipTo s (k + 1))).isNone then (if lineTo s (skipTo s (k + 1)) < s.size then lineTo s (skipTo s (k + 1)) + 1 else lineTo s (skipTo s (k + 1))) else cmtTo s (skipTo s (k + 1))

set_option maxRecDepth 100000 in
theorem cont_no (w : World) (g : Nat) (s : ByteArray) (k : Nat) (ln : Bool) (bad : Int) (h : ScSt w g s k ln bad) (hs : s.size ≤ 20000) (hk : k < s.size) (hg : LexM.goes ((bs s).drop (k + 1)) = false) :
    Calls Tryz.prog 61 #[.pointer (some ⟨g, 0, none⟩)] w fun e w' => e = .returned (.tuple #[.bool false, .bool true]) ∧ ScSt w' g s k ln bad ∧ Ch g w w' := by
  have HS := Lib.hid h
  obtain ⟨c0, c1, c258, c259, c260⟩ := sc_cells h
  have f1 := sc_frozen h 1
  obtain ⟨l1, l2⟩ := skipTo_le (s := s) (k := k + 1) (by omega)
  obtain ⟨E, hE⟩ : ∃ E, skipTo s (k + 1) = E := ⟨_, rfl⟩
  have hd := drop_skipTo s (k + 1)
  unfold LexM.goes at hg
  rw [← hd, hE] at hg
  have HE := Lib.hid hE
  rw [hE] at l1 l2
  have hpre : Lib.hasPrefix (s.extract E s.size).data.toList [38, 38] = false ∧ E < s.size ∧ ∀ hlt : E < s.size, (((s[E]'hlt).toNat : Int) == 10) = false := by
    rw [Lib.extract_to_end, hasPrefix_two]
    cases hdd : (bs s).drop E with
    | nil => rw [hdd] at hg; simp at hg
    | cons b u =>
      rw [hdd] at hg
      simp only [Bool.or_eq_false_iff] at hg
      obtain ⟨q1, q2, q3⟩ := drop_lt hdd
      refine ⟨by simpa using hg.2, q1, fun hlt => ?_⟩
      have e1 : some s[E] = some b := by rw [← bs_get s E hlt, ← List.head?_drop, hdd]; rfl
      injection e1 with e1
      rw [e1, beq_eq_false_iff_ne]
      have := hg.1
      intro hc
      rw [beq_eq_false_iff_ne] at this
      exact this (UInt8.toNat_inj.1 (by rw [show (10 : UInt8).toNat = 10 from rfl]; omega))
  obtain ⟨hp, hlt, h10⟩ := hpre
  have h10 := h10 hlt
  have hcon : ∀ wx, Calls Tryz.prog 59 #[.string (s.extract E s.size), .string ⟨#[38, 38]⟩] wx fun e w' => e = .returned (.bool false) ∧ wx = w' := fun wx => by
    have := Tryz.strings_HasPrefix (s.extract E s.size) ⟨#[38, 38]⟩ wx
    rw [show ((⟨#[38, 38]⟩ : ByteArray)).data.toList = [38, 38] from rfl, hp] at this
    exact this.mono fun e w' h => ⟨h.1, h.2.symm⟩
  have HC := Lib.hid hcon
  have h1 : ((E : Int) == (s.size : Int)) = false := by rw [beq_eq_false_iff_ne]; omega
  clear h hE hd hg hp hcon
  go_enter Tryz.func61, Tryz.ntmps61
  go_wp2
  go_loopg [4] (E - (k + 1)) (fun n v wr => ∃ k' : Nat, v = .int .i64 k' ∧ Aside (skipTo s k' = E) ∧ k' ≤ E ∧ k < k' ∧ n = E - k' ∧ Aside (ScSt wr g s k ln bad) ∧ Aside (Ch g w wr))
  case atStart => exact ⟨k + 1, by go_num, HE.out, by omega, by omega, rfl, HS.out, Ch.refl _ _⟩
  case round =>
    obtain ⟨k', rfl, he, hle, hlk, rfl, hst, hch⟩ := hrel
    clear c0 c1 c258 c259 c260 f1
    obtain ⟨c0, c1, c258, c259, c260⟩ := sc_cells hst.out
    cases hr : isAt s k' 3 with
    | true =>
      obtain ⟨e1, hlt'⟩ := skipTo_yes hr
      have hle' : k' + 1 ≤ E := by
        have := (skipTo_le (s := s) (k := k' + 1) (by omega)).1
        rw [e1, he.out] at this
        exact this
      have E1 := Lib.hid e1
      have HR := Lib.hid hr
      clear hr e1
      go_wp2_with (go_at_call 77; refine (is_calls _ g s k' 3 k ln bad true hst.out hs HR.out).mono ?_; rintro e w' ⟨rfl, n, rfl⟩)
      go_roundg (E - (k' + 1))
      case measure => omega
      case rel => exact ⟨k' + 1, by go_num, E1.out.trans he.out, hle', by omega, rfl, hst.out.drewN n, hch.out.drewN n⟩
    | false =>
      obtain rfl : E = k' := by rw [← he.out, skipTo_no hr]
      have HR := Lib.hid hr
      clear hr
      go_wp2_with (first | (go_at_call 77; refine (is_calls _ g s E 3 k ln bad false hst.out hs HR.out).mono ?_; rintro e w' ⟨rfl, n, rfl⟩) | (go_at_call 59; refine (HC.out _).mono ?_; rintro e w' ⟨rfl, rfl⟩))
      go_ret2
      exact ⟨rfl, hst.out.drewN n, hch.out.drewN n⟩

theorem cmtTo_le {s : ByteArray} {k : Nat} (h : k ≤ s.size) : k ≤ cmtTo s k ∧ cmtTo s k ≤ s.size := by
  have h1 := lineTo_le h
  unfold cmtTo
  cases hc : cmt s k with
  | none => exact h1
  | some p =>
    unfold cmt LexM.firstWrong at hc
    simp only [Option.map_eq_some_iff] at hc
    obtain ⟨j, hj, rfl⟩ := hc
    have := (List.findIdx?_eq_some_iff_getElem.1 hj).1
    unfold lineTo at h1
    simp only
    omega

theorem comment_yes (w : World) (g : Nat) (s : ByteArray) (k : Nat) (ln : Bool) (bad : Int) (h : ScSt w g s k ln bad) (hs : s.size ≤ 20000) (hk : k ≤ s.size) (hc : cmt s k = none) :
    Calls Tryz.prog 60 #[.pointer (some ⟨g, 0, none⟩)] w fun e w' => e = .returned (.bool true) ∧ ScSt w' g s (lineTo s k) ln bad ∧ Ch g w w' := by
  have := comment_calls w g s k ln bad true h hs hk (by rw [hc]; rfl)
  unfold cmtTo cmtBad at this
  rw [hc] at this
  exact this
theorem comment_no (w : World) (g : Nat) (s : ByteArray) (k p : Nat) (ln : Bool) (bad : Int) (h : ScSt w g s k ln bad) (hs : s.size ≤ 20000) (hk : k ≤ s.size) (hc : cmt s k = some p) :
    Calls Tryz.prog 60 #[.pointer (some ⟨g, 0, none⟩)] w fun e w' => e = .returned (.bool false) ∧ ScSt w' g s p ln p ∧ Ch g w w' := by
  have := comment_calls w g s k ln bad false h hs hk (by rw [hc]; rfl)
  unfold cmtTo cmtBad at this
  rw [hc] at this
  exact this

theorem goes_key {s : ByteArray} {k E : Nat} (hE : skipTo s (k + 1) = E) (hk : k < s.size) (hg : LexM.goes ((bs s).drop (k + 1)) = true) :
    E = s.size ∨ (∃ hlt : E < s.size, (((s[E]'hlt).toNat : Int) == 10) = true) ∨ (∃ hlt : E < s.size, (((s[E]'hlt).toNat : Int) == 10) = false ∧ Lib.hasPrefix (s.extract E s.size).data.toList [38, 38] = true) := by
  have hd := drop_skipTo s (k + 1)
  have l2 := (skipTo_le (s := s) (k := k + 1) (by omega)).2
  unfold LexM.goes at hg
  rw [← hd, hE] at hg
  rw [hE] at l2
  rw [Lib.extract_to_end, hasPrefix_two]
  cases hdd : (bs s).drop E with
  | nil =>
    left
    have : ((bs s).drop E).length = 0 := by rw [hdd]; rfl
    rw [List.length_drop, bs_length] at this
    omega
  | cons b u =>
    rw [hdd] at hg
    simp only at hg
    obtain ⟨q1, q2, q3⟩ := drop_lt hdd
    have e1 : some s[E] = some b := by rw [← bs_get s E q1, ← List.head?_drop, hdd]; rfl
    injection e1 with e1
    right
    by_cases hb : (b == 10) = true
    · left
      refine ⟨q1, ?_⟩
      rw [e1, beq_iff_eq.1 hb]
      rfl
    · right
      refine ⟨q1, ?_, ?_⟩
      · rw [e1, beq_eq_false_iff_ne]
        intro hc
        exact hb (by rw [beq_iff_eq]; exact UInt8.toNat_inj.1 (by rw [show (10 : UInt8).toNat = 10 from rfl]; omega))
      · simpa [hb] using hg
theorem prefix_true {s : ByteArray} {E : Nat} (wx : World) (hp : Lib.hasPrefix (s.extract E s.size).data.toList [38, 38] = true) :
    Calls Tryz.prog 59 #[.string (s.extract E s.size), .string ⟨#[38, 38]⟩] wx fun e w' => e = .returned (.bool true) ∧ wx = w' := by
  have := Tryz.strings_HasPrefix (s.extract E s.size) ⟨#[38, 38]⟩ wx
  rw [show ((⟨#[38, 38]⟩ : ByteArray)).data.toList = [38, 38] from rfl, hp] at this
  exact this.mono fun e w' h => ⟨h.1, h.2.symm⟩

set_option maxHeartbeats 1000000 in
set_option maxRecDepth 100000 in
theorem cont_bad (w : World) (g : Nat) (s : ByteArray) (k : Nat) (ln : Bool) (bad : Int) (h : ScSt w g s k ln bad) (hs : s.size ≤ 20000) (hk : k < s.size) (hg : LexM.goes ((bs s).drop (k + 1)) = true) (p : Nat) (hc : cmt s (skipTo s (k + 1)) = some p) :
    Calls Tryz.prog 61 #[.pointer (some ⟨g, 0, none⟩)] w fun e w' => e = .returned (.tuple #[.bool true, .bool false]) ∧ ScSt w' g s p ln p ∧ Ch g w w' := by
  have HS := Lib.hid h
  obtain ⟨c0, c1, c258, c259, c260⟩ := sc_cells h
  have f1 := sc_frozen h 1
  obtain ⟨l1, l2⟩ := skipTo_le (s := s) (k := k + 1) (by omega)
  obtain ⟨E, hE⟩ : ∃ E, skipTo s (k + 1) = E := ⟨_, rfl⟩
  have HE := Lib.hid hE
  have HK := Lib.hid (goes_key hE hk hg)
  rw [hE] at l1 l2 hc
  have HC := Lib.hid hc
  clear h hE hg hc
  go_enter Tryz.func61, Tryz.ntmps61
  go_wp2
  go_loopg [4] (E - (k + 1)) (fun n v wr => ∃ k' : Nat, v = .int .i64 k' ∧ Aside (skipTo s k' = E) ∧ k' ≤ E ∧ k < k' ∧ n = E - k' ∧ Aside (ScSt wr g s k ln bad) ∧ Aside (Ch g w wr))
  case atStart => exact ⟨k + 1, by go_num, HE.out, by omega, by omega, rfl, HS.out, Ch.refl _ _⟩
  case round =>
    obtain ⟨k', rfl, he, hle, hlk, rfl, hst, hch⟩ := hrel
    clear c0 c1 c258 c259 c260 f1
    obtain ⟨c0, c1, c258, c259, c260⟩ := sc_cells hst.out
    have f1 := sc_frozen hst.out 1
    cases hi : isAt s k' 3 with
    | true =>
      obtain ⟨e1, hlt'⟩ := skipTo_yes hi
      have hle' : k' + 1 ≤ E := by
        have := (skipTo_le (s := s) (k := k' + 1) (by omega)).1
        rw [e1, he.out] at this
        exact this
      have E1 := Lib.hid e1
      have HI := Lib.hid hi
      clear hi e1
      go_wp2_with (go_at_call 77; refine (is_calls _ g s k' 3 k ln bad true hst.out hs HI.out).mono ?_; rintro e w' ⟨rfl, n, rfl⟩)
      go_roundg (E - (k' + 1))
      case measure => omega
      case rel => exact ⟨k' + 1, by go_num, E1.out.trans he.out, hle', by omega, rfl, hst.out.drewN n, hch.out.drewN n⟩
    | false =>
      obtain rfl : E = k' := by rw [← he.out, skipTo_no hi]
      have HI := Lib.hid hi
      clear hi
      rcases HK.out with hkk | ⟨hlt, h10⟩ | ⟨hlt, h10, hp⟩
      · have h1 : ((E : Int) == (s.size : Int)) = true := by rw [beq_iff_eq]; omega
        clear hkk
        go_wp2_with (first | (go_at_call 77; refine (is_calls _ g s E 3 k ln bad false hst.out hs HI.out).mono ?_; rintro e w' ⟨rfl, n, rfl⟩) | (go_at_call 60; refine (comment_no _ g s E p ln bad ((hst.out.drewN _).setAt E) hs l2 HC.out).mono ?_; rintro e w1 ⟨rfl, hs1, hc1⟩))
        go_ret2
        exact ⟨rfl, hs1, Ch.trans ((hch.out.drewN _).set _ _) hc1⟩
      · have h1 : ((E : Int) == (s.size : Int)) = false := by rw [beq_eq_false_iff_ne]; omega
        go_wp2_with (first | (go_at_call 77; refine (is_calls _ g s E 3 k ln bad false hst.out hs HI.out).mono ?_; rintro e w' ⟨rfl, n, rfl⟩) | (go_at_call 60; refine (comment_no _ g s E p ln bad ((hst.out.drewN _).setAt E) hs l2 HC.out).mono ?_; rintro e w1 ⟨rfl, hs1, hc1⟩))
        go_ret2
        exact ⟨rfl, hs1, Ch.trans ((hch.out.drewN _).set _ _) hc1⟩
      · have h1 : ((E : Int) == (s.size : Int)) = false := by rw [beq_eq_false_iff_ne]; omega
        have HP := Lib.hid hp
        clear hp
        go_wp2_with (first | (go_at_call 77; refine (is_calls _ g s E 3 k ln bad false hst.out hs HI.out).mono ?_; rintro e w' ⟨rfl, n, rfl⟩) | (go_at_call 60; refine (comment_no _ g s E p ln bad ((hst.out.drewN _).setAt E) hs l2 HC.out).mono ?_; rintro e w1 ⟨rfl, hs1, hc1⟩) | (go_at_call 59; refine (prefix_true _ HP.out).mono ?_; rintro e w2 ⟨rfl, rfl⟩))
        go_ret2
        exact ⟨rfl, hs1, Ch.trans ((hch.out.drewN _).set _ _) hc1⟩

set_option maxHeartbeats 1000000 in
set_option maxRecDepth 100000 in
theorem cont_yes (w : World) (g : Nat) (s : ByteArray) (k : Nat) (ln : Bool) (bad : Int) (h : ScSt w g s k ln bad) (hs : s.size ≤ 20000) (hk : k < s.size) (hg : LexM.goes ((bs s).drop (k + 1)) = true) (hc : cmt s (skipTo s (k + 1)) = none) :
    Calls Tryz.prog 61 #[.pointer (some ⟨g, 0, none⟩)] w fun e w' => e = .returned (.tuple #[.bool true, .bool true]) ∧ ScSt w' g s (if lineTo s (skipTo s (k + 1)) < s.size then lineTo s (skipTo s (k + 1)) + 1 else lineTo s (skipTo s (k + 1))) ln bad ∧ Ch g w w' := by
  have HS := Lib.hid h
  obtain ⟨c0, c1, c258, c259, c260⟩ := sc_cells h
  have f1 := sc_frozen h 1
  obtain ⟨l1, l2⟩ := skipTo_le (s := s) (k := k + 1) (by omega)
  obtain ⟨E, hE⟩ : ∃ E, skipTo s (k + 1) = E := ⟨_, rfl⟩
  have HE := Lib.hid hE
  have HK := Lib.hid (goes_key hE hk hg)
  rw [hE] at l1 l2 hc
  have HC := Lib.hid hc
  obtain ⟨m3, m4⟩ := lineTo_le l2
  obtain ⟨T, hT⟩ : ∃ T, lineTo s E = T := ⟨_, rfl⟩
  rw [hE, hT]
  rw [hT] at m3 m4
  have hcm : ∀ wx, ScSt wx g s E ln bad → Calls Tryz.prog 60 #[.pointer (some ⟨g, 0, none⟩)] wx fun e w' => e = .returned (.bool true) ∧ ScSt w' g s T ln bad ∧ Ch g wx w' := fun wx hx => by
    rw [← hT]
    exact comment_yes wx g s E ln bad hx hs l2 hc
  have HCM := Lib.hid hcm
  clear hT hcm
  clear h hE hg hc
  go_enter Tryz.func61, Tryz.ntmps61
  go_wp2
  go_loopg [4] (E - (k + 1)) (fun n v wr => ∃ k' : Nat, v = .int .i64 k' ∧ Aside (skipTo s k' = E) ∧ k' ≤ E ∧ k < k' ∧ n = E - k' ∧ Aside (ScSt wr g s k ln bad) ∧ Aside (Ch g w wr))
  case atStart => exact ⟨k + 1, by go_num, HE.out, by omega, by omega, rfl, HS.out, Ch.refl _ _⟩
  case round =>
    obtain ⟨k', rfl, he, hle, hlk, rfl, hst, hch⟩ := hrel
    clear c0 c1 c258 c259 c260 f1
    obtain ⟨c0, c1, c258, c259, c260⟩ := sc_cells hst.out
    have f1 := sc_frozen hst.out 1
    cases hi : isAt s k' 3 with
    | true =>
      obtain ⟨e1, hlt'⟩ := skipTo_yes hi
      have hle' : k' + 1 ≤ E := by
        have := (skipTo_le (s := s) (k := k' + 1) (by omega)).1
        rw [e1, he.out] at this
        exact this
      have E1 := Lib.hid e1
      have HI := Lib.hid hi
      clear hi e1
      go_wp2_with (go_at_call 77; refine (is_calls _ g s k' 3 k ln bad true hst.out hs HI.out).mono ?_; rintro e w' ⟨rfl, n, rfl⟩)
      go_roundg (E - (k' + 1))
      case measure => omega
      case rel => exact ⟨k' + 1, by go_num, E1.out.trans he.out, hle', by omega, rfl, hst.out.drewN n, hch.out.drewN n⟩
    | false =>
      obtain rfl : E = k' := by rw [← he.out, skipTo_no hi]
      have HI := Lib.hid hi
      clear hi
      rcases HK.out with hkk | ⟨hlt, h10⟩ | ⟨hlt, h10, hp⟩
      · have h1 : ((E : Int) == (s.size : Int)) = true := by rw [beq_iff_eq]; omega
        clear hkk
        by_cases hT : T < s.size
        · have h2 : decide ((T : Int) < (s.size : Int)) = true := by simp; omega
          go_wp2_with (first | (go_at_call 77; refine (is_calls _ g s E 3 k ln bad false hst.out hs HI.out).mono ?_; rintro e w' ⟨rfl, n, rfl⟩) | (go_at_call 60; refine (HCM.out _ ((hst.out.drewN _).setAt E)).mono ?_; rintro e w1 ⟨rfl, hs1, hc1⟩; obtain ⟨d0, d1, _, _, _⟩ := sc_cells hs1; have e1 := sc_frozen hs1 1))
          go_quiet (fail)
          go_wp2
          go_ret2
          exact ⟨rfl, by first | (rw [if_pos hT]; exact (hs1.drewN _).setAt (T + 1)) | exact (hs1.drewN _).setAt (T + 1), (Ch.trans ((hch.out.drewN _).set _ _) hc1).drewN _ |>.set _ _⟩
        · have h2 : decide ((T : Int) < (s.size : Int)) = false := by simp; omega
          go_wp2_with (first | (go_at_call 77; refine (is_calls _ g s E 3 k ln bad false hst.out hs HI.out).mono ?_; rintro e w' ⟨rfl, n, rfl⟩) | (go_at_call 60; refine (HCM.out _ ((hst.out.drewN _).setAt E)).mono ?_; rintro e w1 ⟨rfl, hs1, hc1⟩; obtain ⟨d0, d1, _, _, _⟩ := sc_cells hs1; have e1 := sc_frozen hs1 1))
          go_quiet (fail)
          go_wp2
          go_ret2
          exact ⟨rfl, by first | (rw [if_neg hT]; exact hs1.drewN _) | exact hs1.drewN _, (Ch.trans ((hch.out.drewN _).set _ _) hc1).drewN _⟩
      · have h1 : ((E : Int) == (s.size : Int)) = false := by rw [beq_eq_false_iff_ne]; omega
        by_cases hT : T < s.size
        · have h2 : decide ((T : Int) < (s.size : Int)) = true := by simp; omega
          go_wp2_with (first | (go_at_call 77; refine (is_calls _ g s E 3 k ln bad false hst.out hs HI.out).mono ?_; rintro e w' ⟨rfl, n, rfl⟩) | (go_at_call 60; refine (HCM.out _ ((hst.out.drewN _).setAt E)).mono ?_; rintro e w1 ⟨rfl, hs1, hc1⟩; obtain ⟨d0, d1, _, _, _⟩ := sc_cells hs1; have e1 := sc_frozen hs1 1))
          go_quiet (fail)
          go_wp2
          go_ret2
          exact ⟨rfl, by first | (rw [if_pos hT]; exact (hs1.drewN _).setAt (T + 1)) | exact (hs1.drewN _).setAt (T + 1), (Ch.trans ((hch.out.drewN _).set _ _) hc1).drewN _ |>.set _ _⟩
        · have h2 : decide ((T : Int) < (s.size : Int)) = false := by simp; omega
          go_wp2_with (first | (go_at_call 77; refine (is_calls _ g s E 3 k ln bad false hst.out hs HI.out).mono ?_; rintro e w' ⟨rfl, n, rfl⟩) | (go_at_call 60; refine (HCM.out _ ((hst.out.drewN _).setAt E)).mono ?_; rintro e w1 ⟨rfl, hs1, hc1⟩; obtain ⟨d0, d1, _, _, _⟩ := sc_cells hs1; have e1 := sc_frozen hs1 1))
          go_quiet (fail)
          go_wp2
          go_ret2
          exact ⟨rfl, by first | (rw [if_neg hT]; exact hs1.drewN _) | exact hs1.drewN _, (Ch.trans ((hch.out.drewN _).set _ _) hc1).drewN _⟩
      · have h1 : ((E : Int) == (s.size : Int)) = false := by rw [beq_eq_false_iff_ne]; omega
        have HP := Lib.hid hp
        clear hp
        by_cases hT : T < s.size
        · have h2 : decide ((T : Int) < (s.size : Int)) = true := by simp; omega
          go_wp2_with (first | (go_at_call 77; refine (is_calls _ g s E 3 k ln bad false hst.out hs HI.out).mono ?_; rintro e w' ⟨rfl, n, rfl⟩) | (go_at_call 60; refine (HCM.out _ ((hst.out.drewN _).setAt E)).mono ?_; rintro e w1 ⟨rfl, hs1, hc1⟩; obtain ⟨d0, d1, _, _, _⟩ := sc_cells hs1; have e1 := sc_frozen hs1 1) | (go_at_call 59; refine (prefix_true _ HP.out).mono ?_; rintro e w2 ⟨rfl, rfl⟩))
          go_quiet (fail)
          go_wp2
          go_ret2
          exact ⟨rfl, by first | (rw [if_pos hT]; exact (hs1.drewN _).setAt (T + 1)) | exact (hs1.drewN _).setAt (T + 1), (Ch.trans ((hch.out.drewN _).set _ _) hc1).drewN _ |>.set _ _⟩
        · have h2 : decide ((T : Int) < (s.size : Int)) = false := by simp; omega
          go_wp2_with (first | (go_at_call 77; refine (is_calls _ g s E 3 k ln bad false hst.out hs HI.out).mono ?_; rintro e w' ⟨rfl, n, rfl⟩) | (go_at_call 60; refine (HCM.out _ ((hst.out.drewN _).setAt E)).mono ?_; rintro e w1 ⟨rfl, hs1, hc1⟩; obtain ⟨d0, d1, _, _, _⟩ := sc_cells hs1; have e1 := sc_frozen hs1 1) | (go_at_call 59; refine (prefix_true _ HP.out).mono ?_; rintro e w2 ⟨rfl, rfl⟩))
          go_quiet (fail)
          go_wp2
          go_ret2
          exact ⟨rfl, by first | (rw [if_neg hT]; exact hs1.drewN _) | exact hs1.drewN _, (Ch.trans ((hch.out.drewN _).set _ _) hc1).drewN _⟩

end Go.Proofs.YtpnfcgmogjpliaaGreatDoor
