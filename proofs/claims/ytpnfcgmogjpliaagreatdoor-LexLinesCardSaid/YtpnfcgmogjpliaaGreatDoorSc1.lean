/- The scanner's small methods: is, skip, lineEnd, comment. Each contract holds of every source of at most 20,000 bytes. -/
import Derived.Test.YtpnfcgmogjpliaaGreatDoorSc0
import Derived.Test.YtpnfcgmogjpliaaGreatDoorShelf
namespace Go.Proofs.YtpnfcgmogjpliaaGreatDoor
open Go.RowKit

def isAt (s : ByteArray) (k c : Nat) : Bool := ((bs s)[k]?).any fun b => classOf b == c
theorem isAt_lt {s : ByteArray} {k c : Nat} (h : k < s.size) : isAt s k c = (classOf s[k] == c) := by simp [isAt, bs_get s k h]
theorem isAt_ge {s : ByteArray} {k c : Nat} (h : s.size ≤ k) : isAt s k c = false := by
  unfold isAt
  rw [List.getElem?_eq_none (by rw [bs_length]; exact h)]
  rfl
theorem cast_beq (a b : Nat) : ((a : Int) == (b : Int)) = (a == b) := by
  rw [Bool.eq_iff_iff, beq_iff_eq, beq_iff_eq]
  omega

set_option maxRecDepth 100000 in
theorem is_calls (w : World) (g : Nat) (s : ByteArray) (k c : Nat) (kk : Nat) (ln : Bool) (bad : Int) (r : Bool) (h : ScSt w g s kk ln bad) (_hs : s.size ≤ 20000) (hr : isAt s k c = r) :
    Calls Tryz.prog 77 #[.pointer (some ⟨g, 0, none⟩), .int .i64 k, .int .u8 c] w fun e w' => e = .returned (.bool r) ∧ ∃ n, w' = w.drewN n := by
  obtain ⟨c0, _, _, _, _⟩ := sc_cells h
  by_cases hk : k < s.size
  · have c2 := sc_class h s[k]
    clear h
    have hix := fun w => idxCls g s[k].toNat s[k].toNat_lt w
    have h1 : decide ((k : Int) < s.size) = true := by simp; omega
    have h2 : decide ((0:Int) ≤ (k : Int)) = true := by simp
    have hfin : ((classOf s[k] : Int) == (c : Int)) = r := by rw [cast_beq, ← hr, isAt_lt hk]
    have Hfin := Lib.hid hfin
    clear hfin hr
    go_enter Tryz.func77, Tryz.ntmps77
    go_wp2
    go_quiet (fail)
    go_wp2
    go_ret
    exact ⟨congrArg (fun b => Ending.returned (.bool b)) Hfin.out, _, rfl⟩
  · rw [isAt_ge (by omega)] at hr
    subst hr
    clear h
    have h1 : decide ((k : Int) < s.size) = false := by simp; omega
    go_enter Tryz.func77, Tryz.ntmps77
    go_wp2
    go_quiet (fail)
    go_wp2
    go_ret
    exact ⟨rfl, _, rfl⟩

theorem isAt_drop {s : ByteArray} {k c : Nat} {b : UInt8} {t : List UInt8} (h : (bs s).drop k = b :: t) : isAt s k c = (classOf b == c) := by
  unfold isAt
  rw [show (bs s)[k]? = some b from by rw [← List.head?_drop, h]; rfl]
  rfl
theorem isAt_end {s : ByteArray} {k c : Nat} (h : (bs s).drop k = []) : isAt s k c = false := by
  unfold isAt
  rw [show (bs s)[k]? = none from by rw [← List.head?_drop, h]; rfl]
  rfl
theorem drop_lt {s : ByteArray} {k : Nat} {b : UInt8} {t : List UInt8} (h : (bs s).drop k = b :: t) : k < s.size ∧ t.length = s.size - k - 1 ∧ (bs s).drop (k + 1) = t := by
  have h1 : ((bs s).drop k).length = t.length + 1 := by rw [h]; rfl
  rw [List.length_drop, bs_length] at h1
  refine ⟨by omega, by omega, ?_⟩
  rw [← List.drop_drop, h]
  rfl
theorem class_blank (b : UInt8) : (classOf b == 3) = LexM.isBlank b := by
  unfold classOf
  split
  · simp_all
  · split
    · simp_all
    · split
      · simp_all
      · split <;> simp_all
theorem isAt_blank {s : ByteArray} {k : Nat} (h : isAt s k 3 = true) : ∃ b t, (bs s).drop k = b :: t ∧ LexM.isBlank b = true := by
  cases hd : (bs s).drop k with
  | nil => rw [isAt_end hd] at h; cases h
  | cons b t => rw [isAt_drop hd, class_blank] at h; exact ⟨b, t, rfl, h⟩
/-- Where the blanks that stand here end. -/
def skipTo (s : ByteArray) (k : Nat) : Nat := k + (((bs s).drop k).takeWhile LexM.isBlank).length
theorem skipTo_yes {s : ByteArray} {k : Nat} (h : isAt s k 3 = true) : skipTo s (k + 1) = skipTo s k ∧ k < s.size := by
  obtain ⟨b, t, hd, hb⟩ := isAt_blank h
  obtain ⟨h1, _, h2⟩ := drop_lt hd
  refine ⟨?_, h1⟩
  unfold skipTo
  rw [h2, hd]
  simp only [List.takeWhile_cons, hb, if_true, List.length_cons]
  omega
theorem skipTo_no {s : ByteArray} {k : Nat} (h : isAt s k 3 = false) : skipTo s k = k := by
  unfold skipTo
  cases hd : (bs s).drop k with
  | nil => rfl
  | cons b t =>
    rw [isAt_drop hd, class_blank] at h
    simp [h]

set_option maxRecDepth 100000 in
theorem skip_calls (w : World) (g : Nat) (s : ByteArray) (k : Nat) (ln : Bool) (bad : Int) (h : ScSt w g s k ln bad) (hs : s.size ≤ 20000) :
    Calls Tryz.prog 57 #[.pointer (some ⟨g, 0, none⟩)] w fun e w' => e = .returned (.tuple #[]) ∧ ScSt w' g s (skipTo s k) ln bad ∧ Ch g w w' := by
  have HS := Lib.hid h
  clear h
  go_enter Tryz.func57, Tryz.ntmps57
  go_wp2
  go_loopg [] (s.size - k) (fun n wr => ∃ k', Aside (skipTo s k' = skipTo s k) ∧ n = s.size - k' ∧ Aside (ScSt wr g s k' ln bad) ∧ Ch g w wr)
  case atStart => exact ⟨k, rfl, rfl, HS.out, Ch.refl _ _⟩
  case round =>
    obtain ⟨k', hk, rfl, hst, hch⟩ := hrel
    have c1 := (sc_cells hst.out).2.1
    have f1 := sc_frozen hst.out 1
    cases hr : isAt s k' 3 with
    | false =>
      have HR := Lib.hid hr
      clear hr
      go_wp2_with (go_at_call 77; refine (is_calls _ g s k' 3 k' ln bad false hst.out hs HR.out).mono ?_; rintro e w' ⟨rfl, n, rfl⟩)
      go_end0
      refine ⟨rfl, ?_, hch.drewN n⟩
      rw [← hk.out, skipTo_no HR.out]
      exact hst.out
    | true =>
      obtain ⟨e1, hlt⟩ := skipTo_yes hr
      have E1 := Lib.hid e1
      have HR := Lib.hid hr
      clear hr e1
      go_wp2_with (go_at_call 77; refine (is_calls _ g s k' 3 k' ln bad true hst.out hs HR.out).mono ?_; rintro e w' ⟨rfl, n, rfl⟩)
      go_roundg (s.size - (k' + 1))
      case measure => omega
      case rel =>
        refine ⟨k' + 1, E1.out.trans hk.out, rfl, ?_, ?_⟩
        · exact (hst.out.drewN n).setAt (k' + 1)
        · exact (hch.drewN n).set _ _

/-! ### Where a line ends -/
theorem indexByte_find : ∀ (l : List UInt8) (c : UInt8), Lib.indexByte l c = match l.findIdx? (· == c) with | some k => (k : Int) | none => -1
  | [], _ => rfl
  | b :: l, c => by
    simp only [Lib.indexByte, List.findIdx?_cons]
    by_cases h : (b == c) = true
    · simp [h]
    · simp only [h]
      rw [indexByte_find l c]
      cases l.findIdx? (· == c) with
      | none => rfl
      | some k =>
        have h2 : ¬ ((k : Int) == -1) = true := by rw [beq_iff_eq]; omega
        simp [h2]
theorem line_find : ∀ (l : List UInt8), (LexM.line l).length = match l.findIdx? (· == 10) with | some k => k | none => l.length
  | [] => rfl
  | b :: l => by
    have ih := line_find l
    simp only [LexM.line] at ih
    simp only [LexM.line, List.takeWhile_cons, List.findIdx?_cons]
    by_cases h : (b == 10) = true
    · have h' : (b != 10) = false := by simp [bne, h]
      simp [h, h']
    · have h' : (b != 10) = true := by simp [bne, h]
      simp only [h', if_true, List.length_cons, ih, h]
      cases l.findIdx? (· == 10) <;> rfl
/-- Where the line of a place ends. -/
def lineTo (s : ByteArray) (k : Nat) : Nat := k + (LexM.line ((bs s).drop k)).length
theorem lineTo_le {s : ByteArray} {k : Nat} (h : k ≤ s.size) : k ≤ lineTo s k ∧ lineTo s k ≤ s.size := by
  have := LexM.line_le ((bs s).drop k)
  rw [List.length_drop, bs_length] at this
  unfold lineTo
  omega

set_option maxRecDepth 100000 in
theorem lineEnd_calls (w : World) (g : Nat) (s : ByteArray) (k kk : Nat) (ln : Bool) (bad : Int) (h : ScSt w g s kk ln bad) (hs : s.size ≤ 20000) (hk : k ≤ s.size) :
    Calls Tryz.prog 79 #[.pointer (some ⟨g, 0, none⟩), .int .i64 k] w fun e w' => e = .returned (.int .i64 (lineTo s k)) ∧ w = w' := by
  obtain ⟨c0, _, _, _, _⟩ := sc_cells h
  clear h
  have hidx := indexByte_find ((bs s).drop k) 10
  have hlin := line_find ((bs s).drop k)
  rw [← Lib.extract_to_end] at hidx
  have hcon := fun w => Tryz.strings_IndexByte (s.extract k s.size) 10 w
  rw [show (10 : Int).toNat.toUInt8 = 10 from rfl] at hcon
  cases hf : ((bs s).drop k).findIdx? (· == 10) with
  | none =>
    rw [Lib.extract_to_end, hf] at hidx
    rw [hf] at hlin
    simp only [Lib.extract_to_end, hidx] at hcon
    have hfin : (s.size : Int) = (lineTo s k : Nat) := by
      unfold lineTo
      rw [hlin]
      simp only [List.length_drop, bs_length]
      omega
    have Hfin := Lib.hid hfin
    clear hidx hlin hf hfin
    have HC := Lib.hid hcon
    clear hcon
    go_enter Tryz.func79, Tryz.ntmps79
    go_wp2_with (go_at_call 93; refine (HC.out _).mono ?_; rintro e w' ⟨rfl, rfl⟩)
    go_ret
    exact ⟨congrArg (fun n => Ending.returned (.int .i64 n)) Hfin.out, rfl⟩
  | some j =>
    rw [Lib.extract_to_end, hf] at hidx
    rw [hf] at hlin
    simp only [Lib.extract_to_end, hidx] at hcon
    have hj : j < ((bs s).drop k).length := (List.findIdx?_eq_some_iff_getElem.1 hf).1
    rw [List.length_drop, bs_length] at hj
    have hfin : ((k : Int) + j) = (lineTo s k : Nat) := by
      unfold lineTo
      rw [hlin]
      rfl
    have Hfin := Lib.hid hfin
    clear hidx hlin hf hfin
    have HC := Lib.hid hcon
    clear hcon
    go_enter Tryz.func79, Tryz.ntmps79
    go_wp2_with (go_at_call 93; refine (HC.out _).mono ?_; rintro e w' ⟨rfl, rfl⟩)
    go_ret
    exact ⟨congrArg (fun n => Ending.returned (.int .i64 n)) Hfin.out, rfl⟩

/-! ### Comments -/
theorem all_bytes (p : UInt8 → Bool) (h : (List.range 256).all (fun n => p (UInt8.ofNat n)) = true) (b : UInt8) : p b = true := by
  rw [List.all_eq_true] at h
  have := h b.toNat (List.mem_range.2 b.toNat_lt)
  simpa using this
theorem class_wrong (b : UInt8) : (classOf b == 4) = LexM.isWrong b := by
  have := all_bytes (fun b => (classOf b == 4) == LexM.isWrong b) (by decide +kernel) b
  simpa using this
theorem class_letter (b : UInt8) : (classOf b == 1) = LexM.isLetter b := by
  have := all_bytes (fun b => (classOf b == 1) == LexM.isLetter b) (by decide +kernel) b
  simpa using this
theorem class_digit (b : UInt8) : (classOf b == 2) = LexM.isDigit b := by
  have := all_bytes (fun b => (classOf b == 2) == LexM.isDigit b) (by decide +kernel) b
  simpa using this
/-- The first place that is wrong in the line of a place. -/
def cmt (s : ByteArray) (k : Nat) : Option Nat := (LexM.firstWrong (LexM.line ((bs s).drop k))).map (k + ·)
theorem line_step {s : ByteArray} {k : Nat} (h : k < lineTo s k) : ∃ b t, (bs s).drop k = b :: t ∧ (b == 10) = false ∧ lineTo s (k + 1) = lineTo s k ∧ k < s.size := by
  cases hd : (bs s).drop k with
  | nil =>
    unfold lineTo at h
    rw [hd] at h
    simp [LexM.line] at h
  | cons b t =>
    obtain ⟨h1, h2, h3⟩ := drop_lt hd
    by_cases hb : (b == 10) = true
    · have h' : (b != 10) = false := by simp [bne, hb]
      unfold lineTo at h
      rw [hd] at h
      simp [LexM.line, h'] at h
    · have h' : (b != 10) = true := by simp [bne, hb]
      refine ⟨b, t, rfl, by simpa using hb, ?_, h1⟩
      unfold lineTo
      rw [h3, hd]
      simp only [LexM.line, List.takeWhile_cons, h', if_true, List.length_cons]
      omega
theorem cmt_end {s : ByteArray} {k : Nat} (h : ¬ k < lineTo s k) : cmt s k = none := by
  unfold lineTo at h
  unfold cmt
  rw [List.eq_nil_of_length_eq_zero (l := LexM.line ((bs s).drop k)) (by omega)]
  rfl
theorem cmt_step {s : ByteArray} {k : Nat} (h : k < lineTo s k) : cmt s k = if isAt s k 4 then some k else cmt s (k + 1) := by
  obtain ⟨b, t, hd, hb, _, _⟩ := line_step h
  obtain ⟨_, _, h3⟩ := drop_lt hd
  have h' : (b != 10) = true := by simp [bne, hb]
  rw [isAt_drop hd, class_wrong]
  unfold cmt
  rw [h3, hd]
  simp only [LexM.line, LexM.firstWrong, List.takeWhile_cons, h', if_true, List.findIdx?_cons]
  by_cases hw : LexM.isWrong b = true
  · simp [hw]
  · simp only [hw]
    cases (List.takeWhile (fun x => x != 10) t).findIdx? LexM.isWrong with
    | none => simp
    | some j => simp; omega

/-- Where comment ends, and the place that is wrong. -/
def cmtBad (s : ByteArray) (k : Nat) (bad : Int) : Int := match cmt s k with | some p => (p : Int) | none => bad
def cmtTo (s : ByteArray) (k : Nat) : Nat := match cmt s k with | some p => p | none => lineTo s k

set_option maxRecDepth 100000 in
theorem comment_calls (w : World) (g : Nat) (s : ByteArray) (k : Nat) (ln : Bool) (bad : Int) (r : Bool) (h : ScSt w g s k ln bad) (hs : s.size ≤ 20000) (hk : k ≤ s.size) (hr : (cmt s k).isNone = r) :
    Calls Tryz.prog 60 #[.pointer (some ⟨g, 0, none⟩)] w fun e w' => e = .returned (.bool r) ∧ ScSt w' g s (cmtTo s k) ln (cmtBad s k bad) ∧ Ch g w w' := by
  have HS := Lib.hid h
  have HR := Lib.hid hr
  have c1 := (sc_cells h).2.1
  obtain ⟨l1, l2⟩ := lineTo_le hk
  obtain ⟨E, hE⟩ : ∃ E, lineTo s k = E := ⟨_, rfl⟩
  have hcon : Calls Tryz.prog 79 #[.pointer (some ⟨g, 0, none⟩), .int .i64 k] w fun e w' => e = .returned (.int .i64 E) ∧ w = w' := by
    rw [← hE]
    exact lineEnd_calls w g s k k ln bad h hs hk
  have HC := Lib.hid hcon
  have HE := Lib.hid hE
  rw [hE] at l1 l2
  clear h hr hcon hE
  go_enter Tryz.func60, Tryz.ntmps60
  go_wp2_with (go_at_call 79; refine HC.out.mono ?_; rintro e w' ⟨rfl, rfl⟩)
  go_loopg [] (E - k) (fun n wr => ∃ k', Aside (cmt s k' = cmt s k) ∧ Aside (lineTo s k' = E) ∧ k' ≤ E ∧ n = E - k' ∧ Aside (ScSt wr g s k' ln bad) ∧ Aside (Ch g w wr))
  case atStart => exact ⟨k, rfl, HE.out, l1, rfl, HS.out, Ch.refl _ _⟩
  case round =>
    obtain ⟨k', hc, he, hle, rfl, hst, hch⟩ := hrel
    clear c1
    have c1 := (sc_cells hst.out).2.1
    have f1 := sc_frozen hst.out 1
    have c260 := (sc_cells hst.out).2.2.2.2
    have f260 := sc_frozen hst.out 260
    by_cases hlt : k' < E
    · have hstep := cmt_step (s := s) (k := k') (by rw [he.out]; exact hlt)
      obtain ⟨b, t, hd, hb, hl, _⟩ := line_step (s := s) (k := k') (by rw [he.out]; exact hlt)
      have HL := Lib.hid hl
      clear hl hd hb
      cases hr : isAt s k' 4 with
      | true =>
        rw [hr, if_pos rfl] at hstep
        have HST := Lib.hid hstep
        have HI := Lib.hid hr
        clear hstep hr
        go_wp2_with (go_at_call 77; refine (is_calls _ g s k' 4 k' ln bad true hst.out hs HI.out).mono ?_; rintro e w' ⟨rfl, n, rfl⟩)
        go_ret
        have hck : cmt s k = some k' := hc.out.symm.trans HST.out
        refine ⟨?_, ?_, (hch.out.drewN n).set _ _⟩
        · rw [← HR.out, hck]; rfl
        · unfold cmtTo cmtBad
          rw [hck]
          exact (hst.out.drewN n).setBad k'
      | false =>
        rw [hr, if_neg (by simp)] at hstep
        have HST := Lib.hid hstep
        have HI := Lib.hid hr
        clear hstep hr
        go_wp2_with (go_at_call 77; refine (is_calls _ g s k' 4 k' ln bad false hst.out hs HI.out).mono ?_; rintro e w' ⟨rfl, n, rfl⟩)
        go_roundg (E - (k' + 1))
        case measure => omega
        case rel => exact ⟨k' + 1, HST.out.symm.trans hc.out, HL.out.trans he.out, by omega, rfl, (hst.out.drewN n).setAt (k' + 1), (hch.out.drewN n).set _ _⟩
    · go_wp2
      go_ret
      have hck : cmt s k = none := hc.out.symm.trans (cmt_end (by rw [he.out]; exact hlt))
      obtain rfl : k' = E := by omega
      refine ⟨?_, ?_, hch.out⟩
      · rw [← HR.out, hck]; rfl
      · unfold cmtTo cmtBad
        rw [hck, HE.out]
        exact hst.out

end Go.Proofs.YtpnfcgmogjpliaaGreatDoor
