/- The scanner's method next answers the next token of the model, for every source of at most 20,000 bytes, where the library's tables lie as their texts lay them. -/
import Derived.Test.YtpnfcgmogjpliaaGreatDoorSc9
namespace Go.Proofs.YtpnfcgmogjpliaaGreatDoor
open Go.RowKit
attribute [local go_sem ↓] Go.wp_at_zero Go.wp_at_succ

/-- What next comes to, where the model still has L. -/
def NextPost (s : ByteArray) (g : Nat) (bad : Int) (L : List LexM.Tk × Option Nat) (e : Ending) (w' : World) : Prop :=
  match L with
  | (tk :: ts, er) => e = .returned (.tuple #[.agg #[.int .i64 tk.kind, .int .i64 tk.pos, .string ⟨tk.text.toArray⟩], .bool true]) ∧ ∃ k' ln', k' ≤ s.size ∧ ScSt w' g s k' ln' bad ∧ LexM.lex ((bs s).drop k') k' ln' = (ts, er)
  | ([], none) => (∃ (a b : Int) (x : ByteArray), e = .returned (.tuple #[.agg #[.int .i64 a, .int .i64 b, .string x], .bool false])) ∧ ∃ k' ln', ScSt w' g s k' ln' bad
  | ([], some p) => (∃ (a b : Int) (x : ByteArray), e = .returned (.tuple #[.agg #[.int .i64 a, .int .i64 b, .string x], .bool false])) ∧ ∃ k' ln', ScSt w' g s k' ln' p

theorem lex_skipTo (s : ByteArray) (k : Nat) (ln : Bool) : LexM.lex ((bs s).drop (skipTo s k)) (skipTo s k) ln = LexM.lex ((bs s).drop k) k ln := by
  rw [LexM.lex_blanks ln ((bs s).drop k) k, drop_skipTo]
  rfl
theorem skipTo_head {s : ByteArray} {k : Nat} {b : UInt8} {t : List UInt8} (h : (bs s).drop (skipTo s k) = b :: t) : LexM.isBlank b = false := by
  rw [drop_skipTo] at h
  exact dw_head _ _ _ _ h

theorem end_t_last (w : World) (g : Nat) (s : ByteArray) (k : Nat) (bad : Int) (h : ScSt w g s k true bad) (hs : s.size ≤ 20000) (hk : k ≤ s.size) (hl : k = s.size) :
    Calls Tryz.prog 58 #[.pointer (some ⟨g, 0, none⟩)] w fun e w' => e = .returned (.tuple #[.agg #[.int .i64 5, .int .i64 k, .string ⟨#[]⟩], .bool true]) ∧ ScSt w' g s k false bad ∧ Ch g w w' := by
  have := end_calls w g s k true bad h hs hk
  simpa [hl, tkV] using this
theorem end_t_more (w : World) (g : Nat) (s : ByteArray) (k : Nat) (bad : Int) (h : ScSt w g s k true bad) (hs : s.size ≤ 20000) (hk : k ≤ s.size) (hl : ¬ k = s.size) :
    Calls Tryz.prog 58 #[.pointer (some ⟨g, 0, none⟩)] w fun e w' => e = .returned (.tuple #[.agg #[.int .i64 5, .int .i64 k, .string ⟨#[]⟩], .bool true]) ∧ ScSt w' g s (k + 1) false bad ∧ Ch g w w' := by
  have := end_calls w g s k true bad h hs hk
  simpa [hl, tkV] using this
theorem end_f_last (w : World) (g : Nat) (s : ByteArray) (k : Nat) (bad : Int) (h : ScSt w g s k false bad) (hs : s.size ≤ 20000) (hk : k ≤ s.size) (hl : k = s.size) :
    Calls Tryz.prog 58 #[.pointer (some ⟨g, 0, none⟩)] w fun e w' => e = .returned (.tuple #[.agg #[.int .i64 0, .int .i64 0, .string ⟨#[]⟩], .bool true]) ∧ ScSt w' g s k false bad ∧ Ch g w w' := by
  have := end_calls w g s k false bad h hs hk
  simpa [hl, tkV] using this
theorem end_f_more (w : World) (g : Nat) (s : ByteArray) (k : Nat) (bad : Int) (h : ScSt w g s k false bad) (hs : s.size ≤ 20000) (hk : k ≤ s.size) (hl : ¬ k = s.size) :
    Calls Tryz.prog 58 #[.pointer (some ⟨g, 0, none⟩)] w fun e w' => e = .returned (.tuple #[.agg #[.int .i64 0, .int .i64 0, .string ⟨#[]⟩], .bool false]) ∧ ScSt w' g s (k + 1) false bad ∧ Ch g w w' := by
  have := end_calls w g s k false bad h hs hk
  simpa [hl, tkV] using this

theorem tokStep_two (b : UInt8) (t : List UInt8) : (∃ kind x n, LexM.tokStep b t = .tok kind x n) ∨ ∃ i, LexM.tokStep b t = .bad i := by
  unfold LexM.tokStep
  split
  · dsimp only
    split
    · exact .inr ⟨_, rfl⟩
    · exact .inl ⟨_, _, _, rfl⟩
  · split
    · dsimp only
      split
      · exact .inr ⟨_, rfl⟩
      · exact .inl ⟨_, _, _, rfl⟩
    · split
      · split
        · exact .inr ⟨_, rfl⟩
        · split
          · exact .inr ⟨_, rfl⟩
          · exact .inl ⟨_, _, _, rfl⟩
      · split
        · exact .inl ⟨_, _, _, rfl⟩
        · split
          · exact .inl ⟨_, _, _, rfl⟩
          · exact .inr ⟨_, rfl⟩
theorem tokStep_semi (t : List UInt8) : LexM.tokStep 59 t = .bad 0 := by
  have h1 : LexM.isLetter 59 = false := by decide
  have h2 : LexM.isDigit 59 = false := by decide
  have h3 : ((59 : UInt8) == 34 || (59 : UInt8) == 39) = false := by decide
  have h4 : LexM.dateM (59 :: t) = none := by
    unfold LexM.dateM
    have e1 : ((59 :: t).take 2 == [123, 125]) = false := by cases t <;> rfl
    have e2 : LexM.hasDate (59 :: t) = false := by
      unfold LexM.hasDate
      rw [show ((59 :: t).take 2 == [123, 94]) = false by cases t <;> rfl]
      simp
    rw [e1, e2]
    simp
  have h5 : LexM.signM (59 :: t) = none := by
    unfold LexM.signM
    rw [List.find?_eq_none]
    intro w hw
    have hall : ∀ w ∈ LexM.signs, w ≠ [] ∧ w.head? ≠ some 59 := by decide
    obtain ⟨hne, hh⟩ := hall w hw
    cases w with
    | nil => exact absurd rfl hne
    | cons c w =>
      intro e
      rw [beq_iff_eq] at e
      simp only [List.length_cons, List.take_succ_cons, LexM.caps, List.map_cons] at e
      injection e with e1
      rw [show LexM.cap 59 = 59 from by decide] at e1
      exact hh (by rw [← e1]; rfl)
  unfold LexM.tokStep
  rw [h1, h2, h3, h4, h5]
  simp
theorem line_blanks : ∀ (t : List UInt8), LexM.line t = t.takeWhile LexM.isBlank ++ LexM.line (t.dropWhile LexM.isBlank)
  | [] => rfl
  | b :: t => by
    by_cases h : LexM.isBlank b = true
    · have hb : (b != 10) = true := by
        simp only [LexM.isBlank, Bool.or_eq_true, beq_iff_eq] at h
        rcases h with rfl | rfl <;> rfl
      have ih := line_blanks t
      simp only [LexM.line] at ih
      simp only [LexM.line, List.takeWhile_cons, List.dropWhile_cons, h, hb, if_true, List.cons_append]
      rw [← ih]
    · simp [h]
theorem blank_right (b : UInt8) (h : LexM.isBlank b = true) : LexM.isWrong b = false := by
  simp only [LexM.isBlank, Bool.or_eq_true, beq_iff_eq] at h
  rcases h with rfl | rfl <;> rfl
theorem fw_blanks (t : List UInt8) : LexM.firstWrong (LexM.line t) = (LexM.firstWrong (LexM.line (t.dropWhile LexM.isBlank))).map ((t.takeWhile LexM.isBlank).length + ·) := by
  rw [line_blanks t]
  have h : ∀ b ∈ t.takeWhile LexM.isBlank, LexM.isWrong b = false := fun b hb => blank_right b (takeWhile_all _ _ b hb)
  generalize t.takeWhile LexM.isBlank = a at h
  have hdw : LexM.line (t.dropWhile LexM.isBlank) = LexM.line (t.dropWhile LexM.isBlank) := rfl
  generalize LexM.line (t.dropWhile LexM.isBlank) = c
  induction a with
  | nil => simp
  | cons x a ih =>
    have hx := h x (by simp)
    have := ih (fun b hb => h b (by simp [hb]))
    simp only [LexM.firstWrong] at this
    simp only [LexM.firstWrong, List.cons_append, List.findIdx?_cons, hx, this]
    cases List.findIdx? LexM.isWrong c with
    | none => rfl
    | some j => simp; omega
theorem dw_idem (p : UInt8 → Bool) : ∀ l : List UInt8, (l.dropWhile p).dropWhile p = l.dropWhile p
  | [] => rfl
  | b :: t => by
    by_cases h : p b = true
    · simp only [List.dropWhile_cons, h, if_true]
      exact dw_idem p t
    · simp [h]
/-- Behind a semicolon that goes on: what is wrong in the rest of its line, and where it ends. -/
theorem cont_cmt {s : ByteArray} {k : Nat} {t : List UInt8} (hd : (bs s).drop (k + 1) = t) : cmt s (skipTo s (k + 1)) = (LexM.firstWrong (LexM.line t)).map (k + 1 + ·) := by
  unfold cmt
  rw [drop_skipTo, hd, fw_blanks t]
  unfold skipTo
  rw [hd]
  cases LexM.firstWrong (LexM.line (t.dropWhile LexM.isBlank)) with
  | none => rfl
  | some j => simp; omega
theorem cont_line {s : ByteArray} {k : Nat} {t : List UInt8} (hd : (bs s).drop (k + 1) = t) : lineTo s (skipTo s (k + 1)) = k + 1 + (LexM.line t).length := by
  unfold lineTo
  rw [drop_skipTo, hd, line_blanks t]
  unfold skipTo
  rw [hd]
  simp only [List.length_append]
  omega

set_option maxHeartbeats 4000000 in
set_option maxRecDepth 100000 in
theorem next_calls (w0 w : World) (g : Nat) (s : ByteArray) (k : Nat) (ln : Bool) (bad : Int) (h : ScSt w g s k ln bad) (hs : s.size ≤ 20000) (hk : k ≤ s.size) (hT : Tabs w0 w) (hg : w0.heap.size ≤ g) :
    Calls Tryz.prog 38 #[.pointer (some ⟨g, 0, none⟩)] w fun e w' => NextPost s g bad (LexM.lex ((bs s).drop k) k ln) e w' ∧ Ch g w w' := by
  have HS := Lib.hid h
  have hz := blk_lt h
  have HT := Lib.hid hT
  have m0 : w.heap.size ≠ g := by omega
  obtain ⟨L, hL⟩ : ∃ L, LexM.lex ((bs s).drop k) k ln = L := ⟨_, rfl⟩
  rw [hL]
  have HL := Lib.hid hL
  clear h hT hL
  go_enter Tryz.func38, Tryz.ntmps38
  go_wp2
  go_loopg [] (s.size - k + 1) (fun q wr => ∃ (k0 : Nat) (l0 : Bool), k0 ≤ s.size ∧ q = s.size - k0 + 1 ∧ Aside (LexM.lex ((bs s).drop k0) k0 l0 = L) ∧ Aside (ScSt wr g s k0 l0 bad) ∧ Aside (Ch g w wr)
    ∧ Aside (wr.heap[w.heap.size]? = some (.cells #[.int .i64 0, .int .i64 0, .string ⟨#[]⟩] 49 (0, 0))))
  case atStart => exact ⟨k, ln, hk, rfl, HL.out, HS.out.alloc _, (Ch.refl g w).alloc _, blk_new w _ _⟩
  case round =>
    obtain ⟨k0, l0, hk0, rfl, hlx, hst, hch, ha0⟩ := hrel
    obtain ⟨l1, l2⟩ := skipTo_le hk0
    have hx1 := lex_skipTo s k0 l0
    have hh : ∀ b t, (bs s).drop (skipTo s k0) = b :: t → LexM.isBlank b = false := fun b t h => skipTo_head h
    obtain ⟨k1, hk1⟩ : ∃ k1, skipTo s k0 = k1 := ⟨_, rfl⟩
    rw [hk1] at l1 l2 hx1 hh
    have HK1 := Lib.hid hk1
    have HLX := Lib.hid (hx1.trans hlx.out)
    have hsk : ∀ wx, ScSt wx g s k0 l0 bad → Calls Tryz.prog 57 #[.pointer (some ⟨g, 0, none⟩)] wx fun e w' => e = .returned (.tuple #[]) ∧ ScSt w' g s k1 l0 bad ∧ Ch g wx w' := fun wx hx => by
      rw [← hk1]
      exact skip_calls wx g s k0 l0 bad hx hs
    have HSK := Lib.hid hsk
    clear hx1 hk1 hsk
    cases hd : (bs s).drop k1 with
    | nil =>
      have hke : k1 = s.size := by
        have : ((bs s).drop k1).length = 0 := by rw [hd]; rfl
        rw [List.length_drop, bs_length] at this
        omega
      have hLL : L = (LexM.ends l0 k1, none) := by rw [← HLX.out, hd, LexM.lex_nil]
      have HLL := Lib.hid hLL
      have HD := Lib.hid hd
      have h1 : ((k1 : Int) == (s.size : Int)) = true := by rw [beq_iff_eq]; omega
      clear hd hh
      cases l0 with
      | true =>
        go_wp2_with (go_at_call 57; refine (HSK.out _ hst.out).mono ?_; rintro e w1 ⟨rfl, hs1, hc1⟩; have HS1 := Lib.hid hs1; have HC1 := Lib.hid hc1; obtain ⟨c0, c1, c258, c259, c260⟩ := sc_cells hs1; have f1 := sc_frozen hs1 1; have f258 := sc_frozen hs1 258; have f259 := sc_frozen hs1 259; have f260 := sc_frozen hs1 260; have z1 := Lib.hid (blk_ch hc1 ha0.out m0); clear hs1 hc1)
        have HKE := Lib.hid hke
        clear hke hLL
        go_quiet (fail)
        go_wp2_with (go_at_call 58; refine (end_t_last _ g s k1 bad (HS1.out.drewN _) hs l2 HKE.out).mono ?_; rintro e w2 ⟨rfl, hs2, hc2⟩; have HS2 := Lib.hid hs2; have HC2 := Lib.hid hc2; clear hs2 hc2)
        have zz := Lib.hid (blk_ch HC2.out z1.out m0)
        have r0 : w2.cell? ⟨w.heap.size, 0, none⟩ = some (.int .i64 0) := (blk_cell zz.out 0).trans rfl
        have r1 : w2.cell? ⟨w.heap.size, 1, none⟩ = some (.int .i64 0) := (blk_cell zz.out 1).trans rfl
        have r2 : w2.cell? ⟨w.heap.size, 2, none⟩ = some (.string ⟨#[]⟩) := (blk_cell zz.out 2).trans rfl
        have q0 := blk_frozen zz.out 0
        have q1 := blk_frozen zz.out 1
        have q2 := blk_frozen zz.out 2
        have glt := blk_lt zz.out
        have n2 : w.heap.size ≠ w2.heap.size := by omega
        have n3 : w2.heap.size ≠ w.heap.size := by omega
        go_region
        go_wp2
        refine bodyPost_ret (v := .tuple #[.agg #[.int .i64 5, .int .i64 k1, .string ⟨#[]⟩], .bool true]) (by simp [results, Tryz.results38, go_sem, r0, r1, r2, glt]) rfl ⟨?_, ?_⟩
        · rw [HLL.out]
          exact ⟨rfl, k1, false, l2, (by have HS := HS2; (repeat (first | with_reducible exact HS.out | with_reducible apply ScSt.drewN | with_reducible apply ScSt.drew | with_reducible apply ScSt.alloc | with_reducible apply ScSt.setLine | ((with_reducible apply ScSt.setAtI); (case e => first | omega | rfl)) | with_reducible apply ScSt.setBad | with_reducible refine ScSt.other ?_ (by first | omega | (simp; done) | (simp; omega)) _))), by rw [HD.out]; rfl⟩
        · have HCH := Lib.hid ((hch.out.trans HC1.out).drewN _ |>.trans HC2.out)
          (repeat (first | with_reducible exact Ch.refl _ _ | with_reducible exact HCH.out | with_reducible apply Ch.drewN | with_reducible apply Ch.drew | with_reducible apply Ch.alloc | with_reducible apply Ch.set | with_reducible refine Ch.setNew ?_ (by first | omega | (simp; done) | (simp; omega)) _))
      | false =>
        go_wp2_with (go_at_call 57; refine (HSK.out _ hst.out).mono ?_; rintro e w1 ⟨rfl, hs1, hc1⟩; have HS1 := Lib.hid hs1; have HC1 := Lib.hid hc1; obtain ⟨c0, c1, c258, c259, c260⟩ := sc_cells hs1; have f1 := sc_frozen hs1 1; have f258 := sc_frozen hs1 258; have f259 := sc_frozen hs1 259; have f260 := sc_frozen hs1 260; have z1 := Lib.hid (blk_ch hc1 ha0.out m0); clear hs1 hc1)
        have HKE := Lib.hid hke
        clear hke hLL
        go_quiet (fail)
        go_wp2_with (go_at_call 58; refine (end_f_last _ g s k1 bad (HS1.out.drewN _) hs l2 HKE.out).mono ?_; rintro e w2 ⟨rfl, hs2, hc2⟩; have HS2 := Lib.hid hs2; have HC2 := Lib.hid hc2; clear hs2 hc2)
        have zz := Lib.hid (blk_ch HC2.out z1.out m0)
        have r0 : w2.cell? ⟨w.heap.size, 0, none⟩ = some (.int .i64 0) := (blk_cell zz.out 0).trans rfl
        have r1 : w2.cell? ⟨w.heap.size, 1, none⟩ = some (.int .i64 0) := (blk_cell zz.out 1).trans rfl
        have r2 : w2.cell? ⟨w.heap.size, 2, none⟩ = some (.string ⟨#[]⟩) := (blk_cell zz.out 2).trans rfl
        have q0 := blk_frozen zz.out 0
        have q1 := blk_frozen zz.out 1
        have q2 := blk_frozen zz.out 2
        have glt := blk_lt zz.out
        have n2 : w.heap.size ≠ w2.heap.size := by omega
        have n3 : w2.heap.size ≠ w.heap.size := by omega
        go_region
        go_wp2
        refine bodyPost_ret (v := .tuple #[.agg #[.int .i64 0, .int .i64 0, .string ⟨#[]⟩], .bool false]) (by simp [results, Tryz.results38, go_sem, r0, r1, r2, glt]) rfl ⟨?_, ?_⟩
        · rw [HLL.out]
          exact ⟨⟨0, 0, _, rfl⟩, k1, false, (by have HS := HS2; (repeat (first | with_reducible exact HS.out | with_reducible apply ScSt.drewN | with_reducible apply ScSt.drew | with_reducible apply ScSt.alloc | with_reducible apply ScSt.setLine | ((with_reducible apply ScSt.setAtI); (case e => first | omega | rfl)) | with_reducible apply ScSt.setBad | with_reducible refine ScSt.other ?_ (by first | omega | (simp; done) | (simp; omega)) _)))⟩
        · have HCH := Lib.hid ((hch.out.trans HC1.out).drewN _ |>.trans HC2.out)
          (repeat (first | with_reducible exact Ch.refl _ _ | with_reducible exact HCH.out | with_reducible apply Ch.drewN | with_reducible apply Ch.drew | with_reducible apply Ch.alloc | with_reducible apply Ch.set | with_reducible refine Ch.setNew ?_ (by first | omega | (simp; done) | (simp; omega)) _))
    | cons b t =>
      obtain ⟨hk1, htl, hd1⟩ := drop_lt hd
      have hsk := drop_here hd hk1
      have hnb := hh b t hd
      have e10 := eq_int s[k1] 10
      rw [show (((10 : UInt8).toNat : Nat) : Int) = 10 from rfl, hsk] at e10
      have e42 := eq_int s[k1] 42
      rw [show (((42 : UInt8).toNat : Nat) : Int) = 42 from rfl, hsk] at e42
      have e59 := eq_int s[k1] 59
      rw [show (((59 : UInt8).toNat : Nat) : Int) = 59 from rfl, hsk] at e59
      have h1 : ((k1 : Int) == (s.size : Int)) = false := by rw [beq_eq_false_iff_ne]; omega
      have b1 : decide ((k1 : Int) < s.size) = true := by simp; omega
      have b2 : decide ((0 : Int) ≤ (k1 : Int)) = true := by simp
      have hke : ¬ k1 = s.size := by omega
      by_cases h10 : (b == 10) = true
      · obtain rfl : b = 10 := beq_iff_eq.1 h10
        have hLL : L = (LexM.ends l0 k1 ++ (LexM.lex t (k1 + 1) false).1, (LexM.lex t (k1 + 1) false).2) := by rw [← HLX.out, hd, LexM.lex_eol]
        have HLL := Lib.hid hLL
        have HD1 := Lib.hid hd1
        have q10 : ((s[k1].toNat : Int) == 10) = true := by rw [hsk]; rfl
        clear hd hd1 hh hsk hnb e10 e42 e59 h10
        cases l0 with
        | true =>
          go_wp2_with (go_at_call 57; refine (HSK.out _ hst.out).mono ?_; rintro e w1 ⟨rfl, hs1, hc1⟩; have HS1 := Lib.hid hs1; have HC1 := Lib.hid hc1; obtain ⟨c0, c1, c258, c259, c260⟩ := sc_cells hs1; have f1 := sc_frozen hs1 1; have f258 := sc_frozen hs1 258; have f259 := sc_frozen hs1 259; have f260 := sc_frozen hs1 260; have z1 := Lib.hid (blk_ch hc1 ha0.out m0); clear hs1 hc1)
          have HKE := Lib.hid hke
          clear hke hLL
          go_quiet (fail)
          go_wp2_with (go_at_call 58; refine (end_t_more _ g s k1 bad (HS1.out.drewN _) hs l2 HKE.out).mono ?_; rintro e w2 ⟨rfl, hs2, hc2⟩; have HS2 := Lib.hid hs2; have HC2 := Lib.hid hc2; clear hs2 hc2)
          have zz := Lib.hid (blk_ch HC2.out z1.out m0)
          have r0 : w2.cell? ⟨w.heap.size, 0, none⟩ = some (.int .i64 0) := (blk_cell zz.out 0).trans rfl
          have r1 : w2.cell? ⟨w.heap.size, 1, none⟩ = some (.int .i64 0) := (blk_cell zz.out 1).trans rfl
          have r2 : w2.cell? ⟨w.heap.size, 2, none⟩ = some (.string ⟨#[]⟩) := (blk_cell zz.out 2).trans rfl
          have q0 := blk_frozen zz.out 0
          have q1 := blk_frozen zz.out 1
          have q2 := blk_frozen zz.out 2
          have glt := blk_lt zz.out
          have n2 : w.heap.size ≠ w2.heap.size := by omega
          have n3 : w2.heap.size ≠ w.heap.size := by omega
          go_region
          go_wp2
          refine bodyPost_ret (v := .tuple #[.agg #[.int .i64 5, .int .i64 k1, .string ⟨#[]⟩], .bool true]) (by simp [results, Tryz.results38, go_sem, r0, r1, r2, glt]) rfl ⟨?_, ?_⟩
          · rw [HLL.out]
            exact ⟨rfl, k1 + 1, false, by omega, (by have HS := HS2; (repeat (first | with_reducible exact HS.out | with_reducible apply ScSt.drewN | with_reducible apply ScSt.drew | with_reducible apply ScSt.alloc | with_reducible apply ScSt.setLine | ((with_reducible apply ScSt.setAtI); (case e => first | omega | rfl)) | with_reducible apply ScSt.setBad | with_reducible refine ScSt.other ?_ (by first | omega | (simp; done) | (simp; omega)) _))), by rw [HD1.out]; rfl⟩
          · have HCH := Lib.hid ((hch.out.trans HC1.out).drewN _ |>.trans HC2.out)
            (repeat (first | with_reducible exact Ch.refl _ _ | with_reducible exact HCH.out | with_reducible apply Ch.drewN | with_reducible apply Ch.drew | with_reducible apply Ch.alloc | with_reducible apply Ch.set | with_reducible refine Ch.setNew ?_ (by first | omega | (simp; done) | (simp; omega)) _))
        | false =>
          go_wp2_with (go_at_call 57; refine (HSK.out _ hst.out).mono ?_; rintro e w1 ⟨rfl, hs1, hc1⟩; have HS1 := Lib.hid hs1; have HC1 := Lib.hid hc1; obtain ⟨c0, c1, c258, c259, c260⟩ := sc_cells hs1; have f1 := sc_frozen hs1 1; have f258 := sc_frozen hs1 258; have f259 := sc_frozen hs1 259; have f260 := sc_frozen hs1 260; have z1 := Lib.hid (blk_ch hc1 ha0.out m0); clear hs1 hc1)
          have HKE := Lib.hid hke
          clear hke hLL
          go_quiet (fail)
          go_wp2_with (go_at_call 58; refine (end_f_more _ g s k1 bad (HS1.out.drewN _) hs l2 HKE.out).mono ?_; rintro e w2 ⟨rfl, hs2, hc2⟩; have HS2 := Lib.hid hs2; have HC2 := Lib.hid hc2; clear hs2 hc2)
          have zz := Lib.hid (blk_ch HC2.out z1.out m0)
          go_roundg (s.size - (k1 + 1) + 1)
          case measure => omega
          case rel => exact ⟨k1 + 1, false, by omega, rfl, (by rw [HD1.out]; exact HLL.out.symm), HS2.out.alloc _, ((hch.out.trans HC1.out).drewN _ |>.trans HC2.out).alloc _, blk_alloc zz.out _⟩
      · have hb10 : (b == 10) = false := by simpa using h10
        have q10 : ((s[k1].toNat : Int) == 10) = false := by rw [hsk, e10]; exact hb10
        have hsl := slice_from s k1 k1 rfl (by omega)
        have hpf : Lib.hasPrefix (s.extract k1 s.size).data.toList [38, 38] = (b == 38 && t.head? == some 38) := by
          rw [Lib.extract_to_end, hd, hasPrefix_two]
          rfl
        have hcm1 : cmt s k1 = (LexM.firstWrong (LexM.line (b :: t))).map (k1 + ·) := by unfold cmt; rw [hd]
        have hln1 : lineTo s k1 = k1 + (LexM.line (b :: t)).length := by unfold lineTo; rw [hd]
        have hnb' : ¬ LexM.isBlank b = true := by rw [hnb]; simp
        clear e10 h10 hh hke
        by_cases hcm : LexM.isComment b t l0 = true
        · have hstep : LexM.step b t l0 = (match LexM.firstWrong (LexM.line (b :: t)) with | some i => .bad i | none => .skip (LexM.line (b :: t)).length) := by
            unfold LexM.step
            rw [if_neg (by rw [hb10]; simp), if_neg hnb', if_pos hcm]; rfl
          have hway : (b = 42 ∧ l0 = false) ∨ (¬ b = 42 ∧ (b == 38 && t.head? == some 38) = true) := by
            by_cases h42 : b = 42
            · left
              subst h42
              unfold LexM.isComment at hcm
              refine ⟨rfl, ?_⟩
              revert hcm
              cases l0 <;> simp
            · right
              unfold LexM.isComment at hcm
              rw [show (b == 42) = false from beq_eq_false_iff_ne.2 h42] at hcm
              exact ⟨h42, by simpa using hcm⟩
          cases hfw : LexM.firstWrong (LexM.line (b :: t)) with
          | some i =>
            rw [hfw] at hstep hcm1
            have hLL : L = ([], some (k1 + i)) := by rw [← HLX.out, hd, LexM.lex_bad hstep]
            have HLL := Lib.hid hLL
            have HCM := Lib.hid hcm1
            rcases hway with ⟨h42, rfl⟩ | ⟨h42, hamp⟩
            · have q42 : ((s[k1].toNat : Int) == 42) = true := by rw [hsk, e42, h42]; rfl
              clear h42 hpf hcm hd hd1 htl hsk hnb hnb' hb10 hln1 hcm1 hLL hstep e42 e59 hfw
              go_wp2_with (go_at_call 57; refine (HSK.out _ hst.out).mono ?_; rintro e w1 ⟨rfl, hs1, hc1⟩; have HS1 := Lib.hid hs1; have HC1 := Lib.hid hc1; obtain ⟨c0, c1, c258, c259, c260⟩ := sc_cells hs1; have f1 := sc_frozen hs1 1; have f258 := sc_frozen hs1 258; have f259 := sc_frozen hs1 259; have f260 := sc_frozen hs1 260; have z1 := Lib.hid (blk_ch hc1 ha0.out m0); clear hs1 hc1)
              go_quiet (fail)
              go_wp2
              go_quiet (fail)
              go_wp2_with (go_at_call 60; refine (comment_no _ g s k1 (k1 + i) false bad (HS1.out.drewN _) hs l2 HCM.out).mono ?_; rintro e w2 ⟨rfl, hs2, hc2⟩; have HS2 := Lib.hid hs2; have HC2 := Lib.hid hc2; clear hs2 hc2; have zz := Lib.hid (blk_ch HC2.out z1.out m0); have r0 : w2.cell? ⟨w.heap.size, 0, none⟩ = some (.int .i64 0) := (blk_cell zz.out 0).trans rfl; have r1 : w2.cell? ⟨w.heap.size, 1, none⟩ = some (.int .i64 0) := (blk_cell zz.out 1).trans rfl; have r2 : w2.cell? ⟨w.heap.size, 2, none⟩ = some (.string ⟨#[]⟩) := (blk_cell zz.out 2).trans rfl; have q0 := blk_frozen zz.out 0; have q1 := blk_frozen zz.out 1; have q2 := blk_frozen zz.out 2; have glt := blk_lt zz.out)
              refine bodyPost_ret (v := .tuple #[.agg #[.int .i64 0, .int .i64 0, .string ⟨#[]⟩], .bool false]) (by simp [results, Tryz.results38, go_sem, r0, r1, r2]) rfl ⟨?_, ?_⟩
              · rw [HLL.out]
                exact ⟨⟨0, 0, _, rfl⟩, k1 + i, false, (by have HS := HS2; (repeat (first | with_reducible exact HS.out | with_reducible apply ScSt.drewN | with_reducible apply ScSt.drew | with_reducible apply ScSt.alloc | with_reducible apply ScSt.setLine | ((with_reducible apply ScSt.setAtI); (case e => first | omega | rfl)) | with_reducible apply ScSt.setBad | with_reducible refine ScSt.other ?_ (by first | omega | (simp; done) | (simp; omega)) _)))⟩
              · have HCH := Lib.hid ((hch.out.trans HC1.out).drewN _ |>.trans HC2.out)
                (repeat (first | with_reducible exact Ch.refl _ _ | with_reducible exact HCH.out | with_reducible apply Ch.drewN | with_reducible apply Ch.drew | with_reducible apply Ch.alloc | with_reducible apply Ch.set | with_reducible refine Ch.setNew ?_ (by first | omega | (simp; done) | (simp; omega)) _))
            · have q42 : ((s[k1].toNat : Int) == 42) = false := by rw [hsk, e42]; exact beq_eq_false_iff_ne.2 h42
              rw [hamp] at hpf
              have hpc := fun wx => prefix_calls (p := ⟨#[38, 38]⟩) (s.extract k1 s.size) wx true hpf
              have HP := Lib.hid hpc
              clear hpc
              clear h42 hamp hpf hcm hd hd1 htl hsk hnb hnb' hb10 hln1 hcm1 hLL hstep e42 e59 hfw
              go_wp2_with (go_at_call 57; refine (HSK.out _ hst.out).mono ?_; rintro e w1 ⟨rfl, hs1, hc1⟩; have HS1 := Lib.hid hs1; have HC1 := Lib.hid hc1; obtain ⟨c0, c1, c258, c259, c260⟩ := sc_cells hs1; have f1 := sc_frozen hs1 1; have f258 := sc_frozen hs1 258; have f259 := sc_frozen hs1 259; have f260 := sc_frozen hs1 260; have z1 := Lib.hid (blk_ch hc1 ha0.out m0); clear hs1 hc1)
              go_quiet (fail)
              go_wp2
              go_quiet (fail)
              go_wp2
              go_quiet ((go_at_call 59; refine (HP.out _).mono ?_; rintro e w' ⟨rfl, rfl⟩; exact ⟨rfl, _, rfl⟩))
              go_wp2_with (go_at_call 60; refine (comment_no _ g s k1 (k1 + i) l0 bad (HS1.out.drewN _) hs l2 HCM.out).mono ?_; rintro e w2 ⟨rfl, hs2, hc2⟩; have HS2 := Lib.hid hs2; have HC2 := Lib.hid hc2; clear hs2 hc2; have zz := Lib.hid (blk_ch HC2.out z1.out m0); have r0 : w2.cell? ⟨w.heap.size, 0, none⟩ = some (.int .i64 0) := (blk_cell zz.out 0).trans rfl; have r1 : w2.cell? ⟨w.heap.size, 1, none⟩ = some (.int .i64 0) := (blk_cell zz.out 1).trans rfl; have r2 : w2.cell? ⟨w.heap.size, 2, none⟩ = some (.string ⟨#[]⟩) := (blk_cell zz.out 2).trans rfl; have q0 := blk_frozen zz.out 0; have q1 := blk_frozen zz.out 1; have q2 := blk_frozen zz.out 2; have glt := blk_lt zz.out)
              refine bodyPost_ret (v := .tuple #[.agg #[.int .i64 0, .int .i64 0, .string ⟨#[]⟩], .bool false]) (by simp [results, Tryz.results38, go_sem, r0, r1, r2]) rfl ⟨?_, ?_⟩
              · rw [HLL.out]
                exact ⟨⟨0, 0, _, rfl⟩, k1 + i, l0, (by have HS := HS2; (repeat (first | with_reducible exact HS.out | with_reducible apply ScSt.drewN | with_reducible apply ScSt.drew | with_reducible apply ScSt.alloc | with_reducible apply ScSt.setLine | ((with_reducible apply ScSt.setAtI); (case e => first | omega | rfl)) | with_reducible apply ScSt.setBad | with_reducible refine ScSt.other ?_ (by first | omega | (simp; done) | (simp; omega)) _)))⟩
              · have HCH := Lib.hid ((hch.out.trans HC1.out).drewN _ |>.trans HC2.out)
                (repeat (first | with_reducible exact Ch.refl _ _ | with_reducible exact HCH.out | with_reducible apply Ch.drewN | with_reducible apply Ch.drew | with_reducible apply Ch.alloc | with_reducible apply Ch.set | with_reducible refine Ch.setNew ?_ (by first | omega | (simp; done) | (simp; omega)) _))
          | none =>
            rw [hfw] at hstep hcm1
            have hLL : L = LexM.lex ((bs s).drop (lineTo s k1)) (lineTo s k1) l0 := by rw [← HLX.out, hd, LexM.lex_skip hstep, hln1, ← List.drop_drop, hd]
            have hprog : k1 + 1 ≤ lineTo s k1 := by
              have h' : (b != 10) = true := by simp [bne, hb10]
              rw [hln1]
              simp [LexM.line, h']
            obtain ⟨_, hT2⟩ := lineTo_le l2
            have HLL := Lib.hid hLL
            have HCM := Lib.hid hcm1
            rcases hway with ⟨h42, rfl⟩ | ⟨h42, hamp⟩
            · have q42 : ((s[k1].toNat : Int) == 42) = true := by rw [hsk, e42, h42]; rfl
              clear h42 hpf hcm hd hd1 htl hsk hnb hnb' hb10 hln1 hcm1 hLL hstep e42 e59 hfw
              go_wp2_with (go_at_call 57; refine (HSK.out _ hst.out).mono ?_; rintro e w1 ⟨rfl, hs1, hc1⟩; have HS1 := Lib.hid hs1; have HC1 := Lib.hid hc1; obtain ⟨c0, c1, c258, c259, c260⟩ := sc_cells hs1; have f1 := sc_frozen hs1 1; have f258 := sc_frozen hs1 258; have f259 := sc_frozen hs1 259; have f260 := sc_frozen hs1 260; have z1 := Lib.hid (blk_ch hc1 ha0.out m0); clear hs1 hc1)
              go_quiet (fail)
              go_wp2
              go_quiet (fail)
              go_wp2_with (go_at_call 60; refine (comment_yes _ g s k1 false bad (HS1.out.drewN _) hs l2 HCM.out).mono ?_; rintro e w2 ⟨rfl, hs2, hc2⟩; have HS2 := Lib.hid hs2; have HC2 := Lib.hid hc2; clear hs2 hc2; have zz := Lib.hid (blk_ch HC2.out z1.out m0); have r0 : w2.cell? ⟨w.heap.size, 0, none⟩ = some (.int .i64 0) := (blk_cell zz.out 0).trans rfl; have r1 : w2.cell? ⟨w.heap.size, 1, none⟩ = some (.int .i64 0) := (blk_cell zz.out 1).trans rfl; have r2 : w2.cell? ⟨w.heap.size, 2, none⟩ = some (.string ⟨#[]⟩) := (blk_cell zz.out 2).trans rfl; have q0 := blk_frozen zz.out 0; have q1 := blk_frozen zz.out 1; have q2 := blk_frozen zz.out 2; have glt := blk_lt zz.out)
              go_roundg (s.size - lineTo s k1 + 1)
              case measure => omega
              case rel => exact ⟨lineTo s k1, false, hT2, rfl, HLL.out.symm, HS2.out, (hch.out.trans HC1.out).drewN _ |>.trans HC2.out, zz.out⟩
            · have q42 : ((s[k1].toNat : Int) == 42) = false := by rw [hsk, e42]; exact beq_eq_false_iff_ne.2 h42
              rw [hamp] at hpf
              have hpc := fun wx => prefix_calls (p := ⟨#[38, 38]⟩) (s.extract k1 s.size) wx true hpf
              have HP := Lib.hid hpc
              clear hpc
              clear h42 hamp hpf hcm hd hd1 htl hsk hnb hnb' hb10 hln1 hcm1 hLL hstep e42 e59 hfw
              go_wp2_with (go_at_call 57; refine (HSK.out _ hst.out).mono ?_; rintro e w1 ⟨rfl, hs1, hc1⟩; have HS1 := Lib.hid hs1; have HC1 := Lib.hid hc1; obtain ⟨c0, c1, c258, c259, c260⟩ := sc_cells hs1; have f1 := sc_frozen hs1 1; have f258 := sc_frozen hs1 258; have f259 := sc_frozen hs1 259; have f260 := sc_frozen hs1 260; have z1 := Lib.hid (blk_ch hc1 ha0.out m0); clear hs1 hc1)
              go_quiet (fail)
              go_wp2
              go_quiet (fail)
              go_wp2
              go_quiet ((go_at_call 59; refine (HP.out _).mono ?_; rintro e w' ⟨rfl, rfl⟩; exact ⟨rfl, _, rfl⟩))
              go_wp2_with (go_at_call 60; refine (comment_yes _ g s k1 l0 bad (HS1.out.drewN _) hs l2 HCM.out).mono ?_; rintro e w2 ⟨rfl, hs2, hc2⟩; have HS2 := Lib.hid hs2; have HC2 := Lib.hid hc2; clear hs2 hc2; have zz := Lib.hid (blk_ch HC2.out z1.out m0); have r0 : w2.cell? ⟨w.heap.size, 0, none⟩ = some (.int .i64 0) := (blk_cell zz.out 0).trans rfl; have r1 : w2.cell? ⟨w.heap.size, 1, none⟩ = some (.int .i64 0) := (blk_cell zz.out 1).trans rfl; have r2 : w2.cell? ⟨w.heap.size, 2, none⟩ = some (.string ⟨#[]⟩) := (blk_cell zz.out 2).trans rfl; have q0 := blk_frozen zz.out 0; have q1 := blk_frozen zz.out 1; have q2 := blk_frozen zz.out 2; have glt := blk_lt zz.out)
              go_roundg (s.size - lineTo s k1 + 1)
              case measure => omega
              case rel => exact ⟨lineTo s k1, l0, hT2, rfl, HLL.out.symm, HS2.out, (hch.out.trans HC1.out).drewN _ |>.trans HC2.out, zz.out⟩
        · have hncm : LexM.isComment b t l0 = false := by simpa using hcm
          have hpf' : Lib.hasPrefix (s.extract k1 s.size).data.toList [38, 38] = false := by
            rw [hpf]
            unfold LexM.isComment at hncm
            rw [Bool.or_eq_false_iff] at hncm
            exact hncm.1
          have hway : (b = 42 ∧ l0 = true) ∨ ¬ b = 42 := by
            by_cases h42 : b = 42
            · left
              subst h42
              unfold LexM.isComment at hncm
              refine ⟨rfl, ?_⟩
              revert hncm
              cases l0 <;> simp
            · exact .inr h42
          clear hcm hpf
          by_cases h59 : b = 59
          · have q59 : ((s[k1].toNat : Int) == 59) = true := by rw [hsk, e59, h59]; rfl
            have q42 : ((s[k1].toNat : Int) == 42) = false := by rw [hsk, e42, h59]; rfl
            clear hway e42 e59
            subst h59
            by_cases hgo : LexM.goes t = true
            · have hstep : LexM.step 59 t l0 = (match LexM.firstWrong (LexM.line t) with | some i => .bad (1 + i) | none => .skip (1 + (LexM.line t).length + (if (LexM.line t).length < t.length then 1 else 0))) := by
                unfold LexM.step
                rw [if_neg (by simp), if_neg hnb', if_neg (by rw [hncm]; simp), if_pos (by rw [hgo]; rfl)]; rfl
              have hgo' : LexM.goes ((bs s).drop (k1 + 1)) = true := by rw [hd1]; exact hgo
              have hcc := cont_cmt hd1
              have hcl := cont_line hd1
              cases hfw : LexM.firstWrong (LexM.line t) with
              | some i =>
                rw [hfw] at hstep hcc
                have hLL : L = ([], some (k1 + (1 + i))) := by rw [← HLX.out, hd, LexM.lex_bad hstep]
                have HLL := Lib.hid hLL
                have HCC := Lib.hid hcc
                have HGO := Lib.hid hgo'
                have hpc := fun wx => prefix_calls (p := ⟨#[38, 38]⟩) (s.extract k1 s.size) wx false hpf'
                have HP := Lib.hid hpc
                clear hpc
                clear hd hd1 htl hsk hnb hnb' hb10 hln1 hcm1 hLL hstep hncm hpf' hgo hgo' hcc hcl hfw
                go_wp2_with (go_at_call 57; refine (HSK.out _ hst.out).mono ?_; rintro e w1 ⟨rfl, hs1, hc1⟩; have HS1 := Lib.hid hs1; have HC1 := Lib.hid hc1; obtain ⟨c0, c1, c258, c259, c260⟩ := sc_cells hs1; have f1 := sc_frozen hs1 1; have f258 := sc_frozen hs1 258; have f259 := sc_frozen hs1 259; have f260 := sc_frozen hs1 260; have z1 := Lib.hid (blk_ch hc1 ha0.out m0); clear hs1 hc1)
                go_quiet (fail)
                go_wp2
                go_quiet (fail)
                go_wp2
                go_quiet ((go_at_call 59; refine (HP.out _).mono ?_; rintro e w' ⟨rfl, rfl⟩; exact ⟨rfl, _, rfl⟩))
                go_wp2
                go_quiet (fail)
                go_wp2_with (go_at_call 61; refine (cont_bad _ g s k1 l0 bad (HS1.out.drewN _) hs hk1 HGO.out (k1 + 1 + i) HCC.out).mono ?_; rintro e w2 ⟨rfl, hs2, hc2⟩; have HS2 := Lib.hid hs2; have HC2 := Lib.hid hc2; clear hs2 hc2; have zz := Lib.hid (blk_ch HC2.out z1.out m0); have r0 : w2.cell? ⟨w.heap.size, 0, none⟩ = some (.int .i64 0) := (blk_cell zz.out 0).trans rfl; have r1 : w2.cell? ⟨w.heap.size, 1, none⟩ = some (.int .i64 0) := (blk_cell zz.out 1).trans rfl; have r2 : w2.cell? ⟨w.heap.size, 2, none⟩ = some (.string ⟨#[]⟩) := (blk_cell zz.out 2).trans rfl; have q0 := blk_frozen zz.out 0; have q1 := blk_frozen zz.out 1; have q2 := blk_frozen zz.out 2; have glt := blk_lt zz.out)
                refine bodyPost_ret (v := .tuple #[.agg #[.int .i64 0, .int .i64 0, .string ⟨#[]⟩], .bool false]) (by simp [results, Tryz.results38, go_sem, r0, r1, r2]) rfl ⟨?_, ?_⟩
                · rw [HLL.out]
                  exact ⟨⟨0, 0, _, rfl⟩, k1 + 1 + i, l0, (by rw [show ((k1 + (1 + i) : Nat) : Int) = ((k1 + 1 + i : Nat) : Int) from by omega]; (have HS := HS2; (repeat (first | with_reducible exact HS.out | with_reducible apply ScSt.drewN | with_reducible apply ScSt.drew | with_reducible apply ScSt.alloc | with_reducible apply ScSt.setLine | ((with_reducible apply ScSt.setAtI); (case e => first | omega | rfl)) | with_reducible apply ScSt.setBad | with_reducible refine ScSt.other ?_ (by first | omega | (simp; done) | (simp; omega)) _))))⟩
                · have HCH := Lib.hid ((hch.out.trans HC1.out).drewN _ |>.trans HC2.out)
                  (repeat (first | with_reducible exact Ch.refl _ _ | with_reducible exact HCH.out | with_reducible apply Ch.drewN | with_reducible apply Ch.drew | with_reducible apply Ch.alloc | with_reducible apply Ch.set | with_reducible refine Ch.setNew ?_ (by first | omega | (simp; done) | (simp; omega)) _))
              | none =>
                rw [hfw] at hstep hcc
                have hto : (if lineTo s (skipTo s (k1 + 1)) < s.size then lineTo s (skipTo s (k1 + 1)) + 1 else lineTo s (skipTo s (k1 + 1))) = k1 + (1 + (LexM.line t).length + (if (LexM.line t).length < t.length then 1 else 0)) := by
                  rw [hcl]
                  split <;> split <;> omega
                have hdk : ∀ n : Nat, ((59 : UInt8) :: t).drop n = (bs s).drop (k1 + n) := fun n => by rw [← hd, List.drop_drop]
                have hLL : L = LexM.lex ((bs s).drop (k1 + (1 + (LexM.line t).length + (if (LexM.line t).length < t.length then 1 else 0)))) (k1 + (1 + (LexM.line t).length + (if (LexM.line t).length < t.length then 1 else 0))) l0 := by rw [← HLX.out, hd, LexM.lex_skip hstep, hdk]
                have hT2 := (LexM.step_skip hstep).2
                have hT1 := (LexM.step_skip hstep).1
                obtain ⟨T, hT⟩ : ∃ T, k1 + (1 + (LexM.line t).length + (if (LexM.line t).length < t.length then 1 else 0)) = T := ⟨_, rfl⟩
                rw [hT] at hto hLL
                have hT1' : k1 + 1 ≤ T := by omega
                have hT2' : T ≤ s.size := by omega
                have hcy := fun wx (hx : ScSt wx g s k1 l0 bad) => cont_yes wx g s k1 l0 bad hx hs hk1 hgo' hcc
                rw [hto] at hcy
                have HCY := Lib.hid hcy
                have HLL := Lib.hid hLL
                have hpc := fun wx => prefix_calls (p := ⟨#[38, 38]⟩) (s.extract k1 s.size) wx false hpf'
                have HP := Lib.hid hpc
                clear hpc
                clear hd hd1 htl hsk hnb hnb' hb10 hln1 hcm1 hLL hstep hncm hpf' hdk hgo hgo' hcc hcl hfw hto hT hT1 hT2 hcy
                go_wp2_with (go_at_call 57; refine (HSK.out _ hst.out).mono ?_; rintro e w1 ⟨rfl, hs1, hc1⟩; have HS1 := Lib.hid hs1; have HC1 := Lib.hid hc1; obtain ⟨c0, c1, c258, c259, c260⟩ := sc_cells hs1; have f1 := sc_frozen hs1 1; have f258 := sc_frozen hs1 258; have f259 := sc_frozen hs1 259; have f260 := sc_frozen hs1 260; have z1 := Lib.hid (blk_ch hc1 ha0.out m0); clear hs1 hc1)
                go_quiet (fail)
                go_wp2
                go_quiet (fail)
                go_wp2
                go_quiet ((go_at_call 59; refine (HP.out _).mono ?_; rintro e w' ⟨rfl, rfl⟩; exact ⟨rfl, _, rfl⟩))
                go_wp2
                go_quiet (fail)
                go_wp2_with (go_at_call 61; refine (HCY.out _ (HS1.out.drewN _)).mono ?_; rintro e w2 ⟨rfl, hs2, hc2⟩; have HS2 := Lib.hid hs2; have HC2 := Lib.hid hc2; clear hs2 hc2; have zz := Lib.hid (blk_ch HC2.out z1.out m0); have r0 : w2.cell? ⟨w.heap.size, 0, none⟩ = some (.int .i64 0) := (blk_cell zz.out 0).trans rfl; have r1 : w2.cell? ⟨w.heap.size, 1, none⟩ = some (.int .i64 0) := (blk_cell zz.out 1).trans rfl; have r2 : w2.cell? ⟨w.heap.size, 2, none⟩ = some (.string ⟨#[]⟩) := (blk_cell zz.out 2).trans rfl; have q0 := blk_frozen zz.out 0; have q1 := blk_frozen zz.out 1; have q2 := blk_frozen zz.out 2; have glt := blk_lt zz.out)
                go_roundg (s.size - T + 1)
                case measure => omega
                case rel => exact ⟨T, l0, hT2', rfl, HLL.out.symm, HS2.out, (hch.out.trans HC1.out).drewN _ |>.trans HC2.out, zz.out⟩
            · have hgo' : LexM.goes ((bs s).drop (k1 + 1)) = false := by rw [hd1]; simpa using hgo
              have hstep : LexM.step 59 t l0 = .bad 0 := by
                unfold LexM.step
                rw [if_neg (by simp), if_neg hnb', if_neg (by rw [hncm]; simp), if_neg (by simpa using hgo), tokStep_semi]
              have hLL : L = ([], some k1) := by rw [← HLX.out, hd, LexM.lex_bad hstep]; rfl
              have HLL := Lib.hid hLL
              have HGO := Lib.hid hgo'
              have hpc := fun wx => prefix_calls (p := ⟨#[38, 38]⟩) (s.extract k1 s.size) wx false hpf'
              have HP := Lib.hid hpc
              clear hpc
              clear hd hd1 htl hsk hnb hnb' hb10 hln1 hcm1 hLL hstep hncm hpf' hgo hgo'
              go_wp2_with (go_at_call 57; refine (HSK.out _ hst.out).mono ?_; rintro e w1 ⟨rfl, hs1, hc1⟩; have HS1 := Lib.hid hs1; have HC1 := Lib.hid hc1; obtain ⟨c0, c1, c258, c259, c260⟩ := sc_cells hs1; have f1 := sc_frozen hs1 1; have f258 := sc_frozen hs1 258; have f259 := sc_frozen hs1 259; have f260 := sc_frozen hs1 260; have z1 := Lib.hid (blk_ch hc1 ha0.out m0); clear hs1 hc1)
              go_quiet (fail)
              go_wp2
              go_quiet (fail)
              go_wp2
              go_quiet ((go_at_call 59; refine (HP.out _).mono ?_; rintro e w' ⟨rfl, rfl⟩; exact ⟨rfl, _, rfl⟩))
              go_wp2
              go_quiet (fail)
              go_wp2_with (go_at_call 61; refine (cont_no _ g s k1 l0 bad (HS1.out.drewN _) hs hk1 HGO.out).mono ?_; rintro e w2 ⟨rfl, hs2, hc2⟩; have HS2 := Lib.hid hs2; have HC2 := Lib.hid hc2; clear hs2 hc2; obtain ⟨d0, d1, d258, d259, d260⟩ := sc_cells HS2.out; have e260 := sc_frozen HS2.out 260; have zz := Lib.hid (blk_ch HC2.out z1.out m0); have r0 : w2.cell? ⟨w.heap.size, 0, none⟩ = some (.int .i64 0) := (blk_cell zz.out 0).trans rfl; have r1 : w2.cell? ⟨w.heap.size, 1, none⟩ = some (.int .i64 0) := (blk_cell zz.out 1).trans rfl; have r2 : w2.cell? ⟨w.heap.size, 2, none⟩ = some (.string ⟨#[]⟩) := (blk_cell zz.out 2).trans rfl; have q0 := blk_frozen zz.out 0; have q1 := blk_frozen zz.out 1; have q2 := blk_frozen zz.out 2; have glt := blk_lt zz.out)
              refine bodyPost_ret (v := .tuple #[.agg #[.int .i64 0, .int .i64 0, .string ⟨#[]⟩], .bool false]) (by simp [results, Tryz.results38, go_sem, r0, r1, r2]) rfl ⟨?_, ?_⟩
              · rw [HLL.out]
                exact ⟨⟨0, 0, _, rfl⟩, k1, l0, (by have HS := HS2; (repeat (first | with_reducible exact HS.out | with_reducible apply ScSt.drewN | with_reducible apply ScSt.drew | with_reducible apply ScSt.alloc | with_reducible apply ScSt.setLine | ((with_reducible apply ScSt.setAtI); (case e => first | omega | rfl)) | with_reducible apply ScSt.setBad | with_reducible refine ScSt.other ?_ (by first | omega | (simp; done) | (simp; omega)) _)))⟩
              · have HCH := Lib.hid ((hch.out.trans HC1.out).drewN _ |>.trans HC2.out)
                (repeat (first | with_reducible exact Ch.refl _ _ | with_reducible exact HCH.out | with_reducible apply Ch.drewN | with_reducible apply Ch.drew | with_reducible apply Ch.alloc | with_reducible apply Ch.set | with_reducible refine Ch.setNew ?_ (by first | omega | (simp; done) | (simp; omega)) _))
          · have q59 : ((s[k1].toNat : Int) == 59) = false := by rw [hsk, e59]; exact beq_eq_false_iff_ne.2 h59
            have hstep : LexM.step b t l0 = LexM.tokStep b t := by
              unfold LexM.step
              rw [if_neg (by rw [hb10]; simp), if_neg hnb', if_neg (by rw [hncm]; simp), if_neg (by simp [h59])]
            rcases tokStep_two b t with ⟨kind, x, n, htk⟩ | ⟨i, htk⟩
            · rw [htk] at hstep
              have hLL : L = (⟨kind, k1, x⟩ :: (LexM.lex ((bs s).drop (k1 + n)) (k1 + n) true).1, (LexM.lex ((bs s).drop (k1 + n)) (k1 + n) true).2) := by rw [← HLX.out, hd, LexM.lex_tok hstep, ← List.drop_drop, hd]
              have hn2 := (LexM.step_tok hstep).2
              have hn2' : k1 + n ≤ s.size := by omega
              have htc := fun wx (hx : ScSt wx g s k1 true bad) (hc : Ch g w wx) => token_tok w0 wx g s k1 true bad hx hs (HT.out.ch hg hc) hg hd htk
              have HTC := Lib.hid htc
              have HLL := Lib.hid hLL
              rcases hway with ⟨h42, rfl⟩ | h42
              · have q42 : ((s[k1].toNat : Int) == 42) = true := by rw [hsk, e42, h42]; rfl
                have hpc := fun wx => prefix_calls (p := ⟨#[38, 38]⟩) (s.extract k1 s.size) wx false hpf'
                have HP := Lib.hid hpc
                clear hpc
                clear h42 h59 e42 e59 hd hd1 htl hsk hnb hnb' hb10 hln1 hcm1 hLL hstep hncm hpf' hn2 htk htc
                go_wp2_with (go_at_call 57; refine (HSK.out _ hst.out).mono ?_; rintro e w1 ⟨rfl, hs1, hc1⟩; have HS1 := Lib.hid hs1; have HC1 := Lib.hid hc1; obtain ⟨c0, c1, c258, c259, c260⟩ := sc_cells hs1; have f1 := sc_frozen hs1 1; have f258 := sc_frozen hs1 258; have f259 := sc_frozen hs1 259; have f260 := sc_frozen hs1 260; have z1 := Lib.hid (blk_ch hc1 ha0.out m0); clear hs1 hc1)
                go_quiet (fail)
                go_wp2
                go_quiet (fail)
                go_wp2
                go_quiet ((go_at_call 59; refine (HP.out _).mono ?_; rintro e w' ⟨rfl, rfl⟩; exact ⟨rfl, _, rfl⟩))
                go_wp2
                go_quiet (fail)
                go_wp2_with (go_at_call 62; refine (HTC.out _ ((HS1.out.drewN _).setLine true) ((hch.out.trans HC1.out).drewN _ |>.set _ _ |>.set _ _)).mono ?_; rintro e w2 ⟨rfl, hs2, hc2⟩; have HS2 := Lib.hid hs2; have HC2 := Lib.hid hc2; clear hs2 hc2; have zz := Lib.hid (blk_ch HC2.out (blk_far (blk_far z1.out m0 _) m0 _) m0); have r0 : w2.cell? ⟨w.heap.size, 0, none⟩ = some (.int .i64 0) := (blk_cell zz.out 0).trans rfl; have r1 : w2.cell? ⟨w.heap.size, 1, none⟩ = some (.int .i64 0) := (blk_cell zz.out 1).trans rfl; have r2 : w2.cell? ⟨w.heap.size, 2, none⟩ = some (.string ⟨#[]⟩) := (blk_cell zz.out 2).trans rfl; have q0 := blk_frozen zz.out 0; have q1 := blk_frozen zz.out 1; have q2 := blk_frozen zz.out 2; have glt := blk_lt zz.out)
                refine bodyPost_ret (v := .tuple #[.agg #[.int .i64 kind, .int .i64 k1, .string ⟨x.toArray⟩], .bool true]) (by simp [results, Tryz.results38, go_sem, r0, r1, r2]) rfl ⟨?_, ?_⟩
                · rw [HLL.out]
                  exact ⟨rfl, k1 + n, true, hn2', (by have HS := HS2; (repeat (first | with_reducible exact HS.out | with_reducible apply ScSt.drewN | with_reducible apply ScSt.drew | with_reducible apply ScSt.alloc | with_reducible apply ScSt.setLine | ((with_reducible apply ScSt.setAtI); (case e => first | omega | rfl)) | with_reducible apply ScSt.setBad | with_reducible refine ScSt.other ?_ (by first | omega | (simp; done) | (simp; omega)) _))), rfl⟩
                · have HCH := Lib.hid (((hch.out.trans HC1.out).drewN _ |>.set _ _ |>.set _ _).trans HC2.out)
                  (repeat (first | with_reducible exact Ch.refl _ _ | with_reducible exact HCH.out | with_reducible apply Ch.drewN | with_reducible apply Ch.drew | with_reducible apply Ch.alloc | with_reducible apply Ch.set | with_reducible refine Ch.setNew ?_ (by first | omega | (simp; done) | (simp; omega)) _))
              · have q42 : ((s[k1].toNat : Int) == 42) = false := by rw [hsk, e42]; exact beq_eq_false_iff_ne.2 h42
                have hpc := fun wx => prefix_calls (p := ⟨#[38, 38]⟩) (s.extract k1 s.size) wx false hpf'
                have HP := Lib.hid hpc
                clear hpc
                clear h42 h59 e42 e59 hd hd1 htl hsk hnb hnb' hb10 hln1 hcm1 hLL hstep hncm hpf' hn2 htk htc
                go_wp2_with (go_at_call 57; refine (HSK.out _ hst.out).mono ?_; rintro e w1 ⟨rfl, hs1, hc1⟩; have HS1 := Lib.hid hs1; have HC1 := Lib.hid hc1; obtain ⟨c0, c1, c258, c259, c260⟩ := sc_cells hs1; have f1 := sc_frozen hs1 1; have f258 := sc_frozen hs1 258; have f259 := sc_frozen hs1 259; have f260 := sc_frozen hs1 260; have z1 := Lib.hid (blk_ch hc1 ha0.out m0); clear hs1 hc1)
                go_quiet (fail)
                go_wp2
                go_quiet (fail)
                go_wp2
                go_quiet ((go_at_call 59; refine (HP.out _).mono ?_; rintro e w' ⟨rfl, rfl⟩; exact ⟨rfl, _, rfl⟩))
                go_wp2
                go_quiet (fail)
                go_wp2_with (go_at_call 62; refine (HTC.out _ ((HS1.out.drewN _).setLine true) ((hch.out.trans HC1.out).drewN _ |>.set _ _ |>.set _ _)).mono ?_; rintro e w2 ⟨rfl, hs2, hc2⟩; have HS2 := Lib.hid hs2; have HC2 := Lib.hid hc2; clear hs2 hc2; have zz := Lib.hid (blk_ch HC2.out (blk_far (blk_far z1.out m0 _) m0 _) m0); have r0 : w2.cell? ⟨w.heap.size, 0, none⟩ = some (.int .i64 0) := (blk_cell zz.out 0).trans rfl; have r1 : w2.cell? ⟨w.heap.size, 1, none⟩ = some (.int .i64 0) := (blk_cell zz.out 1).trans rfl; have r2 : w2.cell? ⟨w.heap.size, 2, none⟩ = some (.string ⟨#[]⟩) := (blk_cell zz.out 2).trans rfl; have q0 := blk_frozen zz.out 0; have q1 := blk_frozen zz.out 1; have q2 := blk_frozen zz.out 2; have glt := blk_lt zz.out)
                refine bodyPost_ret (v := .tuple #[.agg #[.int .i64 kind, .int .i64 k1, .string ⟨x.toArray⟩], .bool true]) (by simp [results, Tryz.results38, go_sem, r0, r1, r2]) rfl ⟨?_, ?_⟩
                · rw [HLL.out]
                  exact ⟨rfl, k1 + n, true, hn2', (by have HS := HS2; (repeat (first | with_reducible exact HS.out | with_reducible apply ScSt.drewN | with_reducible apply ScSt.drew | with_reducible apply ScSt.alloc | with_reducible apply ScSt.setLine | ((with_reducible apply ScSt.setAtI); (case e => first | omega | rfl)) | with_reducible apply ScSt.setBad | with_reducible refine ScSt.other ?_ (by first | omega | (simp; done) | (simp; omega)) _))), rfl⟩
                · have HCH := Lib.hid (((hch.out.trans HC1.out).drewN _ |>.set _ _ |>.set _ _).trans HC2.out)
                  (repeat (first | with_reducible exact Ch.refl _ _ | with_reducible exact HCH.out | with_reducible apply Ch.drewN | with_reducible apply Ch.drew | with_reducible apply Ch.alloc | with_reducible apply Ch.set | with_reducible refine Ch.setNew ?_ (by first | omega | (simp; done) | (simp; omega)) _))
            · rw [htk] at hstep
              have hLL : L = ([], some (k1 + i)) := by rw [← HLX.out, hd, LexM.lex_bad hstep]
              have htc := fun wx (hx : ScSt wx g s k1 true bad) (hc : Ch g w wx) => token_bad w0 wx g s k1 true bad hx hs (HT.out.ch hg hc) hg hd htk
              have HTC := Lib.hid htc
              have HLL := Lib.hid hLL
              rcases hway with ⟨h42, rfl⟩ | h42
              · have q42 : ((s[k1].toNat : Int) == 42) = true := by rw [hsk, e42, h42]; rfl
                have hpc := fun wx => prefix_calls (p := ⟨#[38, 38]⟩) (s.extract k1 s.size) wx false hpf'
                have HP := Lib.hid hpc
                clear hpc
                clear h42 h59 e42 e59 hd hd1 htl hsk hnb hnb' hb10 hln1 hcm1 hLL hstep hncm hpf' htk htc
                go_wp2_with (go_at_call 57; refine (HSK.out _ hst.out).mono ?_; rintro e w1 ⟨rfl, hs1, hc1⟩; have HS1 := Lib.hid hs1; have HC1 := Lib.hid hc1; obtain ⟨c0, c1, c258, c259, c260⟩ := sc_cells hs1; have f1 := sc_frozen hs1 1; have f258 := sc_frozen hs1 258; have f259 := sc_frozen hs1 259; have f260 := sc_frozen hs1 260; have z1 := Lib.hid (blk_ch hc1 ha0.out m0); clear hs1 hc1)
                go_quiet (fail)
                go_wp2
                go_quiet (fail)
                go_wp2
                go_quiet ((go_at_call 59; refine (HP.out _).mono ?_; rintro e w' ⟨rfl, rfl⟩; exact ⟨rfl, _, rfl⟩))
                go_wp2
                go_quiet (fail)
                go_wp2_with (go_at_call 62; refine (HTC.out _ ((HS1.out.drewN _).setLine true) ((hch.out.trans HC1.out).drewN _ |>.set _ _ |>.set _ _)).mono ?_; rintro e w2 ⟨⟨ea, ex, rfl⟩, ⟨k2, hs2⟩, hc2⟩; have HS2 := Lib.hid hs2; have HC2 := Lib.hid hc2; clear hs2 hc2; have zz := Lib.hid (blk_ch HC2.out (blk_far (blk_far z1.out m0 _) m0 _) m0); have r0 : w2.cell? ⟨w.heap.size, 0, none⟩ = some (.int .i64 0) := (blk_cell zz.out 0).trans rfl; have r1 : w2.cell? ⟨w.heap.size, 1, none⟩ = some (.int .i64 0) := (blk_cell zz.out 1).trans rfl; have r2 : w2.cell? ⟨w.heap.size, 2, none⟩ = some (.string ⟨#[]⟩) := (blk_cell zz.out 2).trans rfl; have q0 := blk_frozen zz.out 0; have q1 := blk_frozen zz.out 1; have q2 := blk_frozen zz.out 2; have glt := blk_lt zz.out)
                refine bodyPost_ret (v := .tuple #[.agg #[.int .i64 ea, .int .i64 k1, .string ex], .bool false]) (by simp [results, Tryz.results38, go_sem, r0, r1, r2]) rfl ⟨?_, ?_⟩
                · rw [HLL.out]
                  exact ⟨⟨_, _, _, rfl⟩, k2, true, (by rw [show ((k1 + i : Nat) : Int) = (k1 : Int) + i from by omega]; (have HS := HS2; (repeat (first | with_reducible exact HS.out | with_reducible apply ScSt.drewN | with_reducible apply ScSt.drew | with_reducible apply ScSt.alloc | with_reducible apply ScSt.setLine | ((with_reducible apply ScSt.setAtI); (case e => first | omega | rfl)) | with_reducible apply ScSt.setBad | with_reducible refine ScSt.other ?_ (by first | omega | (simp; done) | (simp; omega)) _))))⟩
                · have HCH := Lib.hid (((hch.out.trans HC1.out).drewN _ |>.set _ _ |>.set _ _).trans HC2.out)
                  (repeat (first | with_reducible exact Ch.refl _ _ | with_reducible exact HCH.out | with_reducible apply Ch.drewN | with_reducible apply Ch.drew | with_reducible apply Ch.alloc | with_reducible apply Ch.set | with_reducible refine Ch.setNew ?_ (by first | omega | (simp; done) | (simp; omega)) _))
              · have q42 : ((s[k1].toNat : Int) == 42) = false := by rw [hsk, e42]; exact beq_eq_false_iff_ne.2 h42
                have hpc := fun wx => prefix_calls (p := ⟨#[38, 38]⟩) (s.extract k1 s.size) wx false hpf'
                have HP := Lib.hid hpc
                clear hpc
                clear h42 h59 e42 e59 hd hd1 htl hsk hnb hnb' hb10 hln1 hcm1 hLL hstep hncm hpf' htk htc
                go_wp2_with (go_at_call 57; refine (HSK.out _ hst.out).mono ?_; rintro e w1 ⟨rfl, hs1, hc1⟩; have HS1 := Lib.hid hs1; have HC1 := Lib.hid hc1; obtain ⟨c0, c1, c258, c259, c260⟩ := sc_cells hs1; have f1 := sc_frozen hs1 1; have f258 := sc_frozen hs1 258; have f259 := sc_frozen hs1 259; have f260 := sc_frozen hs1 260; have z1 := Lib.hid (blk_ch hc1 ha0.out m0); clear hs1 hc1)
                go_quiet (fail)
                go_wp2
                go_quiet (fail)
                go_wp2
                go_quiet ((go_at_call 59; refine (HP.out _).mono ?_; rintro e w' ⟨rfl, rfl⟩; exact ⟨rfl, _, rfl⟩))
                go_wp2
                go_quiet (fail)
                go_wp2_with (go_at_call 62; refine (HTC.out _ ((HS1.out.drewN _).setLine true) ((hch.out.trans HC1.out).drewN _ |>.set _ _ |>.set _ _)).mono ?_; rintro e w2 ⟨⟨ea, ex, rfl⟩, ⟨k2, hs2⟩, hc2⟩; have HS2 := Lib.hid hs2; have HC2 := Lib.hid hc2; clear hs2 hc2; have zz := Lib.hid (blk_ch HC2.out (blk_far (blk_far z1.out m0 _) m0 _) m0); have r0 : w2.cell? ⟨w.heap.size, 0, none⟩ = some (.int .i64 0) := (blk_cell zz.out 0).trans rfl; have r1 : w2.cell? ⟨w.heap.size, 1, none⟩ = some (.int .i64 0) := (blk_cell zz.out 1).trans rfl; have r2 : w2.cell? ⟨w.heap.size, 2, none⟩ = some (.string ⟨#[]⟩) := (blk_cell zz.out 2).trans rfl; have q0 := blk_frozen zz.out 0; have q1 := blk_frozen zz.out 1; have q2 := blk_frozen zz.out 2; have glt := blk_lt zz.out)
                refine bodyPost_ret (v := .tuple #[.agg #[.int .i64 ea, .int .i64 k1, .string ex], .bool false]) (by simp [results, Tryz.results38, go_sem, r0, r1, r2]) rfl ⟨?_, ?_⟩
                · rw [HLL.out]
                  exact ⟨⟨_, _, _, rfl⟩, k2, true, (by rw [show ((k1 + i : Nat) : Int) = (k1 : Int) + i from by omega]; (have HS := HS2; (repeat (first | with_reducible exact HS.out | with_reducible apply ScSt.drewN | with_reducible apply ScSt.drew | with_reducible apply ScSt.alloc | with_reducible apply ScSt.setLine | ((with_reducible apply ScSt.setAtI); (case e => first | omega | rfl)) | with_reducible apply ScSt.setBad | with_reducible refine ScSt.other ?_ (by first | omega | (simp; done) | (simp; omega)) _))))⟩
                · have HCH := Lib.hid (((hch.out.trans HC1.out).drewN _ |>.set _ _ |>.set _ _).trans HC2.out)
                  (repeat (first | with_reducible exact Ch.refl _ _ | with_reducible exact HCH.out | with_reducible apply Ch.drewN | with_reducible apply Ch.drew | with_reducible apply Ch.alloc | with_reducible apply Ch.set | with_reducible refine Ch.setNew ?_ (by first | omega | (simp; done) | (simp; omega)) _))

end Go.Proofs.YtpnfcgmogjpliaaGreatDoor
