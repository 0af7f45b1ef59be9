/- The scanner's method token at words and numbers. The contracts hold of every source of at most 20,000 bytes, where the library's tables lie as their texts lay them. -/
import Derived.Test.YtpnfcgmogjpliaaGreatDoorSc6
namespace Go.Proofs.YtpnfcgmogjpliaaGreatDoor
open Go.RowKit
attribute [local go_sem ↓] Go.wp_at_zero Go.wp_at_succ

/-- Where the bytes of a kind that stand here end. -/
def runTo (p : UInt8 → Bool) (s : ByteArray) (k : Nat) : Nat := k + (((bs s).drop k).takeWhile p).length
theorem runTo_yes {p : UInt8 → Bool} {s : ByteArray} {k : Nat} {b : UInt8} {t : List UInt8} (hd : (bs s).drop k = b :: t) (hb : p b = true) : runTo p s (k + 1) = runTo p s k ∧ k < s.size := by
  obtain ⟨h1, _, h2⟩ := drop_lt hd
  refine ⟨?_, h1⟩
  unfold runTo
  rw [h2, hd]
  simp only [List.takeWhile_cons, hb, if_true, List.length_cons]
  omega
theorem runTo_no {p : UInt8 → Bool} {s : ByteArray} {k : Nat} (h : ∀ b t, (bs s).drop k = b :: t → p b = false) : runTo p s k = k := by
  unfold runTo
  cases hd : (bs s).drop k with
  | nil => rfl
  | cons b t => simp [h b t hd]
theorem runTo_le {p : UInt8 → Bool} {s : ByteArray} {k : Nat} (h : k ≤ s.size) : k ≤ runTo p s k ∧ runTo p s k ≤ s.size := by
  have := LexM.tw_le p ((bs s).drop k)
  rw [List.length_drop, bs_length] at this
  unfold runTo
  omega
theorem run_extract (p : UInt8 → Bool) (s : ByteArray) (k : Nat) : bs (s.extract k (runTo p s k)) = ((bs s).drop k).takeWhile p := by
  refine (Lib.extract_data s k _).trans ?_
  unfold runTo
  rw [Nat.add_sub_cancel_left]
  exact (List.prefix_iff_eq_take.1 (List.takeWhile_prefix _)).symm
theorem takeWhile_all (p : UInt8 → Bool) : ∀ (l : List UInt8), ∀ b ∈ l.takeWhile p, p b = true
  | [], b, h => by cases h
  | a :: l, b, h => by
    by_cases ha : p a = true
    · simp only [List.takeWhile_cons, ha, if_true, List.mem_cons] at h
      rcases h with rfl | h
      · exact ha
      · exact takeWhile_all p l b h
    · simp [ha] at h
theorem wordy_low (b : UInt8) (h : LexM.isWordy b = true) : b.toNat < 128 := by
  have := all_bytes (fun b => !LexM.isWordy b || decide (b.toNat < 128)) (by decide +kernel) b
  rw [h] at this
  simpa using this
theorem isAt_letter {s : ByteArray} {k : Nat} {b : UInt8} {t : List UInt8} (hd : (bs s).drop k = b :: t) : isAt s k 1 = LexM.isLetter b := by rw [isAt_drop hd, class_letter]
theorem isAt_digit {s : ByteArray} {k : Nat} {b : UInt8} {t : List UInt8} (hd : (bs s).drop k = b :: t) : isAt s k 2 = LexM.isDigit b := by rw [isAt_drop hd, class_digit]

theorem is1 (w : World) (g : Nat) (s : ByteArray) (k kk : Nat) (ln : Bool) (bad : Int) (r : Bool) (h : ScSt w g s kk ln bad) (hs : s.size ≤ 20000) (hr : isAt s k 1 = r) :
    Calls Tryz.prog 77 #[.pointer (some ⟨g, 0, none⟩), .int .i64 k, .int .u8 1] w fun e w' => e = .returned (.bool r) ∧ ∃ n, w' = w.drewN n := is_calls w g s k 1 kk ln bad r h hs hr
theorem is2 (w : World) (g : Nat) (s : ByteArray) (k kk : Nat) (ln : Bool) (bad : Int) (r : Bool) (h : ScSt w g s kk ln bad) (hs : s.size ≤ 20000) (hr : isAt s k 2 = r) :
    Calls Tryz.prog 77 #[.pointer (some ⟨g, 0, none⟩), .int .i64 k, .int .u8 2] w fun e w' => e = .returned (.bool r) ∧ ∃ n, w' = w.drewN n := is_calls w g s k 2 kk ln bad r h hs hr

set_option maxHeartbeats 2000000 in
set_option maxRecDepth 100000 in
theorem token_word (w0 w : World) (g : Nat) (s : ByteArray) (k : Nat) (ln : Bool) (bad : Int) (r : Bool) (h : ScSt w g s k ln bad) (hs : s.size ≤ 20000) (hT : Tabs w0 w) (hg : w0.heap.size ≤ g) (hl : isAt s k 1 = true) (hr : decide (runTo LexM.isWordy s k - k ≤ 24) = r) :
    Calls Tryz.prog 62 #[.pointer (some ⟨g, 0, none⟩)] w fun e w' => e = .returned (.tuple #[.agg #[.int .i64 0, .int .i64 k, .string ⟨(LexM.caps (((bs s).drop k).takeWhile LexM.isWordy)).toArray⟩], .bool r]) ∧ ScSt w' g s (runTo LexM.isWordy s k) ln (orBad r bad k) ∧ Ch g w w' := by
  have HS := Lib.hid h
  have hz := blk_lt h
  have HT := Lib.hid hT
  have hk : k ≤ s.size := by
    rcases Nat.lt_or_ge s.size k with h' | h'
    · rw [isAt_ge (by omega)] at hl; cases hl
    · exact h'
  obtain ⟨E1, E2⟩ := runTo_le (p := LexM.isWordy) hk
  have hxb := run_extract LexM.isWordy s k
  obtain ⟨E, hE⟩ : ∃ E, runTo LexM.isWordy s k = E := ⟨_, rfl⟩
  rw [hE] at E1 E2 hr hxb ⊢
  have HE := Lib.hid hE
  have HL := Lib.hid hl
  obtain ⟨c0, c1, c258, c259, c260⟩ := sc_cells h
  obtain ⟨x, hx⟩ : ∃ x, s.extract k E = x := ⟨_, rfl⟩
  rw [hx] at hxb
  have hxs : x.size = E - k := by rw [← hx]; simp; omega
  obtain ⟨y, hy⟩ : ∃ y : ByteArray, (⟨(LexM.caps (((bs s).drop k).takeWhile LexM.isWordy)).toArray⟩ : ByteArray) = y := ⟨_, rfl⟩
  rw [hy]
  have hys : y.size = E - k := by
    rw [← hy]
    show (LexM.caps _).toArray.size = _
    rw [List.size_toArray, LexM.caps_length, ← hxb, bs_length, hxs]
  have hyu : (⟨(Lib.toUpperD (bs x)).toArray⟩ : ByteArray) = y := by
    rw [hxb, Lib.toUpperD_ascii _ (fun b hb => wordy_low b (takeWhile_all _ _ b hb)), upperA_caps, hy]
  have hsl := slice_run s k E k E rfl rfl E1 E2
  rw [hx] at hsl
  have hup : ∀ wx, Ch g w wx → wx.cell? ⟨g, 0, none⟩ = some (.string s) → wx.cell? ⟨g, 1, none⟩ = some (.int .i64 E) → Calls Tryz.prog 80 #[.string x] wx fun e w' => e = .returned (.string y) ∧ Below wx.heap.size wx w' ∧ w'.cell? ⟨g, 0, none⟩ = some (.string s) ∧ w'.cell? ⟨g, 1, none⟩ = some (.int .i64 E) := fun wx hc k0 k1 => by
    refine (upper_calls wx x (by omega) (HT.out.ch hg hc)).mono fun e w' he => ⟨?_, he.2, ?_, ?_⟩
    · rw [he.1, hyu]
    · exact (he.2.cell (World.block_lt_of_cell? wx _ k0)).trans k0
    · exact (he.2.cell (World.block_lt_of_cell? wx _ k1)).trans k1
  have HUP := Lib.hid hup
  have hr' : decide ((y.size : Int) ≤ 24) = r := by rw [← hr, hys, decide_eq_decide]; omega
  have HR := Lib.hid hr'
  clear h hT hl hE hxb hx hxs hy hyu hup hr hr' hys
  go_enter Tryz.func62, Tryz.ntmps62
  go_wp2_with (go_at_call 77; ((with_reducible refine (is1 _ g s k k ln bad true ((HS.out.alloc _).alloc _) hs HL.out).mono ?_); rintro e w' ⟨rfl, n, rfl⟩))
  go_loopg [] (E - k) (fun q wr => ∃ k', Aside (runTo LexM.isWordy s k' = E) ∧ k' ≤ E ∧ q = E - k' ∧ Aside (ScSt wr g s k' ln bad) ∧ Aside (Ch g w wr)
    ∧ Aside (wr.heap[w.heap.size]? = some (.cells #[.int .i64 0, .int .i64 0, .string ⟨#[]⟩] 49 (0, 0))) ∧ Aside (wr.heap[w.heap.size + 1]? = some (.cells #[.int .i64 0, .int .i64 k, .string ⟨#[]⟩] 49 (0, 0))))
  case atStart =>
    refine ⟨k, HE.out, E1, rfl, ?_, ?_, ?_, ?_⟩
    · show ScSt _ _ _ _ _ _
      (repeat (first | with_reducible exact HS.out | with_reducible apply ScSt.drewN | with_reducible apply ScSt.drew | with_reducible apply ScSt.alloc | with_reducible apply ScSt.setLine | ((with_reducible apply ScSt.setAtI); (case e => first | omega | rfl)) | with_reducible apply ScSt.setBad | with_reducible refine ScSt.other ?_ (by first | omega | (simp; done) | (simp; omega)) _))
    · show Ch _ _ _
      (repeat (first | with_reducible exact Ch.refl _ _ | with_reducible exact HCH.out | with_reducible apply Ch.drewN | with_reducible apply Ch.drew | with_reducible apply Ch.alloc | with_reducible apply Ch.set | with_reducible refine Ch.setNew ?_ (by first | omega | (simp; done) | (simp; omega)) _))
    · exact blk_alloc (blk_new w _ _) _
    · exact new2 w _ _ _
  case round =>
    obtain ⟨k', he, hle, rfl, hst, hch, ha0, ha1⟩ := hrel
    clear c0 c1 c258 c259 c260
    obtain ⟨c0, c1, c258, c259, c260⟩ := sc_cells hst.out
    have f1 := sc_frozen hst.out 1
    cases hi : isAt s k' 1 with
    | true =>
      have hstep : runTo LexM.isWordy s (k' + 1) = runTo LexM.isWordy s k' ∧ k' < s.size := by
        cases hd : (bs s).drop k' with
        | nil => rw [isAt_end hd] at hi; cases hi
        | cons b t =>
          rw [isAt_letter hd] at hi
          exact runTo_yes hd (by simp [LexM.isWordy, hi])
      have hle' : k' + 1 ≤ E := by
        have := (runTo_le (p := LexM.isWordy) (s := s) (k := k' + 1) hstep.2).1
        rw [hstep.1, he.out] at this
        exact this
      have H1 := Lib.hid (hstep.1.trans he.out)
      have HI := Lib.hid hi
      clear hi hstep
      go_wp2_with (go_at_call 77; ((with_reducible refine (is1 _ g s k' k' ln bad true hst.out hs HI.out).mono ?_); rintro e w' ⟨rfl, n, rfl⟩))
      go_roundg (E - (k' + 1))
      case measure => omega
      case rel => exact ⟨k' + 1, H1.out, hle', rfl, (hst.out.drewN n).setAt (k' + 1), (hch.out.drewN n).set _ _, blk_far ha0.out (by simp; omega) _, blk_far ha1.out (by simp; omega) _⟩
    | false =>
      cases hj : isAt s k' 2 with
      | true =>
        have hstep : runTo LexM.isWordy s (k' + 1) = runTo LexM.isWordy s k' ∧ k' < s.size := by
          cases hd : (bs s).drop k' with
          | nil => rw [isAt_end hd] at hj; cases hj
          | cons b t =>
            rw [isAt_digit hd] at hj
            exact runTo_yes hd (by simp [LexM.isWordy, hj])
        have hle' : k' + 1 ≤ E := by
          have := (runTo_le (p := LexM.isWordy) (s := s) (k := k' + 1) hstep.2).1
          rw [hstep.1, he.out] at this
          exact this
        have H1 := Lib.hid (hstep.1.trans he.out)
        have HI := Lib.hid hi
        have HJ := Lib.hid hj
        clear hi hj hstep
        go_wp2_with (first | (go_at_call 77; ((with_reducible refine (is1 _ g s k' k' ln bad false hst.out hs HI.out).mono ?_); rintro e w' ⟨rfl, n, rfl⟩)) | (go_at_call 77; ((with_reducible refine (is2 _ g s k' k' ln bad true (hst.out.drewN _) hs HJ.out).mono ?_); rintro e w' ⟨rfl, m, rfl⟩)))
        go_roundg (E - (k' + 1))
        case measure => omega
        case rel => exact ⟨k' + 1, H1.out, hle', rfl, (hst.out.drewN (n + m)).setAt (k' + 1), (hch.out.drewN (n + m)).set _ _, blk_far ha0.out (by simp; omega) _, blk_far ha1.out (by simp; omega) _⟩
      | false =>
        have hend : k' = E := by
          rw [← he.out]
          refine (runTo_no fun b t hd => ?_).symm
          rw [isAt_letter hd] at hi
          rw [isAt_digit hd] at hj
          simp [LexM.isWordy, hi, hj]
        obtain rfl : E = k' := hend.symm
        have HI := Lib.hid hi
        have HJ := Lib.hid hj
        clear hi hj hend
        have t0 : wr.cell? ⟨w.heap.size + 1, 0, none⟩ = some (.int .i64 0) := (blk_cell ha1.out 0).trans rfl
        have t1 : wr.cell? ⟨w.heap.size + 1, 1, none⟩ = some (.int .i64 k) := (blk_cell ha1.out 1).trans rfl
        have t2 : wr.cell? ⟨w.heap.size + 1, 2, none⟩ = some (.string ⟨#[]⟩) := (blk_cell ha1.out 2).trans rfl
        have p0 := blk_frozen ha1.out 0
        have p2 := blk_frozen ha1.out 2
        have r0 : wr.cell? ⟨w.heap.size, 0, none⟩ = some (.int .i64 0) := (blk_cell ha0.out 0).trans rfl
        have r1 : wr.cell? ⟨w.heap.size, 1, none⟩ = some (.int .i64 0) := (blk_cell ha0.out 1).trans rfl
        have r2 : wr.cell? ⟨w.heap.size, 2, none⟩ = some (.string ⟨#[]⟩) := (blk_cell ha0.out 2).trans rfl
        have q0 := blk_frozen ha0.out 0
        have q1 := blk_frozen ha0.out 1
        have q2 := blk_frozen ha0.out 2
        go_wp2_with (first | (go_at_call 77; ((with_reducible refine (is1 _ g s E E ln bad false hst.out hs HI.out).mono ?_); rintro e w' ⟨rfl, n, rfl⟩)) | (go_at_call 77; ((with_reducible refine (is2 _ g s E E ln bad false (hst.out.drewN _) hs HJ.out).mono ?_); rintro e w' ⟨rfl, m, rfl⟩)))
        have g1 := blk_lt ha1.out
        have g0 := blk_lt ha0.out
        have n0 : w.heap.size ≠ g := by omega
        have n1 : w.heap.size + 1 ≠ g := by omega
        go_region_held3 (fun w' => w'.cell? ⟨g, 0, none⟩ = some (.string s) ∧ w'.cell? ⟨g, 1, none⟩ = some (.int .i64 E)) (go_keep) (first | (go_at_call 80; refine (HUP.out _ (hch.out.drewN _) c0 c1).mono ?_; rintro e w1 ⟨rfl, hb1, k0, k1⟩; have z0 := Lib.hid ((hb1.block _ g0).trans ha0.out); have z1 := Lib.hid ((hb1.block _ g1).trans ha1.out); have x0 : w1.cell? ⟨w.heap.size + 1, 0, none⟩ = some (.int .i64 0) := (blk_cell z1.out 0).trans rfl; have x1 : w1.cell? ⟨w.heap.size + 1, 1, none⟩ = some (.int .i64 k) := (blk_cell z1.out 1).trans rfl; have x2 : w1.cell? ⟨w.heap.size + 1, 2, none⟩ = some (.string ⟨#[]⟩) := (blk_cell z1.out 2).trans rfl; have y0 := blk_frozen z1.out 0; have y2 := blk_frozen z1.out 2))
        go_wp2
        have hst6 : ScSt ((w1.setCell ⟨w.heap.size + 1, 0, none⟩ (.int .i64 0)).setCell ⟨w.heap.size + 1, 2, none⟩ (.string y)) g s E ln bad := (((hst.out.drewN _).below hb1).other (by simp; omega) _).other (by simp; omega) _
        have hch6 : Ch g w ((w1.setCell ⟨w.heap.size + 1, 0, none⟩ (.int .i64 0)).setCell ⟨w.heap.size + 1, 2, none⟩ (.string y)) := (((hch.out.drewN _).belowN hb1).setNew (by simp) _).setNew (by simp) _
        have ha6 : ((w1.setCell ⟨w.heap.size + 1, 0, none⟩ (.int .i64 0)).setCell ⟨w.heap.size + 1, 2, none⟩ (.string y)).heap[w.heap.size + 1]? = some (.cells #[.int .i64 0, .int .i64 k, .string y] 49 (0, 0)) := blk_set (blk_set z1.out 0 _) 2 _
        have hr6 : ((w1.setCell ⟨w.heap.size + 1, 0, none⟩ (.int .i64 0)).setCell ⟨w.heap.size + 1, 2, none⟩ (.string y)).heap[w.heap.size]? = some (.cells #[.int .i64 0, .int .i64 0, .string ⟨#[]⟩] 49 (0, 0)) := blk_far (blk_far z0.out (by simp) _) (by simp) _
        obtain ⟨W6, hW6⟩ : ∃ W, ((w1.setCell ⟨w.heap.size + 1, 0, none⟩ (.int .i64 0)).setCell ⟨w.heap.size + 1, 2, none⟩ (.string y)) = W := ⟨_, rfl⟩
        rw [hW6] at hst6 hch6 ha6 hr6 ⊢
        have HS6 := Lib.hid hst6
        have HCH6 := Lib.hid hch6
        have HA6 := Lib.hid ha6
        have HR6 := Lib.hid hr6
        clear hW6 hst6 hch6 ha6 hr6 x0 x1 x2 y0 y2 k0 k1 t0 t1 t2 p0 p2 r0 r1 r2 q0 q1 q2 c0 c1 c258 c259 c260 f1
        have g0' := blk_lt HR6.out
        have g1' := blk_lt HA6.out
        have t0 : W6.cell? ⟨w.heap.size + 1, 0, none⟩ = some (.int .i64 0) := (blk_cell HA6.out 0).trans rfl
        have t1 : W6.cell? ⟨w.heap.size + 1, 1, none⟩ = some (.int .i64 k) := (blk_cell HA6.out 1).trans rfl
        have t2 : W6.cell? ⟨w.heap.size + 1, 2, none⟩ = some (.string y) := (blk_cell HA6.out 2).trans rfl
        go_region_held3 (fun w' => w'.cell? ⟨w.heap.size + 1, 0, none⟩ = some (.int .i64 0) ∧ w'.cell? ⟨w.heap.size + 1, 1, none⟩ = some (.int .i64 k) ∧ w'.cell? ⟨w.heap.size + 1, 2, none⟩ = some (.string y)) (go_keep) (first | (go_at_call 81; refine (short_calls _ g s E ln bad 0 k 24 y r HS6.out.drew HR.out).mono ?_; rintro e w2 ⟨rfl, hs2, hc2⟩; have HS2 := Lib.hid hs2; have HC2 := Lib.hid hc2; clear hs2 hc2; have zz0 := Lib.hid (blk_ch HC2.out HR6.out n0); have zz1 := Lib.hid (blk_ch HC2.out HA6.out n1); have x0 : w2.cell? ⟨w.heap.size + 1, 0, none⟩ = some (.int .i64 0) := (blk_cell zz1.out 0).trans rfl; have x1 : w2.cell? ⟨w.heap.size + 1, 1, none⟩ = some (.int .i64 k) := (blk_cell zz1.out 1).trans rfl; have x2 : w2.cell? ⟨w.heap.size + 1, 2, none⟩ = some (.string y) := (blk_cell zz1.out 2).trans rfl; have r0 : w2.cell? ⟨w.heap.size, 0, none⟩ = some (.int .i64 0) := (blk_cell zz0.out 0).trans rfl; have r1 : w2.cell? ⟨w.heap.size, 1, none⟩ = some (.int .i64 0) := (blk_cell zz0.out 1).trans rfl; have r2 : w2.cell? ⟨w.heap.size, 2, none⟩ = some (.string ⟨#[]⟩) := (blk_cell zz0.out 2).trans rfl; have q0 := blk_frozen zz0.out 0; have q1 := blk_frozen zz0.out 1; have q2 := blk_frozen zz0.out 2))
        go_wp2
        refine bodyPost_ret (v := .tuple #[.agg #[.int .i64 0, .int .i64 k, .string y], .bool r]) (by simp [results, Tryz.results62, go_sem, r0, r1, r2]) rfl ⟨rfl, ?_, ?_⟩
        · exact ((HS2.out.other (by simp; omega) _).other (by simp; omega) _).other (by simp; omega) _
        · have HCH := Lib.hid (HCH6.out.drew.trans HC2.out)
          (repeat (first | with_reducible exact Ch.refl _ _ | with_reducible exact HCH.out | with_reducible apply Ch.drewN | with_reducible apply Ch.drew | with_reducible apply Ch.alloc | with_reducible apply Ch.set | with_reducible refine Ch.setNew ?_ (by first | omega | (simp; done) | (simp; omega)) _))

end Go.Proofs.YtpnfcgmogjpliaaGreatDoor
