/- The scanner's method token at numbers. The contract holds of every source of at most 20,000 bytes, where the library's tables lie as their texts lay them. -/
import Derived.Test.YtpnfcgmogjpliaaGreatDoorSc7
namespace Go.Proofs.YtpnfcgmogjpliaaGreatDoor
open Go.RowKit
attribute [local go_sem ↓] Go.wp_at_zero Go.wp_at_succ

set_option maxHeartbeats 2000000 in
set_option maxRecDepth 100000 in
theorem token_num (w0 w : World) (g : Nat) (s : ByteArray) (k : Nat) (ln : Bool) (bad : Int) (r : Bool) (h : ScSt w g s k ln bad) (hs : s.size ≤ 20000) (hT : Tabs w0 w) (_hg : w0.heap.size ≤ g) (hl1 : isAt s k 1 = false) (hl : isAt s k 2 = true) (hr : decide (runTo LexM.isDigit s k - k ≤ 15) = r) :
    Calls Tryz.prog 62 #[.pointer (some ⟨g, 0, none⟩)] w fun e w' => e = .returned (.tuple #[.agg #[.int .i64 1, .int .i64 k, .string ⟨(((bs s).drop k).takeWhile LexM.isDigit).toArray⟩], .bool r]) ∧ ScSt w' g s (runTo LexM.isDigit s k) ln (orBad r bad k) ∧ Ch g w w' := by
  have HS := Lib.hid h
  have hz := blk_lt h
  have HT := Lib.hid hT
  have hk : k ≤ s.size := by
    rcases Nat.lt_or_ge s.size k with h' | h'
    · rw [isAt_ge (by omega)] at hl; cases hl
    · exact h'
  obtain ⟨E1, E2⟩ := runTo_le (p := LexM.isDigit) hk
  have hxb := run_extract LexM.isDigit s k
  obtain ⟨E, hE⟩ : ∃ E, runTo LexM.isDigit s k = E := ⟨_, rfl⟩
  rw [hE] at E1 E2 hr hxb ⊢
  have HE := Lib.hid hE
  have HL := Lib.hid hl
  obtain ⟨c0, c1, c258, c259, c260⟩ := sc_cells h
  obtain ⟨x, hx⟩ : ∃ x, s.extract k E = x := ⟨_, rfl⟩
  rw [hx] at hxb
  have hxs : x.size = E - k := by rw [← hx]; simp; omega
  have hy : (⟨(((bs s).drop k).takeWhile LexM.isDigit).toArray⟩ : ByteArray) = x := by
    apply ByteArray.ext
    apply Array.toList_inj.1
    exact hxb.symm
  rw [hy]
  have hsl := slice_run s k E k E rfl rfl E1 E2
  rw [hx] at hsl
  have hr' : decide ((x.size : Int) ≤ 15) = r := by rw [← hr, hxs, decide_eq_decide]; omega
  have HR := Lib.hid hr'
  have HL1 := Lib.hid hl1
  clear h hT hl hl1 hE hxb hx hxs hy hr hr'
  go_enter Tryz.func62, Tryz.ntmps62
  go_wp2_with (first | (go_at_call 77; ((with_reducible refine (is1 _ g s k k ln bad false ((HS.out.alloc _).alloc _) hs HL1.out).mono ?_); rintro e w' ⟨rfl, n, rfl⟩)) | (go_at_call 77; ((with_reducible refine (is2 _ g s k k ln bad true (((HS.out.alloc _).alloc _).drewN _) hs HL.out).mono ?_); rintro e w' ⟨rfl, n2, rfl⟩)))
  go_loopg [] (E - k) (fun q wr => ∃ k', Aside (runTo LexM.isDigit s k' = E) ∧ k' ≤ E ∧ q = E - k' ∧ Aside (ScSt wr g s k' ln bad) ∧ Aside (Ch g w wr)
    ∧ Aside (wr.heap[w.heap.size]? = some (.cells #[.int .i64 0, .int .i64 0, .string ⟨#[]⟩] 49 (0, 0))) ∧ Aside (wr.heap[w.heap.size + 1]? = some (.cells #[.int .i64 0, .int .i64 k, .string ⟨#[]⟩] 49 (0, 0))))
  case atStart =>
    refine ⟨k, HE.out, E1, rfl, ?_, ?_, ?_, ?_⟩
    · show ScSt _ _ _ _ _ _
      (repeat (first | with_reducible exact HS.out | with_reducible apply ScSt.drewN | with_reducible apply ScSt.drew | with_reducible apply ScSt.alloc | with_reducible apply ScSt.setLine | ((with_reducible apply ScSt.setAtI); (case e => first | omega | rfl)) | with_reducible apply ScSt.setBad | with_reducible refine ScSt.other ?_ (by first | omega | (simp; done) | (simp; omega)) _))
    · show Ch _ _ _
      (repeat (first | with_reducible exact Ch.refl _ _ | with_reducible exact HCH.out | with_reducible apply Ch.drewN | with_reducible apply Ch.drew | with_reducible apply Ch.alloc | with_reducible apply Ch.set | with_reducible refine Ch.setNew ?_ (by first | omega | (simp; done) | (simp; omega)) _))
    · exact blk_alloc (blk_new w _ _) _
    · exact new2 w _ _ _
  case round =>
    obtain ⟨k', he, hle, rfl, hst, hch, ha0, ha1⟩ := hrel
    clear c0 c1 c258 c259 c260
    obtain ⟨c0, c1, c258, c259, c260⟩ := sc_cells hst.out
    have f1 := sc_frozen hst.out 1
    cases hj : isAt s k' 2 with
    | true =>
      have hstep : runTo LexM.isDigit s (k' + 1) = runTo LexM.isDigit s k' ∧ k' < s.size := by
        cases hd : (bs s).drop k' with
        | nil => rw [isAt_end hd] at hj; cases hj
        | cons b t =>
          rw [isAt_digit hd] at hj
          exact runTo_yes hd hj
      have hle' : k' + 1 ≤ E := by
        have := (runTo_le (p := LexM.isDigit) (s := s) (k := k' + 1) hstep.2).1
        rw [hstep.1, he.out] at this
        exact this
      have H1 := Lib.hid (hstep.1.trans he.out)
      have HJ := Lib.hid hj
      clear hj hstep
      go_wp2_with (go_at_call 77; ((with_reducible refine (is2 _ g s k' k' ln bad true hst.out hs HJ.out).mono ?_); rintro e w' ⟨rfl, n, rfl⟩))
      go_roundg (E - (k' + 1))
      case measure => omega
      case rel => exact ⟨k' + 1, H1.out, hle', rfl, (hst.out.drewN n).setAt (k' + 1), (hch.out.drewN n).set _ _, blk_far ha0.out (by simp; omega) _, blk_far ha1.out (by simp; omega) _⟩
    | false =>
      have hend : k' = E := by
        rw [← he.out]
        refine (runTo_no fun b t hd => ?_).symm
        rw [isAt_digit hd] at hj
        exact hj
      obtain rfl : E = k' := hend.symm
      have HJ := Lib.hid hj
      clear hj hend
      have t0 : wr.cell? ⟨w.heap.size + 1, 0, none⟩ = some (.int .i64 0) := (blk_cell ha1.out 0).trans rfl
      have t1 : wr.cell? ⟨w.heap.size + 1, 1, none⟩ = some (.int .i64 k) := (blk_cell ha1.out 1).trans rfl
      have t2 : wr.cell? ⟨w.heap.size + 1, 2, none⟩ = some (.string ⟨#[]⟩) := (blk_cell ha1.out 2).trans rfl
      have p0 := blk_frozen ha1.out 0
      have p2 := blk_frozen ha1.out 2
      have r0 : wr.cell? ⟨w.heap.size, 0, none⟩ = some (.int .i64 0) := (blk_cell ha0.out 0).trans rfl
      have r1 : wr.cell? ⟨w.heap.size, 1, none⟩ = some (.int .i64 0) := (blk_cell ha0.out 1).trans rfl
      have r2 : wr.cell? ⟨w.heap.size, 2, none⟩ = some (.string ⟨#[]⟩) := (blk_cell ha0.out 2).trans rfl
      have q0 := blk_frozen ha0.out 0
      have q1 := blk_frozen ha0.out 1
      have q2 := blk_frozen ha0.out 2
      go_wp2_with (go_at_call 77; ((with_reducible refine (is2 _ g s E E ln bad false hst.out hs HJ.out).mono ?_); rintro e w' ⟨rfl, n, rfl⟩))
      have g1 := blk_lt ha1.out
      have g0 := blk_lt ha0.out
      have n0 : w.heap.size ≠ g := by omega
      have n1 : w.heap.size + 1 ≠ g := by omega
      go_region_held3 (fun w' => w'.cell? ⟨g, 0, none⟩ = some (.string s) ∧ w'.cell? ⟨g, 1, none⟩ = some (.int .i64 E)) (go_keep) (fail)
      go_wp2
      have hst6 : ScSt (((wr.drewN (n + 1)).setCell ⟨w.heap.size + 1, 0, none⟩ (.int .i64 1)).setCell ⟨w.heap.size + 1, 2, none⟩ (.string x)) g s E ln bad := ((hst.out.drewN _).other (by simp; omega) _).other (by simp; omega) _
      have hch6 : Ch g w (((wr.drewN (n + 1)).setCell ⟨w.heap.size + 1, 0, none⟩ (.int .i64 1)).setCell ⟨w.heap.size + 1, 2, none⟩ (.string x)) := ((hch.out.drewN _).setNew (by simp) _).setNew (by simp) _
      have ha6 : (((wr.drewN (n + 1)).setCell ⟨w.heap.size + 1, 0, none⟩ (.int .i64 1)).setCell ⟨w.heap.size + 1, 2, none⟩ (.string x)).heap[w.heap.size + 1]? = some (.cells #[.int .i64 1, .int .i64 k, .string x] 49 (0, 0)) := blk_set (blk_set ha1.out 0 _) 2 _
      have hr6 : (((wr.drewN (n + 1)).setCell ⟨w.heap.size + 1, 0, none⟩ (.int .i64 1)).setCell ⟨w.heap.size + 1, 2, none⟩ (.string x)).heap[w.heap.size]? = some (.cells #[.int .i64 0, .int .i64 0, .string ⟨#[]⟩] 49 (0, 0)) := blk_far (blk_far ha0.out (by simp) _) (by simp) _
      obtain ⟨W6, hW6⟩ : ∃ W, (((wr.drewN (n + 1)).setCell ⟨w.heap.size + 1, 0, none⟩ (.int .i64 1)).setCell ⟨w.heap.size + 1, 2, none⟩ (.string x)) = W := ⟨_, rfl⟩
      rw [hW6] at hst6 hch6 ha6 hr6 ⊢
      have HS6 := Lib.hid hst6
      have HCH6 := Lib.hid hch6
      have HA6 := Lib.hid ha6
      have HR6 := Lib.hid hr6
      clear hW6 hst6 hch6 ha6 hr6 t0 t1 t2 p0 p2 r0 r1 r2 q0 q1 q2 c0 c1 c258 c259 c260 f1
      have g0' := blk_lt HR6.out
      have g1' := blk_lt HA6.out
      have t0 : W6.cell? ⟨w.heap.size + 1, 0, none⟩ = some (.int .i64 1) := (blk_cell HA6.out 0).trans rfl
      have t1 : W6.cell? ⟨w.heap.size + 1, 1, none⟩ = some (.int .i64 k) := (blk_cell HA6.out 1).trans rfl
      have t2 : W6.cell? ⟨w.heap.size + 1, 2, none⟩ = some (.string x) := (blk_cell HA6.out 2).trans rfl
      go_region_held3 (fun w' => w'.cell? ⟨w.heap.size + 1, 0, none⟩ = some (.int .i64 1) ∧ w'.cell? ⟨w.heap.size + 1, 1, none⟩ = some (.int .i64 k) ∧ w'.cell? ⟨w.heap.size + 1, 2, none⟩ = some (.string x)) (go_keep) (first | (go_at_call 81; refine (short_calls _ g s E ln bad 1 k 15 x r HS6.out.drew HR.out).mono ?_; rintro e w2 ⟨rfl, hs2, hc2⟩; have HS2 := Lib.hid hs2; have HC2 := Lib.hid hc2; clear hs2 hc2; have zz0 := Lib.hid (blk_ch HC2.out HR6.out n0); have zz1 := Lib.hid (blk_ch HC2.out HA6.out n1); have x0 : w2.cell? ⟨w.heap.size + 1, 0, none⟩ = some (.int .i64 1) := (blk_cell zz1.out 0).trans rfl; have x1 : w2.cell? ⟨w.heap.size + 1, 1, none⟩ = some (.int .i64 k) := (blk_cell zz1.out 1).trans rfl; have x2 : w2.cell? ⟨w.heap.size + 1, 2, none⟩ = some (.string x) := (blk_cell zz1.out 2).trans rfl; have r0 : w2.cell? ⟨w.heap.size, 0, none⟩ = some (.int .i64 0) := (blk_cell zz0.out 0).trans rfl; have r1 : w2.cell? ⟨w.heap.size, 1, none⟩ = some (.int .i64 0) := (blk_cell zz0.out 1).trans rfl; have r2 : w2.cell? ⟨w.heap.size, 2, none⟩ = some (.string ⟨#[]⟩) := (blk_cell zz0.out 2).trans rfl; have q0 := blk_frozen zz0.out 0; have q1 := blk_frozen zz0.out 1; have q2 := blk_frozen zz0.out 2))
      go_wp2
      refine bodyPost_ret (v := .tuple #[.agg #[.int .i64 1, .int .i64 k, .string x], .bool r]) (by simp [results, Tryz.results62, go_sem, r0, r1, r2]) rfl ⟨rfl, ?_, ?_⟩
      · exact ((HS2.out.other (by simp; omega) _).other (by simp; omega) _).other (by simp; omega) _
      · have HCH := Lib.hid (HCH6.out.drew.trans HC2.out)
        (repeat (first | with_reducible exact Ch.refl _ _ | with_reducible exact HCH.out | with_reducible apply Ch.drewN | with_reducible apply Ch.drew | with_reducible apply Ch.alloc | with_reducible apply Ch.set | with_reducible refine Ch.setNew ?_ (by first | omega | (simp; done) | (simp; omega)) _))

end Go.Proofs.YtpnfcgmogjpliaaGreatDoor
