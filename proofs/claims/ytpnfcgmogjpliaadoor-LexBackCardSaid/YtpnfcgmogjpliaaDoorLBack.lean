/- For every source a text that is made of its tokens has the same tokens, or the source is longer than a third of the limit, and the law's own example holds; the argument reads as it did. The library's tables lie as their texts lay them (the card ties that). -/
import Derived.Test.YtpnfcgmogjpliaaDoorKnown
namespace Go.Proofs.YtpnfcgmogjpliaaDoor
open Go.RowKit
attribute [local go_sem ↓] Go.wp_at_zero Go.wp_at_succ

theorem joinRes_ok {ks : List LexM.Kt} {ts : List LexM.Tk} {m : Int} (h : LexM.lexRes (LexM.joinM ks false) = (ts, m, 0)) (hk : LexM.kts ts = ks) : LexM.joinRes ks = (LexM.joinM ks false, 0) := by
  unfold LexM.joinRes
  rw [h]
  simp only
  rw [if_neg (by simp), if_pos hk]
theorem joinRes_large {ks : List LexM.Kt} (h : LexM.lexRes (LexM.joinM ks false) = ([], 0, 3)) : LexM.joinRes ks = ([], 3) := by
  unfold LexM.joinRes
  rw [h]
  rfl
theorem joinM_small {s : List UInt8} {ts : List LexM.Tk} {m : Int} (h : LexM.lexRes s = (ts, m, 0)) : (LexM.joinM (LexM.kts ts) false).length ≤ 100000000 := by
  have h1 := h
  unfold LexM.lexRes at h
  split at h
  · simp at h
  · rename_i h4
    split at h
    · simp at h
    · rename_i hnone
      split at h
      · simp at h
      · simp only [Prod.mk.injEq] at h
        obtain ⟨h1, _, _⟩ := h
        have hl : LexM.lexF (s.length + 1) s 0 false = (ts, none) := by
          have : LexM.lex s 0 false = (ts, none) := Prod.ext h1 hnone
          exact this
        obtain ⟨_, g2⟩ := LexM.lexF_good _ s 0 false ts (by omega) hl
        simp at g2
        omega

set_option maxHeartbeats 1000000 in
set_option maxRecDepth 100000 in
theorem lexBack_calls (w : World) (s : ByteArray) (_hs : s.size ≤ 140737488355328) (hT : Tabs w w) : Calls Tryd.prog 3 #[.string s] w fun e w' => e = .returned (.bool true) ∧ Below w.heap.size w w' := by
  have hk := fun wx (hb : Below w.heap.size w wx) => known_calls w wx (hT.belowN hb)
  have HK := Lib.hid hk
  clear hk
  by_cases hs : 20000 < s.size
  · have q0 : decide ((20000 : Int) < (s.size : Int)) = true := by simp; omega
    clear hs hT
    go_enter Tryd.func3, Tryd.ntmps3
    go_wp2_with (go_at_call 6; refine (HK.out _ (Below.refl _ _)).mono ?_; rintro e w1 ⟨rfl, hb1⟩; have HB1 := Lib.hid hb1; clear hb1)
    go_ret
    exact ⟨rfl, HB1.out⟩
  · have q0 : decide ((20000 : Int) < (s.size : Int)) = false := by simp; omega
    obtain ⟨ts, m, er, hr⟩ : ∃ ts m er, LexM.lexRes (bs s) = (ts, m, er) := ⟨_, _, _, rfl⟩
    have hlx := lexT_calls w w s (by omega) hT ts m er hr
    have HLX := Lib.hid hlx
    clear hlx
    by_cases h0 : er = 0
    · subst h0
      have hlen := lexRes_len hr
      have hjs := joinM_small hr
      rcases LexM.back hr with ⟨ts', m', hr', hk'⟩ | ⟨hr', h13⟩
      · have hj : ∀ wx A ca, Below w.heap.size w wx → TokS wx A (ts.map tvOf) → Calls Tryd.prog 8 #[.slice A ts.length ca] wx fun e w' => e = .returned (.tuple #[.string ⟨(LexM.joinM (LexM.kts ts) false).toArray⟩, .int .i64 0]) ∧ Below wx.heap.size wx w' := fun wx A ca hb ht =>
          join_calls w wx A (ts.map tvOf) ts.length ca ht (by simp) (by omega) (hT.belowN hb) (by rw [tvOf_kts]; exact hjs) _ _ (by rw [tvOf_kts]; exact joinRes_ok hr' hk')
        have hl2 : ∀ wx, Below w.heap.size w wx → Calls Tryd.prog 7 #[.string ⟨(LexM.joinM (LexM.kts ts) false).toArray⟩] wx fun e w' => ∃ A cap, e = .returned (.tuple #[.slice A ts'.length cap, .int .i64 m', .int .i64 0]) ∧ TokS w' A (ts'.map tvOf) ∧ Below wx.heap.size wx w' := fun wx hb =>
          lexT_calls w wx _ (by simpa [ByteArray.size] using hjs) (hT.belowN hb) ts' m' 0 (by simpa [bs] using hr')
        have hsm : ∀ wx A B ca cb, TokS wx A (ts.map tvOf) → TokS wx B (ts'.map tvOf) → Calls Tryd.prog 9 #[.slice A ts.length ca, .slice B ts'.length cb] wx fun e w' => e = .returned (.bool true) ∧ Below wx.heap.size wx w' := fun wx A B ca cb hA hB =>
          same_calls wx A B _ _ _ _ ca cb hA hB (by simp) (by simp) (by omega) true (by rw [sameTv_iff, tvOf_kts, tvOf_kts, hk'])
        obtain ⟨X, hX⟩ : ∃ X : ByteArray, (⟨(LexM.joinM (LexM.kts ts) false).toArray⟩ : ByteArray) = X := ⟨_, rfl⟩
        rw [hX] at hj hl2
        have HJ := Lib.hid hj
        have HL2 := Lib.hid hl2
        have HSM := Lib.hid hsm
        clear hj hl2 hsm hX hr' hk' hr hT hjs hlen hs
        go_enter Tryd.func3, Tryd.ntmps3
        go_wp2_with fail
        refine HLX.out.mono ?_
        rintro e w1 ⟨A, ca, rfl, ht1, hb1⟩
        have HT1 := Lib.hid ht1
        have HB1 := Lib.hid hb1
        clear ht1 hb1
        go_wp2_with fail
        refine (HJ.out _ _ _ HB1.out HT1.out).mono ?_
        rintro e w2 ⟨rfl, hb2⟩
        have HT2 := Lib.hid (HT1.out.below hb2)
        have HB2 := Lib.hid (HB1.out.trans (hb2.mono HB1.out.size))
        clear hb2
        go_wp2_with fail
        refine (HL2.out _ HB2.out).mono ?_
        rintro e w3 ⟨B, cb, rfl, ht3, hb3⟩
        have HT3 := Lib.hid ht3
        have HT4 := Lib.hid (HT2.out.below hb3)
        have HB3 := Lib.hid (HB2.out.trans (hb3.mono HB2.out.size))
        clear ht3 hb3
        go_wp2_with fail
        refine (HSM.out _ _ _ _ _ HT4.out HT3.out).mono ?_
        rintro e w4 ⟨rfl, hb4⟩
        have HB4 := Lib.hid (HB3.out.trans (hb4.mono HB3.out.size))
        clear hb4
        go_wp2_with fail
        refine (HK.out _ HB4.out).mono ?_
        rintro e w5 ⟨rfl, hb5⟩
        have HB5 := Lib.hid (HB4.out.trans (hb5.mono HB4.out.size))
        clear hb5
        go_wp2
        go_ret
        exact ⟨rfl, HB5.out⟩
      · have hj : ∀ wx A ca, Below w.heap.size w wx → TokS wx A (ts.map tvOf) → Calls Tryd.prog 8 #[.slice A ts.length ca] wx fun e w' => e = .returned (.tuple #[.string ⟨#[]⟩, .int .i64 3]) ∧ Below wx.heap.size wx w' := fun wx A ca hb ht =>
          join_calls w wx A (ts.map tvOf) ts.length ca ht (by simp) (by omega) (hT.belowN hb) (by rw [tvOf_kts]; exact hjs) _ _ (by rw [tvOf_kts]; exact joinRes_large hr')
        have q1 : decide ((1333 : Int) < (s.size : Int)) = true := by
          rw [bs_length] at h13
          simp
          omega
        have HJ := Lib.hid hj
        clear hj hr' hr hT hjs hlen hs h13
        go_enter Tryd.func3, Tryd.ntmps3
        go_wp2_with fail
        refine HLX.out.mono ?_
        rintro e w1 ⟨A, ca, rfl, ht1, hb1⟩
        have HT1 := Lib.hid ht1
        have HB1 := Lib.hid hb1
        clear ht1 hb1
        go_wp2_with fail
        refine (HJ.out _ _ _ HB1.out HT1.out).mono ?_
        rintro e w2 ⟨rfl, hb2⟩
        have HB2 := Lib.hid (HB1.out.trans (hb2.mono HB1.out.size))
        clear hb2
        go_wp2_with fail
        refine (HK.out _ HB2.out).mono ?_
        rintro e w5 ⟨rfl, hb5⟩
        have HB5 := Lib.hid (HB2.out.trans (hb5.mono HB2.out.size))
        clear hb5
        go_wp2
        go_ret
        exact ⟨rfl, HB5.out⟩
    · have q1 : (er != 0) = true := by simpa [bne] using h0
      clear hr hT h0 hs
      go_enter Tryd.func3, Tryd.ntmps3
      go_wp2_with fail
      refine HLX.out.mono ?_
      rintro e w1 ⟨A, ca, rfl, ht1, hb1⟩
      have HB1 := Lib.hid hb1
      clear ht1 hb1
      go_wp2_with fail
      refine (HK.out _ HB1.out).mono ?_
      rintro e w2 ⟨rfl, hb2⟩
      have HB2 := Lib.hid (HB1.out.trans (hb2.mono HB1.out.size))
      clear hb2
      go_wp2
      go_ret
      exact ⟨rfl, HB2.out⟩

end Go.Proofs.YtpnfcgmogjpliaaDoor
