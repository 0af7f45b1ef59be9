/- For every source the program's Lex answers what the document's Lex answers, place by place, and the law's own example holds; the argument reads as it did. The library's tables lie as their texts lay them (the card ties that). -/
import Derived.Test.YtpnfcgmogjpliaaGreatDoorRd10
import Derived.Test.YtpnfcgmogjpliaaGreatDoorOver
namespace Go.Proofs.YtpnfcgmogjpliaaGreatDoor
open Go.RowKit
attribute [local go_sem ↓] Go.wp_at_zero Go.wp_at_succ

theorem sameTv_refl (l : List Tv) : sameTv l l = true := (sameTv_iff _ _).2 rfl

set_option maxHeartbeats 1000000 in
set_option maxRecDepth 100000 in
/-- The document's Equal, of two slices that hold the same tokens. -/
theorem requal_calls (w : World) (A B : Option Addr) (l : List Tv) (n ca cb : Nat) (ha : TokS w A l) (hb : TokS w B l) (hn : l.length = n) (hl : n ≤ 9223372036854775807) :
    Calls Tryz.prog 11 #[.slice A n ca, .slice B n cb] w fun e w' => e = .returned (.bool true) ∧ ∃ q, w' = w.drewN q := by
  have hs := fun wx (hx : Below w.heap.size w wx) => rsame_calls wx A B l l n n ca cb (ha.below hx) (hb.below hx) hn hn hl true (sameTv_refl l)
  have HS := Lib.hid hs
  have HA := Lib.hid ha
  have HB := Lib.hid hb
  have HN := Lib.hid hn
  clear ha hb hn hs
  go_enter Tryz.func11, Tryz.ntmps11
  go_wp2_with (go_at_call 27; refine (HS.out _ (bel_of (by rfl) (by rfl) (by rfl) (by rfl))).mono ?_; rintro e w1 ⟨rfl, k0, rfl⟩)
  go_loopg [5] n (fun q u wr => ∃ i : Nat, u = .int .i64 i ∧ i ≤ n ∧ q = n - i ∧ ∃ k, wr = w.drewN k)
  case atStart => exact ⟨0, rfl, by omega, by omega, k0, rfl⟩
  case round =>
    obtain ⟨i, rfl, hi, rfl, k, rfl⟩ := hrel
    by_cases hlt : i < n
    · have hltz : decide ((i : Int) < (n : Int)) = true := by simp; omega
      have hltz2 : (i : Int) < (n : Int) := by omega
      have hi0 : (0 : Int) ≤ (i : Int) := by omega
      obtain ⟨b, off, rfl, hbl, hT⟩ := HA.out (by have := HN.out; omega)
      obtain ⟨b2, off2, rfl, hbl2, hT2⟩ := HB.out (by have := HN.out; omega)
      obtain ⟨x, hx⟩ : ∃ x, l[i]? = some x := ⟨_, List.getElem?_eq_getElem (by have := HN.out; omega)⟩
      obtain ⟨c0, c1, c2⟩ := hT i x hx
      obtain ⟨d0, d1, d2⟩ := hT2 i x hx
      have p1 : (x.pos != x.pos) = false := by simp
      clear hx hT hT2
      go_wp2
      go_quiet (fail)
      go_wp2
      go_roundg (n - (i + 1))
      case measure => omega
      case rel => exact ⟨i + 1, by go_num, by omega, rfl, _, rfl⟩
    · obtain rfl : i = n := by omega
      go_wp2
      go_ret
      exact ⟨rfl, _, rfl⟩

set_option maxHeartbeats 1000000 in
set_option maxRecDepth 100000 in
theorem lexTokens_calls (w : World) (s : ByteArray) (hs2 : s.size ≤ 140737488355328) (hT : Tabs w w) : Calls Tryz.prog 3 #[.string s] w fun e w' => e = .returned (.bool true) ∧ Below w.heap.size w w' := by
  have hk := fun wx (hb : Below w.heap.size w wx) => known_calls w wx (hT.belowN hb)
  have HK := Lib.hid hk
  clear hk
  by_cases hs : 20000 < s.size
  · have q0 : decide ((20000 : Int) < (s.size : Int)) = true := by simp; omega
    clear hs hT
    go_enter Tryz.func3, Tryz.ntmps3
    go_wp2_with (go_at_call 8; refine (HK.out _ (Below.refl _ _)).mono ?_; rintro e w1 ⟨rfl, hb1⟩; have HB1 := Lib.hid hb1; clear hb1)
    go_ret
    exact ⟨rfl, HB1.out⟩
  · have q0 : decide ((20000 : Int) < (s.size : Int)) = false := by simp; omega
    obtain ⟨ts, m, er, hr⟩ : ∃ ts m er, LexM.lexRes (bs s) = (ts, m, er) := ⟨_, _, _, rfl⟩
    have hlx := lexT_calls w w s (by omega) hT ts m er hr
    have hrx := fun wx => rlexT_calls wx s hs2 ts m er hr
    have hlen := lexRes_len hr
    have heq := fun wx A B ca cb hA hB => requal_calls wx A B (ts.map tvOf) ts.length ca cb hA hB (by simp) (by omega)
    have HLX := Lib.hid hlx
    have HRX := Lib.hid hrx
    have HEQ := Lib.hid heq
    clear hlx hrx heq hr hT hs hlen
    go_enter Tryz.func3, Tryz.ntmps3
    go_wp2_with fail
    refine HLX.out.mono ?_
    rintro e w1 ⟨A, ca, rfl, ht1, hb1⟩
    have HT1 := Lib.hid ht1
    have HB1 := Lib.hid hb1
    clear ht1 hb1
    go_wp2_with fail
    refine (HRX.out w1).mono ?_
    rintro e w2 ⟨B, cb, rfl, ht2, hb2⟩
    have HT2 := Lib.hid (HT1.out.below hb2)
    have HT3 := Lib.hid ht2
    have HB2 := Lib.hid (HB1.out.trans (hb2.mono HB1.out.size))
    clear hb2 ht2
    go_wp2_with (first
      | (go_at_call 11; refine (HEQ.out _ _ _ _ _ HT2.out HT3.out).mono ?_; rintro e w3 ⟨rfl, nq, rfl⟩)
      | (go_at_call 8; refine (HK.out _ (below_drewN' HB2.out _)).mono ?_; rintro e w4 ⟨rfl, hb4⟩; have HB4 := Lib.hid ((below_drewN' HB2.out _).trans (hb4.mono (below_drewN' HB2.out _).size)); clear hb4))
    go_ret
    exact ⟨rfl, HB4.out⟩

end Go.Proofs.YtpnfcgmogjpliaaGreatDoor
