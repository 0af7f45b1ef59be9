/- The document's Stuff. -/
import Derived.Test.YtpnfcgmogjpliaaGreatDoorStuf
import Derived.Test.YtpnfcgmogjpliaaGreatDoorRd10
import Derived.StillTailTactics
namespace Go.Proofs.YtpnfcgmogjpliaaGreatDoor
open Go.RowKit
attribute [local go_sem ↓] Go.wp_at_zero Go.wp_at_succ

set_option maxHeartbeats 8000000 in
set_option maxRecDepth 100000 in
theorem rstuff_ok (w : World) (s b : ByteArray) (hs : s.size + b.size ≤ 20000) (p q : Nat) (hpq : p ≤ q) (hq : q ≤ s.size) (hb : b.size ≤ 4000) (t1 t2 : List LexM.Tk) (m1 m2 er2 : Int) (hr1 : LexM.lexRes (bs s) = (t1, m1, 0))
    (hr2 : LexM.lexRes (bs (s.extract 0 p ++ b ++ s.extract q s.size)) = (t2, m2, er2)) :
    Calls Tryz.prog 19 #[.string s, .int .i64 p, .int .i64 q, .string b] w fun e w' => e = .returned (stuffRes s b p q 0 er2 (t1.map tvOf) (t2.map tvOf)) ∧ Below w.heap.size w w' := by
  have b0 : decide ((q : Int) < (p : Int)) = false := by simp; omega
  have b1 : decide ((s.size : Int) < (q : Int)) = false := by simp; omega
  have b3 : decide ((p : Int) < 0) = false := by simp
  have b0n : decide (q < p) = false := by simp; omega
  have b1n : decide (s.size < q) = false := by simp; omega
  have b2 : decide ((4000 : Int) < (b.size : Int)) = false := by simp; omega
  have b2n : decide (4000 < b.size) = false := by simp; omega
  have sl0 := slice_to s p p rfl (by omega)
  have sl1 := slice_from s q q rfl hq
  unfold stuffRes
  rw [if_pos rfl, if_pos ⟨by omega, by omega, by omega⟩, if_neg (by omega)]
  have HLX1 := Lib.hid (rlexC_calls w s (by omega) t1 m1 0 hr1)
  have HLX2 := Lib.hid (fun wx => rlexC_calls wx (s.extract 0 p ++ b ++ s.extract q s.size) (by simp; omega) t2 m2 er2 hr2)
  have HL1 := Lib.hid (lexRes_len hr1)
  have HL2 := Lib.hid (lexRes_len hr2)
  obtain ⟨l, hl⟩ : ∃ l, t1.map tvOf = l := ⟨_, rfl⟩
  obtain ⟨k, hk⟩ : ∃ k, t2.map tvOf = k := ⟨_, rfl⟩
  obtain ⟨n1, hn1⟩ : ∃ n, t1.length = n := ⟨_, rfl⟩
  obtain ⟨n2, hn2⟩ : ∃ n, t2.length = n := ⟨_, rfl⟩
  have HN1 : Hid (l.length = n1) := Lib.hid (by rw [← hl, ← hn1]; simp)
  have HN2 : Hid (k.length = n2) := Lib.hid (by rw [← hk, ← hn2]; simp)
  rw [hl, hn1] at HLX1
  rw [hk, hn2] at HLX2
  rw [hl, hk]
  rw [hn1] at HL1
  rw [hn2] at HL2
  clear hl hk hn1 hn2 hr1 hr2
  by_cases h2 : er2 = 0
  · rw [if_pos h2]
    subst h2
    obtain ⟨N1, hN1⟩ : ∃ N, preN l k = N := ⟨_, rfl⟩
    have hNl := preN_le l k
    rw [HN1.out, HN2.out, hN1] at hNl
    rw [hN1]
    obtain ⟨N2, hN2⟩ : ∃ N, preN (backs l N1) (backs k N1) = N := ⟨_, rfl⟩
    have hNl2 := preN_le (backs l N1) (backs k N1)
    rw [backs_len, backs_len, HN1.out, HN2.out, hN2] at hNl2
    rw [hN2]
    have H0 := Lib.hid hN1
    have H00 := Lib.hid hN2
    clear hN1 hN2
    go_enter Tryz.func19, Tryz.ntmps19
    go_wp2_with fail
    refine HLX1.out.mono ?_
    rintro e w1 ⟨A, ca, rfl, ht1, hb1⟩
    have HT1 := Lib.hid ht1
    have HB1 := Lib.hid hb1
    clear ht1 hb1
    go_wp2
    go_region_with (go_at_call 10; refine (HLX2.out _).mono ?_; rintro e w2 ⟨B, cb, rfl, ht2, hb2⟩; have HT2 := Lib.hid ht2; have HB2 := Lib.hid hb2; clear ht2 hb2)
    go_wp2
    obtain ⟨ht1, hc1⟩ := HT1.out
    obtain ⟨ht2, hc2⟩ := HT2.out
    have hA := Lib.hid (ht1.below ((below_drewN' (Below.refl _ _) 1).trans HB2.out))
    go_loopg [16] n1 (fun gq u wr => ∃ i : Nat, u = .int .i64 i ∧ i ≤ n1 ∧ i ≤ n2 ∧ gq = n1 - i ∧ Aside (preN (l.drop i) (k.drop i) + i = N1) ∧ ∃ d, wr = w2.drewN d)
    case atStart => exact ⟨0, rfl, Nat.zero_le _, Nat.zero_le _, rfl, H0.out, 0, rfl⟩
    case round =>
      obtain ⟨i, rfl, hi1, hi2, rfl, hpre, d0, rfl⟩ := hrel
      have hm12 := HL1.out
      have hm22 := HL2.out
      by_cases hlt : i < n1 ∧ i < n2
      · have hz1 : decide ((i : Int) < (n1 : Int)) = true := by simp; omega
        have hz1n : decide (i < n1) = true := by simp; omega
        have hz2 : decide ((i : Int) < (n2 : Int)) = true := by simp; omega
        have hz2n : decide (i < n2) = true := by simp; omega
        obtain ⟨x, hx⟩ : ∃ x, l[i]? = some x := ⟨_, List.getElem?_eq_getElem (by have := HN1.out; omega)⟩
        obtain ⟨y, hy⟩ : ∃ y, k[i]? = some y := ⟨_, List.getElem?_eq_getElem (by have := HN2.out; omega)⟩
        have hst := preN_step hx hy
        obtain ⟨A1, c1, hsl, hta⟩ := tok_slice hA.out HN1.out hc1 hx
        obtain ⟨B1, d1, hsr, htb⟩ := tok_slice ht2 HN2.out hc2 hy
        have sA := hsl i (i + 1) rfl rfl
        have sB := hsr i (i + 1) rfl rfl
        have HSM := Lib.hid (fun wx (hx : Below w2.heap.size w2 wx) => rsame_calls wx A1 B1 [x] [y] 1 1 c1 d1 (hta.below hx) (htb.below hx) rfl rfl (by decide) (tvSame x y) (sameTv_one x y))
        clear hsl hsr hta htb hx hy
        cases hs : tvSame x y with
        | true =>
          rw [hs] at HSM hst
          rw [if_pos rfl] at hst
          have HP : Hid (preN (l.drop (i + 1)) (k.drop (i + 1)) + (i + 1) = N1) := Lib.hid (by have := hpre.out; omega)
          clear hst hs
          have hw0 : IntKind.i64.wrap ((i : Int) + 1) = (i : Int) + 1 := wrap_small _ (by omega) (by omega)
          go_wp2
          go_still_tail 21, (by kernel_rfl)
          change wpList _ _ _ _ _ (w2.drewN d0).drew
          go_wp2_with (go_at_call 27; refine (HSM.out _ (below_drewN' (Below.refl _ w2) (d0 + 1))).mono ?_; rintro e w3 ⟨rfl, nq, rfl⟩)
          clear hw0
          go_roundg (n1 - (i + 1))
          case measure => omega
          case rel => exact ⟨i + 1, by go_num, by omega, by omega, rfl, HP.out, _, rfl⟩
        | false =>
          rw [hs] at HSM hst
          rw [if_neg (by simp)] at hst
          obtain rfl : i = N1 := by have := hpre.out; omega
          clear hst hs
          have hw0 : IntKind.i64.wrap ((i : Int) + 1) = (i : Int) + 1 := wrap_small _ (by omega) (by omega)
          go_wp2
          go_still_tail 21, (by kernel_rfl)
          change wpList _ _ _ _ _ (w2.drewN d0).drew
          go_wp2_with (go_at_call 27; refine (HSM.out _ (below_drewN' (Below.refl _ w2) (d0 + 1))).mono ?_; rintro e w3 ⟨rfl, nq, rfl⟩)
          clear sA sB HSM hw0
          go_loopg [17] (n1 - i) (fun gq u wr => ∃ j : Nat, u = .int .i64 j ∧ i + j ≤ n1 ∧ i + j ≤ n2 ∧ gq = n1 - i - j ∧ Aside (preN ((backs l i).drop j) ((backs k i).drop j) + j = N2) ∧ ∃ d, wr = w2.drewN d)
          case atStart => exact ⟨0, rfl, by omega, by omega, rfl, H00.out, _, rfl⟩
          case round =>
            obtain ⟨j, rfl, hj1, hj2, rfl, hpre2, d, rfl⟩ := hrel
            have hbl := backs_len l i
            have hbk := backs_len k i
            by_cases hlt2 : i + j < n1 ∧ i + j < n2
            · have hz1 : decide ((i : Int) + (j : Int) < (n1 : Int)) = true := by simp; omega
              have hz2 : decide ((i : Int) + (j : Int) < (n2 : Int)) = true := by simp; omega
              have hg1 := backs_get (l := l) (a := i) (b := j) (by have := HN1.out; omega)
              have hg2 := backs_get (l := k) (a := i) (b := j) (by have := HN2.out; omega)
              rw [HN1.out] at hg1
              rw [HN2.out] at hg2
              obtain ⟨x, hx⟩ : ∃ x, l[n1 - j - 1]? = some x := ⟨_, List.getElem?_eq_getElem (by have := HN1.out; omega)⟩
              obtain ⟨y, hy⟩ : ∃ y, k[n2 - j - 1]? = some y := ⟨_, List.getElem?_eq_getElem (by have := HN2.out; omega)⟩
              rw [hx] at hg1
              rw [hy] at hg2
              have hst := preN_step hg1 hg2
              obtain ⟨A1, c1, hsl, hta⟩ := tok_slice hA.out HN1.out hc1 hx
              obtain ⟨B1, d1, hsr, htb⟩ := tok_slice ht2 HN2.out hc2 hy
              have sA := hsl ((n1 : Int) - j - 1) ((n1 : Int) - j) (by omega) (by omega)
              have sB := hsr ((n2 : Int) - j - 1) ((n2 : Int) - j) (by omega) (by omega)
              have HSM := Lib.hid (fun wx (hx : Below w2.heap.size w2 wx) => rsame_calls wx A1 B1 [x] [y] 1 1 c1 d1 (hta.below hx) (htb.below hx) rfl rfl (by decide) (tvSame x y) (sameTv_one x y))
              clear hsl hsr hta htb hx hy hg1 hg2
              cases hs : tvSame x y with
              | true =>
                rw [hs] at HSM hst
                rw [if_pos rfl] at hst
                have HP : Hid (preN ((backs l i).drop (j + 1)) ((backs k i).drop (j + 1)) + (j + 1) = N2) := Lib.hid (by have := hpre2.out; omega)
                clear hst hs
                have hw0 : IntKind.i64.wrap ((i : Int) + (j : Int)) = (i : Int) + (j : Int) := wrap_small _ (by omega) (by omega)
                have hw1 : IntKind.i64.wrap ((n1 : Int) - (j : Int)) = (n1 : Int) - (j : Int) := wrap_small _ (by omega) (by omega)
                have hw2 : IntKind.i64.wrap ((n2 : Int) - (j : Int)) = (n2 : Int) - (j : Int) := wrap_small _ (by omega) (by omega)
                have hw3 : IntKind.i64.wrap ((n1 : Int) - (j : Int) - 1) = (n1 : Int) - (j : Int) - 1 := wrap_small _ (by omega) (by omega)
                have hw4 : IntKind.i64.wrap ((n2 : Int) - (j : Int) - 1) = (n2 : Int) - (j : Int) - 1 := wrap_small _ (by omega) (by omega)
                go_wp2
                go_still_tail 37, (by kernel_rfl)
                change wpList _ _ _ _ _ (w2.drewN d).drew
                go_wp2_with (go_at_call 27; refine (HSM.out _ (below_drewN' (Below.refl _ w2) (d + 1))).mono ?_; rintro e w3 ⟨rfl, nq, rfl⟩)
                clear hw0 hw1 hw2 hw3 hw4
                go_roundg (n1 - i - (j + 1))
                case measure => omega
                case rel => exact ⟨j + 1, by go_num, by omega, by omega, rfl, HP.out, _, rfl⟩
              | false =>
                rw [hs] at HSM hst
                rw [if_neg (by simp)] at hst
                obtain rfl : j = N2 := by have := hpre2.out; omega
                clear hst hs
                have hw0 : IntKind.i64.wrap ((i : Int) + (j : Int)) = (i : Int) + (j : Int) := wrap_small _ (by omega) (by omega)
                have hw1 : IntKind.i64.wrap ((n1 : Int) - (j : Int)) = (n1 : Int) - (j : Int) := wrap_small _ (by omega) (by omega)
                have hw2 : IntKind.i64.wrap ((n2 : Int) - (j : Int)) = (n2 : Int) - (j : Int) := wrap_small _ (by omega) (by omega)
                have hw3 : IntKind.i64.wrap ((n1 : Int) - (j : Int) - 1) = (n1 : Int) - (j : Int) - 1 := wrap_small _ (by omega) (by omega)
                have hw4 : IntKind.i64.wrap ((n2 : Int) - (j : Int) - 1) = (n2 : Int) - (j : Int) - 1 := wrap_small _ (by omega) (by omega)
                go_wp2
                go_still_tail 37, (by kernel_rfl)
                change wpList _ _ _ _ _ (w2.drewN d).drew
                go_wp2_with (go_at_call 27; refine (HSM.out _ (below_drewN' (Below.refl _ w2) (d + 1))).mono ?_; rintro e w3 ⟨rfl, nq, rfl⟩)
                go_ret3
                exact ⟨rfl, (HB1.out.trans ((below_drewN' (Below.refl _ _) _).trans HB2.out |>.mono HB1.out.size)).trans (below_drewN' (Below.refl _ w2) _ |>.mono (HB1.out.trans ((below_drewN' (Below.refl _ _) _).trans HB2.out |>.mono HB1.out.size)).size)⟩
            · have he := preN_end (X := backs l i) (Y := backs k i) (b := j) (by have := HN1.out; have := HN2.out; omega)
              obtain rfl : j = N2 := by have := hpre2.out; omega
              clear he
              by_cases hn : i + j < n1
              · have hz1 : decide ((i : Int) + (j : Int) < (n1 : Int)) = true := by simp; omega
                have hz2 : decide ((i : Int) + (j : Int) < (n2 : Int)) = false := by simp; omega
                have hw0 : IntKind.i64.wrap ((i : Int) + (j : Int)) = (i : Int) + (j : Int) := wrap_small _ (by omega) (by omega)
                go_wp2
                go_quiet (fail)
                go_wp2
                go_ret3
                exact ⟨rfl, (HB1.out.trans ((below_drewN' (Below.refl _ _) _).trans HB2.out |>.mono HB1.out.size)).trans (below_drewN' (below_drewN' (Below.refl _ w2) _) _ |>.mono (HB1.out.trans ((below_drewN' (Below.refl _ _) _).trans HB2.out |>.mono HB1.out.size)).size)⟩
              · have hz1 : decide ((i : Int) + (j : Int) < (n1 : Int)) = false := by simp; omega
                have hw0 : IntKind.i64.wrap ((i : Int) + (j : Int)) = (i : Int) + (j : Int) := wrap_small _ (by omega) (by omega)
                go_wp2
                go_quiet (fail)
                go_wp2
                go_ret3
                exact ⟨rfl, (HB1.out.trans ((below_drewN' (Below.refl _ _) _).trans HB2.out |>.mono HB1.out.size)).trans (below_drewN' (below_drewN' (Below.refl _ w2) _) _ |>.mono (HB1.out.trans ((below_drewN' (Below.refl _ _) _).trans HB2.out |>.mono HB1.out.size)).size)⟩
      · have he := preN_end (X := l) (Y := k) (b := i) (by have := HN1.out; have := HN2.out; omega)
        obtain rfl : i = N1 := by have := hpre.out; omega
        clear he
        by_cases hn : i < n1
        · have hz1 : decide ((i : Int) < (n1 : Int)) = true := by simp; omega
          have hz1n : decide (i < n1) = true := by simp; omega
          have hz2 : decide ((i : Int) < (n2 : Int)) = false := by simp; omega
          have hz2n : decide (i < n2) = false := by simp; omega
          go_wp2
          go_quiet (fail)
          go_wp2
          clear hz1 hz1n hz2 hz2n
          go_loopg [17] (n1 - i) (fun gq u wr => ∃ j : Nat, u = .int .i64 j ∧ i + j ≤ n1 ∧ i + j ≤ n2 ∧ gq = n1 - i - j ∧ Aside (preN ((backs l i).drop j) ((backs k i).drop j) + j = N2) ∧ ∃ d, wr = w2.drewN d)
          case atStart => exact ⟨0, rfl, by omega, by omega, rfl, H00.out, _, by first | rfl | exact World.drewN_drewN _ _ _⟩
          case round =>
            obtain ⟨j, rfl, hj1, hj2, rfl, hpre2, d, rfl⟩ := hrel
            have hbl := backs_len l i
            have hbk := backs_len k i
            by_cases hlt2 : i + j < n1 ∧ i + j < n2
            · have hz1 : decide ((i : Int) + (j : Int) < (n1 : Int)) = true := by simp; omega
              have hz2 : decide ((i : Int) + (j : Int) < (n2 : Int)) = true := by simp; omega
              have hg1 := backs_get (l := l) (a := i) (b := j) (by have := HN1.out; omega)
              have hg2 := backs_get (l := k) (a := i) (b := j) (by have := HN2.out; omega)
              rw [HN1.out] at hg1
              rw [HN2.out] at hg2
              obtain ⟨x, hx⟩ : ∃ x, l[n1 - j - 1]? = some x := ⟨_, List.getElem?_eq_getElem (by have := HN1.out; omega)⟩
              obtain ⟨y, hy⟩ : ∃ y, k[n2 - j - 1]? = some y := ⟨_, List.getElem?_eq_getElem (by have := HN2.out; omega)⟩
              rw [hx] at hg1
              rw [hy] at hg2
              have hst := preN_step hg1 hg2
              obtain ⟨A1, c1, hsl, hta⟩ := tok_slice hA.out HN1.out hc1 hx
              obtain ⟨B1, d1, hsr, htb⟩ := tok_slice ht2 HN2.out hc2 hy
              have sA := hsl ((n1 : Int) - j - 1) ((n1 : Int) - j) (by omega) (by omega)
              have sB := hsr ((n2 : Int) - j - 1) ((n2 : Int) - j) (by omega) (by omega)
              have HSM := Lib.hid (fun wx (hx : Below w2.heap.size w2 wx) => rsame_calls wx A1 B1 [x] [y] 1 1 c1 d1 (hta.below hx) (htb.below hx) rfl rfl (by decide) (tvSame x y) (sameTv_one x y))
              clear hsl hsr hta htb hx hy hg1 hg2
              cases hs : tvSame x y with
              | true =>
                rw [hs] at HSM hst
                rw [if_pos rfl] at hst
                have HP : Hid (preN ((backs l i).drop (j + 1)) ((backs k i).drop (j + 1)) + (j + 1) = N2) := Lib.hid (by have := hpre2.out; omega)
                clear hst hs
                have hw0 : IntKind.i64.wrap ((i : Int) + (j : Int)) = (i : Int) + (j : Int) := wrap_small _ (by omega) (by omega)
                have hw1 : IntKind.i64.wrap ((n1 : Int) - (j : Int)) = (n1 : Int) - (j : Int) := wrap_small _ (by omega) (by omega)
                have hw2 : IntKind.i64.wrap ((n2 : Int) - (j : Int)) = (n2 : Int) - (j : Int) := wrap_small _ (by omega) (by omega)
                have hw3 : IntKind.i64.wrap ((n1 : Int) - (j : Int) - 1) = (n1 : Int) - (j : Int) - 1 := wrap_small _ (by omega) (by omega)
                have hw4 : IntKind.i64.wrap ((n2 : Int) - (j : Int) - 1) = (n2 : Int) - (j : Int) - 1 := wrap_small _ (by omega) (by omega)
                go_wp2
                go_still_tail 37, (by kernel_rfl)
                change wpList _ _ _ _ _ (w2.drewN d).drew
                go_wp2_with (go_at_call 27; refine (HSM.out _ (below_drewN' (Below.refl _ w2) (d + 1))).mono ?_; rintro e w3 ⟨rfl, nq, rfl⟩)
                clear hw0 hw1 hw2 hw3 hw4
                go_roundg (n1 - i - (j + 1))
                case measure => omega
                case rel => exact ⟨j + 1, by go_num, by omega, by omega, rfl, HP.out, _, rfl⟩
              | false =>
                rw [hs] at HSM hst
                rw [if_neg (by simp)] at hst
                obtain rfl : j = N2 := by have := hpre2.out; omega
                clear hst hs
                have hw0 : IntKind.i64.wrap ((i : Int) + (j : Int)) = (i : Int) + (j : Int) := wrap_small _ (by omega) (by omega)
                have hw1 : IntKind.i64.wrap ((n1 : Int) - (j : Int)) = (n1 : Int) - (j : Int) := wrap_small _ (by omega) (by omega)
                have hw2 : IntKind.i64.wrap ((n2 : Int) - (j : Int)) = (n2 : Int) - (j : Int) := wrap_small _ (by omega) (by omega)
                have hw3 : IntKind.i64.wrap ((n1 : Int) - (j : Int) - 1) = (n1 : Int) - (j : Int) - 1 := wrap_small _ (by omega) (by omega)
                have hw4 : IntKind.i64.wrap ((n2 : Int) - (j : Int) - 1) = (n2 : Int) - (j : Int) - 1 := wrap_small _ (by omega) (by omega)
                go_wp2
                go_still_tail 37, (by kernel_rfl)
                change wpList _ _ _ _ _ (w2.drewN d).drew
                go_wp2_with (go_at_call 27; refine (HSM.out _ (below_drewN' (Below.refl _ w2) (d + 1))).mono ?_; rintro e w3 ⟨rfl, nq, rfl⟩)
                go_ret3
                exact ⟨rfl, (HB1.out.trans ((below_drewN' (Below.refl _ _) _).trans HB2.out |>.mono HB1.out.size)).trans (below_drewN' (Below.refl _ w2) _ |>.mono (HB1.out.trans ((below_drewN' (Below.refl _ _) _).trans HB2.out |>.mono HB1.out.size)).size)⟩
            · have he := preN_end (X := backs l i) (Y := backs k i) (b := j) (by have := HN1.out; have := HN2.out; omega)
              obtain rfl : j = N2 := by have := hpre2.out; omega
              clear he
              by_cases hn : i + j < n1
              · have hz1 : decide ((i : Int) + (j : Int) < (n1 : Int)) = true := by simp; omega
                have hz2 : decide ((i : Int) + (j : Int) < (n2 : Int)) = false := by simp; omega
                have hw0 : IntKind.i64.wrap ((i : Int) + (j : Int)) = (i : Int) + (j : Int) := wrap_small _ (by omega) (by omega)
                go_wp2
                go_quiet (fail)
                go_wp2
                go_ret3
                exact ⟨rfl, (HB1.out.trans ((below_drewN' (Below.refl _ _) _).trans HB2.out |>.mono HB1.out.size)).trans (below_drewN' (below_drewN' (Below.refl _ w2) _) _ |>.mono (HB1.out.trans ((below_drewN' (Below.refl _ _) _).trans HB2.out |>.mono HB1.out.size)).size)⟩
              · have hz1 : decide ((i : Int) + (j : Int) < (n1 : Int)) = false := by simp; omega
                have hw0 : IntKind.i64.wrap ((i : Int) + (j : Int)) = (i : Int) + (j : Int) := wrap_small _ (by omega) (by omega)
                go_wp2
                go_quiet (fail)
                go_wp2
                go_ret3
                exact ⟨rfl, (HB1.out.trans ((below_drewN' (Below.refl _ _) _).trans HB2.out |>.mono HB1.out.size)).trans (below_drewN' (below_drewN' (Below.refl _ w2) _) _ |>.mono (HB1.out.trans ((below_drewN' (Below.refl _ _) _).trans HB2.out |>.mono HB1.out.size)).size)⟩
        · have hz1 : decide ((i : Int) < (n1 : Int)) = false := by simp; omega
          have hz1n : decide (i < n1) = false := by simp; omega
          go_wp2
          go_quiet (fail)
          go_wp2
          clear hz1 hz1n
          go_loopg [17] (n1 - i) (fun gq u wr => ∃ j : Nat, u = .int .i64 j ∧ i + j ≤ n1 ∧ i + j ≤ n2 ∧ gq = n1 - i - j ∧ Aside (preN ((backs l i).drop j) ((backs k i).drop j) + j = N2) ∧ ∃ d, wr = w2.drewN d)
          case atStart => exact ⟨0, rfl, by omega, by omega, rfl, H00.out, _, by first | rfl | exact World.drewN_drewN _ _ _⟩
          case round =>
            obtain ⟨j, rfl, hj1, hj2, rfl, hpre2, d, rfl⟩ := hrel
            have hbl := backs_len l i
            have hbk := backs_len k i
            by_cases hlt2 : i + j < n1 ∧ i + j < n2
            · have hz1 : decide ((i : Int) + (j : Int) < (n1 : Int)) = true := by simp; omega
              have hz2 : decide ((i : Int) + (j : Int) < (n2 : Int)) = true := by simp; omega
              have hg1 := backs_get (l := l) (a := i) (b := j) (by have := HN1.out; omega)
              have hg2 := backs_get (l := k) (a := i) (b := j) (by have := HN2.out; omega)
              rw [HN1.out] at hg1
              rw [HN2.out] at hg2
              obtain ⟨x, hx⟩ : ∃ x, l[n1 - j - 1]? = some x := ⟨_, List.getElem?_eq_getElem (by have := HN1.out; omega)⟩
              obtain ⟨y, hy⟩ : ∃ y, k[n2 - j - 1]? = some y := ⟨_, List.getElem?_eq_getElem (by have := HN2.out; omega)⟩
              rw [hx] at hg1
              rw [hy] at hg2
              have hst := preN_step hg1 hg2
              obtain ⟨A1, c1, hsl, hta⟩ := tok_slice hA.out HN1.out hc1 hx
              obtain ⟨B1, d1, hsr, htb⟩ := tok_slice ht2 HN2.out hc2 hy
              have sA := hsl ((n1 : Int) - j - 1) ((n1 : Int) - j) (by omega) (by omega)
              have sB := hsr ((n2 : Int) - j - 1) ((n2 : Int) - j) (by omega) (by omega)
              have HSM := Lib.hid (fun wx (hx : Below w2.heap.size w2 wx) => rsame_calls wx A1 B1 [x] [y] 1 1 c1 d1 (hta.below hx) (htb.below hx) rfl rfl (by decide) (tvSame x y) (sameTv_one x y))
              clear hsl hsr hta htb hx hy hg1 hg2
              cases hs : tvSame x y with
              | true =>
                rw [hs] at HSM hst
                rw [if_pos rfl] at hst
                have HP : Hid (preN ((backs l i).drop (j + 1)) ((backs k i).drop (j + 1)) + (j + 1) = N2) := Lib.hid (by have := hpre2.out; omega)
                clear hst hs
                have hw0 : IntKind.i64.wrap ((i : Int) + (j : Int)) = (i : Int) + (j : Int) := wrap_small _ (by omega) (by omega)
                have hw1 : IntKind.i64.wrap ((n1 : Int) - (j : Int)) = (n1 : Int) - (j : Int) := wrap_small _ (by omega) (by omega)
                have hw2 : IntKind.i64.wrap ((n2 : Int) - (j : Int)) = (n2 : Int) - (j : Int) := wrap_small _ (by omega) (by omega)
                have hw3 : IntKind.i64.wrap ((n1 : Int) - (j : Int) - 1) = (n1 : Int) - (j : Int) - 1 := wrap_small _ (by omega) (by omega)
                have hw4 : IntKind.i64.wrap ((n2 : Int) - (j : Int) - 1) = (n2 : Int) - (j : Int) - 1 := wrap_small _ (by omega) (by omega)
                go_wp2
                go_still_tail 37, (by kernel_rfl)
                change wpList _ _ _ _ _ (w2.drewN d).drew
                go_wp2_with (go_at_call 27; refine (HSM.out _ (below_drewN' (Below.refl _ w2) (d + 1))).mono ?_; rintro e w3 ⟨rfl, nq, rfl⟩)
                clear hw0 hw1 hw2 hw3 hw4
                go_roundg (n1 - i - (j + 1))
                case measure => omega
                case rel => exact ⟨j + 1, by go_num, by omega, by omega, rfl, HP.out, _, rfl⟩
              | false =>
                rw [hs] at HSM hst
                rw [if_neg (by simp)] at hst
                obtain rfl : j = N2 := by have := hpre2.out; omega
                clear hst hs
                have hw0 : IntKind.i64.wrap ((i : Int) + (j : Int)) = (i : Int) + (j : Int) := wrap_small _ (by omega) (by omega)
                have hw1 : IntKind.i64.wrap ((n1 : Int) - (j : Int)) = (n1 : Int) - (j : Int) := wrap_small _ (by omega) (by omega)
                have hw2 : IntKind.i64.wrap ((n2 : Int) - (j : Int)) = (n2 : Int) - (j : Int) := wrap_small _ (by omega) (by omega)
                have hw3 : IntKind.i64.wrap ((n1 : Int) - (j : Int) - 1) = (n1 : Int) - (j : Int) - 1 := wrap_small _ (by omega) (by omega)
                have hw4 : IntKind.i64.wrap ((n2 : Int) - (j : Int) - 1) = (n2 : Int) - (j : Int) - 1 := wrap_small _ (by omega) (by omega)
                go_wp2
                go_still_tail 37, (by kernel_rfl)
                change wpList _ _ _ _ _ (w2.drewN d).drew
                go_wp2_with (go_at_call 27; refine (HSM.out _ (below_drewN' (Below.refl _ w2) (d + 1))).mono ?_; rintro e w3 ⟨rfl, nq, rfl⟩)
                go_ret3
                exact ⟨rfl, (HB1.out.trans ((below_drewN' (Below.refl _ _) _).trans HB2.out |>.mono HB1.out.size)).trans (below_drewN' (Below.refl _ w2) _ |>.mono (HB1.out.trans ((below_drewN' (Below.refl _ _) _).trans HB2.out |>.mono HB1.out.size)).size)⟩
            · have he := preN_end (X := backs l i) (Y := backs k i) (b := j) (by have := HN1.out; have := HN2.out; omega)
              obtain rfl : j = N2 := by have := hpre2.out; omega
              clear he
              by_cases hn : i + j < n1
              · have hz1 : decide ((i : Int) + (j : Int) < (n1 : Int)) = true := by simp; omega
                have hz2 : decide ((i : Int) + (j : Int) < (n2 : Int)) = false := by simp; omega
                have hw0 : IntKind.i64.wrap ((i : Int) + (j : Int)) = (i : Int) + (j : Int) := wrap_small _ (by omega) (by omega)
                go_wp2
                go_quiet (fail)
                go_wp2
                go_ret3
                exact ⟨rfl, (HB1.out.trans ((below_drewN' (Below.refl _ _) _).trans HB2.out |>.mono HB1.out.size)).trans (below_drewN' (below_drewN' (Below.refl _ w2) _) _ |>.mono (HB1.out.trans ((below_drewN' (Below.refl _ _) _).trans HB2.out |>.mono HB1.out.size)).size)⟩
              · have hz1 : decide ((i : Int) + (j : Int) < (n1 : Int)) = false := by simp; omega
                have hw0 : IntKind.i64.wrap ((i : Int) + (j : Int)) = (i : Int) + (j : Int) := wrap_small _ (by omega) (by omega)
                go_wp2
                go_quiet (fail)
                go_wp2
                go_ret3
                exact ⟨rfl, (HB1.out.trans ((below_drewN' (Below.refl _ _) _).trans HB2.out |>.mono HB1.out.size)).trans (below_drewN' (below_drewN' (Below.refl _ w2) _) _ |>.mono (HB1.out.trans ((below_drewN' (Below.refl _ _) _).trans HB2.out |>.mono HB1.out.size)).size)⟩
  · rw [if_neg h2]
    have q1 : (er2 != 0) = true := by simpa [bne] using h2
    go_enter Tryz.func19, Tryz.ntmps19
    go_wp2_with fail
    refine HLX1.out.mono ?_
    rintro e w1 ⟨A, ca, rfl, ht1, hb1⟩
    have HT1 := Lib.hid ht1
    have HB1 := Lib.hid hb1
    clear ht1 hb1
    go_wp2
    go_region_with (go_at_call 10; refine (HLX2.out _).mono ?_; rintro e w2 ⟨B, cb, rfl, ht2, hb2⟩; have HT2 := Lib.hid ht2; have HB2 := Lib.hid hb2; clear ht2 hb2)
    go_wp2
    go_ret3
    exact ⟨rfl, HB1.out.trans ((below_drewN' (Below.refl _ _) _).trans HB2.out |>.mono HB1.out.size)⟩

end Go.Proofs.YtpnfcgmogjpliaaGreatDoor
