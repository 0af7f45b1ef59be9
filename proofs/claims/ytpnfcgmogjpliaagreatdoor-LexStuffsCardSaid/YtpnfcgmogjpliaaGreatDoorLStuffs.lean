/- For every source, every text and every two places the program's Stuff answers what the document's Stuff answers, and the law's own example holds; the arguments read as they did. The library's tables lie as their texts lay them (the card ties that). -/
import Derived.Test.YtpnfcgmogjpliaaGreatDoorStuP
import Derived.Test.YtpnfcgmogjpliaaGreatDoorStuR
namespace Go.Proofs.YtpnfcgmogjpliaaGreatDoor
open Go.RowKit
attribute [local go_sem ↓] Go.wp_at_zero Go.wp_at_succ

set_option maxHeartbeats 1000000 in
set_option maxRecDepth 100000 in
theorem stuff_calls (w0 w : World) (s b : ByteArray) (hs : s.size + b.size ≤ 20000) (hT : Tabs w0 w) (p q : Int) (t1 t2 : List LexM.Tk) (m1 m2 er1 er2 : Int) (hr1 : LexM.lexRes (bs s) = (t1, m1, er1))
    (hr2 : LexM.lexRes (bs (s.extract 0 p.toNat ++ b ++ s.extract q.toNat s.size)) = (t2, m2, er2)) :
    Calls Tryz.prog 18 #[.string s, .int .i64 p, .int .i64 q, .string b] w fun e w' => e = .returned (stuffRes s b p q er1 er2 (t1.map tvOf) (t2.map tvOf)) ∧ Below w.heap.size w w' := by
  by_cases h1 : er1 = 0
  · subst h1
    by_cases hpq : 0 ≤ p ∧ p ≤ q ∧ q ≤ s.size
    · obtain ⟨h1, h2, h3⟩ := hpq
      obtain ⟨p, rfl⟩ : ∃ k : Nat, p = k := ⟨p.toNat, by omega⟩
      obtain ⟨q, rfl⟩ : ∃ k : Nat, q = k := ⟨q.toNat, by omega⟩
      rw [Int.toNat_natCast, Int.toNat_natCast] at hr2
      by_cases hb : b.size ≤ 4000
      · exact stuff_ok w0 w s b hs hT p q (by omega) (by omega) hb t1 t2 m1 m2 er2 hr1 hr2
      · have HLX1 := Lib.hid (lexC_calls w0 w s (by omega) hT t1 m1 0 hr1)
        unfold stuffRes
        rw [if_pos rfl, if_pos ⟨h1, h2, h3⟩, if_pos (by omega)]
        have b0 : decide ((q : Int) < (p : Int)) = false := by simp; omega
        have b0n : decide (q < p) = false := by simp; omega
        have b1 : decide ((s.size : Int) < (q : Int)) = false := by simp; omega
        have b1n : decide (s.size < q) = false := by simp; omega
        have b3 : decide ((p : Int) < 0) = false := by simp
        have b2 : decide ((4000 : Int) < (b.size : Int)) = true := by simp; omega
        have b2n : decide (4000 < b.size) = true := by simp; omega
        clear hr1 hr2
        go_enter Tryz.func18, Tryz.ntmps18
        go_wp2_with fail
        refine HLX1.out.mono ?_
        rintro e w1 ⟨A, ca, rfl, _, hb1⟩
        have HB1 := Lib.hid hb1
        clear hb1
        go_wp2
        go_ret3
        exact ⟨rfl, HB1.out⟩
    · have HLX1 := Lib.hid (lexC_calls w0 w s (by omega) hT t1 m1 0 hr1)
      unfold stuffRes
      rw [if_pos rfl, if_neg hpq]
      by_cases hp : p < 0
      · have b3 : decide (p < 0) = true := by simpa using hp
        clear hr1 hr2
        go_enter Tryz.func18, Tryz.ntmps18
        go_wp2_with fail
        refine HLX1.out.mono ?_
        rintro e w1 ⟨A, ca, rfl, _, hb1⟩
        have HB1 := Lib.hid hb1
        clear hb1
        go_wp2
        go_ret3
        exact ⟨rfl, HB1.out⟩
      · have b3 : decide (p < 0) = false := by simpa using hp
        by_cases hq : q < p
        · have b0 : decide (q < p) = true := by simpa using hq
          clear hr1 hr2
          go_enter Tryz.func18, Tryz.ntmps18
          go_wp2_with fail
          refine HLX1.out.mono ?_
          rintro e w1 ⟨A, ca, rfl, _, hb1⟩
          have HB1 := Lib.hid hb1
          clear hb1
          go_wp2
          go_ret3
          exact ⟨rfl, HB1.out⟩
        · have b0 : decide (q < p) = false := by simpa using hq
          have b1 : decide ((s.size : Int) < q) = true := by simp; omega
          clear hr1 hr2
          go_enter Tryz.func18, Tryz.ntmps18
          go_wp2_with fail
          refine HLX1.out.mono ?_
          rintro e w1 ⟨A, ca, rfl, _, hb1⟩
          have HB1 := Lib.hid hb1
          clear hb1
          go_wp2
          go_ret3
          exact ⟨rfl, HB1.out⟩
  · have HLX1 := Lib.hid (lexC_calls w0 w s (by omega) hT t1 m1 er1 hr1)
    unfold stuffRes
    rw [if_neg h1]
    have q1 : (er1 != 0) = true := by simpa [bne] using h1
    clear hr1 hr2
    go_enter Tryz.func18, Tryz.ntmps18
    go_wp2_with fail
    refine HLX1.out.mono ?_
    rintro e w1 ⟨A, ca, rfl, _, hb1⟩
    have HB1 := Lib.hid hb1
    clear hb1
    go_wp2
    go_ret3
    exact ⟨rfl, HB1.out⟩

set_option maxHeartbeats 1000000 in
set_option maxRecDepth 100000 in
theorem rstuff_calls (w : World) (s b : ByteArray) (hs : s.size + b.size ≤ 20000) (p q : Int) (t1 t2 : List LexM.Tk) (m1 m2 er1 er2 : Int) (hr1 : LexM.lexRes (bs s) = (t1, m1, er1))
    (hr2 : LexM.lexRes (bs (s.extract 0 p.toNat ++ b ++ s.extract q.toNat s.size)) = (t2, m2, er2)) :
    Calls Tryz.prog 19 #[.string s, .int .i64 p, .int .i64 q, .string b] w fun e w' => e = .returned (stuffRes s b p q er1 er2 (t1.map tvOf) (t2.map tvOf)) ∧ Below w.heap.size w w' := by
  by_cases h1 : er1 = 0
  · subst h1
    by_cases hpq : 0 ≤ p ∧ p ≤ q ∧ q ≤ s.size
    · obtain ⟨h1, h2, h3⟩ := hpq
      obtain ⟨p, rfl⟩ : ∃ k : Nat, p = k := ⟨p.toNat, by omega⟩
      obtain ⟨q, rfl⟩ : ∃ k : Nat, q = k := ⟨q.toNat, by omega⟩
      rw [Int.toNat_natCast, Int.toNat_natCast] at hr2
      by_cases hb : b.size ≤ 4000
      · exact rstuff_ok w s b hs p q (by omega) (by omega) hb t1 t2 m1 m2 er2 hr1 hr2
      · have HLX1 := Lib.hid (rlexC_calls w s (by omega) t1 m1 0 hr1)
        unfold stuffRes
        rw [if_pos rfl, if_pos ⟨h1, h2, h3⟩, if_pos (by omega)]
        have b0 : decide ((q : Int) < (p : Int)) = false := by simp; omega
        have b0n : decide (q < p) = false := by simp; omega
        have b1 : decide ((s.size : Int) < (q : Int)) = false := by simp; omega
        have b1n : decide (s.size < q) = false := by simp; omega
        have b3 : decide ((p : Int) < 0) = false := by simp
        have b2 : decide ((4000 : Int) < (b.size : Int)) = true := by simp; omega
        have b2n : decide (4000 < b.size) = true := by simp; omega
        clear hr1 hr2
        go_enter Tryz.func19, Tryz.ntmps19
        go_wp2_with fail
        refine HLX1.out.mono ?_
        rintro e w1 ⟨A, ca, rfl, _, hb1⟩
        have HB1 := Lib.hid hb1
        clear hb1
        go_wp2
        go_ret3
        exact ⟨rfl, HB1.out⟩
    · have HLX1 := Lib.hid (rlexC_calls w s (by omega) t1 m1 0 hr1)
      unfold stuffRes
      rw [if_pos rfl, if_neg hpq]
      by_cases hp : p < 0
      · have b3 : decide (p < 0) = true := by simpa using hp
        clear hr1 hr2
        go_enter Tryz.func19, Tryz.ntmps19
        go_wp2_with fail
        refine HLX1.out.mono ?_
        rintro e w1 ⟨A, ca, rfl, _, hb1⟩
        have HB1 := Lib.hid hb1
        clear hb1
        go_wp2
        go_ret3
        exact ⟨rfl, HB1.out⟩
      · have b3 : decide (p < 0) = false := by simpa using hp
        by_cases hq : q < p
        · have b0 : decide (q < p) = true := by simpa using hq
          clear hr1 hr2
          go_enter Tryz.func19, Tryz.ntmps19
          go_wp2_with fail
          refine HLX1.out.mono ?_
          rintro e w1 ⟨A, ca, rfl, _, hb1⟩
          have HB1 := Lib.hid hb1
          clear hb1
          go_wp2
          go_ret3
          exact ⟨rfl, HB1.out⟩
        · have b0 : decide (q < p) = false := by simpa using hq
          have b1 : decide ((s.size : Int) < q) = true := by simp; omega
          clear hr1 hr2
          go_enter Tryz.func19, Tryz.ntmps19
          go_wp2_with fail
          refine HLX1.out.mono ?_
          rintro e w1 ⟨A, ca, rfl, _, hb1⟩
          have HB1 := Lib.hid hb1
          clear hb1
          go_wp2
          go_ret3
          exact ⟨rfl, HB1.out⟩
  · have HLX1 := Lib.hid (rlexC_calls w s (by omega) t1 m1 er1 hr1)
    unfold stuffRes
    rw [if_neg h1]
    have q1 : (er1 != 0) = true := by simpa [bne] using h1
    clear hr1 hr2
    go_enter Tryz.func19, Tryz.ntmps19
    go_wp2_with fail
    refine HLX1.out.mono ?_
    rintro e w1 ⟨A, ca, rfl, _, hb1⟩
    have HB1 := Lib.hid hb1
    clear hb1
    go_wp2
    go_ret3
    exact ⟨rfl, HB1.out⟩

set_option maxHeartbeats 1000000 in
set_option maxRecDepth 100000 in
theorem lexStuffs_calls (w : World) (s b : ByteArray) (p q : Int) (hs1 : s.size ≤ 140737488355328) (hs2 : b.size ≤ 140737488355328) (hT : Tabs w w) : Calls Tryz.prog 6 #[.string s, .string b, .agg #[.int .i64 p, .int .i64 q]] w fun e w' => e = .returned (.bool true) ∧ Below w.heap.size w w' := by
  have hk := fun wx (hb : Below w.heap.size w wx) => known_calls w wx (hT.belowN hb)
  have HK := Lib.hid hk
  clear hk
  by_cases hs : 20000 < s.size + b.size
  · have q0 : decide ((20000 : Int) < (s.size : Int) + (b.size : Int)) = true := by simp; omega
    have HBA := Lib.hid (fun o => (Below.refl w.heap.size w).alloc (Nat.le_refl _) o)
    clear hs hT
    go_enter Tryz.func6, Tryz.ntmps6
    go_wp2_with (go_at_call 8; refine (HK.out _ (HBA.out _)).mono ?_; rintro e w1 ⟨rfl, hb1⟩; have HB1 := Lib.hid ((HBA.out _).trans (hb1.mono (HBA.out _).size)); clear hb1)
    go_ret
    exact ⟨rfl, HB1.out⟩
  · have q0 : decide ((20000 : Int) < (s.size : Int) + (b.size : Int)) = false := by simp; omega
    obtain ⟨t1, m1, er1, hr1⟩ : ∃ ts m er, LexM.lexRes (bs s) = (ts, m, er) := ⟨_, _, _, rfl⟩
    obtain ⟨t2, m2, er2, hr2⟩ : ∃ ts m er, LexM.lexRes (bs (s.extract 0 p.toNat ++ b ++ s.extract q.toNat s.size)) = (ts, m, er) := ⟨_, _, _, rfl⟩
    have h1 := fun wx (hx : Below w.heap.size w wx) => stuff_calls w wx s b (by omega) (hT.belowN hx) p q t1 t2 m1 m2 er1 er2 hr1 hr2
    have h2 := fun wx => rstuff_calls wx s b (by omega) p q t1 t2 m1 m2 er1 er2 hr1 hr2
    obtain ⟨x, y, z, hxyz⟩ := stuffRes_three s b p q er1 er2 (t1.map tvOf) (t2.map tvOf)
    rw [hxyz] at h1 h2
    have HBA := Lib.hid (fun o => (Below.refl w.heap.size w).alloc (Nat.le_refl _) o)
    have hD : ∀ t w', Below (w.alloc (.cells #[.int .i64 p, .int .i64 q] t)).heap.size (w.alloc (.cells #[.int .i64 p, .int .i64 q] t)) w' → w'.cell? ⟨w.heap.size, 0, none⟩ = some (.int .i64 p) ∧ w'.cell? ⟨w.heap.size, 1, none⟩ = some (.int .i64 q) := fun t w' hb =>
      ⟨(hb.cell (p := ⟨w.heap.size, 0, none⟩) (by simp)).trans ((blk_cell (blk_new w _ _) 0).trans rfl), (hb.cell (p := ⟨w.heap.size, 1, none⟩) (by simp)).trans ((blk_cell (blk_new w _ _) 1).trans rfl)⟩
    have HD := Lib.hid hD
    have H1 := Lib.hid h1
    have H2 := Lib.hid h2
    clear h1 h2 hxyz hr1 hr2 hT hs hD
    go_enter Tryz.func6, Tryz.ntmps6
    go_wp2_with (first
      | (go_at_call 18; refine (H1.out _ (HBA.out _)).mono ?_; rintro e w1 ⟨rfl, hb1⟩; obtain ⟨d0, d1⟩ := HD.out _ _ hb1; have HB1 := Lib.hid ((HBA.out _).trans (hb1.mono (HBA.out _).size)); clear hb1)
      | (go_at_call 19; refine (H2.out _).mono ?_; rintro e w2 ⟨rfl, hb2⟩; have HB2 := Lib.hid (HB1.out.trans (hb2.mono HB1.out.size)); clear hb2)
      | (go_at_call 8; refine (HK.out _ HB2.out).mono ?_; rintro e w4 ⟨rfl, hb4⟩; have HB4 := Lib.hid (HB2.out.trans (hb4.mono HB2.out.size)); clear hb4))
    go_ret
    exact ⟨rfl, HB4.out⟩

end Go.Proofs.YtpnfcgmogjpliaaGreatDoor
