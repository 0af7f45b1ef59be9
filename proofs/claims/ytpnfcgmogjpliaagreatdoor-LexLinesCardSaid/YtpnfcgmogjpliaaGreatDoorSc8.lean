/- The scanner's method token at texts, dates and signs. The contracts hold of every source of at most 20,000 bytes, where the library's tables lie as their texts lay them. -/
import Derived.Test.YtpnfcgmogjpliaaGreatDoorSc7n
namespace Go.Proofs.YtpnfcgmogjpliaaGreatDoor
open Go.RowKit
attribute [local go_sem ↓] Go.wp_at_zero Go.wp_at_succ

set_option maxHeartbeats 2000000 in
set_option maxRecDepth 100000 in
theorem token_quote (w : World) (g : Nat) (s : ByteArray) (k : Nat) (ln : Bool) (bad : Int) (a : Int) (x : ByteArray) (r : Bool) (k2 : Nat) (bad2 : Int) (h : ScSt w g s k ln bad) (hs : s.size ≤ 20000) (hk : k < s.size) (h1 : isAt s k 1 = false) (h2 : isAt s k 2 = false)
    (hq : ((s[k].toNat : Int) == 34) = true ∨ (((s[k].toNat : Int) == 34) = false ∧ ((s[k].toNat : Int) == 39) = true))
    (hc : ∀ wx, ScSt wx g s k ln bad → Calls Tryz.prog 82 #[.pointer (some ⟨g, 0, none⟩), .agg #[.int .i64 0, .int .i64 k, .string ⟨#[]⟩]] wx fun e w' => e = .returned (.tuple #[.agg #[.int .i64 a, .int .i64 k, .string x], .bool r]) ∧ ScSt w' g s k2 ln bad2 ∧ Ch g wx w') :
    Calls Tryz.prog 62 #[.pointer (some ⟨g, 0, none⟩)] w fun e w' => e = .returned (.tuple #[.agg #[.int .i64 a, .int .i64 k, .string x], .bool r]) ∧ ScSt w' g s k2 ln bad2 ∧ Ch g w w' := by
  have HS := Lib.hid h
  have hz := blk_lt h
  have H1 := Lib.hid h1
  have H2 := Lib.hid h2
  obtain ⟨c0, c1, c258, c259, c260⟩ := sc_cells h
  have f1 := sc_frozen h 1
  have b1 : decide ((k : Int) < s.size) = true := by simp; omega
  have b2 : decide ((0:Int) ≤ (k : Int)) = true := by simp
  have HC := Lib.hid hc
  clear hc
  clear h h1 h2
  have n0 : w.heap.size ≠ g := by omega
  rcases hq with hq | ⟨hq, hq2⟩
  all_goals
    go_enter Tryz.func62, Tryz.ntmps62
    go_wp2_with (first | (go_at_call 77; ((with_reducible refine (is1 _ g s k k ln bad false ((HS.out.alloc _).alloc _) hs H1.out).mono ?_); rintro e w' ⟨rfl, n, rfl⟩)) | (go_at_call 77; ((with_reducible refine (is2 _ g s k k ln bad false (((HS.out.alloc _).alloc _).drewN _) hs H2.out).mono ?_); rintro e w' ⟨rfl, n2, rfl⟩)) | (go_at_call 82; refine (HC.out _ (((HS.out.alloc _).alloc _).drewN _)).mono ?_; rintro e w1 ⟨rfl, hs1, hc1⟩; have HS1 := Lib.hid hs1; have HC1 := Lib.hid hc1; clear hs1 hc1; have zz := Lib.hid (blk_ch HC1.out (blk_alloc (blk_new w #[.int .i64 0, .int .i64 0, .string ⟨#[]⟩] 49) _) n0); have r0 : w1.cell? ⟨w.heap.size, 0, none⟩ = some (.int .i64 0) := (blk_cell zz.out 0).trans rfl; have r1 : w1.cell? ⟨w.heap.size, 1, none⟩ = some (.int .i64 0) := (blk_cell zz.out 1).trans rfl; have r2 : w1.cell? ⟨w.heap.size, 2, none⟩ = some (.string ⟨#[]⟩) := (blk_cell zz.out 2).trans rfl; have q0 := blk_frozen zz.out 0; have q1 := blk_frozen zz.out 1; have q2 := blk_frozen zz.out 2))
    refine bodyPost_ret (v := .tuple #[.agg #[.int .i64 a, .int .i64 k, .string x], .bool r]) (by simp [results, Tryz.results62, go_sem, r0, r1, r2]) rfl ⟨rfl, ?_, ?_⟩
    · exact ((HS1.out.other (by simp; omega) _).other (by simp; omega) _).other (by simp; omega) _
    · have HCH := Lib.hid ((((Ch.refl g w).alloc _).alloc _).drewN _ |>.trans HC1.out)
      (repeat (first | with_reducible exact Ch.refl _ _ | with_reducible exact HCH.out | with_reducible apply Ch.drewN | with_reducible apply Ch.drew | with_reducible apply Ch.alloc | with_reducible apply Ch.set | with_reducible refine Ch.setNew ?_ (by first | omega | (simp; done) | (simp; omega)) _))

set_option maxHeartbeats 2000000 in
set_option maxRecDepth 100000 in
theorem token_date (w : World) (g : Nat) (s : ByteArray) (k : Nat) (ln : Bool) (bad : Int) (x : ByteArray) (n0 : Nat) (h : ScSt w g s k ln bad) (hs : s.size ≤ 20000) (hk : k < s.size) (h1 : isAt s k 1 = false) (h2 : isAt s k 2 = false)
    (hq : ((s[k].toNat : Int) == 34) = false) (hq2 : ((s[k].toNat : Int) == 39) = false)
    (hn : n0 ≤ 13)
    (hc : ∀ wx, ScSt wx g s k ln bad → Calls Tryz.prog 83 #[.pointer (some ⟨g, 0, none⟩)] wx fun e w' => e = .returned (.tuple #[.string x, .int .i64 n0, .bool true]) ∧ ScSt w' g s k ln bad ∧ Ch g wx w') :
    Calls Tryz.prog 62 #[.pointer (some ⟨g, 0, none⟩)] w fun e w' => e = .returned (.tuple #[.agg #[.int .i64 3, .int .i64 k, .string x], .bool true]) ∧ ScSt w' g s (k + n0) ln bad ∧ Ch g w w' := by
  have HS := Lib.hid h
  have hz := blk_lt h
  have H1 := Lib.hid h1
  have H2 := Lib.hid h2
  obtain ⟨c0, c1, c258, c259, c260⟩ := sc_cells h
  have f1 := sc_frozen h 1
  have b1 : decide ((k : Int) < s.size) = true := by simp; omega
  have b2 : decide ((0:Int) ≤ (k : Int)) = true := by simp
  have HC := Lib.hid hc
  clear hc
  clear h h1 h2
  have m0 : w.heap.size ≠ g := by omega
  go_enter Tryz.func62, Tryz.ntmps62
  go_wp2_with (first | (go_at_call 77; ((with_reducible refine (is1 _ g s k k ln bad false ((HS.out.alloc _).alloc _) hs H1.out).mono ?_); rintro e w' ⟨rfl, n, rfl⟩)) | (go_at_call 77; ((with_reducible refine (is2 _ g s k k ln bad false (((HS.out.alloc _).alloc _).drewN _) hs H2.out).mono ?_); rintro e w' ⟨rfl, n2, rfl⟩)) | (go_at_call 83; refine (HC.out _ (((HS.out.alloc _).alloc _).drewN _)).mono ?_; rintro e w1 ⟨rfl, hs1, hc1⟩; have HS1 := Lib.hid hs1; have HC1 := Lib.hid hc1; obtain ⟨d0, d1, _, _, _⟩ := sc_cells hs1; have e1 := sc_frozen hs1 1; clear hs1 hc1; have zz := Lib.hid (blk_ch HC1.out (blk_alloc (blk_new w #[.int .i64 0, .int .i64 0, .string ⟨#[]⟩] 49) _) m0); have r0 : w1.cell? ⟨w.heap.size, 0, none⟩ = some (.int .i64 0) := (blk_cell zz.out 0).trans rfl; have r1 : w1.cell? ⟨w.heap.size, 1, none⟩ = some (.int .i64 0) := (blk_cell zz.out 1).trans rfl; have r2 : w1.cell? ⟨w.heap.size, 2, none⟩ = some (.string ⟨#[]⟩) := (blk_cell zz.out 2).trans rfl; have q0 := blk_frozen zz.out 0; have q1 := blk_frozen zz.out 1; have q2 := blk_frozen zz.out 2))
  refine bodyPost_ret (v := .tuple #[.agg #[.int .i64 3, .int .i64 k, .string x], .bool true]) (by simp [results, Tryz.results62, go_sem, r0, r1, r2]) rfl ⟨rfl, ?_, ?_⟩
  · have HS := HS1
    (repeat (first | with_reducible exact HS.out | with_reducible apply ScSt.drewN | with_reducible apply ScSt.drew | with_reducible apply ScSt.alloc | with_reducible apply ScSt.setLine | ((with_reducible apply ScSt.setAtI); (case e => first | omega | rfl)) | with_reducible apply ScSt.setBad | with_reducible refine ScSt.other ?_ (by first | omega | (simp; done) | (simp; omega)) _))
  · have HCH := Lib.hid ((((Ch.refl g w).alloc _).alloc _).drewN _ |>.trans HC1.out)
    (repeat (first | with_reducible exact Ch.refl _ _ | with_reducible exact HCH.out | with_reducible apply Ch.drewN | with_reducible apply Ch.drew | with_reducible apply Ch.alloc | with_reducible apply Ch.set | with_reducible refine Ch.setNew ?_ (by first | omega | (simp; done) | (simp; omega)) _))

set_option maxHeartbeats 2000000 in
set_option maxRecDepth 100000 in
theorem token_sign (w : World) (g : Nat) (s : ByteArray) (k : Nat) (ln : Bool) (bad : Int) (a : Int) (x : ByteArray) (r : Bool) (k2 : Nat) (bad2 : Int) (dx : ByteArray) (dn : Int) (h : ScSt w g s k ln bad) (hs : s.size ≤ 20000) (hk : k < s.size) (h1 : isAt s k 1 = false) (h2 : isAt s k 2 = false)
    (hq : ((s[k].toNat : Int) == 34) = false) (hq2 : ((s[k].toNat : Int) == 39) = false)
    (hc : ∀ wx, ScSt wx g s k ln bad → Calls Tryz.prog 83 #[.pointer (some ⟨g, 0, none⟩)] wx fun e w' => e = .returned (.tuple #[.string dx, .int .i64 dn, .bool false]) ∧ ScSt w' g s k ln bad ∧ Ch g wx w')
    (hsg : ∀ wx, ScSt wx g s k ln bad → Ch g w wx → Calls Tryz.prog 84 #[.pointer (some ⟨g, 0, none⟩), .agg #[.int .i64 0, .int .i64 k, .string ⟨#[]⟩]] wx fun e w' => e = .returned (.tuple #[.agg #[.int .i64 a, .int .i64 k, .string x], .bool r]) ∧ ScSt w' g s k2 ln bad2 ∧ Ch g wx w') :
    Calls Tryz.prog 62 #[.pointer (some ⟨g, 0, none⟩)] w fun e w' => e = .returned (.tuple #[.agg #[.int .i64 a, .int .i64 k, .string x], .bool r]) ∧ ScSt w' g s k2 ln bad2 ∧ Ch g w w' := by
  have HS := Lib.hid h
  have hz := blk_lt h
  have H1 := Lib.hid h1
  have H2 := Lib.hid h2
  obtain ⟨c0, c1, c258, c259, c260⟩ := sc_cells h
  have f1 := sc_frozen h 1
  have b1 : decide ((k : Int) < s.size) = true := by simp; omega
  have b2 : decide ((0:Int) ≤ (k : Int)) = true := by simp
  have HC := Lib.hid hc
  have HG := Lib.hid hsg
  clear hc hsg
  clear h h1 h2
  have m0 : w.heap.size ≠ g := by omega
  have m1 : w.heap.size + 1 ≠ g := by omega
  go_enter Tryz.func62, Tryz.ntmps62
  go_wp2_with (first | (go_at_call 77; ((with_reducible refine (is1 _ g s k k ln bad false ((HS.out.alloc _).alloc _) hs H1.out).mono ?_); rintro e w' ⟨rfl, n, rfl⟩)) | (go_at_call 77; ((with_reducible refine (is2 _ g s k k ln bad false (((HS.out.alloc _).alloc _).drewN _) hs H2.out).mono ?_); rintro e w' ⟨rfl, n2, rfl⟩)) | (go_at_call 83; refine (HC.out _ (((HS.out.alloc _).alloc _).drewN _)).mono ?_; rintro e w1 ⟨rfl, hs1, hc1⟩; have HS1 := Lib.hid hs1; have HC1 := Lib.hid hc1; clear hs1 hc1; have zt := Lib.hid (blk_ch HC1.out (new2 w (.cells #[.int .i64 0, .int .i64 0, .string ⟨#[]⟩] 49) #[.int .i64 0, .int .i64 k, .string ⟨#[]⟩] 49) m1); have zz := Lib.hid (blk_ch HC1.out (blk_alloc (blk_new w #[.int .i64 0, .int .i64 0, .string ⟨#[]⟩] 49) _) m0); have t0 : w1.cell? ⟨w.heap.size + 1, 0, none⟩ = some (.int .i64 0) := (blk_cell zt.out 0).trans rfl; have t1 : w1.cell? ⟨w.heap.size + 1, 1, none⟩ = some (.int .i64 k) := (blk_cell zt.out 1).trans rfl; have t2 : w1.cell? ⟨w.heap.size + 1, 2, none⟩ = some (.string ⟨#[]⟩) := (blk_cell zt.out 2).trans rfl) | (go_at_call 84; refine (HG.out _ HS1.out ((((Ch.refl g w).alloc _).alloc _).drewN _ |>.trans HC1.out)).mono ?_; rintro e w2 ⟨rfl, hs2, hc2⟩; have HS2 := Lib.hid hs2; have HC2 := Lib.hid hc2; clear hs2 hc2; have zy := Lib.hid (blk_ch HC2.out zz.out m0); have r0 : w2.cell? ⟨w.heap.size, 0, none⟩ = some (.int .i64 0) := (blk_cell zy.out 0).trans rfl; have r1 : w2.cell? ⟨w.heap.size, 1, none⟩ = some (.int .i64 0) := (blk_cell zy.out 1).trans rfl; have r2 : w2.cell? ⟨w.heap.size, 2, none⟩ = some (.string ⟨#[]⟩) := (blk_cell zy.out 2).trans rfl; have q0 := blk_frozen zy.out 0; have q1 := blk_frozen zy.out 1; have q2 := blk_frozen zy.out 2))
  refine bodyPost_ret (v := .tuple #[.agg #[.int .i64 a, .int .i64 k, .string x], .bool r]) (by simp [results, Tryz.results62, go_sem, r0, r1, r2]) rfl ⟨rfl, ?_, ?_⟩
  · exact ((HS2.out.other (by simp; omega) _).other (by simp; omega) _).other (by simp; omega) _
  · have HCH := Lib.hid (((((Ch.refl g w).alloc _).alloc _).drewN _ |>.trans HC1.out).trans HC2.out)
    (repeat (first | with_reducible exact Ch.refl _ _ | with_reducible exact HCH.out | with_reducible apply Ch.drewN | with_reducible apply Ch.drew | with_reducible apply Ch.alloc | with_reducible apply Ch.set | with_reducible refine Ch.setNew ?_ (by first | omega | (simp; done) | (simp; omega)) _))

end Go.Proofs.YtpnfcgmogjpliaaGreatDoor
