/- For every slice of tokens whose text is of at most 100,000,000 bytes the program's Join answers what the document's Join answers, and the law's own example holds. -/
import Derived.Test.YtpnfcgmogjpliaaGreatDoorRWri
import Derived.Test.YtpnfcgmogjpliaaGreatDoorOver
namespace Go.Proofs.YtpnfcgmogjpliaaGreatDoor
open Go.RowKit
attribute [local go_sem ↓] Go.wp_at_zero Go.wp_at_succ

theorem written_le (t : LexM.Kt) : (LexM.written t).length ≤ t.2.length + 6 := by
  unfold LexM.written
  split
  · split <;> simp
  · split
    · split
      · rename_i h
        simp
        omega
      · simp
    · omega
/-- What tokens weigh: their texts' letters, and one each. -/
def tvBulk (l : List Tv) : Nat := (l.map fun t => t.text.size + 1).sum
theorem joinM_le : ∀ (l : List Tv) (b : Bool), (LexM.joinM (l.map Tv.kt) b).length ≤ 7 * tvBulk l
  | [], b => by simp [LexM.joinM]
  | t :: l, b => by
    have h := written_le t.kt
    have e : t.kt.2.length = t.text.size := bs_length _
    have i1 := joinM_le l false
    have i2 := joinM_le l true
    have hb : tvBulk (t :: l) = t.text.size + 1 + tvBulk l := by simp [tvBulk]
    rw [List.map_cons]
    unfold LexM.joinM
    rw [hb]
    split
    · rw [List.length_cons]
      omega
    · rw [List.length_append, List.length_append]
      have : (if b = true then [32] else [] : List UInt8).length ≤ 1 := by cases b <;> simp
      omega

set_option maxHeartbeats 1000000 in
set_option maxRecDepth 100000 in
theorem lexJoins_calls (w : World) (A : Option Addr) (l : List Tv) (n ca : Nat) (ha : TokS w A l) (hn : l.length = n) (hl : n ≤ 1048576) (hB : tvBulk l ≤ 1048576) (hT : Tabs w w) :
    Calls Tryz.prog 4 #[.slice A n ca] w fun e w' => e = .returned (.bool true) ∧ Below w.heap.size w w' := by
  have hk := fun wx (hb : Below w.heap.size w wx) => known_calls w wx (hT.belowN hb)
  have HK := Lib.hid hk
  clear hk
  have ho := over_calls w A l n ca ha hn (by omega) _ rfl
  have hRl : (LexM.joinM (l.map Tv.kt) false).length ≤ 100000000 := by
    have := joinM_le l false
    omega
  obtain ⟨x, er, hq⟩ : ∃ x er, LexM.joinRes (l.map Tv.kt) = (x, er) := ⟨_, _, rfl⟩
  have h1 := join_calls w w A l n ca ha hn (by omega) hT hRl x er hq
  have h2 := fun wx (hx : Below w.heap.size w wx) => rjoin_calls wx A l n ca (ha.below hx) hn (by omega) hRl x er hq
  have hxx : decide ((⟨x.toArray⟩ : ByteArray).toList = (⟨x.toArray⟩ : ByteArray).toList) = true := by simp
  obtain ⟨X, hX⟩ : ∃ X : ByteArray, (⟨x.toArray⟩ : ByteArray) = X := ⟨_, rfl⟩
  rw [hX] at h1 h2
  have H1 := Lib.hid h1
  have H2 := Lib.hid h2
  cases q : decide (20000 < ovSum l) with
  | true =>
    rw [q] at ho
    have HO := Lib.hid ho
    clear ho q h1 h2 ha hn hT hRl hq hB hX hxx
    go_enter Tryz.func4, Tryz.ntmps4
    go_wp2_with (first
      | (go_at_call 12; refine HO.out.mono ?_; rintro e w' ⟨rfl, rfl⟩)
      | (go_at_call 8; refine (HK.out _ (Below.refl _ _)).mono ?_; rintro e w1 ⟨rfl, hb1⟩; have HB1 := Lib.hid hb1; clear hb1))
    go_ret
    exact ⟨rfl, HB1.out⟩
  | false =>
    rw [q] at ho
    have HO := Lib.hid ho
    clear ho q h1 h2 ha hn hT hRl hq hB hX hxx
    go_enter Tryz.func4, Tryz.ntmps4
    go_wp2_with (first
      | (go_at_call 12; refine HO.out.mono ?_; rintro e w' ⟨rfl, rfl⟩)
      | (go_at_call 13; refine H1.out.mono ?_; rintro e w1 ⟨rfl, hb1⟩; have HB1 := Lib.hid hb1; clear hb1)
      | (go_at_call 14; refine (H2.out _ HB1.out).mono ?_; rintro e w2 ⟨rfl, hb2⟩; have HB2 := Lib.hid (HB1.out.trans (hb2.mono HB1.out.size)); clear hb2)
      | (go_at_call 8; refine (HK.out _ HB2.out).mono ?_; rintro e w4 ⟨rfl, hb4⟩; have HB4 := Lib.hid (HB2.out.trans (hb4.mono HB2.out.size)); clear hb4))
    go_ret
    exact ⟨rfl, HB4.out⟩

end Go.Proofs.YtpnfcgmogjpliaaGreatDoor
