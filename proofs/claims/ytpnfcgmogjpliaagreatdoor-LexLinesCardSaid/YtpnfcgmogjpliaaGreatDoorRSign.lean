/- The document's signAt answers what the model says. -/
import Derived.Test.YtpnfcgmogjpliaaGreatDoorRCap
import Derived.Test.YtpnfcgmogjpliaaGreatDoorSc6
namespace Go.Proofs.YtpnfcgmogjpliaaGreatDoor
open Go.RowKit
attribute [local go_sem ↓] Go.wp_at_zero Go.wp_at_succ

set_option maxRecDepth 100000 in
theorem rsigns_calls (w : World) : Calls Tryz.prog 87 #[] w fun e w' => e = .returned (.slice (some ⟨w.heap.size, 0, none⟩) 38 38) ∧ w' = w.alloc (.cells signV.toArray 9) := by
  go_enter Tryz.func87, Tryz.ntmps87
  go_wp2
  go_ret
  exact ⟨rfl, rfl⟩

theorem bel_drewN' {n : Nat} {w w' : World} (h : Below n w w') (q : Nat) : Below n w (w'.drewN q) := ⟨h.os, h.tape, h.output, h.size, h.block⟩
theorem bel_drew {n : Nat} {w w' : World} (h : Below n w w') : Below n w w'.drew := ⟨h.os, h.tape, h.output, h.size, h.block⟩
/-- What signAt returns. -/
def signR (r : List UInt8) : List UInt8 := (LexM.signM r).getD []

set_option maxHeartbeats 2000000 in
set_option maxRecDepth 100000 in
theorem rsign_calls (w : World) (s : ByteArray) (k : Nat) (hs : s.size ≤ 20000) (hk : k < s.size) :
    Calls Tryz.prog 72 #[.string s, .int .i64 k] w fun e w' => e = .returned (.string ⟨(signR ((bs s).drop k)).toArray⟩) ∧ Below w.heap.size w w' := by
  obtain ⟨R, hR⟩ : ∃ R : ByteArray, (⟨(signR ((bs s).drop k)).toArray⟩ : ByteArray) = R := ⟨_, rfl⟩
  rw [hR]
  have HR := Lib.hid hR
  clear hR
  go_enter Tryz.func72, Tryz.ntmps72
  go_wp2_with (go_at_call 87; refine (rsigns_calls _).mono ?_; rintro e w' ⟨rfl, rfl⟩)
  go_loopg [6] 38 (fun q u wr => ∃ i : Nat, u = .int .i64 i ∧ i ≤ 38 ∧ q = 38 - i ∧ Aside ((LexM.signs.drop i).find? (signP ((bs s).drop k)) = LexM.signM ((bs s).drop k)) ∧ Aside (Below w.heap.size w wr)
    ∧ Aside (wr.heap[w.heap.size]? = some (.cells signV.toArray 9 (0, 0))))
  case atStart => exact ⟨0, rfl, by omega, by omega, rfl, (Below.refl _ w).alloc (Nat.le_refl _) _, blk_new w _ _⟩
  case round =>
    obtain ⟨i, rfl, hi, rfl, hfi, hB, ha2⟩ := hrel
    have hlt := blk_lt ha2.out
    by_cases hi38 : i < 38
    · obtain ⟨l, hl, hl1, hl6, hlA⟩ := sign_at hi38
      have hcons := sign_drop hl
      have hsz : (⟨l.toArray⟩ : ByteArray).size = l.length := by simp [ByteArray.size]
      have v0 : wr.cell? ⟨w.heap.size, i, none⟩ = some (.string ⟨l.toArray⟩) := by
        rw [blk_cell ha2.out]
        simp [signV, hl]
      have hWl : (⟨l.toArray⟩ : ByteArray).toList = l := by rw [Lib.toList_data]
      obtain ⟨W, hW⟩ : ∃ W : ByteArray, (⟨l.toArray⟩ : ByteArray) = W := ⟨_, rfl⟩
      rw [hW] at v0 hsz hWl
      have hWs1 : 1 ≤ W.size := by omega
      have hWs : W.size ≤ 6 := by omega
      by_cases hfit : k + W.size ≤ s.size
      · obtain ⟨x, hx⟩ : ∃ x, s.extract k (k + W.size) = x := ⟨_, rfl⟩
        have hsl := slice_run s k (k + W.size) k ((k : Int) + W.size) rfl (by omega) (by omega) hfit
        rw [hx] at hsl
        have hxb : bs x = ((bs s).drop k).take l.length := by
          rw [← hx, ← hsz]
          exact (Lib.extract_data s k (k + W.size)).trans (by rw [Nat.add_sub_cancel_left])
        have hxs : x.size ≤ 6 := by rw [← hx]; simp; omega
        obtain ⟨y, hy⟩ : ∃ y : ByteArray, (⟨(LexM.caps (bs x)).toArray⟩ : ByteArray) = y := ⟨_, rfl⟩
        have hcmp : (y.toList == W.toList) = signP ((bs s).drop k) l := by
          rw [hWl, ← hy, Lib.toList_data]
          show (LexM.caps (bs x) == l) = _
          rw [hxb]
          rfl
        have hup : ∀ wx, wx.cell? ⟨w.heap.size, i, none⟩ = some (.string W) → Calls Tryz.prog 68 #[.string x] wx fun e w' => e = .returned (.string y) ∧ Below wx.heap.size wx w' ∧ w'.cell? ⟨w.heap.size, i, none⟩ = some (.string W) := fun wx k0 => by
          refine (capitals_calls wx x (by omega)).mono fun e w' he => ⟨?_, he.2, ?_⟩
          · rw [he.1, hy]
          · exact (he.2.cell (World.block_lt_of_cell? wx _ k0)).trans k0
        have HUP := Lib.hid hup
        have b1 : decide ((k : Int) + W.size ≤ s.size) = true := by simp; omega
        cases hp : signP ((bs s).drop k) l with
        | true =>
          rw [hp] at hcmp
          have hfl : (⟨(signR ((bs s).drop k)).toArray⟩ : ByteArray) = W := by
            unfold signR
            rw [← hfi.out, hcons, List.find?_cons, hp]
            exact hW
          have HFL := Lib.hid hfl
          clear hl hcons hsz hWl hW hxb hup hfl hp hx hy
          go_wp2
          go_region_held3 (fun w' => w'.cell? ⟨w.heap.size, i, none⟩ = some (.string W)) (go_keep) (first | (go_at_call 68; refine (HUP.out wr.drew v0).mono ?_; rintro e w1 ⟨rfl, hb1, k0⟩))
          go_wp2
          go_ret
          exact ⟨by (rw [← HR.out, HFL.out]; rfl), (bel_drew hB.out).trans (hb1.mono hB.out.size)⟩
        | false =>
          rw [hp] at hcmp
          have hfl : (LexM.signs.drop (i + 1)).find? (signP ((bs s).drop k)) = LexM.signM ((bs s).drop k) := by rw [← hfi.out, hcons, List.find?_cons, hp]
          have HFL := Lib.hid hfl
          clear hl hcons hsz hWl hW hxb hup hfl hp hx hy
          go_wp2
          go_region_held3 (fun w' => w'.cell? ⟨w.heap.size, i, none⟩ = some (.string W)) (go_keep) (first | (go_at_call 68; refine (HUP.out wr.drew v0).mono ?_; rintro e w1 ⟨rfl, hb1, k0⟩))
          go_wp2
          go_roundg (38 - (i + 1))
          case measure => omega
          case rel => exact ⟨i + 1, by go_num, by omega, rfl, HFL.out, (bel_drew hB.out).trans (hb1.mono hB.out.size), (hb1.block _ (blk_lt ha2.out)).trans ha2.out⟩
      · have b1 : decide ((k : Int) + W.size ≤ s.size) = false := by simp; omega
        have hp : signP ((bs s).drop k) l = false := by
          unfold signP
          rw [beq_eq_false_iff_ne]
          intro e
          have : (LexM.caps (((bs s).drop k).take l.length)).length = l.length := by rw [e]
          rw [LexM.caps_length, List.length_take, List.length_drop, bs_length] at this
          omega
        have hfl : (LexM.signs.drop (i + 1)).find? (signP ((bs s).drop k)) = LexM.signM ((bs s).drop k) := by rw [← hfi.out, hcons, List.find?_cons, hp]
        have HFL := Lib.hid hfl
        clear hl hcons hsz hWl hW hfl hp
        go_wp2
        go_quiet (fail)
        go_wp2
        go_roundg (38 - (i + 1))
        case measure => omega
        case rel => exact ⟨i + 1, by go_num, by omega, rfl, HFL.out, bel_drewN' hB.out _, ha2.out⟩
    · obtain rfl : i = 38 := by omega
      have hnone : LexM.signM ((bs s).drop k) = none := by rw [← hfi.out]; rfl
      have hfl : (⟨(signR ((bs s).drop k)).toArray⟩ : ByteArray) = ⟨#[]⟩ := by
        unfold signR
        rw [hnone]
        rfl
      have HFL := Lib.hid hfl
      clear hfl hnone
      go_wp2
      go_ret
      exact ⟨by (rw [← HR.out, HFL.out]; rfl), hB.out⟩

end Go.Proofs.YtpnfcgmogjpliaaGreatDoor
