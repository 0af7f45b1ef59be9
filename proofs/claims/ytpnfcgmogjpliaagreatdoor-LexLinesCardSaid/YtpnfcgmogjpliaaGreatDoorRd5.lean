/- The document's reader: quoted. -/
import Derived.Test.YtpnfcgmogjpliaaGreatDoorRd4
namespace Go.Proofs.YtpnfcgmogjpliaaGreatDoor
open Go.RowKit
attribute [local go_sem ↓] Go.wp_at_zero Go.wp_at_succ

/-- Where a text that begins at k ends, if it does: the bytes up to its quote or the line's end. -/
def quoteTo (s : ByteArray) (k : Nat) (b : UInt8) : Nat := twTo (fun c => c != 10 && c != b) s (k + 1)

/-- Behind what is wrong at p. -/
def RdBad (w : World) (g : Nat) (s : ByteArray) (ob : Nat) (p : Nat) : Prop := ∃ k ln out, out.length ≤ 50001 ∧ RdSt w g s k ln p ob out

/-- A text's loop, up to its end. -/
theorem quote_ne {s : ByteArray} {i : Nat} (b : UInt8) (h : i < s.size) (h10 : ((s[i].toNat : Int) != 10) = true) (hb : ((s[i].toNat : Int) != (b.toNat : Int)) = true) : twTo (fun c => c != 10 && c != b) s (i + 1) = twTo (fun c => c != 10 && c != b) s i := by
  refine twTo_yes h ?_
  have e0 := ne_int s[i] 10
  rw [show (((10 : UInt8).toNat : Nat) : Int) = 10 from rfl, h10] at e0
  have e1 := ne_int s[i] b
  rw [hb] at e1
  simp only [bne, Bool.and_eq_true]
  exact ⟨e0.symm, e1.symm⟩

set_option maxHeartbeats 2000000 in
set_option maxRecDepth 100000 in
theorem rquoted_none (w : World) (g : Nat) (s : ByteArray) (k : Nat) (ln : Bool) (ob : Nat) (out : List LexM.Tk) (h : RdSt w g s k ln (-1) ob out) (hs : s.size ≤ 20000) (hk : k < s.size) (hg : g < ob) (_hob : ob ≤ w.heap.size)
    (b : UInt8) (hb : s[k] = b) (hE : s.size ≤ quoteTo s k b ∨ ∃ hE : quoteTo s k b < s.size, s[quoteTo s k b] = 10) :
    Calls Tryz.prog 70 #[.pointer (some ⟨g, 0, none⟩)] w fun e w' => e = .returned (.tuple #[]) ∧ RdSt w' g s k ln k ob out ∧ Below g w w' := by
  obtain ⟨v, h, hrow⟩ := h
  obtain ⟨c0, c1, c2, c3, c4⟩ := rd_cells h
  obtain ⟨E, hEE⟩ : ∃ E, quoteTo s k b = E := ⟨_, rfl⟩
  have hix := index_run s k (k : Int) rfl hk
  rw [hb] at hix
  have hfl : ∀ wx, RdB wx g s k ln (-1) v → Calls Tryz.prog 64 #[.pointer (some ⟨g, 0, none⟩), .int .i64 k] wx fun e w' => e = .returned (.tuple #[]) ∧ RdB w' g s k ln k v ∧ Ch g wx w' := fun wx hx => rfails_set wx g s k ln _ v hx k (by decide)
  have HFL := Lib.hid hfl
  have H := Lib.hid h
  have HROW := Lib.hid hrow
  have HEE := Lib.hid hEE
  have hE' : s.size ≤ E ∨ ∃ hE : E < s.size, s[E] = 10 := by subst hEE; exact hE
  have HE := Lib.hid hE'
  have hz := blk_lt h
  clear h hrow hE hfl hEE hE' hb
  go_enter Tryz.func70, Tryz.ntmps70
  go_wp2
  go_quiet (fail)
  go_wp2
  go_loopg [3] (s.size - (k + 1)) (fun q u wr => ∃ i : Nat, u = .int .i64 i ∧ i ≤ s.size ∧ q = s.size - i ∧ Aside (twTo (fun c => c != 10 && c != b) s i = E) ∧ ∃ d, wr = w.drewN d)
  case atStart => exact ⟨k + 1, by go_num, by omega, rfl, HEE.out, _, rfl⟩
  case round =>
    obtain ⟨i, rfl, hi, rfl, hT, d, rfl⟩ := hrel
    by_cases hlt : i < s.size
    · have b0 : decide (s.size ≤ i) = false := by simp; omega
      have e10 := ne_int s[i] 10
      rw [show (((10 : UInt8).toNat : Nat) : Int) = 10 from rfl] at e10
      have eb := ne_int s[i] b
      cases q10 : ((s[i].toNat : Int) != 10) with
      | true =>
        cases qb : ((s[i].toNat : Int) != (b.toNat : Int)) with
        | true =>
          have hn := quote_ne b hlt q10 qb
          have HT : Hid (twTo (fun c => c != 10 && c != b) s (i + 1) = E) := Lib.hid (hn.trans hT.out)
          clear e10 eb hn
          go_wp2
          go_roundg (s.size - (i + 1))
          case measure => omega
          case rel => exact ⟨i + 1, by go_num, by omega, rfl, HT.out, _, rfl⟩
        | false =>
          have hEi : i = E := by
            rw [← hT.out, twTo_no hlt (by rw [qb] at eb; simp only [bne, Bool.and_eq_false_iff]; exact .inr eb.symm)]
          subst hEi
          rcases HE.out with h | ⟨_, h⟩
          · omega
          · rw [h] at q10
            cases q10
      | false =>
        have q10' : ((s[i].toNat : Int) == 10) = true := by
          rw [bne] at q10
          simpa using q10
        clear e10 eb
        go_wp2_with (go_at_call 64; refine (HFL.out _ (H.out.drewN _)).mono ?_; rintro e w1 ⟨rfl, hr1, hc1⟩; have HR1 := Lib.hid hr1; have HC1 := Lib.hid hc1; clear hr1 hc1)
        refine bodyPost_ret (results_none rfl _ _ _) rfl ?_
        exact ⟨rfl, ⟨v, HR1.out, row_ch HROW.out (((Ch.refl g w).drewN _).trans HC1.out) hg⟩, (((Ch.refl g w).drewN _).trans HC1.out).below (Nat.le_refl _) (by omega)⟩
    · obtain rfl : i = s.size := by omega
      go_wp2_with (go_at_call 64; refine (HFL.out _ (H.out.drewN _)).mono ?_; rintro e w1 ⟨rfl, hr1, hc1⟩; have HR1 := Lib.hid hr1; have HC1 := Lib.hid hc1; clear hr1 hc1)
      refine bodyPost_ret (results_none rfl _ _ _) rfl ?_
      exact ⟨rfl, ⟨v, HR1.out, row_ch HROW.out (((Ch.refl g w).drewN _).trans HC1.out) hg⟩, (((Ch.refl g w).drewN _).trans HC1.out).below (Nat.le_refl _) (by omega)⟩

theorem RdSt.drewN {w : World} {g : Nat} {s : ByteArray} {k : Nat} {ln : Bool} {wrong : Int} {ob : Nat} {out : List LexM.Tk} (h : RdSt w g s k ln wrong ob out) (n : Nat) : RdSt (w.drewN n) g s k ln wrong ob out := h
theorem RdSt.drew {w : World} {g : Nat} {s : ByteArray} {k : Nat} {ln : Bool} {wrong : Int} {ob : Nat} {out : List LexM.Tk} (h : RdSt w g s k ln wrong ob out) : RdSt w.drew g s k ln wrong ob out := h

set_option maxHeartbeats 2000000 in
set_option maxRecDepth 100000 in
theorem rquoted_some (w : World) (g : Nat) (s : ByteArray) (k : Nat) (ln : Bool) (ob : Nat) (out : List LexM.Tk) (h : RdSt w g s k ln (-1) ob out) (hs : s.size ≤ 20000) (hk : k < s.size) (hg : g < ob) (hob : ob ≤ w.heap.size) (hlen : out.length ≤ 50000)
    (b : UInt8) (hb : s[k] = b) (E : Nat) (hEE : quoteTo s k b = E) (hEs : E < s.size) (hEb : s[E] = b) (hE10 : s[E] ≠ 10) :
    Calls Tryz.prog 70 #[.pointer (some ⟨g, 0, none⟩)] w fun e w' => e = .returned (.tuple #[]) ∧ RdSt w' g s (E + 1) true (wV (fwTo s k E)) ob (out ++ [⟨2, k, bs (s.extract (k + 1) E)⟩]) ∧ Below g w w' := by
  obtain ⟨v, h, hrow⟩ := h
  obtain ⟨c0, c1, c2, c3, c4⟩ := rd_cells h
  have hix := index_run s k (k : Int) rfl hk
  rw [hb] at hix
  have hkE : k + 1 ≤ E := by rw [← hEE]; exact (twTo_le (by omega)).1
  have hput : ∀ wx, RdB wx g s k ln (wV (fwTo s k E)) v → wx.ownsRow ob 49 3 v out.length (tkCells out) → ob ≤ wx.heap.size → Calls Tryz.prog 67 #[.pointer (some ⟨g, 0, none⟩), .int .i64 2, .string (s.extract (k + 1) E), .int .i64 ((E : Int) + 1 - k)] wx fun e w' => e = .returned (.tuple #[]) ∧ RdSt w' g s (E + 1) true (wV (fwTo s k E)) ob (out ++ [⟨2, k, bs (s.extract (k + 1) E)⟩]) ∧ Below g wx w' := fun wx hx hr hz => by
    have hp := rput_calls wx g s k ln (wV (fwTo s k E)) ob out ⟨v, hx, hr⟩ hs (by omega) hg hz hlen 2 (s.extract (k + 1) E) (E + 1 - k) (by omega)
    rw [show k + (E + 1 - k) = E + 1 from by omega, show ((E + 1 - k : Nat) : Int) = (E : Int) + 1 - k from by omega] at hp
    exact hp
  have H := Lib.hid h
  have HROW := Lib.hid hrow
  have HEE := Lib.hid hEE
  have HPUT := Lib.hid hput
  have hz := blk_lt h
  have hsl := slice_run s (k + 1) E ((k : Int) + 1) E (by omega) rfl (by omega) (by omega)
  have hw1 : IntKind.i64.wrap ((k : Int) + 1) = (k : Int) + 1 := wrap_small _ (by omega) (by omega)
  have hw2 : IntKind.i64.wrap ((E : Int) + 1) = (E : Int) + 1 := wrap_small _ (by omega) (by omega)
  have hw3 : IntKind.i64.wrap ((E : Int) + 1 - k) = (E : Int) + 1 - k := wrap_small _ (by omega) (by omega)
  have HW := Lib.hid (And.intro hw1 (And.intro hw2 hw3))
  have HSL := Lib.hid hsl
  clear h hrow hEE hb hput hw1 hw2 hw3 hsl
  go_enter Tryz.func70, Tryz.ntmps70
  go_wp2
  go_quiet (fail)
  go_wp2
  go_loopg [3] (s.size - (k + 1)) (fun q u wr => ∃ i : Nat, u = .int .i64 i ∧ i ≤ s.size ∧ q = s.size - i ∧ Aside (twTo (fun c => c != 10 && c != b) s i = E) ∧ ∃ d, wr = w.drewN d)
  case atStart => exact ⟨k + 1, by go_num, by omega, rfl, HEE.out, _, rfl⟩
  case round =>
    obtain ⟨i, rfl, hi, rfl, hT, d, rfl⟩ := hrel
    have hiE : i ≤ E := by rw [← hT.out]; exact (twTo_le hi).1
    have hlt : i < s.size := by omega
    by_cases hie : i = E
    · subst hie
      have q10 : ((s[i].toNat : Int) != 10) = true := by
        have e := ne_int s[i] 10
        rw [show (((10 : UInt8).toNat : Nat) : Int) = 10 from rfl] at e
        rw [e]
        simpa using hE10
      have q10' : ((s[i].toNat : Int) == 10) = false := by
        rw [bne] at q10
        simpa using q10
      have qb : ((s[i].toNat : Int) != (b.toNat : Int)) = false := by
        rw [ne_int, hEb]
        simp
      have HH := Lib.hid (H.out.drewN d)
      have hlt2 : decide (s.size ≤ i) = false := by simp; omega
      clear hE10 hEb hT HEE
      go_wp2
      go_loopg [4] (i - k) (fun q u wr => ∃ j : Nat, u = .int .i64 j ∧ k ≤ j ∧ j ≤ i ∧ q = i - j ∧ Aside (RdB wr g s k ln (wV (fwTo s k j)) v) ∧ Aside (Ch g w wr))
      case atStart => exact ⟨k, rfl, Nat.le_refl _, by omega, rfl, by rw [fwTo_start]; exact HH.out, (Ch.refl g w).drewN _⟩
      case round =>
        obtain ⟨j, rfl, hj1, hj2, rfl, hr, hch⟩ := hrel
        obtain ⟨d0, d1, d2, d3, d4⟩ := rd_cells hr.out
        by_cases hji : j < i
        · have hjs : j < s.size := by omega
          have hbj : decide (j < i) = true := by simpa using hji
          have hst := fwTo_step hj1 hjs
          have hby := fun wx => rByte_calls wx s[j]
          cases hw : LexM.isWrong s[j] with
          | false =>
            rw [hw] at hst hby
            have hst' : fwTo s k (j + 1) = fwTo s k j := by
              rw [hst]
              cases fwTo s k j <;> rfl
            have HBY := Lib.hid hby
            have HST := Lib.hid hst'
            clear hst hby hw hst'
            go_wp2_with (go_at_call 63; refine (HBY.out _).mono ?_; rintro e w' ⟨rfl, rfl⟩)
            go_roundg (i - (j + 1))
            case measure => omega
            case rel => exact ⟨j + 1, by go_num, by omega, by omega, rfl, by rw [HST.out]; exact hr.out, hch.out⟩
          | true =>
            rw [hw] at hst hby
            have hfl : ∀ wx, RdB wx g s k ln (wV (fwTo s k j)) v → Calls Tryz.prog 64 #[.pointer (some ⟨g, 0, none⟩), .int .i64 j] wx fun e w' => e = .returned (.tuple #[]) ∧ RdB w' g s k ln (wV (fwTo s k (j + 1))) v ∧ Ch g wx w' := fun wx hx => by
              rw [hst]
              cases hf : fwTo s k j with
              | none =>
                rw [hf] at hx
                exact rfails_set wx g s k ln _ v hx j (by decide)
              | some p =>
                rw [hf] at hx
                exact rfails_keep wx g s k ln p v hx j (Nat.le_of_lt (fwTo_lt hj1 hf))
            have HBY := Lib.hid hby
            have HFL := Lib.hid hfl
            clear hst hby hw hfl
            go_wp2_with (first
              | (go_at_call 63; refine (HBY.out _).mono ?_; rintro e w' ⟨rfl, rfl⟩)
              | (go_at_call 64; refine (HFL.out _ hr.out).mono ?_; rintro e w1 ⟨rfl, hr1, hc1⟩; have HR1 := Lib.hid hr1; have HC1 := Lib.hid hc1; clear hr1 hc1))
            go_roundg (i - (j + 1))
            case measure => omega
            case rel => exact ⟨j + 1, by go_num, by omega, by omega, rfl, HR1.out, hch.out.trans HC1.out⟩
        · obtain rfl : j = i := by omega
          have hrow2 := row_ch HROW.out hch.out hg
          have hz2 := hch.out.size
          have HP := Lib.hid (HPUT.out _ (hr.out.drewN 1) (show wr.drew.ownsRow _ _ _ _ _ _ from hrow2) (Nat.le_trans hob hz2))
          obtain ⟨hw1, hw2, hw3⟩ := HW.out
          have hsl := HSL.out
          clear hrow2 q10 q10' qb
          go_wp2
          go_region_with (go_at_call 67; refine HP.out.mono ?_; rintro e w3 ⟨rfl, hr3, hc3⟩; have HR3 := Lib.hid hr3; have HC3 := Lib.hid hc3; clear hr3 hc3)
          all_goals
            go_wp2
            go_end0
            exact ⟨rfl, HR3.out, ((hch.out.drewN 1).below (Nat.le_refl _) (by omega)).trans HC3.out⟩
    · have hne2 : (fun c => c != 10 && c != b) s[i] = true := by
        cases hp : (fun c : UInt8 => c != 10 && c != b) s[i] with
        | true => rfl
        | false =>
          have := twTo_no (p := fun c => c != 10 && c != b) hlt hp
          rw [hT.out] at this
          exact absurd this.symm hie
      have q10 : ((s[i].toNat : Int) != 10) = true := by
        have e := ne_int s[i] 10
        rw [show (((10 : UInt8).toNat : Nat) : Int) = 10 from rfl] at e
        rw [e]
        simp only [Bool.and_eq_true] at hne2
        exact hne2.1
      have qb : ((s[i].toNat : Int) != (b.toNat : Int)) = true := by
        rw [ne_int]
        simp only [Bool.and_eq_true] at hne2
        exact hne2.2
      have hn := twTo_yes (p := fun c => c != 10 && c != b) hlt hne2
      have HT : Hid (twTo (fun c => c != 10 && c != b) s (i + 1) = E) := Lib.hid (hn.trans hT.out)
      clear hn hne2 hEb hE10
      go_wp2
      go_roundg (s.size - (i + 1))
      case measure => omega
      case rel => exact ⟨i + 1, by go_num, by omega, rfl, HT.out, _, rfl⟩

end Go.Proofs.YtpnfcgmogjpliaaGreatDoor
