/- The document's reader: run; and the methods that note what is wrong. -/
import Derived.Test.YtpnfcgmogjpliaaGreatDoorRd1
namespace Go.Proofs.YtpnfcgmogjpliaaGreatDoor
open Go.RowKit
attribute [local go_sem ↓] Go.wp_at_zero Go.wp_at_succ

def runP (word : Bool) (b : UInt8) : Bool := if word then LexM.isWordy b else LexM.isDigit b

set_option maxHeartbeats 1000000 in
set_option maxRecDepth 100000 in
theorem rrun_calls (w : World) (g : Nat) (s : ByteArray) (k : Nat) (c0 : w.cell? ⟨g, 0, none⟩ = some (.string s)) (c1 : w.cell? ⟨g, 1, none⟩ = some (.int .i64 k)) (hs : s.size ≤ 20000) (hk : k ≤ s.size) (word : Bool) (E : Nat) (hE : twTo (runP word) s k = k + E) :
    Calls Tryz.prog 66 #[.pointer (some ⟨g, 0, none⟩), .bool word] w fun e w' => e = .returned (.int .i64 E) ∧ ∃ q, w' = w.drewN q := by
  have HE := Lib.hid hE
  clear hE
  go_enter Tryz.func66, Tryz.ntmps66
  go_wp2
  go_loopg [5] (s.size - k) (fun q u wr => ∃ i : Nat, u = .int .i64 i ∧ k + i ≤ s.size ∧ q = s.size - (k + i) ∧ Aside (twTo (runP word) s (k + i) = k + E) ∧ ∃ nq, wr = w.drewN nq)
  case atStart => exact ⟨0, rfl, by omega, by omega, HE.out, 0, rfl⟩
  case round =>
    obtain ⟨i, rfl, hi, rfl, hE, nq, rfl⟩ := hrel
    have hw : IntKind.i64.wrap ((k : Int) + (i : Int)) = (k : Int) + (i : Int) := wrap_small _ (by omega) (by omega)
    by_cases hlt : k + i < s.size
    · have b1 : decide ((k : Int) + (i : Int) < (s.size : Int)) = true := by simp; omega
      have hix := index_run s (k + i) ((k : Int) + (i : Int)) (by omega) hlt
      have hdg := fun wx => rDigit_calls wx s[k + i]
      have hlet := fun wx => rLetter_calls wx s[k + i]
      have HDG := Lib.hid hdg
      have HLT := Lib.hid hlet
      obtain ⟨d, hd⟩ : ∃ d, LexM.isDigit s[k + i] = d := ⟨_, rfl⟩
      obtain ⟨l, hl⟩ : ∃ l, LexM.isLetter s[k + i] = l := ⟨_, rfl⟩
      have hp : runP word s[k + i] = (d || (word && l)) := by
        unfold runP LexM.isWordy
        rw [hd, hl]
        cases word <;> simp [Bool.or_comm]
      rw [hd] at hdg
      rw [hl] at hlet
      have HDG := Lib.hid hdg
      have HLT := Lib.hid hlet
      have HP := Lib.hid hp
      clear hdg hlet hd hl hp
      cases d with
      | true =>
        have hE' : twTo (runP word) s (k + (i + 1)) = k + E := by
          rw [← Nat.add_assoc, twTo_yes hlt (by rw [HP.out]; rfl)]
          exact hE.out
        have HE' := Lib.hid hE'
        clear hE'
        go_wp2
        go_quiet (fail)
        go_wp2
        go_quiet (fail)
        go_wp2_with (first | (go_at_call 69; refine (HDG.out _).mono ?_; rintro e w' ⟨rfl, rfl⟩) | (go_at_call 65; refine (HLT.out _).mono ?_; rintro e w' ⟨rfl, rfl⟩))
        go_roundg (s.size - (k + (i + 1)))
        case measure => omega
        case rel => exact ⟨i + 1, by go_num, by omega, rfl, HE'.out, _, rfl⟩
      | false =>
        cases word with
        | true =>
          cases l with
          | true =>
            have hE' : twTo (runP true) s (k + (i + 1)) = k + E := by
              rw [← Nat.add_assoc, twTo_yes hlt (by rw [HP.out]; rfl)]
              exact hE.out
            have HE' := Lib.hid hE'
            clear hE'
            go_wp2
            go_quiet (fail)
            go_wp2
            go_quiet (fail)
            go_wp2_with (first | (go_at_call 69; refine (HDG.out _).mono ?_; rintro e w' ⟨rfl, rfl⟩) | (go_at_call 65; refine (HLT.out _).mono ?_; rintro e w' ⟨rfl, rfl⟩))
            go_roundg (s.size - (k + (i + 1)))
            case measure => omega
            case rel => exact ⟨i + 1, by go_num, by omega, rfl, HE'.out, _, rfl⟩
          | false =>
            have hE' : k + i = k + E := by rw [← hE.out, twTo_no hlt (by rw [HP.out]; rfl)]
            obtain rfl : i = E := by omega
            clear hE'
            go_wp2
            go_quiet (fail)
            go_wp2
            go_quiet (fail)
            go_wp2_with (first | (go_at_call 69; refine (HDG.out _).mono ?_; rintro e w' ⟨rfl, rfl⟩) | (go_at_call 65; refine (HLT.out _).mono ?_; rintro e w' ⟨rfl, rfl⟩))
            go_ret
            exact ⟨rfl, _, rfl⟩
        | false =>
          have hE' : k + i = k + E := by rw [← hE.out, twTo_no hlt (by rw [HP.out]; rfl)]
          obtain rfl : i = E := by omega
          clear hE'
          go_wp2
          go_quiet (fail)
          go_wp2
          go_quiet (fail)
          go_wp2_with (first | (go_at_call 69; refine (HDG.out _).mono ?_; rintro e w' ⟨rfl, rfl⟩) | (go_at_call 65; refine (HLT.out _).mono ?_; rintro e w' ⟨rfl, rfl⟩))
          go_ret
          exact ⟨rfl, _, rfl⟩
    · obtain rfl : i = s.size - k := by omega
      have hE' : k + (s.size - k) = k + E := by rw [← hE.out, twTo_end (by omega)]
      have b1 : decide ((k : Int) + ((s.size - k : Nat) : Int) < (s.size : Int)) = false := by simp; omega
      obtain rfl : s.size - k = E := by omega
      clear hE'
      go_wp2
      go_quiet (fail)
      go_wp2
      go_ret
      exact ⟨rfl, _, by rw [World.drewN_drewN]⟩

/-- The reader's block. -/
def RdB (w : World) (g : Nat) (s : ByteArray) (k : Nat) (ln : Bool) (wrong : Int) (v : Value) : Prop :=
  w.heap[g]? = some (.cells #[.string s, .int .i64 k, .bool ln, .int .i64 wrong, v] 55 (0, 0))
theorem rd_cells {w : World} {g : Nat} {s : ByteArray} {k : Nat} {ln : Bool} {wrong : Int} {v : Value} (h : RdB w g s k ln wrong v) :
    w.cell? ⟨g, 0, none⟩ = some (.string s) ∧ w.cell? ⟨g, 1, none⟩ = some (.int .i64 k) ∧ w.cell? ⟨g, 2, none⟩ = some (.bool ln) ∧ w.cell? ⟨g, 3, none⟩ = some (.int .i64 wrong) ∧ w.cell? ⟨g, 4, none⟩ = some v :=
  ⟨(blk_cell h 0).trans rfl, (blk_cell h 1).trans rfl, (blk_cell h 2).trans rfl, (blk_cell h 3).trans rfl, (blk_cell h 4).trans rfl⟩
theorem RdB.setAt {w : World} {g : Nat} {s : ByteArray} {k : Nat} {ln : Bool} {wrong : Int} {v : Value} (h : RdB w g s k ln wrong v) {n : Int} {k' : Nat} (e : n = k') : RdB (w.setCell ⟨g, 1, none⟩ (.int .i64 n)) g s k' ln wrong v := by
  subst e
  exact blk_set h 1 _
theorem RdB.setLine {w : World} {g : Nat} {s : ByteArray} {k : Nat} {ln : Bool} {wrong : Int} {v : Value} (h : RdB w g s k ln wrong v) (ln' : Bool) : RdB (w.setCell ⟨g, 2, none⟩ (.bool ln')) g s k ln' wrong v := blk_set h 2 _
theorem RdB.setWrong {w : World} {g : Nat} {s : ByteArray} {k : Nat} {ln : Bool} {wrong : Int} {v : Value} (h : RdB w g s k ln wrong v) (n : Int) : RdB (w.setCell ⟨g, 3, none⟩ (.int .i64 n)) g s k ln n v := blk_set h 3 _
theorem RdB.setOut {w : World} {g : Nat} {s : ByteArray} {k : Nat} {ln : Bool} {wrong : Int} {v : Value} (h : RdB w g s k ln wrong v) (v' : Value) : RdB (w.setCell ⟨g, 4, none⟩ v') g s k ln wrong v' := blk_set h 4 _
theorem RdB.drewN {w : World} {g : Nat} {s : ByteArray} {k : Nat} {ln : Bool} {wrong : Int} {v : Value} (h : RdB w g s k ln wrong v) (n : Nat) : RdB (w.drewN n) g s k ln wrong v := h

set_option maxRecDepth 100000 in
theorem rfails_set (w : World) (g : Nat) (s : ByteArray) (k : Nat) (ln : Bool) (wrong : Int) (v : Value) (h : RdB w g s k ln wrong v) (at_ : Nat) (hw : wrong < 0) :
    Calls Tryz.prog 64 #[.pointer (some ⟨g, 0, none⟩), .int .i64 at_] w fun e w' => e = .returned (.tuple #[]) ∧ RdB w' g s k ln at_ v ∧ Ch g w w' := by
  obtain ⟨c0, c1, c2, c3, c4⟩ := rd_cells h
  have f3 := blk_frozen h 3
  have H := Lib.hid h
  have b1 : decide (wrong < 0) = true := by simpa using hw
  clear h hw
  go_enter Tryz.func64, Tryz.ntmps64
  go_wp2
  go_end0
  exact ⟨rfl, H.out.setWrong _, (Ch.refl g w).set _ _⟩

set_option maxRecDepth 100000 in
theorem rfails_keep (w : World) (g : Nat) (s : ByteArray) (k : Nat) (ln : Bool) (wrong : Nat) (v : Value) (h : RdB w g s k ln wrong v) (at_ : Nat) (hw : wrong ≤ at_) :
    Calls Tryz.prog 64 #[.pointer (some ⟨g, 0, none⟩), .int .i64 at_] w fun e w' => e = .returned (.tuple #[]) ∧ RdB w' g s k ln wrong v ∧ Ch g w w' := by
  obtain ⟨c0, c1, c2, c3, c4⟩ := rd_cells h
  have f3 := blk_frozen h 3
  have H := Lib.hid h
  have b1 : decide ((wrong : Int) < 0) = false := by simp
  have b2 : decide (at_ < wrong) = false := by simp; omega
  clear h hw
  go_enter Tryz.func64, Tryz.ntmps64
  go_wp2
  go_end0
  exact ⟨rfl, H.out, Ch.refl g w⟩

/-- The first wrong byte from one place up to another. -/
def fwTo (s : ByteArray) (k i : Nat) : Option Nat := (LexM.firstWrong (((bs s).drop k).take (i - k))).map (k + ·)
def wV : Option Nat → Int
  | none => -1
  | some p => p
theorem fw_snoc (l : List UInt8) (b : UInt8) : LexM.firstWrong (l ++ [b]) = match LexM.firstWrong l with | some j => some j | none => if LexM.isWrong b then some l.length else none := by
  unfold LexM.firstWrong
  rw [List.findIdx?_append]
  cases List.findIdx? LexM.isWrong l with
  | some j => rfl
  | none =>
    cases hb : LexM.isWrong b <;> simp [List.findIdx?_cons, hb]
theorem fwTo_start (s : ByteArray) (k : Nat) : fwTo s k k = none := by
  unfold fwTo
  rw [Nat.sub_self]
  rfl
theorem fwTo_step {s : ByteArray} {k i : Nat} (hk : k ≤ i) (hi : i < s.size) : fwTo s k (i + 1) = match fwTo s k i with | some p => some p | none => if LexM.isWrong s[i] then some i else none := by
  have e : ((bs s).drop k).take (i + 1 - k) = ((bs s).drop k).take (i - k) ++ [s[i]] := by
    rw [show i + 1 - k = (i - k) + 1 from by omega, List.take_succ_eq_append_getElem (by rw [List.length_drop, bs_length]; omega)]
    congr 1
    rw [List.getElem_drop]
    congr 1
    have := bs_get s (k + (i - k)) (by omega)
    rw [List.getElem?_eq_getElem (by rw [bs_length]; omega)] at this
    rw [Option.some.inj this]
    congr 1
    omega
  unfold fwTo
  rw [e, fw_snoc]
  cases LexM.firstWrong (((bs s).drop k).take (i - k)) with
  | some j => rfl
  | none =>
    simp only [Option.map_none]
    rw [List.length_take, List.length_drop, bs_length]
    cases LexM.isWrong s[i] with
    | true =>
      simp
      omega
    | false => rfl
theorem fwTo_lt {s : ByteArray} {k i p : Nat} (hk : k ≤ i) (h : fwTo s k i = some p) : p < i := by
  unfold fwTo at h
  cases hf : LexM.firstWrong (((bs s).drop k).take (i - k)) with
  | none => rw [hf] at h; cases h
  | some j =>
    rw [hf] at h
    simp only [Option.map_some, Option.some.injEq] at h
    have := List.findIdx?_eq_some_iff_findIdx_eq.1 hf
    have h2 : (((bs s).drop k).take (i - k)).length ≤ i - k := by rw [List.length_take]; omega
    omega

set_option maxHeartbeats 1000000 in
set_option maxRecDepth 100000 in
theorem rskips_calls (w : World) (g : Nat) (s : ByteArray) (k : Nat) (ln : Bool) (v : Value) (h : RdB w g s k ln (-1) v) (hs : s.size ≤ 20000) (T : Nat) (hk : k ≤ T) (hT : T ≤ s.size) :
    Calls Tryz.prog 42 #[.pointer (some ⟨g, 0, none⟩), .int .i64 T] w fun e w' => e = .returned (.tuple #[]) ∧ RdB w' g s T ln (wV (fwTo s k T)) v ∧ Ch g w w' := by
  have H := Lib.hid h
  clear h
  go_enter Tryz.func42, Tryz.ntmps42
  go_wp2
  go_loopg [] (T - k) (fun q wr => ∃ i : Nat, k ≤ i ∧ i ≤ T ∧ q = T - i ∧ Aside (RdB wr g s i ln (wV (fwTo s k i)) v) ∧ Aside (Ch g w wr))
  case atStart => exact ⟨k, Nat.le_refl _, hk, rfl, by rw [fwTo_start]; exact H.out, Ch.refl g w⟩
  case round =>
    obtain ⟨i, hi1, hi2, rfl, hr, hch⟩ := hrel
    obtain ⟨c0, c1, c2, c3, c4⟩ := rd_cells hr.out
    have f1 := blk_frozen hr.out 1
    by_cases hlt : i < T
    · have his : i < s.size := by omega
      have hb : decide (i < T) = true := by simpa using hlt
      have hst := fwTo_step hi1 his
      have hby := fun wx => rByte_calls wx s[i]
      cases hw : LexM.isWrong s[i] with
      | false =>
        rw [hw] at hst hby
        have hst' : fwTo s k (i + 1) = fwTo s k i := by
          rw [hst]
          cases fwTo s k i <;> rfl
        have HBY := Lib.hid hby
        have HST := Lib.hid hst'
        clear hst hby hw hst'
        go_wp2
        go_quiet ((go_at_call 63; refine (HBY.out _).mono ?_; rintro e w' ⟨rfl, rfl⟩; exact ⟨rfl, _, rfl⟩))
        go_wp2
        go_roundg (T - (i + 1))
        case measure => omega
        case rel => exact ⟨i + 1, by omega, by omega, rfl, by rw [HST.out]; exact (hr.out.drewN _).setAt (by omega), (hch.out.drewN _).set _ _⟩
      | true =>
        rw [hw] at hst hby
        have hfl : ∀ wx, RdB wx g s i ln (wV (fwTo s k i)) v → Calls Tryz.prog 64 #[.pointer (some ⟨g, 0, none⟩), .int .i64 i] wx fun e w' => e = .returned (.tuple #[]) ∧ RdB w' g s i ln (wV (fwTo s k (i + 1))) v ∧ Ch g wx w' := fun wx hx => by
          rw [hst]
          cases hf : fwTo s k i with
          | none =>
            rw [hf] at hx
            exact rfails_set wx g s i ln _ v hx i (by decide)
          | some p =>
            rw [hf] at hx
            exact rfails_keep wx g s i ln p v hx i (Nat.le_of_lt (fwTo_lt hi1 hf))
        have HBY := Lib.hid hby
        have HFL := Lib.hid hfl
        clear hst hby hw hfl
        go_wp2
        go_quiet ((go_at_call 63; refine (HBY.out _).mono ?_; rintro e w' ⟨rfl, rfl⟩; exact ⟨rfl, _, rfl⟩))
        go_wp2_with (first | (go_at_call 64; refine (HFL.out _ (hr.out.drewN _)).mono ?_; rintro e w1 ⟨rfl, hr1, hc1⟩; have HR1 := Lib.hid hr1; have HC1 := Lib.hid hc1; obtain ⟨d0, d1, d2, d3, d4⟩ := rd_cells hr1; have e1 := blk_frozen hr1 1; clear hr1 hc1))
        go_roundg (T - (i + 1))
        case measure => omega
        case rel => exact ⟨i + 1, by omega, by omega, rfl, HR1.out.setAt (by omega), ((hch.out.drewN _).trans HC1.out).set _ _⟩
    · obtain rfl : i = T := by omega
      go_wp2
      go_end0
      exact ⟨rfl, hr.out, hch.out⟩

end Go.Proofs.YtpnfcgmogjpliaaGreatDoor
