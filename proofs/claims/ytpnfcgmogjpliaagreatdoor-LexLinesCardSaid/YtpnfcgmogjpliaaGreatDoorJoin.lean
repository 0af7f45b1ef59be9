/- The text of tokens: the program's joined, where that text has at most 100,000,000 bytes. -/
import Derived.Test.YtpnfcgmogjpliaaGreatDoorWrit
import Derived.Test.YtpnfcgmogjpliaaGreatDoorBld
namespace Go.Proofs.YtpnfcgmogjpliaaGreatDoor
open Go.RowKit
attribute [local go_sem ↓] Go.wp_at_zero Go.wp_at_succ

theorem written_ge (t : LexM.Kt) : t.2.length ≤ (LexM.written t).length := by
  unfold LexM.written
  split
  · split <;> simp <;> omega
  · split
    · split
      · rename_i h
        simp [h]
      · simp
        omega
    · exact Nat.le_refl _
theorem join_step {l : List Tv} {i : Nat} {t : Tv} (h : l[i]? = some t) (begun : Bool) : LexM.joinM ((l.drop i).map Tv.kt) begun =
    if t.kind = 5 then 10 :: LexM.joinM ((l.drop (i + 1)).map Tv.kt) false else (if begun then [32] else []) ++ (LexM.written t.kt ++ LexM.joinM ((l.drop (i + 1)).map Tv.kt) true) := by
  obtain ⟨h1, e1⟩ := List.getElem?_eq_some_iff.1 h
  rw [List.drop_eq_getElem_cons h1, e1]
  rfl
theorem bc_one (P : List UInt8) (c : UInt8) : Lib.byteCells P ++ [.int .u8 (c.toNat : Int)] = Lib.byteCells (P ++ [c]) := by simp [Lib.byteCells]
theorem bc_str (P l : List UInt8) : Lib.byteCells P ++ Lib.strCells ⟨l.toArray⟩ = Lib.byteCells (P ++ l) := by simp [Lib.byteCells, Lib.strCells]
theorem bc_len (P : List UInt8) : (Lib.byteCells P).length = P.length := by simp [Lib.byteCells]

/-- The token of this round, in a block of its own. -/
def tvBlk (t : Tv) : Obj := .cells #[.int .i64 t.kind, .int .i64 t.pos, .string t.text] 49

theorem row_below {W W' : World} {base e size n : Nat} {v : Value} {xs : List Value} (h : W.ownsRow base e size v n xs) (hb : Below W.heap.size W W') : W'.ownsRow base e size v n xs := by
  refine ⟨h.1, ?_⟩
  rcases h.2 with hn | ⟨b, cap, cur, rfl, hbb, hgg, rest⟩
  · exact .inl hn
  · exact .inr ⟨b, cap, cur, rfl, hbb, (hb.block b (blk_lt hgg)).trans hgg, rest⟩
theorem IsB.alloc {B b : Nat} {bs : List Value} {w : World} (h : IsB B b bs w) (o : Obj) : IsB B b bs (w.alloc o) := by
  rcases h with ⟨h1, v, h2, h3, h4⟩ | ⟨h1, v, h2, h3, h4⟩
  · exact .inl ⟨h1, v, blk_alloc h2 o, h3.alloc o, h4⟩
  · exact .inr ⟨h1, v, blk_alloc h2 o, h3.alloc o, h4⟩
theorem IsB.below {B b : Nat} {bs : List Value} {w w' : World} (h : IsB B b bs w) (hb : Below w.heap.size w w') : IsB B b bs w' := by
  rcases h with ⟨h1, v, h2, h3, h4⟩ | ⟨h1, v, h2, h3, h4⟩
  · exact .inl ⟨h1, v, (hb.block b (blk_lt h2)).trans h2, row_below h3 hb, h4⟩
  · exact .inr ⟨h1, v, (hb.block b (blk_lt h2)).trans h2, row_below h3 hb, h4⟩
theorem IsB.lt {B b : Nat} {bs : List Value} {w : World} (h : IsB B b bs w) : b < w.heap.size := by
  rcases h with h | h
  · exact h.lt
  · exact h.lt

set_option maxHeartbeats 4000000 in
set_option maxRecDepth 100000 in
theorem joined_calls (w : World) (A : Option Addr) (l : List Tv) (n ca : Nat) (ha : TokS w A l) (hn : l.length = n) (hl : n ≤ 100000000) (R : List UInt8) (hR : LexM.joinM (l.map Tv.kt) false = R) (hRl : R.length ≤ 100000000) :
    Calls Tryz.prog 28 #[.slice A n ca] w fun e w' => e = .returned (.string ⟨R.toArray⟩) ∧ Below w.heap.size w w' := by
  have HA := Lib.hid ha
  have HN := Lib.hid hn
  have HR := Lib.hid hR
  have m0 : w.heap.size ≤ w.heap.size := Nat.le_refl _
  clear ha hn hR
  go_enter Tryz.func28, Tryz.ntmps28
  go_wp2
  go_loopg [4, 9] n (fun q u4 u9 wr => ∃ (i : Nat) (begun : Bool) (P : List UInt8), u4 = .bool begun ∧ u9 = .int .i64 i ∧ i ≤ n ∧ q = n - i ∧ Aside (P ++ LexM.joinM ((l.drop i).map Tv.kt) begun = R) ∧ Aside (IsB w.heap.size w.heap.size (Lib.byteCells P) wr) ∧ Aside (Below w.heap.size w wr))
  case atStart => exact ⟨0, false, [], rfl, rfl, by omega, by omega, HR.out, .inl ⟨Nat.le_refl _, _, blk_new w _ _, World.ownsRow_nil _ _ _ _, by simp [Value.ownBlock]⟩, (Below.refl _ w).alloc (Nat.le_refl _) _⟩
  case round =>
    obtain ⟨i, begun, P, rfl, rfl, hi, rfl, hP, hIB, hB⟩ := hrel
    have hbs : w.heap.size < wr.heap.size := hIB.out.lt
    by_cases hlt : i < n
    · have hltz : decide ((i : Int) < (n : Int)) = true := by simp; omega
      obtain ⟨b, off, rfl, hbl, hT⟩ := HA.out (by have := HN.out; omega)
      obtain ⟨t, ht⟩ : ∃ t, l[i]? = some t := ⟨_, List.getElem?_eq_getElem (by have := HN.out; omega)⟩
      obtain ⟨c0, c1, c2⟩ := hT.below hB.out hbl i t ht
      have hst := join_step ht begun
      have hsz := hB.out.size
      have hPl : P.length ≤ R.length := by
        have := congrArg List.length hP.out
        rw [List.length_append] at this
        omega
      have hB2 := hB.out.alloc hsz (tvBlk t)
      have hIB2 := hIB.out.alloc (tvBlk t)
      have hIBc := hIB2
      have hHB2 := Lib.hid hB2
      have hHIB2 := Lib.hid hIB2
      have hblk := blk_new wr #[.int .i64 t.kind, .int .i64 t.pos, .string t.text] 49
      by_cases h5 : t.kind = 5
      · rw [if_pos h5] at hst
        have hP' : (P ++ [10]) ++ LexM.joinM ((l.drop (i + 1)).map Tv.kt) false = R := by
          rw [← hP.out, hst]
          simp
        have hP1 : P.length + 1 ≤ R.length := by
          have := congrArg List.length hP'
          simp only [List.length_append, List.length_cons, List.length_nil] at this
          omega
        have hwb := writeByte_calls w.heap.size w.heap.size (Lib.byteCells P) 10 _ hIBc (by rw [bc_len]; omega) (by simp; omega)
        rw [show (10 : Int) = ((10 : UInt8).toNat : Int) from rfl, bc_one P 10] at hwb
        rw [show (((10 : UInt8).toNat : Nat) : Int) = 10 from rfl] at hwb
        unfold tvBlk at hwb
        have HWB := Lib.hid hwb
        have HP' := Lib.hid hP'
        have q5 : (t.kind == 5) = true := by simpa using h5
        clear hst hP' hwb ht hT h5 hB2 hIB2 hIBc hblk
        go_wp2_with (go_at_call 46; refine HWB.out.mono ?_; rintro e w1 ⟨rfl, hb1, hb2, hb3⟩; have HB1 := Lib.hid hb1; have HB2 := Lib.hid hb2; clear hb1 hb2 hb3)
        go_roundg (n - (i + 1))
        case measure => omega
        case rel => exact ⟨i + 1, false, P ++ [10], rfl, by go_num, by omega, rfl, HP'.out, .inr HB1.out, hHB2.out.trans HB2.out⟩
      · rw [if_neg h5] at hst
        have hP' : (P ++ (if begun then [32] else [])) ++ (LexM.written t.kt ++ LexM.joinM ((l.drop (i + 1)).map Tv.kt) true) = R := by
          rw [← hP.out, hst]
          simp
        have hP1 : P.length + (if begun then [32] else [] : List UInt8).length + (LexM.written t.kt).length ≤ R.length := by
          have := congrArg List.length hP'
          simp only [List.length_append] at this
          omega
        have hts : t.text.size ≤ 100000000 := by
          have h1 := written_ge t.kt
          unfold Tv.kt at h1
          simp only [bs_length] at h1
          unfold Tv.kt at hP1
          omega
        have hwr : ∀ wx, Calls Tryz.prog 48 #[.agg #[.int .i64 t.kind, .int .i64 t.pos, .string t.text]] wx fun e w' => e = .returned (.string ⟨(LexM.written t.kt).toArray⟩) ∧ Below wx.heap.size wx w' := fun wx => written_calls wx t _ rfl hts
        have hws : ∀ (wx : World) (Q : List UInt8), Q.length + (LexM.written t.kt).length ≤ 100000000 → IsB w.heap.size w.heap.size (Lib.byteCells Q) wx → w.heap.size ≤ wx.heap.size →
            Calls Tryz.prog 47 #[.pointer (some ⟨w.heap.size, 0, none⟩), .string ⟨(LexM.written t.kt).toArray⟩] wx fun e w' => e = .returned (.tuple #[.int .i64 (LexM.written t.kt).length, .nilIface]) ∧ BAt w.heap.size w.heap.size (.pointer (some ⟨w.heap.size, 0, none⟩)) (Lib.byteCells (Q ++ LexM.written t.kt)) w' ∧ Below w.heap.size wx w' := fun wx Q hQ hI hz => by
          refine (writeString_calls w.heap.size w.heap.size (Lib.byteCells Q) ⟨(LexM.written t.kt).toArray⟩ wx hI (by rw [bc_len]; simp [ByteArray.size]; omega) hz).mono ?_
          rintro e w' ⟨rfl, h1, h2, _⟩
          rw [bc_str] at h1
          exact ⟨by simp [ByteArray.size], h1, h2⟩
        have q5 : (t.kind == 5) = false := by simpa using h5
        cases begun with
        | true =>
          have hwb := writeByte_calls w.heap.size w.heap.size (Lib.byteCells P) 32 _ hIBc (by rw [bc_len]; omega) (by simp; omega)
          rw [show (32 : Int) = ((32 : UInt8).toNat : Int) from rfl, bc_one P 32] at hwb
          rw [show (((32 : UInt8).toNat : Nat) : Int) = 32 from rfl] at hwb
          unfold tvBlk at hwb
          have HWB := Lib.hid hwb
          have HP' : Hid ((P ++ [32] ++ LexM.written t.kt) ++ LexM.joinM ((l.drop (i + 1)).map Tv.kt) true = R) := Lib.hid (by rw [← hP']; simp)
          have hP2 : (P ++ [32]).length + (LexM.written t.kt).length ≤ 100000000 := by
            simp only [if_true, List.length_append, List.length_cons, List.length_nil] at hP1 ⊢
            omega
          have HWR := Lib.hid hwr
          have HWS := Lib.hid hws
          have HBLK := Lib.hid hblk
          clear hst hP' hwb ht hT h5 hB2 hIB2 hIBc hwr hws hP1 hblk
          go_wp2_with (first
            | (go_at_call 46; refine HWB.out.mono ?_; rintro e w1 ⟨rfl, hb1, hb2, hb3⟩; have HB1 := Lib.hid hb1; have HB2 := Lib.hid hb2; have hbk := hb3 _ _ _ HBLK.out (by decide) (by omega); have k0 := (blk_cell hbk 0).trans rfl; have k1 := (blk_cell hbk 1).trans rfl; have k2 := (blk_cell hbk 2).trans rfl; have HZ1 := Lib.hid hb2.size; clear hb1 hb2 hb3 hbk)
            | (go_at_call 48; refine (HWR.out _).mono ?_; rintro e w2 ⟨rfl, hc1⟩; have HC1 := Lib.hid hc1; clear hc1)
            | (go_at_call 47; refine (HWS.out _ (P ++ [32]) hP2 (IsB.below (.inr HB1.out) HC1.out) (by have h1 := HC1.out.size; have h2 := HZ1.out; simp at h2; omega)).mono ?_; rintro e w3 ⟨rfl, hd1, hd2⟩; have HD1 := Lib.hid hd1; have HD2 := Lib.hid hd2; clear hd1 hd2))
          go_roundg (n - (i + 1))
          case measure => omega
          case rel => exact ⟨i + 1, true, P ++ [32] ++ LexM.written t.kt, rfl, by go_num, by omega, rfl, HP'.out, .inr HD1.out, ((hHB2.out.trans HB2.out).trans (HC1.out.mono (by have h2 := HZ1.out; simp at h2; omega))).trans HD2.out⟩
        | false =>
          have HP' : Hid ((P ++ LexM.written t.kt) ++ LexM.joinM ((l.drop (i + 1)).map Tv.kt) true = R) := Lib.hid (by rw [← hP']; simp)
          have hP2 : P.length + (LexM.written t.kt).length ≤ 100000000 := by
            simp at hP1
            omega
          have HWR := Lib.hid hwr
          have HWS := Lib.hid hws
          clear hst hP' ht hT h5 hB2 hIB2 hIBc hwr hws hP1 hblk
          go_wp2_with (first
            | (go_at_call 48; refine (HWR.out _).mono ?_; rintro e w2 ⟨rfl, hc1⟩; have HC1 := Lib.hid hc1; clear hc1)
            | (go_at_call 47; refine (HWS.out _ P hP2 (hHIB2.out.below HC1.out) (by have h1 := HC1.out.size; simp at h1; omega)).mono ?_; rintro e w3 ⟨rfl, hd1, hd2⟩; have HD1 := Lib.hid hd1; have HD2 := Lib.hid hd2; clear hd1 hd2))
          go_roundg (n - (i + 1))
          case measure => omega
          case rel => exact ⟨i + 1, true, P ++ LexM.written t.kt, rfl, by go_num, by omega, rfl, HP'.out, .inr HD1.out, (hHB2.out.trans (HC1.out.mono (by simp; omega))).trans HD2.out⟩
    · obtain rfl : i = n := by omega
      have hPR : P = R := by
        rw [← hP.out, List.drop_of_length_le (by have := HN.out; omega)]
        simp [LexM.joinM]
      subst hPR
      have hstr := Tryz.Builder_String_any w.heap.size w.heap.size P wr hIB.out (by omega)
      have HS := Lib.hid hstr
      clear hstr
      go_wp2_with (go_at_call 49; refine HS.out.mono ?_; rintro e w1 ⟨rfl, hb1⟩; have HB1 := Lib.hid hb1; clear hb1)
      go_ret
      exact ⟨rfl, hB.out.trans HB1.out⟩

end Go.Proofs.YtpnfcgmogjpliaaGreatDoor
