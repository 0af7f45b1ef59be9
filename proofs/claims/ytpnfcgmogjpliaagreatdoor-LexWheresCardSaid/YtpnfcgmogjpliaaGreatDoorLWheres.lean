/- For every source and every place the program's Where answers what the document's Where answers, and the law's own example holds; the arguments read as they did. The library's tables lie as their texts lay them (the card ties that). -/
import Derived.Test.YtpnfcgmogjpliaaGreatDoorRd10
import Derived.Test.YtpnfcgmogjpliaaGreatDoorOver
namespace Go.Proofs.YtpnfcgmogjpliaaGreatDoor
open Go.RowKit
attribute [local go_sem ↓] Go.wp_at_zero Go.wp_at_succ

theorem data_get (s : ByteArray) (k : Nat) : s.data[k]! = ((bs s)[k]?).getD 0 := by
  unfold bs
  rw [Array.getElem?_toList, Array.getElem!_eq_getD]
  cases h : s.data[k]? <;> simp [Array.getD_eq_getD_getElem?, h] <;> rfl
theorem data_at (s : ByteArray) (k : Nat) (h : k < s.size) : s.data[k]! = s[k] := by
  rw [data_get, bs_get s k h]
  rfl

def lineAt (s : ByteArray) (i : Nat) : Int := 1 + ((Lib.countByte ((bs s).take i) 10 : Nat) : Int)
def colAt (s : ByteArray) (i : Nat) : Int := (i : Int) - Lib.lastIdx s 10 i
theorem lastIdx_rng (s : ByteArray) (c : Int) (k : Nat) : -1 ≤ Lib.lastIdx s c k ∧ Lib.lastIdx s c k < k := by
  rcases Lib.lastIdx_spec s c k with ⟨e, _⟩ | ⟨i, hi, e, _, _⟩ <;> rw [e] <;> omega
theorem count_rng (s : ByteArray) (k : Nat) : Lib.countByte ((bs s).take k) 10 ≤ k := by
  unfold Lib.countByte
  refine Nat.le_trans List.count_le_length ?_
  rw [List.length_take]
  omega
theorem lineAt_step (s : ByteArray) (i : Nat) (h : i < s.size) : lineAt s (i + 1) = lineAt s i + (if s[i] == 10 then 1 else 0) := by
  unfold lineAt Lib.countByte
  rw [List.take_add_one, bs_get s i h, Option.toList_some, List.count_append, List.count_singleton]
  split <;> omega
theorem colAt_hit (s : ByteArray) (i : Nat) (h : i < s.size) (e : (s[i] == 10) = true) : colAt s (i + 1) = 1 := by
  unfold colAt
  rw [Lib.lastIdx_hit s 10 i (by rw [data_at s i h, show s[i] = 10 from by simpa using e]; rfl)]
  omega
theorem colAt_miss (s : ByteArray) (i : Nat) (h : i < s.size) (e : (s[i] == 10) = false) : colAt s (i + 1) = colAt s i + 1 := by
  unfold colAt
  rw [Lib.lastIdx_miss s 10 i]
  · omega
  · rw [data_at s i h]
    have := eq_int s[i] 10
    rw [e] at this
    simpa using this
theorem lastIdx_extract (s : ByteArray) (p : Nat) (hp : p ≤ s.size) : ∀ k, k ≤ p → Lib.lastIdx (s.extract 0 p) 10 k = Lib.lastIdx s 10 k
  | 0, _ => rfl
  | k + 1, h => by
    unfold Lib.lastIdx
    rw [lastIdx_extract s p hp k (by omega), data_get, data_get, bs_extract, List.drop_zero, Nat.sub_zero, List.getElem?_take_of_lt (by omega)]
theorem lastIndexByte_to (s : ByteArray) (p : Nat) (hp : p ≤ s.size) : Lib.lastIndexByte (s.extract 0 p) 10 = Lib.lastIdx s 10 p := by
  unfold Lib.lastIndexByte
  rw [show (s.extract 0 p).size = p from by simp; omega]
  exact lastIdx_extract s p hp p (Nat.le_refl _)
theorem count_to (s : ByteArray) (p : Nat) : Lib.countByte (s.extract 0 p).data.toList 10 = Lib.countByte ((bs s).take p) 10 := by
  have := bs_extract s 0 p
  rw [List.drop_zero, Nat.sub_zero] at this
  rw [← this]

/-- What Where answers. -/
def whereRes (s : ByteArray) (er p : Int) : Value :=
  if er = 0 then (if 0 ≤ p ∧ p ≤ s.size then .tuple #[.int .i64 (lineAt s p.toNat), .int .i64 (colAt s p.toNat), .int .i64 0] else .tuple #[.int .i64 0, .int .i64 0, .int .i64 1])
  else .tuple #[.int .i64 0, .int .i64 0, .int .i64 er]

set_option maxHeartbeats 1000000 in
set_option maxRecDepth 100000 in
theorem where_calls (w0 w : World) (s : ByteArray) (hs : s.size ≤ 20000) (hT : Tabs w0 w) (ts : List LexM.Tk) (m er p : Int) (hr : LexM.lexRes (bs s) = (ts, m, er)) :
    Calls Tryz.prog 20 #[.string s, .int .i64 p] w fun e w' => e = .returned (whereRes s er p) ∧ Below w.heap.size w w' := by
  have HLX := Lib.hid (lexT_calls w0 w s (by omega) hT ts m er hr)
  unfold whereRes
  by_cases h0 : er = 0
  · rw [if_pos h0]
    subst h0
    by_cases hp0 : p < 0
    · rw [if_neg (by omega)]
      have b0 : decide (p < 0) = true := by simpa using hp0
      clear hr hT
      go_enter Tryz.func20, Tryz.ntmps20
      go_wp2_with fail
      refine HLX.out.mono ?_
      rintro e w1 ⟨A, ca, rfl, _, hb1⟩
      have HB1 := Lib.hid hb1
      clear hb1
      go_wp2
      go_ret3
      exact ⟨rfl, HB1.out⟩
    · have b0 : decide (p < 0) = false := by simpa using hp0
      by_cases hps : (s.size : Int) < p
      · rw [if_neg (by omega)]
        have b1 : decide ((s.size : Int) < p) = true := by simpa using hps
        clear hr hT
        go_enter Tryz.func20, Tryz.ntmps20
        go_wp2_with fail
        refine HLX.out.mono ?_
        rintro e w1 ⟨A, ca, rfl, _, hb1⟩
        have HB1 := Lib.hid hb1
        clear hb1
        go_wp2
        go_ret3
        exact ⟨rfl, HB1.out⟩
      · rw [if_pos (by omega)]
        obtain ⟨q, rfl⟩ : ∃ q : Nat, p = q := ⟨p.toNat, by omega⟩
        rw [Int.toNat_natCast]
        have b1 : decide ((s.size : Int) < (q : Int)) = false := by simpa using hps
        have b1n : decide (s.size < q) = false := by simp; omega
        have hsl := slice_to s q q rfl (by omega)
        have hc := count_rng s q
        have hl := lastIdx_rng s 10 q
        have HC := Lib.hid (fun wx => Tryz.strings_Count_one (s.extract 0 q) 10 wx)
        have HLI := Lib.hid (fun wx => Tryz.strings_LastIndexByte (s.extract 0 q) 10 (by simp; omega) wx)
        rw [count_to] at HC
        rw [lastIndexByte_to s q (by omega)] at HLI
        clear hr hT
        go_enter Tryz.func20, Tryz.ntmps20
        go_wp2_with fail
        refine HLX.out.mono ?_
        rintro e w1 ⟨A, ca, rfl, _, hb1⟩
        have HB1 := Lib.hid hb1
        clear hb1
        go_wp2
        go_quiet (first
          | (go_at_call 34; refine (HC.out _).mono ?_; rintro e w' ⟨rfl, rfl⟩; exact ⟨rfl, _, rfl⟩)
          | (go_at_call 35; refine (HLI.out _).mono ?_; rintro e w' ⟨rfl, rfl⟩; exact ⟨rfl, _, rfl⟩))
        go_wp2
        go_ret3
        exact ⟨rfl, below_drewN' HB1.out _⟩
  · rw [if_neg h0]
    have q1 : (er != 0) = true := by simpa [bne] using h0
    clear hr hT
    go_enter Tryz.func20, Tryz.ntmps20
    go_wp2_with fail
    refine HLX.out.mono ?_
    rintro e w1 ⟨A, ca, rfl, _, hb1⟩
    have HB1 := Lib.hid hb1
    clear hb1
    go_wp2
    go_ret3
    exact ⟨rfl, HB1.out⟩

set_option maxHeartbeats 1000000 in
set_option maxRecDepth 100000 in
theorem rwhere_calls (w : World) (s : ByteArray) (hs : s.size ≤ 20000) (ts : List LexM.Tk) (m er p : Int) (hr : LexM.lexRes (bs s) = (ts, m, er)) :
    Calls Tryz.prog 21 #[.string s, .int .i64 p] w fun e w' => e = .returned (whereRes s er p) ∧ Below w.heap.size w w' := by
  have HLX := Lib.hid (rlexT_calls w s (by omega) ts m er hr)
  unfold whereRes
  by_cases h0 : er = 0
  · rw [if_pos h0]
    subst h0
    by_cases hp0 : p < 0
    · rw [if_neg (by omega)]
      have b0 : decide (p < 0) = true := by simpa using hp0
      clear hr
      go_enter Tryz.func21, Tryz.ntmps21
      go_wp2_with fail
      refine HLX.out.mono ?_
      rintro e w1 ⟨A, ca, rfl, _, hb1⟩
      have HB1 := Lib.hid hb1
      clear hb1
      go_wp2
      go_ret3
      exact ⟨rfl, HB1.out⟩
    · have b0 : decide (p < 0) = false := by simpa using hp0
      by_cases hps : (s.size : Int) < p
      · rw [if_neg (by omega)]
        have b1 : decide ((s.size : Int) < p) = true := by simpa using hps
        clear hr
        go_enter Tryz.func21, Tryz.ntmps21
        go_wp2_with fail
        refine HLX.out.mono ?_
        rintro e w1 ⟨A, ca, rfl, _, hb1⟩
        have HB1 := Lib.hid hb1
        clear hb1
        go_wp2
        go_ret3
        exact ⟨rfl, HB1.out⟩
      · rw [if_pos (by omega)]
        obtain ⟨q, rfl⟩ : ∃ q : Nat, p = q := ⟨p.toNat, by omega⟩
        rw [Int.toNat_natCast]
        have hq : q ≤ s.size := by omega
        have b1 : decide ((s.size : Int) < (q : Int)) = false := by simpa using hps
        have b1n : decide (s.size < q) = false := by simp; omega
        clear hr hp0 hps
        go_enter Tryz.func21, Tryz.ntmps21
        go_wp2_with fail
        refine HLX.out.mono ?_
        rintro e w1 ⟨A, ca, rfl, _, hb1⟩
        have HB1 := Lib.hid hb1
        clear hb1
        go_wp2
        go_loopg [10, 11, 12] q (fun gq u v x wr => ∃ i : Nat, u = .int .i64 (lineAt s i) ∧ v = .int .i64 (colAt s i) ∧ x = .int .i64 i ∧ i ≤ q ∧ gq = q - i ∧ w1 = wr)
        case atStart => exact ⟨0, rfl, rfl, rfl, Nat.zero_le _, rfl, rfl⟩
        case round =>
          obtain ⟨i, rfl, rfl, rfl, hi, rfl, rfl⟩ := hrel
          by_cases hlt : i < q
          · have hltz : decide ((i : Int) < (q : Int)) = true := by simp; omega
            have hltz2 : (i : Int) < (q : Int) := by omega
            have hix := index_run s i (i : Int) rfl (by omega)
            have hl1 : 1 ≤ lineAt s i ∧ lineAt s i ≤ 1 + i := by
              have := count_rng s i
              unfold lineAt
              omega
            have hc1 : 0 ≤ colAt s i ∧ colAt s i ≤ 1 + i := by
              have := lastIdx_rng s 10 i
              unfold colAt
              omega
            have e10 := eq_int s[i] 10
            rw [show (((10 : UInt8).toNat : Nat) : Int) = 10 from rfl] at e10
            have hls := lineAt_step s i (by omega)
            cases h10 : (s[i] == 10) with
            | true =>
              rw [h10] at e10 hls
              have hcs := colAt_hit s i (by omega) h10
              go_wp2
              go_roundg (q - (i + 1))
              case measure => omega
              case rel => exact ⟨i + 1, by rw [hls]; rfl, by rw [hcs], by go_num, by omega, rfl, rfl⟩
            | false =>
              rw [h10] at e10 hls
              have hcs := colAt_miss s i (by omega) h10
              go_wp2
              go_roundg (q - (i + 1))
              case measure => omega
              case rel => exact ⟨i + 1, by rw [hls]; simp, by rw [hcs], by go_num, by omega, rfl, rfl⟩
          · obtain rfl : i = q := by omega
            go_wp2
            go_ret3
            exact ⟨rfl, HB1.out⟩
  · rw [if_neg h0]
    have q1 : (er != 0) = true := by simpa [bne] using h0
    clear hr
    go_enter Tryz.func21, Tryz.ntmps21
    go_wp2_with fail
    refine HLX.out.mono ?_
    rintro e w1 ⟨A, ca, rfl, _, hb1⟩
    have HB1 := Lib.hid hb1
    clear hb1
    go_wp2
    go_ret3
    exact ⟨rfl, HB1.out⟩

theorem whereRes_three (s : ByteArray) (er p : Int) : ∃ a b c : Int, whereRes s er p = .tuple #[.int .i64 a, .int .i64 b, .int .i64 c] := by
  unfold whereRes
  split
  · split
    · exact ⟨_, _, _, rfl⟩
    · exact ⟨_, _, _, rfl⟩
  · exact ⟨_, _, _, rfl⟩

set_option maxHeartbeats 1000000 in
set_option maxRecDepth 100000 in
theorem lexWheres_calls (w : World) (s : ByteArray) (p : Int) (_hs2 : s.size ≤ 140737488355328) (hT : Tabs w w) : Calls Tryz.prog 7 #[.string s, .int .i64 p] w fun e w' => e = .returned (.bool true) ∧ Below w.heap.size w w' := by
  have hk := fun wx (hb : Below w.heap.size w wx) => known_calls w wx (hT.belowN hb)
  have HK := Lib.hid hk
  clear hk
  by_cases hs : 20000 < s.size
  · have q0 : decide ((20000 : Int) < (s.size : Int)) = true := by simp; omega
    clear hs hT
    go_enter Tryz.func7, Tryz.ntmps7
    go_wp2_with (go_at_call 8; refine (HK.out _ (Below.refl _ _)).mono ?_; rintro e w1 ⟨rfl, hb1⟩; have HB1 := Lib.hid hb1; clear hb1)
    go_ret
    exact ⟨rfl, HB1.out⟩
  · have q0 : decide ((20000 : Int) < (s.size : Int)) = false := by simp; omega
    obtain ⟨ts, m, er, hr⟩ : ∃ ts m er, LexM.lexRes (bs s) = (ts, m, er) := ⟨_, _, _, rfl⟩
    have h1 := where_calls w w s (by omega) hT ts m er p hr
    have h2 := fun wx => rwhere_calls wx s (by omega) ts m er p hr
    obtain ⟨a, b, c, habc⟩ := whereRes_three s er p
    rw [habc] at h1 h2
    have H1 := Lib.hid h1
    have H2 := Lib.hid h2
    clear h1 h2 habc hr hT hs
    go_enter Tryz.func7, Tryz.ntmps7
    go_wp2_with fail
    refine H1.out.mono ?_
    rintro e w1 ⟨rfl, hb1⟩
    have HB1 := Lib.hid hb1
    clear hb1
    go_wp2_with fail
    refine (H2.out w1).mono ?_
    rintro e w2 ⟨rfl, hb2⟩
    have HB2 := Lib.hid (HB1.out.trans (hb2.mono HB1.out.size))
    clear hb2
    go_wp2_with (first
      | (go_at_call 8; refine (HK.out _ HB2.out).mono ?_; rintro e w4 ⟨rfl, hb4⟩; have HB4 := Lib.hid (HB2.out.trans (hb4.mono HB2.out.size)); clear hb4))
    go_ret
    exact ⟨rfl, HB4.out⟩

end Go.Proofs.YtpnfcgmogjpliaaGreatDoor
