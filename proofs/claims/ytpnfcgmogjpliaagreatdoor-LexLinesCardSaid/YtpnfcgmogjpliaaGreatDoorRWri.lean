/- The document's text of a token, and of tokens. -/
import Derived.Test.YtpnfcgmogjpliaaGreatDoorKnown
import Derived.Test.YtpnfcgmogjpliaaGreatDoorRd10
import Derived.Test.YtpnfcgmogjpliaaGreatDoorOver
namespace Go.Proofs.YtpnfcgmogjpliaaGreatDoor
open Go.RowKit
attribute [local go_sem ↓] Go.wp_at_zero Go.wp_at_succ

set_option maxRecDepth 100000 in
theorem rhas_calls (w : World) (s : ByteArray) (b : UInt8) (hs : s.size ≤ 100000000) (r : Bool) (hr : (bs s).contains b = r) : Calls Tryz.prog 75 #[.string s, .int .u8 (b.toNat : Int)] w fun e w' => e = .returned (.bool r) ∧ w = w' := by
  have HR := Lib.hid hr
  have HS := Lib.hid hs
  clear hr hs
  go_enter Tryz.func75, Tryz.ntmps75
  go_wp2
  go_loopg [5] s.size (fun q u wr => ∃ i : Nat, u = .int .i64 i ∧ i ≤ s.size ∧ q = s.size - i ∧ Aside (((bs s).drop i).contains b = r) ∧ w = wr)
  case atStart => exact ⟨0, rfl, Nat.zero_le _, rfl, HR.out, rfl⟩
  case round =>
    obtain ⟨i, rfl, hi, rfl, hc, rfl⟩ := hrel
    by_cases hlt : i < s.size
    · have hltz : decide ((i : Int) < (s.size : Int)) = true := by simp; omega
      have hltz2 : (i : Int) < (s.size : Int) := by omega
      have hs := HS.out
      have hix := index_run s i (i : Int) rfl hlt
      have e1 := eq_int s[i] b
      have hd := drop_cons hlt
      have hcc := hc.out
      rw [hd, List.contains_cons] at hcc
      cases hb : (s[i] == b) with
      | true =>
        rw [hb] at e1
        have hr : true = r := by
          rw [← hcc, show (b == s[i]) = true from by rw [beq_iff_eq] at hb ⊢; exact hb.symm, Bool.true_or]
        have HR2 := Lib.hid hr
        clear hcc hd hr hb
        go_wp2
        go_ret
        exact ⟨by (rw [← HR2.out]; rfl), rfl⟩
      | false =>
        rw [hb] at e1
        have hr : ((bs s).drop (i + 1)).contains b = r := by
          rw [← hcc, show (b == s[i]) = false from by rw [beq_eq_false_iff_ne] at hb ⊢; exact Ne.symm hb, Bool.false_or]
        have HR2 := Lib.hid hr
        clear hcc hd hr hb
        go_wp2
        go_roundg (s.size - (i + 1))
        case measure => omega
        case rel => exact ⟨i + 1, by go_num, by omega, rfl, HR2.out, rfl⟩
    · obtain rfl : i = s.size := by omega
      have hr : false = r := by
        rw [← hc.out, List.drop_of_length_le (by rw [bs_length]; exact Nat.le_refl _)]
        rfl
      have HR2 := Lib.hid hr
      have hlf : decide ((s.size : Int) < (s.size : Int)) = false := by simp
      clear hr
      go_wp2
      go_ret
      exact ⟨by (rw [← HR2.out]; rfl), rfl⟩

/-- A token's text, an end's too. -/
def rwrit (t : LexM.Kt) : List UInt8 := if t.1 = 5 then [10] else LexM.written t

set_option maxHeartbeats 1000000 in
set_option maxRecDepth 100000 in
theorem rwritten_calls (w : World) (t : Tv) (R : List UInt8) (hR : rwrit t.kt = R) (hs : t.kind ≠ 5 → t.text.size ≤ 100000000) :
    Calls Tryz.prog 52 #[tvV t] w fun e w' => e = .returned (.string ⟨R.toArray⟩) ∧ Below w.heap.size w w' := by
  obtain ⟨k, p, x⟩ := t
  unfold tvV
  unfold rwrit LexM.written Tv.kt at hR
  simp only at hR hs ⊢
  by_cases h5 : k = 5
  · subst h5
    rw [if_pos rfl] at hR
    have HR := Lib.hid hR
    clear hR
    go_enter Tryz.func52, Tryz.ntmps52
    go_wp2
    go_ret
    exact ⟨str_eq (by rw [← HR.out]), (Below.refl _ _).alloc (Nat.le_refl _) _⟩
  rw [if_neg h5] at hR
  replace hs := hs h5
  have q5 : (k == 5) = false := by simpa using h5
  by_cases h2 : k = 2
  · subst h2
    rw [if_pos rfl] at hR
    have hc := fun wx => rhas_calls wx x 34 hs _ rfl
    cases q : (bs x).contains 34 with
    | true =>
      rw [q] at hR hc
      have HC := Lib.hid hc
      have HR := Lib.hid hR
      clear hc hR q
      go_enter Tryz.func52, Tryz.ntmps52
      go_wp2_with (go_at_call 75; refine (HC.out _).mono ?_; rintro e w' ⟨rfl, rfl⟩)
      go_ret
      exact ⟨str_eq (by rw [← HR.out]; simp), (Below.refl _ _).alloc (Nat.le_refl _) _⟩
    | false =>
      rw [q] at hR hc
      have HC := Lib.hid hc
      have HR := Lib.hid hR
      clear hc hR q
      go_enter Tryz.func52, Tryz.ntmps52
      go_wp2_with (go_at_call 75; refine (HC.out _).mono ?_; rintro e w' ⟨rfl, rfl⟩)
      go_ret
      exact ⟨str_eq (by rw [← HR.out]; simp), (Below.refl _ _).alloc (Nat.le_refl _) _⟩
  · rw [if_neg h2] at hR
    have q2 : (k == 2) = false := by simpa using h2
    by_cases h3 : k = 3
    · subst h3
      rw [if_pos rfl] at hR
      clear h2 h5 q5
      by_cases h8 : x.size = 8
      · rw [if_pos (by rw [bs_length]; exact h8)] at hR
        have q8 : ((x.size : Int) != 8) = false := by simp [bne, h8]
        have s1 := slice_to x 4 4 rfl (by omega)
        have s2 := slice_run x 4 6 4 6 rfl rfl (by omega) (by omega)
        have s3 := slice_from x 6 6 rfl (by omega)
        have HR := Lib.hid hR
        have H8 := Lib.hid h8
        clear hR h8
        go_enter Tryz.func52, Tryz.ntmps52
        go_wp2
        go_quiet (fail)
        go_wp2
        go_ret
        have hd6 : ((bs x).drop 6).take 2 = (bs x).drop 6 := List.take_of_length_le (by rw [List.length_drop, bs_length, H8.out]; decide)
        refine ⟨str_eq (by rw [← HR.out]; simp [H8.out]; exact hd6), ?_⟩
        exact below_drewN' ((Below.refl _ _).alloc (Nat.le_refl _) _) _
      · rw [if_neg (by rw [bs_length]; exact h8)] at hR
        have q8 : ((x.size : Int) != 8) = true := by simp [bne]; omega
        have HR := Lib.hid hR
        clear hR h8
        go_enter Tryz.func52, Tryz.ntmps52
        go_wp2
        go_ret
        exact ⟨str_eq (by rw [← HR.out]; simp), (Below.refl _ _).alloc (Nat.le_refl _) _⟩
    · rw [if_neg h3] at hR
      have q3 : (k == 3) = false := by simpa using h3
      have HR := Lib.hid hR
      clear hR h3 h2 h5
      go_enter Tryz.func52, Tryz.ntmps52
      go_wp2
      go_ret
      exact ⟨str_eq (by rw [← HR.out]), (Below.refl _ _).alloc (Nat.le_refl _) _⟩

/-- The document's loop over tokens: i > 0 and neither this one nor the one before an end. -/
def sepAt (l : List Tv) (i : Nat) : Bool := decide (0 < i) && (match l[i]? with | some t => t.kind != 5 | none => false) && (match l[i - 1]? with | some t => t.kind != 5 | none => false)
/-- Whether a token stands in the line ahead of a place. -/
def begunAt (l : List Tv) (i : Nat) : Bool := decide (0 < i) && (match l[i - 1]? with | some t => t.kind != 5 | none => false)

theorem rjoin_step {l : List Tv} {i : Nat} {t : Tv} (h : l[i]? = some t) :
    LexM.joinM ((l.drop i).map Tv.kt) (begunAt l i) = (if begunAt l i && t.kind != 5 then [32] else []) ++ (rwrit t.kt ++ LexM.joinM ((l.drop (i + 1)).map Tv.kt) (begunAt l (i + 1))) := by
  have hb : begunAt l (i + 1) = (t.kind != 5) := by
    unfold begunAt
    rw [Nat.add_sub_cancel, h]
    simp
  rw [join_step h, hb]
  unfold rwrit
  by_cases h5 : t.kind = 5
  · rw [if_pos h5, if_pos (show t.kt.1 = 5 from h5)]
    simp [h5]
  · rw [if_neg h5, if_neg (show ¬ t.kt.1 = 5 from h5)]
    have hk : (t.kind == 5) = false := by simpa using h5
    simp [bne, hk]

set_option maxHeartbeats 4000000 in
set_option maxRecDepth 100000 in
theorem rjoined_calls (w : World) (A : Option Addr) (l : List Tv) (n ca : Nat) (ha : TokS w A l) (hn : l.length = n) (hl : n ≤ 100000000) (R : List UInt8) (hR : LexM.joinM (l.map Tv.kt) false = R) (hRl : R.length ≤ 100000000) :
    Calls Tryz.prog 30 #[.slice A n ca] w fun e w' => e = .returned (.string ⟨R.toArray⟩) ∧ Below w.heap.size w w' := by
  have HA := Lib.hid ha
  have HN := Lib.hid hn
  have HR := Lib.hid hR
  clear ha hn hR
  go_enter Tryz.func30, Tryz.ntmps30
  go_wp2
  go_loopg [3, 4] n (fun q u v wr => ∃ (i : Nat) (X : ByteArray), u = .string X ∧ v = .int .i64 i ∧ i ≤ n ∧ q = n - i ∧ Aside (bs X ++ LexM.joinM ((l.drop i).map Tv.kt) (begunAt l i) = R) ∧ Aside (Below w.heap.size w wr))
  case atStart => exact ⟨0, ⟨#[]⟩, rfl, rfl, Nat.zero_le _, rfl, HR.out, Below.refl _ w⟩
  case round =>
    obtain ⟨i, X, rfl, rfl, hi, rfl, hP, hB⟩ := hrel
    by_cases hlt : i < n
    · have hltz : decide ((i : Int) < (n : Int)) = true := by simp; omega
      have hltz2 : (i : Int) < (n : Int) := by omega
      obtain ⟨b, off, rfl, hbl, hT⟩ := HA.out (by have := HN.out; omega)
      obtain ⟨t, ht⟩ : ∃ t, l[i]? = some t := ⟨_, List.getElem?_eq_getElem (by have := HN.out; omega)⟩
      obtain ⟨c0, c1, c2⟩ := hT.below hB.out hbl i t ht
      have hst := rjoin_step ht
      obtain ⟨Y, hY⟩ : ∃ Y : ByteArray, (⟨(rwrit t.kt).toArray⟩ : ByteArray) = Y := ⟨_, rfl⟩
      have hYb : bs Y = rwrit t.kt := by rw [← hY]
      rw [← hYb] at hst
      have hPn := hP.out
      rw [hst] at hPn
      have hPl := congrArg List.length hPn
      simp only [List.length_append, bs_length] at hPl
      have hXs : X.size ≤ 100000000 := by omega
      have hYs : Y.size ≤ 100000000 := by omega
      have hts : t.kind ≠ 5 → t.text.size ≤ 100000000 := fun h5 => by
        have h1 := written_ge t.kt
        have : (LexM.written t.kt).length = Y.size := by rw [← bs_length, hYb]; unfold rwrit; rw [if_neg (show ¬ t.kt.1 = 5 from h5)]
        have h2 : t.kt.2.length = t.text.size := bs_length _
        omega
      have hwr := fun wx => rwritten_calls wx t _ rfl hts
      rw [hY] at hwr
      unfold tvV at hwr
      have HWR := Lib.hid hwr
      clear hwr hY hst
      cases hsep : (begunAt l i && t.kind != 5) with
      | true =>
        rw [hsep] at hPn hPl
        have hX1 : X.size + 1 ≤ 100000000 := by simp at hPl; omega
        have hX2 : X.size + 1 + Y.size ≤ 100000000 := by simp at hPl; omega
        have HP' : Hid (bs (X ++ ⟨#[32]⟩ ++ Y) ++ LexM.joinM ((l.drop (i + 1)).map Tv.kt) (begunAt l (i + 1)) = R) := Lib.hid (by rw [← hPn, bs_append, bs_append]; simp [bs])
        unfold begunAt at hsep
        rw [Bool.and_eq_true, Bool.and_eq_true] at hsep
        obtain ⟨⟨h0, hp⟩, p1⟩ := hsep
        have hi1 : 0 < i := by simpa using h0
        have h0z : decide ((0 : Int) < (i : Int)) = true := by simp; omega
        obtain ⟨t0, ht0⟩ : ∃ t0, l[i - 1]? = some t0 := ⟨_, List.getElem?_eq_getElem (by have := HN.out; omega)⟩
        rw [ht0] at hp
        have p0 : (t0.kind != 5) = true := hp
        obtain ⟨d0, _, _⟩ := hT.below hB.out hbl (i - 1) t0 ht0
        have e1 : ((i : Int) - 1).toNat = i - 1 := by omega
        have e2 : (0 : Int) ≤ (i : Int) - 1 := by omega
        have e3 : (i : Int) - 1 < (n : Int) := by omega
        clear hP hPn hPl ht ht0 hT h0 hp hYb
        go_wp2_with (go_at_call 52; refine (HWR.out _).mono ?_; rintro e w1 ⟨rfl, hb1⟩; have HB1 := Lib.hid hb1; clear hb1)
        go_roundg (n - (i + 1))
        case measure => omega
        case rel => exact ⟨i + 1, _, rfl, by go_num, by omega, rfl, HP'.out, hB.out.trans (HB1.out.mono hB.out.size)⟩
      | false =>
        rw [hsep] at hPn hPl
        have hX2 : X.size + Y.size ≤ 100000000 := by simp at hPl; omega
        have HP' : Hid (bs (X ++ Y) ++ LexM.joinM ((l.drop (i + 1)).map Tv.kt) (begunAt l (i + 1)) = R) := Lib.hid (by rw [← hPn, bs_append]; simp)
        unfold begunAt at hsep
        by_cases hi0 : i = 0
        · have h0z : decide ((0 : Int) < (i : Int)) = false := by simp; omega
          have h0n : decide (0 < i) = false := by simp; omega
          clear hi0 hP hPn hPl ht hT hYb hsep
          go_wp2_with (go_at_call 52; refine (HWR.out _).mono ?_; rintro e w1 ⟨rfl, hb1⟩; have HB1 := Lib.hid hb1; clear hb1)
          go_roundg (n - (i + 1))
          case measure => omega
          case rel => exact ⟨i + 1, _, rfl, by go_num, by omega, rfl, HP'.out, hB.out.trans (HB1.out.mono hB.out.size)⟩
        · have h0z : decide ((0 : Int) < (i : Int)) = true := by simp; omega
          have h0n : decide (0 < i) = true := by simp; omega
          have hipos : 0 < i := by omega
          rw [h0n, Bool.true_and] at hsep
          clear hi0
          cases p1 : (t.kind != 5) with
          | false =>
            clear hP hPn hPl ht hT hYb hsep
            go_wp2_with (go_at_call 52; refine (HWR.out _).mono ?_; rintro e w1 ⟨rfl, hb1⟩; have HB1 := Lib.hid hb1; clear hb1)
            go_roundg (n - (i + 1))
            case measure => omega
            case rel => exact ⟨i + 1, _, rfl, by go_num, by omega, rfl, HP'.out, hB.out.trans (HB1.out.mono hB.out.size)⟩
          | true =>
            rw [p1, Bool.and_true] at hsep
            obtain ⟨t0, ht0⟩ : ∃ t0, l[i - 1]? = some t0 := ⟨_, List.getElem?_eq_getElem (by have := HN.out; omega)⟩
            rw [ht0] at hsep
            have p0 : (t0.kind != 5) = false := hsep
            obtain ⟨d0, _, _⟩ := hT.below hB.out hbl (i - 1) t0 ht0
            have e1 : ((i : Int) - 1).toNat = i - 1 := by omega
            have e2 : (0 : Int) ≤ (i : Int) - 1 := by omega
            have e3 : (i : Int) - 1 < (n : Int) := by omega
            clear hP hPn hPl ht hT hYb ht0 hsep
            go_wp2_with (go_at_call 52; refine (HWR.out _).mono ?_; rintro e w1 ⟨rfl, hb1⟩; have HB1 := Lib.hid hb1; clear hb1)
            go_roundg (n - (i + 1))
            case measure => omega
            case rel => exact ⟨i + 1, _, rfl, by go_num, by omega, rfl, HP'.out, hB.out.trans (HB1.out.mono hB.out.size)⟩
    · obtain rfl : i = n := by omega
      have hPR : bs X = R := by
        rw [← hP.out, List.drop_of_length_le (by have := HN.out; omega)]
        simp [LexM.joinM]
      have HX := Lib.hid hPR
      clear hPR
      go_wp2
      go_ret
      exact ⟨str_eq HX.out, hB.out⟩

set_option maxHeartbeats 1000000 in
set_option maxRecDepth 100000 in
/-- The document's Join. -/
theorem rjoin_calls (w : World) (A : Option Addr) (l : List Tv) (n ca : Nat) (ha : TokS w A l) (hn : l.length = n) (hl : n ≤ 100000000) (hRl : (LexM.joinM (l.map Tv.kt) false).length ≤ 100000000) (x : List UInt8) (er : Int) (hq : LexM.joinRes (l.map Tv.kt) = (x, er)) :
    Calls Tryz.prog 14 #[.slice A n ca] w fun e w' => e = .returned (.tuple #[.string ⟨x.toArray⟩, .int .i64 er]) ∧ Below w.heap.size w w' := by
  obtain ⟨R, hR⟩ : ∃ R, LexM.joinM (l.map Tv.kt) false = R := ⟨_, rfl⟩
  rw [hR] at hRl
  have hj := rjoined_calls w A l n ca ha hn hl R hR hRl
  unfold LexM.joinRes at hq
  rw [hR] at hq
  obtain ⟨ts, m, e1, hr⟩ : ∃ ts m e1, LexM.lexRes R = (ts, m, e1) := ⟨_, _, _, rfl⟩
  rw [hr] at hq
  simp only at hq
  obtain ⟨S, hS⟩ : ∃ S : ByteArray, (⟨R.toArray⟩ : ByteArray) = S := ⟨_, rfl⟩
  have hbs : bs S = R := by rw [← hS]
  have hss : S.size ≤ 100000000 := by rw [← bs_length, hbs]; exact hRl
  have hlx : ∀ wx, Below w.heap.size w wx → Calls Tryz.prog 10 #[.string S] wx fun e w' => ∃ A cap, e = .returned (.tuple #[.slice A ts.length cap, .int .i64 m, .int .i64 e1]) ∧ TokS w' A (ts.map tvOf) ∧ Below wx.heap.size wx w' := fun wx hb =>
    rlexT_calls wx S (by omega) ts m e1 (by rw [hbs]; exact hr)
  rw [hS] at hj
  have hlen := lexRes_len hr
  by_cases h0 : e1 = 0
  · subst h0
    rw [if_neg (by simp)] at hq
    have hsm : ∀ wx B cb, TokS wx B (ts.map tvOf) → TokS wx A l → Calls Tryz.prog 27 #[.slice B ts.length cb, .slice A n ca] wx fun e w' => e = .returned (.bool (decide (LexM.kts ts = l.map Tv.kt))) ∧ ∃ q, w' = wx.drewN q := fun wx B cb hB hA =>
      rsame_calls wx B A _ _ _ _ cb ca hB hA (by simp) hn (by omega) _ (by rw [sameTv_eq, tvOf_kts])
    have HA := Lib.hid ha
    by_cases hk : LexM.kts ts = l.map Tv.kt
    · rw [if_pos hk] at hq
      cases hq
      rw [decide_eq_true hk] at hsm
      rw [hS]
      have HJ := Lib.hid hj
      have HLX := Lib.hid hlx
      have HSM := Lib.hid hsm
      clear hj hlx hsm hk ha hn hR hr hbs hS hlen hss hRl hl
      go_enter Tryz.func14, Tryz.ntmps14
      go_wp2_with (first
        | (go_at_call 30; refine HJ.out.mono ?_; rintro e w1 ⟨rfl, hb1⟩; have HB1 := Lib.hid hb1; clear hb1)
        | (go_at_call 10; refine (HLX.out _ HB1.out).mono ?_; rintro e w2 ⟨B, cb, rfl, ht2, hb2⟩; have HT2 := Lib.hid ht2; have HB2 := Lib.hid (HB1.out.trans (hb2.mono HB1.out.size)); clear ht2 hb2)
        | (go_at_call 27; refine (HSM.out _ _ _ HT2.out (HA.out.below HB2.out)).mono ?_; rintro e w3 ⟨rfl, nq, rfl⟩))
      go_ret2
      exact ⟨rfl, below_drewN' HB2.out _⟩
    · rw [if_neg hk] at hq
      cases hq
      rw [decide_eq_false hk] at hsm
      have HJ := Lib.hid hj
      have HLX := Lib.hid hlx
      have HSM := Lib.hid hsm
      clear hj hlx hsm hk ha hn hR hr hbs hS hlen hss hRl hl
      go_enter Tryz.func14, Tryz.ntmps14
      go_wp2_with (first
        | (go_at_call 30; refine HJ.out.mono ?_; rintro e w1 ⟨rfl, hb1⟩; have HB1 := Lib.hid hb1; clear hb1)
        | (go_at_call 10; refine (HLX.out _ HB1.out).mono ?_; rintro e w2 ⟨B, cb, rfl, ht2, hb2⟩; have HT2 := Lib.hid ht2; have HB2 := Lib.hid (HB1.out.trans (hb2.mono HB1.out.size)); clear ht2 hb2)
        | (go_at_call 27; refine (HSM.out _ _ _ HT2.out (HA.out.below HB2.out)).mono ?_; rintro e w3 ⟨rfl, nq, rfl⟩))
      go_ret2
      exact ⟨rfl, below_drewN' HB2.out _⟩
  · rw [if_pos h0] at hq
    have q0 : (e1 != 0) = true := by simpa [bne] using h0
    simp only [Prod.mk.injEq] at hq
    obtain ⟨rfl, rfl⟩ := hq
    have HJ := Lib.hid hj
    have HLX := Lib.hid hlx
    clear hj hlx h0 ha hn hR hr hbs hS hlen hss hRl hl
    go_enter Tryz.func14, Tryz.ntmps14
    go_wp2_with (first
      | (go_at_call 30; refine HJ.out.mono ?_; rintro e w1 ⟨rfl, hb1⟩; have HB1 := Lib.hid hb1; clear hb1)
      | (go_at_call 10; refine (HLX.out _ HB1.out).mono ?_; rintro e w2 ⟨B, cb, rfl, ht2, hb2⟩; have HB2 := Lib.hid (HB1.out.trans (hb2.mono HB1.out.size)); clear ht2 hb2))
    go_ret2
    exact ⟨rfl, HB2.out⟩

end Go.Proofs.YtpnfcgmogjpliaaGreatDoor
