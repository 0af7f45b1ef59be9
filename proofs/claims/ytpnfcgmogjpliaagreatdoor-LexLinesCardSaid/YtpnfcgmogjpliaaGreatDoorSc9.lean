/- The scanner's method token answers as the model's tokStep, for every source of at most 20,000 bytes, where the library's tables lie as their texts lay them. -/
import Derived.Test.YtpnfcgmogjpliaaGreatDoorSc8
namespace Go.Proofs.YtpnfcgmogjpliaaGreatDoor
open Go.RowKit

theorem ne_int (b c : UInt8) : ((b.toNat : Int) != (c.toNat : Int)) = !(b == c) := by
  rw [Bool.eq_iff_iff, bne_iff_ne]
  simp only [Bool.not_eq_true', beq_eq_false_iff_ne, ne_eq]
  constructor
  · intro h e
    exact h (by rw [e])
  · intro h e
    exact h (UInt8.toNat_inj.1 (by omega))
theorem eq_int (b c : UInt8) : ((b.toNat : Int) == (c.toNat : Int)) = (b == c) := by
  rw [Bool.eq_iff_iff, beq_iff_eq, beq_iff_eq]
  constructor
  · intro e
    exact UInt8.toNat_inj.1 (by omega)
  · intro e
    rw [e]

/-- The bytes from a place on, as a string. -/
theorem rest_bytes (s : ByteArray) (k : Nat) : bs (s.extract k s.size) = (bs s).drop k := Lib.extract_to_end s k
theorem rest_get (s : ByteArray) (k i : Nat) (h : i < (s.extract k s.size).size) : ((bs s).drop k)[i]? = some (s.extract k s.size)[i] := by
  rw [← rest_bytes, bs_get _ i h]
theorem ext_toList (t : ByteArray) (i j : Nat) : (t.extract i j).toList = ((bs t).drop i).take (j - i) := by rw [Lib.toList_data, Lib.extract_data]
theorem digits_bytes (t : ByteArray) (_h : 13 ≤ t.size) : bs (t.extract 2 6 ++ t.extract 7 9 ++ t.extract 10 12) = LexM.dateDigits (bs t) := by
  simp only [bs, ByteArray.data_append, Array.toList_append, LexM.dateDigits, Lib.extract_data]
theorem mk_bytes (x : ByteArray) : (⟨(bs x).toArray⟩ : ByteArray) = x := by
  apply ByteArray.ext
  simp [bs]

theorem hasDate_iff (t : ByteArray) (h13 : 13 ≤ t.size) : LexM.hasDate (bs t) = (((t.extract 0 2).toList == ([123, 94] : List UInt8)) && !((t[6].toNat : Int) != 45) && !((t[9].toNat : Int) != 45) && !((t[12].toNat : Int) != 125)) := by
  have e6 := ne_int t[6] 45
  have e9 := ne_int t[9] 45
  have e12 := ne_int t[12] 125
  rw [show (((45 : UInt8).toNat : Nat) : Int) = 45 from rfl] at e6 e9
  rw [show (((125 : UInt8).toNat : Nat) : Int) = 125 from rfl] at e12
  rw [e6, e9, e12, ext_toList]
  unfold LexM.hasDate
  rw [bs_length, bs_get t 6 (by omega), bs_get t 9 (by omega), bs_get t 12 (by omega)]
  simp [h13]

theorem date_some (g : Nat) (s : ByteArray) (k : Nat) (ln : Bool) (bad : Int) (hs : s.size ≤ 20000) (hk : k < s.size) {d : List UInt8} {n : Nat} (hd : LexM.dateM ((bs s).drop k) = some (d, n)) (w : World) (h : ScSt w g s k ln bad) :
    Calls Tryz.prog 83 #[.pointer (some ⟨g, 0, none⟩)] w fun e w' => e = .returned (.tuple #[.string ⟨d.toArray⟩, .int .i64 n, .bool true]) ∧ ScSt w' g s k ln bad ∧ Ch g w w' := by
  obtain ⟨t, ht⟩ : ∃ t, s.extract k s.size = t := ⟨_, rfl⟩
  have hb := rest_bytes s k
  rw [ht] at hb
  rw [← hb] at hd
  unfold LexM.dateM at hd
  rw [take_two] at hd
  split at hd
  · rename_i hp
    simp only [Option.some.injEq, Prod.mk.injEq] at hd
    obtain ⟨rfl, rfl⟩ := hd
    exact date_empty w g s k ln bad h hs hk t ht hp
  · rename_i hp
    split at hd
    · rename_i hc
      simp only [Option.some.injEq, Prod.mk.injEq] at hd
      obtain ⟨rfl, rfl⟩ := hd
      rw [Bool.and_eq_true] at hc
      obtain ⟨hc, hday⟩ := hc
      have h13 : 13 ≤ t.size := by
        have := hc
        unfold LexM.hasDate at this
        simp only [Bool.and_eq_true, decide_eq_true_eq, bs_length] at this
        omega
      rw [hasDate_iff t h13] at hc
      simp only [Bool.and_eq_true, Bool.not_eq_true'] at hc
      obtain ⟨⟨⟨q2, q6⟩, q9⟩, q12⟩ := hc
      have hD := digits_bytes t h13
      obtain ⟨D, hDD⟩ : ∃ D, t.extract 2 6 ++ t.extract 7 9 ++ t.extract 10 12 = D := ⟨_, rfl⟩
      rw [hDD] at hD
      rw [← hD] at hday ⊢
      rw [mk_bytes]
      have h8 : D.size = 8 := by
        rw [← bs_length]
        unfold LexM.isDay at hday
        simp only [Bool.and_eq_true, beq_iff_eq] at hday
        exact hday.1.1
      refine date_day_true w g s k ln bad h hs hk t ht h13 (by simpa using hp) q2 q6 q9 q12 D hDD h8 ?_ hday
      intro e
      rw [Lib.toList_data] at e
      unfold LexM.isDay at hday
      rw [show bs D = [32, 32, 32, 32, 32, 32, 32, 32] from e] at hday
      revert hday
      decide
    · cases hd

theorem date_none (g : Nat) (s : ByteArray) (k : Nat) (ln : Bool) (bad : Int) (hs : s.size ≤ 20000) (hk : k < s.size) (hd : LexM.dateM ((bs s).drop k) = none) : ∃ (dx : ByteArray) (dn : Int), ∀ w, ScSt w g s k ln bad →
    Calls Tryz.prog 83 #[.pointer (some ⟨g, 0, none⟩)] w fun e w' => e = .returned (.tuple #[.string dx, .int .i64 dn, .bool false]) ∧ ScSt w' g s k ln bad ∧ Ch g w w' := by
  obtain ⟨t, ht⟩ : ∃ t, s.extract k s.size = t := ⟨_, rfl⟩
  have hb := rest_bytes s k
  rw [ht] at hb
  rw [← hb] at hd
  unfold LexM.dateM at hd
  rw [take_two] at hd
  split at hd
  · cases hd
  · rename_i hp
    have hp' : Lib.hasPrefix t.data.toList [123, 125] = false := by simpa using hp
    split at hd
    · cases hd
    · rename_i hc
      by_cases h13 : 13 ≤ t.size
      · rw [hasDate_iff t h13] at hc
        by_cases hall : (((t.extract 0 2).toList == ([123, 94] : List UInt8)) && !((t[6].toNat : Int) != 45) && !((t[9].toNat : Int) != 45) && !((t[12].toNat : Int) != 125)) = true
        · rw [hall, Bool.true_and] at hc
          simp only [Bool.and_eq_true, Bool.not_eq_true'] at hall
          obtain ⟨⟨⟨q2, q6⟩, q9⟩, q12⟩ := hall
          have hD := digits_bytes t h13
          obtain ⟨D, hDD⟩ : ∃ D, t.extract 2 6 ++ t.extract 7 9 ++ t.extract 10 12 = D := ⟨_, rfl⟩
          rw [hDD] at hD
          rw [← hD] at hc
          have h8 : D.size = 8 := by
            rw [← hDD]
            simp
            omega
          by_cases he : D.toList = [32, 32, 32, 32, 32, 32, 32, 32]
          · exact ⟨D, 13, fun w h => date_blank w g s k ln bad h hs hk t ht h13 hp' q2 q6 q9 q12 D hDD he⟩
          · exact ⟨D, 13, fun w h => date_day_false w g s k ln bad h hs hk t ht h13 hp' q2 q6 q9 q12 D hDD h8 he (by simpa using hc)⟩
        · refine ⟨⟨#[]⟩, 0, fun w h => date_not w g s k ln bad h hs hk t ht hp' (.inr ⟨h13, ?_⟩)⟩
          generalize ((t.extract 0 2).toList == ([123, 94] : List UInt8)) = p2 at hall ⊢
          generalize ((t[6].toNat : Int) != 45) = p6 at hall ⊢
          generalize ((t[9].toNat : Int) != 45) = p9 at hall ⊢
          generalize ((t[12].toNat : Int) != 125) = p12 at hall ⊢
          revert hall
          revert p2 p6 p9 p12
          decide
      · exact ⟨⟨#[]⟩, 0, fun w h => date_not w g s k ln bad h hs hk t ht hp' (.inl (by omega))⟩


theorem drop_here {s : ByteArray} {k : Nat} {b : UInt8} {t : List UInt8} (hd : (bs s).drop k = b :: t) (hk : k < s.size) : s[k] = b := by
  have e : some s[k] = some b := by rw [← bs_get s k hk, ← List.head?_drop, hd]; rfl
  injection e
theorem mk_list (x : ByteArray) (l : List UInt8) (h : bs x = l) : (⟨l.toArray⟩ : ByteArray) = x := by subst h; exact mk_bytes x

set_option maxHeartbeats 1000000 in
theorem token_tok (w0 w : World) (g : Nat) (s : ByteArray) (k : Nat) (ln : Bool) (bad : Int) (h : ScSt w g s k ln bad) (hs : s.size ≤ 20000) (hT : Tabs w0 w) (hg : w0.heap.size ≤ g) {b : UInt8} {t : List UInt8} (hd : (bs s).drop k = b :: t) {kind n : Nat} {x : List UInt8} (hst : LexM.tokStep b t = .tok kind x n) :
    Calls Tryz.prog 62 #[.pointer (some ⟨g, 0, none⟩)] w fun e w' => e = .returned (.tuple #[.agg #[.int .i64 kind, .int .i64 k, .string ⟨x.toArray⟩], .bool true]) ∧ ScSt w' g s (k + n) ln bad ∧ Ch g w w' := by
  obtain ⟨hk, ht, hd1⟩ := drop_lt hd
  have hsk := drop_here hd hk
  have hl1 := isAt_letter hd
  have hl2 := isAt_digit hd
  unfold LexM.tokStep at hst
  split at hst
  · rename_i hl
    dsimp only at hst
    split at hst
    · cases hst
    · rename_i hn
      cases hst
      have := token_word w0 w g s k ln bad true h hs hT hg (hl1.trans hl) (by unfold runTo; rw [hd]; simp; omega)
      unfold runTo at this
      rw [hd] at this
      exact this
  · rename_i hl
    have hl' : LexM.isLetter b = false := by simpa using hl
    split at hst
    · rename_i hdg
      dsimp only at hst
      split at hst
      · cases hst
      · rename_i hn
        cases hst
        have := token_num w0 w g s k ln bad true h hs hT hg (hl1.trans hl') (hl2.trans hdg) (by unfold runTo; rw [hd]; simp; omega)
        unfold runTo at this
        rw [hd] at this
        exact this
    · rename_i hdg
      have hdg' : LexM.isDigit b = false := by simpa using hdg
      split at hst
      · rename_i hq
        have hq34 : ((s[k].toNat : Int) == 34) = true ∨ (((s[k].toNat : Int) == 34) = false ∧ ((s[k].toNat : Int) == 39) = true) := by
          have e1 := eq_int s[k] 34
          have e2 := eq_int s[k] 39
          rw [show (((34 : UInt8).toNat : Nat) : Int) = 34 from rfl] at e1
          rw [show (((39 : UInt8).toNat : Nat) : Int) = 39 from rfl] at e2
          rw [e1, e2, hsk]
          simp only [Bool.or_eq_true] at hq
          cases h34 : (b == 34) with
          | true => exact .inl rfl
          | false => rw [h34] at hq; exact .inr ⟨rfl, by simpa using hq⟩
        have h10 : (s[k] == 10) = false := by
          rw [hsk]
          simp only [Bool.or_eq_true, beq_iff_eq] at hq
          rcases hq with rfl | rfl <;> rfl
        split at hst
        · cases hst
        · rename_i j hj
          split at hst
          · cases hst
          · rename_i hw
            cases hst
            have hqa : quoteAt s k s[k] = some j := by unfold quoteAt; rw [hd1, hsk]; exact hj
            have hwa : wrongIn s k j = none := by unfold wrongIn; rw [hd1]; exact hw
            have hxe : bs (s.extract (k + 1) (k + 1 + j)) = t.take j := by rw [← hd1]; exact (Lib.extract_data s (k + 1) (k + 1 + j)).trans (by rw [Nat.add_sub_cancel_left])
            rw [mk_list _ _ hxe]
            exact token_quote w g s k ln bad 2 _ true (k + (j + 2)) bad h hs hk (hl1.trans hl') (hl2.trans hdg') hq34 fun wx hx => text_ok wx g s k j ln bad hx hs hk h10 hqa hwa
      · rename_i hq
        have hn34 : ((s[k].toNat : Int) == 34) = false := by
          have e1 := eq_int s[k] 34
          rw [show (((34 : UInt8).toNat : Nat) : Int) = 34 from rfl] at e1
          rw [e1, hsk]
          cases h34 : (b == 34) with
          | true => rw [h34] at hq; exact absurd rfl hq
          | false => rfl
        have hn39 : ((s[k].toNat : Int) == 39) = false := by
          have e1 := eq_int s[k] 39
          rw [show (((39 : UInt8).toNat : Nat) : Int) = 39 from rfl] at e1
          rw [e1, hsk]
          cases h39 : (b == 39) with
          | true => rw [h39] at hq; simp at hq
          | false => rfl
        split at hst
        · rename_i d m hdm
          cases hst
          rw [← hd] at hdm
          have hm := LexM.dateM_some hdm
          have hm13 : n ≤ 13 := by
            unfold LexM.dateM at hdm
            split at hdm
            · simp only [Option.some.injEq, Prod.mk.injEq] at hdm; omega
            · split at hdm
              · simp only [Option.some.injEq, Prod.mk.injEq] at hdm; omega
              · cases hdm
          exact token_date w g s k ln bad _ n h hs hk (hl1.trans hl') (hl2.trans hdg') hn34 hn39 hm13 fun wx hx => date_some g s k ln bad hs hk hdm wx hx
        · rename_i hdm
          split at hst
          · rename_i v hv
            cases hst
            rw [← hd] at hdm hv
            obtain ⟨dx, dn, hdc⟩ := date_none g s k ln bad hs hk hdm
            exact token_sign w g s k ln bad 4 _ true (k + x.length) bad dx dn h hs hk (hl1.trans hl') (hl2.trans hdg') hn34 hn39 (fun wx hx => hdc wx hx) fun wx hx hc => sign_yes w0 wx g s k ln bad hx hs hk (hT.ch hg hc) hg x hv
          · cases hst

set_option maxHeartbeats 1000000 in
theorem token_bad (w0 w : World) (g : Nat) (s : ByteArray) (k : Nat) (ln : Bool) (bad : Int) (h : ScSt w g s k ln bad) (hs : s.size ≤ 20000) (hT : Tabs w0 w) (hg : w0.heap.size ≤ g) {b : UInt8} {t : List UInt8} (hd : (bs s).drop k = b :: t) {i : Nat} (hst : LexM.tokStep b t = .bad i) :
    Calls Tryz.prog 62 #[.pointer (some ⟨g, 0, none⟩)] w fun e w' => (∃ (a : Int) (x : ByteArray), e = .returned (.tuple #[.agg #[.int .i64 a, .int .i64 k, .string x], .bool false])) ∧ (∃ k2 : Nat, ScSt w' g s k2 ln ((k : Int) + i)) ∧ Ch g w w' := by
  obtain ⟨hk, ht, hd1⟩ := drop_lt hd
  have hsk := drop_here hd hk
  have hl1 := isAt_letter hd
  have hl2 := isAt_digit hd
  unfold LexM.tokStep at hst
  split at hst
  · rename_i hl
    dsimp only at hst
    split at hst
    · rename_i hn
      cases hst
      refine (token_word w0 w g s k ln bad false h hs hT hg (hl1.trans hl) (by unfold runTo; rw [hd]; simp; omega)).mono fun e w' hw => ⟨⟨_, _, hw.1⟩, ⟨runTo LexM.isWordy s k, ?_⟩, hw.2.2⟩
      have := hw.2.1
      rw [show orBad false bad k = (k : Int) + (0 : Nat) from by unfold orBad; simp] at this
      exact this
    · cases hst
  · rename_i hl
    have hl' : LexM.isLetter b = false := by simpa using hl
    split at hst
    · rename_i hdg
      dsimp only at hst
      split at hst
      · rename_i hn
        cases hst
        refine (token_num w0 w g s k ln bad false h hs hT hg (hl1.trans hl') (hl2.trans hdg) (by unfold runTo; rw [hd]; simp; omega)).mono fun e w' hw => ⟨⟨_, _, hw.1⟩, ⟨runTo LexM.isDigit s k, ?_⟩, hw.2.2⟩
        have := hw.2.1
        rw [show orBad false bad k = (k : Int) + (0 : Nat) from by unfold orBad; simp] at this
        exact this
      · cases hst
    · rename_i hdg
      have hdg' : LexM.isDigit b = false := by simpa using hdg
      split at hst
      · rename_i hq
        have hq34 : ((s[k].toNat : Int) == 34) = true ∨ (((s[k].toNat : Int) == 34) = false ∧ ((s[k].toNat : Int) == 39) = true) := by
          have e1 := eq_int s[k] 34
          have e2 := eq_int s[k] 39
          rw [show (((34 : UInt8).toNat : Nat) : Int) = 34 from rfl] at e1
          rw [show (((39 : UInt8).toNat : Nat) : Int) = 39 from rfl] at e2
          rw [e1, e2, hsk]
          simp only [Bool.or_eq_true] at hq
          cases h34 : (b == 34) with
          | true => exact .inl rfl
          | false => rw [h34] at hq; exact .inr ⟨rfl, by simpa using hq⟩
        have h10 : (s[k] == 10) = false := by
          rw [hsk]
          simp only [Bool.or_eq_true, beq_iff_eq] at hq
          rcases hq with rfl | rfl <;> rfl
        split at hst
        · rename_i hj
          cases hst
          have hqa : quoteAt s k s[k] = none := by unfold quoteAt; rw [hd1, hsk]; exact hj
          refine (token_quote w g s k ln bad 0 _ false k k h hs hk (hl1.trans hl') (hl2.trans hdg') hq34 fun wx hx => text_none wx g s k ln bad hx hs hk h10 hqa).mono fun e w' hw => ⟨⟨_, _, hw.1⟩, ⟨k, ?_⟩, hw.2.2⟩
          have := hw.2.1
          rw [show ((k : Int) + (0 : Nat)) = (k : Int) from by simp]
          exact this
        · rename_i j hj
          split at hst
          · rename_i p hw
            cases hst
            have hqa : quoteAt s k s[k] = some j := by unfold quoteAt; rw [hd1, hsk]; exact hj
            have hwa : wrongIn s k j = some p := by unfold wrongIn; rw [hd1]; exact hw
            refine (token_quote w g s k ln bad 2 _ false k ((k : Int) + 1 + p) h hs hk (hl1.trans hl') (hl2.trans hdg') hq34 fun wx hx => text_bad wx g s k j p ln bad hx hs hk h10 hqa hwa).mono fun e w' hw => ⟨⟨_, _, hw.1⟩, ⟨k, ?_⟩, hw.2.2⟩
            have := hw.2.1
            rw [show ((k : Int) + ((1 + p : Nat) : Int)) = (k : Int) + 1 + p from by omega]
            exact this
          · cases hst
      · rename_i hq
        have hn34 : ((s[k].toNat : Int) == 34) = false := by
          have e1 := eq_int s[k] 34
          rw [show (((34 : UInt8).toNat : Nat) : Int) = 34 from rfl] at e1
          rw [e1, hsk]
          cases h34 : (b == 34) with
          | true => rw [h34] at hq; exact absurd rfl hq
          | false => rfl
        have hn39 : ((s[k].toNat : Int) == 39) = false := by
          have e1 := eq_int s[k] 39
          rw [show (((39 : UInt8).toNat : Nat) : Int) = 39 from rfl] at e1
          rw [e1, hsk]
          cases h39 : (b == 39) with
          | true => rw [h39] at hq; simp at hq
          | false => rfl
        split at hst
        · cases hst
        · rename_i hdm
          split at hst
          · cases hst
          · rename_i hv
            cases hst
            rw [← hd] at hdm hv
            obtain ⟨dx, dn, hdc⟩ := date_none g s k ln bad hs hk hdm
            refine (token_sign w g s k ln bad 4 _ false k k dx dn h hs hk (hl1.trans hl') (hl2.trans hdg') hn34 hn39 (fun wx hx => hdc wx hx) fun wx hx hc => sign_no w0 wx g s k ln bad hx hs hk (hT.ch hg hc) hg hv).mono fun e w' hw => ⟨⟨_, _, hw.1⟩, ⟨k, ?_⟩, hw.2.2⟩
            have := hw.2.1
            rw [show ((k : Int) + (0 : Nat)) = (k : Int) from by simp]
            exact this

end Go.Proofs.YtpnfcgmogjpliaaGreatDoor
