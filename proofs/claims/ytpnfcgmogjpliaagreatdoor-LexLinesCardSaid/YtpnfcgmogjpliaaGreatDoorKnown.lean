/- The program's Join, and the law's own example: known answers true, where the library's tables lie as their texts lay them. -/
import Derived.Test.YtpnfcgmogjpliaaGreatDoorJoin
import Derived.Deep.AppendLies
namespace Go.Proofs.YtpnfcgmogjpliaaGreatDoor
open Go.RowKit
attribute [local go_sem ↓] Go.wp_at_zero Go.wp_at_succ

def tvOf (t : LexM.Tk) : Tv := ⟨t.kind, t.pos, ⟨t.text.toArray⟩⟩
theorem tvOf_kts (ts : List LexM.Tk) : (ts.map tvOf).map Tv.kt = LexM.kts ts := by
  simp [LexM.kts, tvOf, Tv.kt, LexM.Tk.kt, bs, Function.comp_def]
theorem tkCells_get : ∀ {ts : List LexM.Tk} {j : Nat} {t : LexM.Tk}, ts[j]? = some t →
    (tkCells ts)[j * 3]? = some (.int .i64 t.kind) ∧ (tkCells ts)[j * 3 + 1]? = some (.int .i64 t.pos) ∧ (tkCells ts)[j * 3 + 2]? = some (.string ⟨t.text.toArray⟩)
  | [], j, t, h => by simp at h
  | x :: ts, 0, t, h => by
    simp only [List.getElem?_cons_zero, Option.some.injEq] at h
    subst h
    exact ⟨rfl, rfl, rfl⟩
  | x :: ts, j + 1, t, h => by
    simp only [List.getElem?_cons_succ] at h
    obtain ⟨h0, h1, h2⟩ := tkCells_get h
    rw [show (j + 1) * 3 = j * 3 + 3 from by omega]
    exact ⟨h0, h1, h2⟩
theorem toks_row {W : World} {base : Nat} {v : Value} {ts : List LexM.Tk} (h : W.ownsRow base 49 3 v ts.length (tkCells ts)) :
    ∃ A cap, v = .slice A ts.length cap ∧ TokS W A (ts.map tvOf) := by
  rcases Nat.eq_zero_or_pos ts.length with h0 | h0
  · obtain ⟨a, cap, hv⟩ := row_slice h
    refine ⟨a, cap, hv, fun hl => ?_⟩
    simp at hl
    omega
  · obtain ⟨g, cap, hv, hb, hlt⟩ := h.form h0
    refine ⟨_, cap, hv, fun _ => ⟨g, 0, rfl, hlt, fun j t ht => ?_⟩⟩
    subst hv
    have hc := h.cells (g := g) rfl
    have hadd : ∀ j, (⟨g, 0, none⟩ : Addr).add j = ⟨g, 0 + j, none⟩ := fun j => by unfold Addr.add; split <;> simp_all
    rw [List.getElem?_map, Option.map_eq_some_iff] at ht
    obtain ⟨x, hx, rfl⟩ := ht
    obtain ⟨h1, h2, h3⟩ := tkCells_get hx
    have e1 := hc _ _ h1
    have e2 := hc _ _ h2
    have e3 := hc _ _ h3
    rw [hadd] at e1 e2 e3
    exact ⟨e1, e2, e3⟩

set_option maxRecDepth 100000 in
theorem lex_big (w : World) (s : ByteArray) (h4 : 4000 < s.size) (hs : s.size ≤ 100000000) : Calls Tryz.prog 9 #[.string s] w (LexPost s w (LexM.lexRes (bs s))) := by
  have hr : LexM.lexRes (bs s) = ([], 0, 3) := by
    unfold LexM.lexRes
    rw [bs_length, if_pos h4]
  rw [hr]
  have hlt : decide ((4000 : Int) < s.size) = true := by simp; omega
  clear hr h4
  go_enter Tryz.func9, Tryz.ntmps9
  go_wp2
  refine bodyPost_ret (v := .tuple #[.slice none 0 0, .int .i64 0, .int .i64 3]) (by simp [results, Tryz.results9, go_sem]) rfl ?_
  exact ⟨_, rfl, World.ownsRow_nil _ _ _ _, Below.refl _ _⟩

/-- Lex, of every source of at most 100,000,000 bytes. -/
theorem lexT_calls (w0 w : World) (s : ByteArray) (hs : s.size ≤ 100000000) (hT : Tabs w0 w) (ts : List LexM.Tk) (m er : Int) (hr : LexM.lexRes (bs s) = (ts, m, er)) :
    Calls Tryz.prog 9 #[.string s] w fun e w' => ∃ A cap, e = .returned (.tuple #[.slice A ts.length cap, .int .i64 m, .int .i64 er]) ∧ TokS w' A (ts.map tvOf) ∧ Below w.heap.size w w' := by
  have h : Calls Tryz.prog 9 #[.string s] w (LexPost s w (LexM.lexRes (bs s))) := by
    by_cases h4 : 4000 < s.size
    · exact lex_big w s h4 hs
    · exact lex_calls w0 w s (by omega) hT
  rw [hr] at h
  refine h.mono ?_
  rintro e w' ⟨v, rfl, hv, hb⟩
  obtain ⟨A, cap, rfl, ht⟩ := toks_row hv
  exact ⟨A, cap, rfl, ht, hb⟩

theorem lexRes_len {s : List UInt8} {ts : List LexM.Tk} {m er : Int} (h : LexM.lexRes s = (ts, m, er)) : ts.length ≤ 1200 := by
  unfold LexM.lexRes at h
  split at h
  · cases h; simp
  · split at h
    · cases h; simp
    · split at h
      · cases h; simp
      · cases h; omega

set_option maxHeartbeats 1000000 in
set_option maxRecDepth 100000 in
theorem join_calls (w0 w : World) (A : Option Addr) (l : List Tv) (n ca : Nat) (ha : TokS w A l) (hn : l.length = n) (hl : n ≤ 100000000) (hT : Tabs w0 w) (hRl : (LexM.joinM (l.map Tv.kt) false).length ≤ 100000000) (x : List UInt8) (er : Int) (hq : LexM.joinRes (l.map Tv.kt) = (x, er)) :
    Calls Tryz.prog 13 #[.slice A n ca] w fun e w' => e = .returned (.tuple #[.string ⟨x.toArray⟩, .int .i64 er]) ∧ Below w.heap.size w w' := by
  obtain ⟨R, hR⟩ : ∃ R, LexM.joinM (l.map Tv.kt) false = R := ⟨_, rfl⟩
  rw [hR] at hRl
  have hj := joined_calls w A l n ca ha hn hl R hR hRl
  unfold LexM.joinRes at hq
  rw [hR] at hq
  obtain ⟨ts, m, e1, hr⟩ : ∃ ts m e1, LexM.lexRes R = (ts, m, e1) := ⟨_, _, _, rfl⟩
  rw [hr] at hq
  simp only at hq
  obtain ⟨S, hS⟩ : ∃ S : ByteArray, (⟨R.toArray⟩ : ByteArray) = S := ⟨_, rfl⟩
  have hbs : bs S = R := by rw [← hS]
  have hss : S.size ≤ 100000000 := by rw [← bs_length, hbs]; exact hRl
  have hlx : ∀ wx, Below w.heap.size w wx → Calls Tryz.prog 9 #[.string S] wx fun e w' => ∃ A cap, e = .returned (.tuple #[.slice A ts.length cap, .int .i64 m, .int .i64 e1]) ∧ TokS w' A (ts.map tvOf) ∧ Below wx.heap.size wx w' := fun wx hb =>
    lexT_calls w0 wx S hss (hT.belowN hb) ts m e1 (by rw [hbs]; exact hr)
  rw [hS] at hj
  have hlen := lexRes_len hr
  by_cases h0 : e1 = 0
  · subst h0
    rw [if_neg (by simp)] at hq
    have hsm : ∀ wx B cb, TokS wx B (ts.map tvOf) → TokS wx A l → Calls Tryz.prog 29 #[.slice B ts.length cb, .slice A n ca] wx fun e w' => e = .returned (.bool (decide (LexM.kts ts = l.map Tv.kt))) ∧ Below wx.heap.size wx w' := fun wx B cb hB hA =>
      same_calls wx B A _ _ _ _ cb ca hB hA (by simp) hn (by omega) _ (by rw [sameTv_eq, tvOf_kts])
    have HA := Lib.hid ha
    by_cases hk : LexM.kts ts = l.map Tv.kt
    · rw [if_pos hk] at hq
      cases hq
      rw [decide_eq_true hk] at hsm
      rw [hS]
      have HJ := Lib.hid hj
      have HLX := Lib.hid hlx
      have HSM := Lib.hid hsm
      clear hj hlx hsm hk ha hn hR hr hT hbs hS hlen hss hRl hl
      go_enter Tryz.func13, Tryz.ntmps13
      go_wp2_with (first
        | (go_at_call 28; refine HJ.out.mono ?_; rintro e w1 ⟨rfl, hb1⟩; have HB1 := Lib.hid hb1; clear hb1)
        | (go_at_call 9; refine (HLX.out _ HB1.out).mono ?_; rintro e w2 ⟨B, cb, rfl, ht2, hb2⟩; have HT2 := Lib.hid ht2; have HB2 := Lib.hid (HB1.out.trans (hb2.mono HB1.out.size)); clear ht2 hb2)
        | (go_at_call 29; refine (HSM.out _ _ _ HT2.out (HA.out.below HB2.out)).mono ?_; rintro e w3 ⟨rfl, hb3⟩; have HB3 := Lib.hid (HB2.out.trans (hb3.mono HB2.out.size)); clear hb3))
      go_ret2
      exact ⟨rfl, HB3.out⟩
    · rw [if_neg hk] at hq
      cases hq
      rw [decide_eq_false hk] at hsm
      have HJ := Lib.hid hj
      have HLX := Lib.hid hlx
      have HSM := Lib.hid hsm
      clear hj hlx hsm hk ha hn hR hr hT hbs hS hlen hss hRl hl
      go_enter Tryz.func13, Tryz.ntmps13
      go_wp2_with (first
        | (go_at_call 28; refine HJ.out.mono ?_; rintro e w1 ⟨rfl, hb1⟩; have HB1 := Lib.hid hb1; clear hb1)
        | (go_at_call 9; refine (HLX.out _ HB1.out).mono ?_; rintro e w2 ⟨B, cb, rfl, ht2, hb2⟩; have HT2 := Lib.hid ht2; have HB2 := Lib.hid (HB1.out.trans (hb2.mono HB1.out.size)); clear ht2 hb2)
        | (go_at_call 29; refine (HSM.out _ _ _ HT2.out (HA.out.below HB2.out)).mono ?_; rintro e w3 ⟨rfl, hb3⟩; have HB3 := Lib.hid (HB2.out.trans (hb3.mono HB2.out.size)); clear hb3))
      go_ret2
      exact ⟨rfl, HB3.out⟩
  · rw [if_pos h0] at hq
    have q0 : (e1 != 0) = true := by simpa [bne] using h0
    simp only [Prod.mk.injEq] at hq
    obtain ⟨rfl, rfl⟩ := hq
    have HJ := Lib.hid hj
    have HLX := Lib.hid hlx
    clear hj hlx h0 ha hn hR hr hT hbs hS hlen hss hRl hl
    go_enter Tryz.func13, Tryz.ntmps13
    go_wp2_with (first
      | (go_at_call 28; refine HJ.out.mono ?_; rintro e w1 ⟨rfl, hb1⟩; have HB1 := Lib.hid hb1; clear hb1)
      | (go_at_call 9; refine (HLX.out _ HB1.out).mono ?_; rintro e w2 ⟨B, cb, rfl, ht2, hb2⟩; have HB2 := Lib.hid (HB1.out.trans (hb2.mono HB1.out.size)); clear ht2 hb2))
    go_ret2
    exact ⟨rfl, HB2.out⟩

theorem known_lex : ∃ ts, LexM.lexRes [120, 32, 61, 32, 49, 32, 59, 32, 38, 38, 32, 97, 10, 43, 32, 50] = (ts, 6, 0) ∧ ts.length = 6 ∧ LexM.joinRes (LexM.kts ts) = ([88, 32, 61, 32, 49, 32, 43, 32, 50, 10], 0) ∧ (LexM.joinM (LexM.kts ts) false).length ≤ 100000000 :=
  ⟨[⟨0, 0, [88]⟩, ⟨4, 2, [61]⟩, ⟨1, 4, [49]⟩, ⟨4, 13, [43]⟩, ⟨1, 15, [50]⟩, ⟨5, 16, []⟩], by kernel_rfl, rfl, by kernel_rfl, by
    rw [show LexM.joinM (LexM.kts [⟨0, 0, [88]⟩, ⟨4, 2, [61]⟩, ⟨1, 4, [49]⟩, ⟨4, 13, [43]⟩, ⟨1, 15, [50]⟩, ⟨5, 16, []⟩]) false = [88, 32, 61, 32, 49, 32, 43, 32, 50, 10] by kernel_rfl]
    decide⟩

set_option maxRecDepth 100000 in
theorem known_calls (w0 w : World) (hT : Tabs w0 w) : Calls Tryz.prog 8 #[] w fun e w' => e = .returned (.bool true) ∧ Below w.heap.size w w' := by
  obtain ⟨ts, h1, h2, h3, h4⟩ := known_lex
  have hlx := lexT_calls w0 w ⟨#[120, 32, 61, 32, 49, 32, 59, 32, 38, 38, 32, 97, 10, 43, 32, 50]⟩ (by decide) hT ts 6 0 h1
  rw [h2] at hlx
  have hjn : ∀ wx A ca, Below w.heap.size w wx → TokS wx A (ts.map tvOf) → Calls Tryz.prog 13 #[.slice A 6 ca] wx fun e w' => e = .returned (.tuple #[.string ⟨#[88, 32, 61, 32, 49, 32, 43, 32, 50, 10]⟩, .int .i64 0]) ∧ Below wx.heap.size wx w' := fun wx A ca hb ht =>
    join_calls w0 wx A (ts.map tvOf) 6 ca ht (by simp [h2]) (by decide) (hT.belowN hb) (by rw [tvOf_kts]; exact h4) _ _ (by rw [tvOf_kts]; exact h3)
  have HLX := Lib.hid hlx
  have HJN := Lib.hid hjn
  clear hlx hjn h1 h2 h3 h4 hT
  go_enter Tryz.func8, Tryz.ntmps8
  go_wp2_with (first
    | (go_at_call 9; refine HLX.out.mono ?_; rintro e w1 ⟨B, cb, rfl, ht1, hb1⟩; have HT1 := Lib.hid ht1; have HB1 := Lib.hid hb1; clear ht1 hb1)
    | (go_at_call 13; refine (HJN.out _ _ _ HB1.out HT1.out).mono ?_; rintro e w2 ⟨rfl, hb2⟩; have HB2 := Lib.hid (HB1.out.trans (hb2.mono HB1.out.size)); clear hb2))
  go_ret
  exact ⟨rfl, HB2.out⟩

end Go.Proofs.YtpnfcgmogjpliaaGreatDoor
