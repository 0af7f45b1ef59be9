/- For every source the program's Lines answers what the document's Lines answers, and the law's own example holds; the argument reads as it did. The library's tables lie as their texts lay them (the card ties that). -/
import Derived.Test.YtpnfcgmogjpliaaGreatDoorLinR
namespace Go.Proofs.YtpnfcgmogjpliaaGreatDoor
open Go.RowKit
attribute [local go_sem ↓] Go.wp_at_zero Go.wp_at_succ

theorem own_cells {w : World} {base e n : Nat} {v : Value} {xs : List Value} (h : w.ownsRow base e 1 v n xs) (_hl : xs.length = n) (h0 : 0 < n) : ∃ g cap, v = .slice (some ⟨g, 0, none⟩) n cap ∧ g < w.heap.size ∧ ∀ (j : Nat) (u : Value), xs[j]? = some u → w.cell? ⟨g, 0 + j, none⟩ = some u := by
  obtain ⟨g, cap, hv, hb, hlt⟩ := h.form h0
  refine ⟨g, cap, hv, hlt, fun j u hu => ?_⟩
  subst hv
  have hc := h.cells (g := g) rfl
  have hadd : ∀ j, (⟨g, 0, none⟩ : Addr).add j = ⟨g, 0 + j, none⟩ := fun j => by unfold Addr.add; split <;> simp_all
  have e := hc j u hu
  rw [hadd] at e
  exact e
theorem rowsA_small : ∀ (l now : List Tv) (r : List Tv), r ∈ rowsA now l → r.length ≤ now.length + l.length
  | [], now, r, h => by simp [rowsA] at h
  | t :: l, now, r, h => by
    by_cases h5 : t.kind = 5
    · rw [rowsA_end h5] at h
      rcases List.mem_cons.1 h with rfl | h
      · omega
      · have := rowsA_small l [] r h
        simp only [List.length_nil, List.length_cons] at this ⊢
        omega
    · rw [rowsA_more h5] at h
      have := rowsA_small l (now ++ [t]) r h
      simp only [List.length_append, List.length_cons, List.length_nil] at this ⊢
      omega
theorem rowsA_len : ∀ (l now : List Tv), (rowsA now l).length ≤ l.length
  | [], now => by simp [rowsA]
  | t :: l, now => by
    by_cases h5 : t.kind = 5
    · rw [rowsA_end h5, List.length_cons, List.length_cons]
      have := rowsA_len l []
      omega
    · rw [rowsA_more h5, List.length_cons]
      have := rowsA_len l (now ++ [t])
      omega
theorem rowsA_join : ∀ (l now : List Tv) (r : List Tv), LastEnd l → (∀ t ∈ now, t.kind ≠ 5) → r ∈ rowsA now l → (LexM.joinM (r.map Tv.kt) false).length ≤ (LexM.joinM ((now ++ l).map Tv.kt) false).length
  | [], now, r, _, _, h => by simp [rowsA] at h
  | t :: l, now, r, hL, hno, h => by
    have hL' : LastEnd l := by
      rcases hL with e | ⟨p, u, e, hu⟩
      · cases e
      · cases p with
        | nil =>
          simp at e
          exact .inl e.2
        | cons x p =>
          simp at e
          exact .inr ⟨p, u, e.2, hu⟩
    by_cases h5 : t.kind = 5
    · rw [rowsA_end h5] at h
      rcases List.mem_cons.1 h with rfl | h
      · exact joinM_prefix _ false _
      · have h1 := rowsA_join l [] r hL' (fun _ hu => by cases hu) h
        rw [List.nil_append] at h1
        exact Nat.le_trans h1 (joinM_ends now false t l h5)
    · rw [rowsA_more h5] at h
      have h1 := rowsA_join l (now ++ [t]) r hL' (fun u hu => by
        rcases List.mem_append.1 hu with hu | hu
        · exact hno u hu
        · rw [List.mem_singleton] at hu
          rw [hu]
          exact h5) h
      rw [List.append_assoc] at h1
      exact h1

set_option maxHeartbeats 4000000 in
set_option maxRecDepth 100000 in
theorem rlines_ok (w : World) (s : ByteArray) (hs : s.size ≤ 100000000) (ts : List LexM.Tk) (m : Int) (hr : LexM.lexRes (bs s) = (ts, m, 0)) (hj : (LexM.joinM ((ts.map tvOf).map Tv.kt) false).length ≤ 100000000)
    (lines : List ByteArray) (hL : (rowsA [] (ts.map tvOf)).map rowTxt = lines) :
    Calls Tryz.prog 16 #[.string s] w fun e w' => ∃ A cap, e = .returned (.tuple #[.slice A lines.length cap, .int .i64 0]) ∧ StrS w' A lines ∧ Below w.heap.size w w' := by
  have hlx := rlexT_calls w s (by omega) ts m 0 hr
  have hlen := lexRes_len hr
  have hle := lex_lastEnd hr
  obtain ⟨l0, hl0⟩ : ∃ l, ts.map tvOf = l := ⟨_, rfl⟩
  obtain ⟨n0, hn0⟩ : ∃ n, ts.length = n := ⟨_, rfl⟩
  have hln : l0.length = n0 := by rw [← hl0, ← hn0]; simp
  rw [hl0, hn0] at hlx
  rw [hl0] at hle hL hj
  rw [hn0] at hlen
  obtain ⟨rows, hrows⟩ : ∃ rows, rowsA [] l0 = rows := ⟨_, rfl⟩
  have hrl : rows.length ≤ 1200 := by
    have := rowsA_len l0 []
    rw [hrows] at this
    omega
  have hrj : ∀ r ∈ rows, (LexM.joinM (r.map Tv.kt) false).length ≤ 100000000 ∧ r.length ≤ 1200 := fun r hr => by
    rw [← hrows] at hr
    have h1 := rowsA_join l0 [] r hle (fun _ hu => by cases hu) hr
    have h2 := rowsA_small l0 [] r hr
    rw [List.nil_append] at h1
    rw [List.length_nil] at h2
    omega
  rw [hrows] at hL
  have hrw := fun wx A ca (ha : TokS wx A l0) => rrows_calls wx A l0 n0 ca ha hln hlen rows hrows
  have HRW := Lib.hid hrw
  have HLX := Lib.hid hlx
  have HL := Lib.hid hL
  have HRJ := Lib.hid hrj
  have HLL : Hid (lines.length = rows.length) := Lib.hid (by rw [← hL]; simp)
  obtain ⟨i0, hi, hz0, hz1, hz2⟩ := info_parts info_string
  clear hlx hl0 hn0 hr hL hj hs hle hrw hrj hrows hln
  go_enter Tryz.func16, Tryz.ntmps16
  go_wp2_with (first
    | (go_at_call 10; refine HLX.out.mono ?_; rintro e w1 ⟨A, ca, rfl, ht1, hb1⟩; have HT1 := Lib.hid ht1; have HB1 := Lib.hid hb1; clear ht1 hb1)
    | (go_at_call 33; refine (HRW.out _ _ _ HT1.out).mono ?_; rintro e w2 ⟨vr, vs, rfl, ho2, hra, hb2⟩; have HO2 := Lib.hid ho2; have HRA := Lib.hid hra; have HB2 := Lib.hid (HB1.out.trans (hb2.mono HB1.out.size)); obtain ⟨ar, cr, hvr⟩ := row_slice ho2; subst hvr; clear ho2 hra hb2))
  obtain ⟨N, hN⟩ : ∃ N, rows.length = N := ⟨_, rfl⟩
  rw [hN] at hrl HLL HO2 ⊢
  have HN := Lib.hid hN
  clear hN
  go_loopg [7, 9] N (fun q u v wr => ∃ (i : Nat) (vo : Value), vo = u ∧ v = .int .i64 i ∧ i ≤ N ∧ q = N - i ∧ Aside (wr.ownsRow w2.heap.size 9 1 vo i ((lines.take i).map Value.string)) ∧ Aside (Below w2.heap.size w2 wr))
  case atStart => exact ⟨0, .slice none 0 0, rfl, rfl, Nat.zero_le _, rfl, World.ownsRow_nil _ _ _ _, Below.refl _ _⟩
  case round =>
    obtain ⟨i, vo, rfl, rfl, hin, rfl, hvo, hbw⟩ := hrel
    have hzw := hbw.out.size
    by_cases hlt : i < N
    · have hltz : decide ((i : Int) < (N : Int)) = true := by simp; omega
      have hltz2 : (i : Int) < (N : Int) := by omega
      obtain ⟨g, cap, hg, hgl, hcell⟩ := own_cells HO2.out (by have := HO2.out.1; omega) (by omega)
      simp only [Value.slice.injEq] at hg
      obtain ⟨rfl, _, rfl⟩ := hg
      obtain ⟨r, hr⟩ : ∃ r, rows[i]? = some r := ⟨_, List.getElem?_eq_getElem (by have := HN.out; omega)⟩
      obtain ⟨A1, c1, hv, ht⟩ := HRA.out i r hr
      have c0 := (hbw.out.cell (p := ⟨g, 0 + i, none⟩) hgl).trans (hcell i _ hv)
      rw [Nat.zero_add] at c0
      obtain ⟨hj1, hj2⟩ := HRJ.out r (List.mem_of_getElem? hr)
      have hjd := fun wx (hx : Below w2.heap.size w2 wx) => rjoined_calls wx A1 r r.length c1 (ht.below hx) rfl (by omega) _ rfl hj1
      obtain ⟨X, hX⟩ : ∃ X, rowTxt r = X := ⟨_, rfl⟩
      have hX2 : (⟨(LexM.joinM (r.map Tv.kt) false).toArray⟩ : ByteArray) = X := hX
      rw [hX2] at hjd
      have hXl : lines[i]? = some X := by rw [← HL.out, List.getElem?_map, hr, ← hX]; rfl
      have HXT : Hid (lines.take (i + 1) = lines.take i ++ [X]) := Lib.hid (by rw [List.take_add_one, hXl]; rfl)
      have HJD := Lib.hid hjd
      clear hjd hX2 hX hXl hr hv ht hj1 hj2 hcell
      go_wp2_with (first
        | (go_at_call 30; refine (HJD.out _ hbw.out).mono ?_; rintro e w3 ⟨rfl, hb3⟩; have HB3 := Lib.hid (hbw.out.trans (hb3.mono hbw.out.size)); have HO3 := Lib.hid (row_below hvo.out hb3); have hz3 := HB3.out.size; clear hb3)
        | (at_builtin; refine wpList_append_own_at _ rfl _ _ 32 rfl w2.heap.size 9 i0 _ 1 16 Tryz.underlying32 hi hz0 hz1 hz2 rfl (by decide) _ _ _ rfl (HO3.out.alloc _) ⟨w3.heap.size, 0, none⟩ 1 1 [.string X] rfl rfl (one_new _ _ _) (by simp [Value.oneCell']) (by simp only [maxLen]; omega) (by omega) (by simp; omega) ?_; intro v4 w4 hown4 hgrow4 _ _; have HB4 := Lib.hid ((HB3.out.alloc hz3 _).trans (below_grown hgrow4 (by simp; omega) (own_base HO3.out))); have HO4 := Lib.hid hown4; clear hown4 hgrow4))
      go_roundg (N - (i + 1))
      case measure => omega
      case rel =>
        have hr4 : w4.ownsRow w2.heap.size 9 1 v4 (i + 1) ((lines.take (i + 1)).map Value.string) := by
          rw [HXT.out]
          simpa using HO4.out
        exact ⟨i + 1, v4, rfl, by go_num, by omega, rfl, hr4, HB4.out⟩
    · obtain rfl : i = N := by omega
      have hov := hvo.out
      rw [List.take_of_length_le (by have := HLL.out; omega), ← HLL.out] at hov
      obtain ⟨B, cb, hvv, hB⟩ := strs_row hov
      have HBS := Lib.hid hB
      subst hvv
      clear hov hB
      go_wp2
      refine bodyPost_ret (v := .tuple #[.slice B lines.length cb, .int .i64 0]) (by simp [results, Tryz.results16, go_sem]) rfl ?_
      exact ⟨B, cb, rfl, HBS.out, HB2.out.trans (hbw.out.mono HB2.out.size)⟩

theorem joinM_small {s : List UInt8} {ts : List LexM.Tk} {m : Int} (h : LexM.lexRes s = (ts, m, 0)) : (LexM.joinM (LexM.kts ts) false).length ≤ 100000000 := by
  have h1 := h
  unfold LexM.lexRes at h
  split at h
  · simp at h
  · rename_i h4
    split at h
    · simp at h
    · rename_i hnone
      split at h
      · simp at h
      · simp only [Prod.mk.injEq] at h
        obtain ⟨h1, _, _⟩ := h
        have hl : LexM.lexF (s.length + 1) s 0 false = (ts, none) := by
          have : LexM.lex s 0 false = (ts, none) := Prod.ext h1 hnone
          exact this
        obtain ⟨_, g2⟩ := LexM.lexF_good _ s 0 false ts (by omega) hl
        simp at g2
        omega

set_option maxRecDepth 100000 in
theorem lines_calls (w0 w : World) (s : ByteArray) (hs : s.size ≤ 100000000) (hT : Tabs w0 w) (ts : List LexM.Tk) (m er : Int) (hr : LexM.lexRes (bs s) = (ts, m, er)) :
    Calls Tryz.prog 15 #[.string s] w fun e w' => ∃ A cap, e = .returned (.tuple #[.slice A (linesOf ts er).length cap, .int .i64 er]) ∧ StrS w' A (linesOf ts er) ∧ Below w.heap.size w w' := by
  by_cases h0 : er = 0
  · subst h0
    exact lines_ok w0 w s hs hT ts m hr (by rw [tvOf_kts]; exact joinM_small hr) _ (by unfold linesOf; rw [if_pos rfl])
  · have q1 : (er != 0) = true := by simpa [bne] using h0
    have hL : linesOf ts er = [] := by unfold linesOf; rw [if_neg h0]
    rw [hL]
    have HLX := Lib.hid (lexT_calls w0 w s hs hT ts m er hr)
    clear hr hT hL h0
    go_enter Tryz.func15, Tryz.ntmps15
    go_wp2_with fail
    refine HLX.out.mono ?_
    rintro e w1 ⟨A, ca, rfl, _, hb1⟩
    have HB1 := Lib.hid hb1
    clear hb1
    go_wp2
    refine bodyPost_ret (v := .tuple #[.slice none 0 0, .int .i64 er]) (by simp [results, Tryz.results15, go_sem]) rfl ?_
    exact ⟨none, 0, rfl, StrS.nil _ _, HB1.out⟩

set_option maxRecDepth 100000 in
theorem rlines_calls (w : World) (s : ByteArray) (hs : s.size ≤ 100000000) (ts : List LexM.Tk) (m er : Int) (hr : LexM.lexRes (bs s) = (ts, m, er)) :
    Calls Tryz.prog 16 #[.string s] w fun e w' => ∃ A cap, e = .returned (.tuple #[.slice A (linesOf ts er).length cap, .int .i64 er]) ∧ StrS w' A (linesOf ts er) ∧ Below w.heap.size w w' := by
  by_cases h0 : er = 0
  · subst h0
    exact rlines_ok w s hs ts m hr (by rw [tvOf_kts]; exact joinM_small hr) _ (by unfold linesOf; rw [if_pos rfl])
  · have q1 : (er != 0) = true := by simpa [bne] using h0
    have hL : linesOf ts er = [] := by unfold linesOf; rw [if_neg h0]
    rw [hL]
    have HLX := Lib.hid (rlexT_calls w s (by omega) ts m er hr)
    clear hr hL h0
    go_enter Tryz.func16, Tryz.ntmps16
    go_wp2_with fail
    refine HLX.out.mono ?_
    rintro e w1 ⟨A, ca, rfl, _, hb1⟩
    have HB1 := Lib.hid hb1
    clear hb1
    go_wp2
    refine bodyPost_ret (v := .tuple #[.slice none 0 0, .int .i64 er]) (by simp [results, Tryz.results16, go_sem]) rfl ?_
    exact ⟨none, 0, rfl, StrS.nil _ _, HB1.out⟩

theorem linesOf_len {s : List UInt8} {ts : List LexM.Tk} {m er : Int} (h : LexM.lexRes s = (ts, m, er)) : (linesOf ts er).length ≤ 1200 := by
  have h1 := lexRes_len h
  unfold linesOf
  split
  · have := rowsA_len (ts.map tvOf) []
    rw [List.length_map] at this ⊢
    omega
  · simp

set_option maxHeartbeats 1000000 in
set_option maxRecDepth 100000 in
theorem lexLines_calls (w : World) (s : ByteArray) (_hs2 : s.size ≤ 140737488355328) (hT : Tabs w w) : Calls Tryz.prog 5 #[.string s] w fun e w' => e = .returned (.bool true) ∧ Below w.heap.size w w' := by
  have hk := fun wx (hb : Below w.heap.size w wx) => known_calls w wx (hT.belowN hb)
  have HK := Lib.hid hk
  clear hk
  by_cases hs : 20000 < s.size
  · have q0 : decide ((20000 : Int) < (s.size : Int)) = true := by simp; omega
    clear hs hT
    go_enter Tryz.func5, Tryz.ntmps5
    go_wp2_with (go_at_call 8; refine (HK.out _ (Below.refl _ _)).mono ?_; rintro e w1 ⟨rfl, hb1⟩; have HB1 := Lib.hid hb1; clear hb1)
    go_ret
    exact ⟨rfl, HB1.out⟩
  · have q0 : decide ((20000 : Int) < (s.size : Int)) = false := by simp; omega
    obtain ⟨ts, m, er, hr⟩ : ∃ ts m er, LexM.lexRes (bs s) = (ts, m, er) := ⟨_, _, _, rfl⟩
    have h1 := lines_calls w w s (by omega) hT ts m er hr
    have h2 := fun wx => rlines_calls wx s (by omega) ts m er hr
    have hlen := linesOf_len hr
    obtain ⟨ls, hls⟩ : ∃ ls, linesOf ts er = ls := ⟨_, rfl⟩
    rw [hls] at h1 h2 hlen
    have h3 := fun wx A B ca cb hA hB => sameTexts_calls wx A B ls ls.length ca cb hA hB rfl (by omega)
    have H1 := Lib.hid h1
    have H2 := Lib.hid h2
    have H3 := Lib.hid h3
    clear h1 h2 h3 hls hr hT hs hlen
    go_enter Tryz.func5, Tryz.ntmps5
    go_wp2_with (first
      | (go_at_call 15; refine H1.out.mono ?_; rintro e w1 ⟨A, ca, rfl, hs1, hb1⟩; have HS1 := Lib.hid hs1; have HB1 := Lib.hid hb1; clear hs1 hb1)
      | (go_at_call 16; refine (H2.out _).mono ?_; rintro e w2 ⟨B, cb, rfl, hs2, hb2⟩; have HS2 := Lib.hid hs2; have HS3 := Lib.hid (HS1.out.below hb2); have HB2 := Lib.hid (HB1.out.trans (hb2.mono HB1.out.size)); clear hs2 hb2)
      | (go_at_call 17; refine (H3.out _ _ _ _ _ HS3.out HS2.out).mono ?_; rintro e w3 ⟨rfl, nq, rfl⟩)
      | (go_at_call 8; refine (HK.out _ (below_drewN' HB2.out _)).mono ?_; rintro e w4 ⟨rfl, hb4⟩; have HB4 := Lib.hid ((below_drewN' HB2.out _).trans (hb4.mono (below_drewN' HB2.out _).size)); clear hb4))
    go_ret
    exact ⟨rfl, HB4.out⟩

end Go.Proofs.YtpnfcgmogjpliaaGreatDoor
