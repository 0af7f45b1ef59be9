/- The document's reader: token. The contract holds of every source of at most 20,000 bytes. -/
import Derived.Test.YtpnfcgmogjpliaaGreatDoorRd5
import Derived.Test.YtpnfcgmogjpliaaGreatDoorJoin
import Derived.BigRegion
namespace Go.Proofs.YtpnfcgmogjpliaaGreatDoor
open Go.RowKit
attribute [local go_sem ↓] Go.wp_at_zero Go.wp_at_succ

theorem RdSt.below {w w' : World} {g : Nat} {s : ByteArray} {k : Nat} {ln : Bool} {wrong : Int} {ob : Nat} {out : List LexM.Tk} (h : RdSt w g s k ln wrong ob out) (hb : Below w.heap.size w w') : RdSt w' g s k ln wrong ob out := by
  obtain ⟨v, h1, h2⟩ := h
  exact ⟨v, (hb.block g (blk_lt h1)).trans h1, row_below h2 hb⟩
theorem RdSt.lt {w : World} {g : Nat} {s : ByteArray} {k : Nat} {ln : Bool} {wrong : Int} {ob : Nat} {out : List LexM.Tk} (h : RdSt w g s k ln wrong ob out) : g < w.heap.size := by
  obtain ⟨v, h1, _⟩ := h
  exact blk_lt h1
theorem rfails_st (w : World) (g : Nat) (s : ByteArray) (k : Nat) (ln : Bool) (ob : Nat) (out : List LexM.Tk) (h : RdSt w g s k ln (-1) ob out) (hg : g < ob) (at_ : Nat) :
    Calls Tryz.prog 64 #[.pointer (some ⟨g, 0, none⟩), .int .i64 at_] w fun e w' => e = .returned (.tuple #[]) ∧ RdSt w' g s k ln at_ ob out ∧ Below g w w' := by
  obtain ⟨v, h1, h2⟩ := h
  refine (rfails_set w g s k ln _ v h1 at_ (by decide)).mono ?_
  rintro e w' ⟨rfl, hr, hc⟩
  exact ⟨rfl, ⟨v, hr, row_ch h2 hc hg⟩, hc.below (Nat.le_refl _) (Nat.le_of_lt (blk_lt h1))⟩

/-! ### A text, in plain lists -/
theorem q_some {b : UInt8} (hb : (b == 10) = false) : ∀ {t : List UInt8} {j : Nat}, (LexM.line t).findIdx? (· == b) = some j → (t.takeWhile fun c => c != 10 && c != b).length = j ∧ t[j]? = some b
  | [], j, h => by simp [LexM.line] at h
  | c :: t, j, h => by
    unfold LexM.line at h
    rw [List.takeWhile_cons] at h
    by_cases h10 : (c != 10) = true
    · rw [if_pos h10, List.findIdx?_cons] at h
      by_cases hc : (c == b) = true
      · rw [if_pos hc] at h
        cases h
        have : c = b := by simpa using hc
        subst this
        exact ⟨by simp, rfl⟩
      · rw [if_neg hc] at h
        cases hf : (t.takeWhile (· != 10)).findIdx? (· == b) with
        | none => rw [hf] at h; cases h
        | some i =>
          rw [hf] at h
          simp only [Option.map_some, Option.some.injEq] at h
          subst h
          obtain ⟨h1, h2⟩ := q_some hb (t := t) hf
          have hcb : (c != b) = true := by simpa [bne] using hc
          rw [List.takeWhile_cons, if_pos (by rw [h10, hcb]; rfl), List.length_cons, h1]
          exact ⟨rfl, h2⟩
    · rw [if_neg h10] at h
      simp at h
theorem q_none {b : UInt8} : ∀ {t : List UInt8}, (LexM.line t).findIdx? (· == b) = none → t[(t.takeWhile fun c => c != 10 && c != b).length]? = none ∨ t[(t.takeWhile fun c => c != 10 && c != b).length]? = some 10
  | [], _ => .inl rfl
  | c :: t, h => by
    unfold LexM.line at h
    rw [List.takeWhile_cons] at h
    by_cases h10 : (c != 10) = true
    · rw [if_pos h10, List.findIdx?_cons] at h
      by_cases hc : (c == b) = true
      · rw [if_pos hc] at h
        cases h
      · rw [if_neg hc] at h
        have hf : (t.takeWhile (· != 10)).findIdx? (· == b) = none := by
          cases hf : (t.takeWhile (· != 10)).findIdx? (· == b) with
          | none => rfl
          | some i => rw [hf] at h; cases h
        have hcb : (c != b) = true := by simpa [bne] using hc
        rw [List.takeWhile_cons, if_pos (by rw [h10, hcb]; rfl), List.length_cons]
        simpa using q_none (t := t) hf
    · have : c = 10 := by simpa [bne] using h10
      subst this
      exact .inr rfl
theorem fw_quote {b : UInt8} {t : List UInt8} {s : ByteArray} {k j : Nat} (hd : (bs s).drop k = b :: t) (hw : LexM.isWrong b = false) : fwTo s k (k + 1 + j) = (LexM.firstWrong (t.take j)).map (k + 1 + ·) := by
  unfold fwTo
  rw [hd, show k + 1 + j - k = j + 1 from by omega, List.take_succ_cons]
  unfold LexM.firstWrong
  rw [List.findIdx?_cons, hw]
  cases List.findIdx? LexM.isWrong (t.take j) with
  | none => rfl
  | some i => simp; omega

theorem bel_of {w wx : World} (h : wx.heap = w.heap) (o : wx.os = w.os) (t : wx.tape = w.tape) (u : wx.output = w.output) : Below w.heap.size w wx := ⟨o, t, u, by rw [h]; exact Nat.le_refl _, fun k _ => by rw [h]⟩

/-- What token comes to. -/
def TokPost (g : Nat) (s : ByteArray) (k ob : Nat) (out : List LexM.Tk) (st : LexM.Step) (w' : World) : Prop :=
  match st with
  | .tok kind text n => RdSt w' g s (k + n) true (-1) ob (out ++ [⟨kind, k, text⟩])
  | .bad i => RdBad w' g s ob (k + i)
  | _ => False

/-- What the reader's methods do from a world in which the reader lies as in w. -/
structure RdM (w : World) (g : Nat) (s : ByteArray) (k : Nat) (ln : Bool) (ob : Nat) (out : List LexM.Tk) : Prop where
  lt : g < w.heap.size
  cell0 : w.cell? ⟨g, 0, none⟩ = some (.string s)
  cell1 : w.cell? ⟨g, 1, none⟩ = some (.int .i64 k)
  run : ∀ word n, twTo (runP word) s k = k + n → ∀ wx, Below w.heap.size w wx → Calls Tryz.prog 66 #[.pointer (some ⟨g, 0, none⟩), .bool word] wx fun e w' => e = .returned (.int .i64 n) ∧ ∃ q, w' = wx.drewN q
  fails : ∀ wx, Below w.heap.size w wx → Calls Tryz.prog 64 #[.pointer (some ⟨g, 0, none⟩), .int .i64 k] wx fun e w' => e = .returned (.tuple #[]) ∧ RdSt w' g s k ln k ob out ∧ Below g w w'
  put : ∀ (kind : Nat) (x : ByteArray) (n : Nat), k + n ≤ s.size → ∀ wx, Below w.heap.size w wx → Calls Tryz.prog 67 #[.pointer (some ⟨g, 0, none⟩), .int .i64 kind, .string x, .int .i64 n] wx fun e w' => e = .returned (.tuple #[]) ∧ RdSt w' g s (k + n) true (-1) ob (out ++ [⟨kind, k, bs x⟩]) ∧ Below g w w'
theorem rdM_of {w : World} {g : Nat} {s : ByteArray} {k : Nat} {ln : Bool} {ob : Nat} {out : List LexM.Tk} (h : RdSt w g s k ln (-1) ob out) (hs : s.size ≤ 20000) (hk : k < s.size) (hg : g < ob) (hob : ob ≤ w.heap.size) (hlen : out.length ≤ 50000) : RdM w g s k ln ob out := by
  have hlt := h.lt
  obtain ⟨v, h1, h2⟩ := h
  obtain ⟨c0, c1, _, _, _⟩ := rd_cells h1
  refine ⟨hlt, c0, c1, fun word n hn wx hb => ?_, fun wx hb => ?_, fun kind x n hn wx hb => ?_⟩
  · exact rrun_calls wx g s k ((hb.cell (p := ⟨g, 0, none⟩) hlt).trans c0) ((hb.cell (p := ⟨g, 1, none⟩) hlt).trans c1) hs (by omega) word n hn
  · refine (rfails_st wx g s k ln ob out (RdSt.below ⟨v, h1, h2⟩ hb) hg k).mono ?_
    rintro e w' ⟨rfl, hr, hb2⟩
    exact ⟨rfl, hr, (hb.mono (Nat.le_of_lt hlt)).trans hb2⟩
  · refine (rput_calls wx g s k ln (-1) ob out (RdSt.below ⟨v, h1, h2⟩ hb) hs (by omega) hg (Nat.le_trans hob hb.size) hlen kind x n hn).mono ?_
    rintro e w' ⟨rfl, hr, hb2⟩
    exact ⟨rfl, hr, (hb.mono (Nat.le_of_lt hlt)).trans hb2⟩

set_option maxHeartbeats 2000000 in
set_option maxRecDepth 100000 in
theorem rtoken_word (w : World) (g : Nat) (s : ByteArray) (k : Nat) (ln : Bool) (ob : Nat) (out : List LexM.Tk) (hM : RdM w g s k ln ob out) (hs : s.size ≤ 20000) (hk : k < s.size) (hlen : out.length ≤ 50000)
    (b : UInt8) (t : List UInt8) (hd : (bs s).drop k = b :: t) (hl : LexM.isLetter b = true) :
    Calls Tryz.prog 45 #[.pointer (some ⟨g, 0, none⟩)] w fun e w' => e = .returned (.tuple #[]) ∧ TokPost g s k ob out (LexM.tokStep b t) w' ∧ Below g w w' := by
  have hb : s[k] = b := drop_here hd hk
  obtain ⟨n, hn⟩ : ∃ n, ((b :: t).takeWhile LexM.isWordy).length = n := ⟨_, rfl⟩
  have htw : twTo (runP true) s k = k + n := by
    unfold twTo
    rw [hd, ← hn]
    rfl
  have hkn : k + n ≤ s.size := by rw [← htw]; exact (twTo_le (by omega)).2
  have hst : LexM.tokStep b t = if 24 < n then .bad 0 else .tok 0 (LexM.caps ((b :: t).takeWhile LexM.isWordy)) n := by
    unfold LexM.tokStep
    rw [if_pos hl]
    dsimp only
    rw [hn]
  rw [hst]
  obtain ⟨hz, c0, c1, hrun, hfl, hput⟩ := hM
  have hix := index_run s k (k : Int) rfl hk
  rw [hb] at hix
  have hlet := fun wx => rLetter_calls wx b
  rw [hl] at hlet
  have HL := Lib.hid hlet
  have HRUN := Lib.hid (hrun true n htw)
  have HFL := Lib.hid hfl
  by_cases h24 : 24 < n
  · rw [if_pos h24]
    have q24 : decide ((24 : Int) < (n : Int)) = true := by simp; omega
    clear hlet hrun hfl hst htw hb hd hl h24 hn hput
    go_enter Tryz.func45, Tryz.ntmps45
    go_wp2
    go_quiet (fail)
    go_wp2_with (first
      | (go_at_call 65; refine (HL.out _).mono ?_; rintro e w' ⟨rfl, rfl⟩)
      | (go_at_call 66; refine (HRUN.out _ (bel_of (by rfl) (by rfl) (by rfl) (by rfl))).mono ?_; rintro e w' ⟨rfl, q2, rfl⟩)
      | (go_at_call 64; refine (HFL.out _ (bel_of (by rfl) (by rfl) (by rfl) (by rfl))).mono ?_; rintro e w1 ⟨rfl, hr1, hb1⟩; have HR1 := Lib.hid hr1; have HB1 := Lib.hid hb1; clear hr1 hb1))
    refine bodyPost_ret (results_none rfl _ _ _) rfl ?_
    exact ⟨rfl, ⟨k, ln, out, by omega, by rw [Nat.add_zero]; exact HR1.out⟩, HB1.out⟩
  · rw [if_neg h24]
    have q24 : decide ((24 : Int) < (n : Int)) = false := by simp; omega
    have htext : bs (s.extract k (k + n)) = (b :: t).takeWhile LexM.isWordy := by
      rw [bs_extract, hd, show k + n - k = n from by omega, ← hn]
      exact (List.prefix_iff_eq_take.1 (List.takeWhile_prefix _)).symm
    obtain ⟨X, hX⟩ : ∃ X, s.extract k (k + n) = X := ⟨_, rfl⟩
    rw [hX] at htext
    have hcap := fun wx => capitals_calls wx X (by rw [← hX]; simp; omega)
    rw [htext] at hcap
    obtain ⟨C, hC⟩ : ∃ C, LexM.caps ((b :: t).takeWhile LexM.isWordy) = C := ⟨_, rfl⟩
    rw [hC] at hcap ⊢
    obtain ⟨Y, hY⟩ : ∃ Y : ByteArray, (⟨C.toArray⟩ : ByteArray) = Y := ⟨_, rfl⟩
    have hYC : bs Y = C := by rw [← hY]
    rw [hY] at hcap
    have hput2 := hput 0 Y n hkn
    rw [hYC] at hput2
    have hsl := slice_run s k (k + n) k ((k : Int) + n) rfl (by omega) (by omega) hkn
    rw [hX] at hsl
    have hw : IntKind.i64.wrap ((k : Int) + (n : Int)) = (k : Int) + n := wrap_small _ (by omega) (by omega)
    have HCAP := Lib.hid hcap
    have HPUT := Lib.hid hput2
    have HSL := Lib.hid (And.intro hsl hw)
    clear hlet hrun hst htw hb hd hl h24 hn htext hX hcap hC hY hYC hput hput2 hsl hw hfl
    go_enter Tryz.func45, Tryz.ntmps45
    go_wp2
    go_quiet (fail)
    go_wp2_with (first
      | (go_at_call 65; refine (HL.out _).mono ?_; rintro e w' ⟨rfl, rfl⟩)
      | (go_at_call 66; refine (HRUN.out _ (bel_of (by rfl) (by rfl) (by rfl) (by rfl))).mono ?_; rintro e w' ⟨rfl, q2, rfl⟩))
    obtain ⟨hsl, hw⟩ := HSL.out
    go_region_with (first
      | (go_at_call 68; refine (HCAP.out _).mono ?_; rintro e w2 ⟨rfl, hb2⟩; have HB2 := Lib.hid hb2; clear hb2)
      | (go_at_call 67; refine (HPUT.out _ ((bel_of (by rfl) (by rfl) (by rfl) (by rfl)).trans HB2.out)).mono ?_; rintro e w3 ⟨rfl, hr3, hb3⟩; have HR3 := Lib.hid hr3; have HB3 := Lib.hid hb3; clear hr3 hb3))
    all_goals
      go_wp2
      go_end0
      exact ⟨rfl, HR3.out, HB3.out⟩

set_option maxHeartbeats 2000000 in
set_option maxRecDepth 100000 in
theorem rtoken_num (w : World) (g : Nat) (s : ByteArray) (k : Nat) (ln : Bool) (ob : Nat) (out : List LexM.Tk) (hM : RdM w g s k ln ob out) (hs : s.size ≤ 20000) (hk : k < s.size) (hlen : out.length ≤ 50000)
    (b : UInt8) (t : List UInt8) (hd : (bs s).drop k = b :: t) (hl : LexM.isLetter b = false) (hdg : LexM.isDigit b = true) :
    Calls Tryz.prog 45 #[.pointer (some ⟨g, 0, none⟩)] w fun e w' => e = .returned (.tuple #[]) ∧ TokPost g s k ob out (LexM.tokStep b t) w' ∧ Below g w w' := by
  have hb : s[k] = b := drop_here hd hk
  obtain ⟨n, hn⟩ : ∃ n, ((b :: t).takeWhile LexM.isDigit).length = n := ⟨_, rfl⟩
  have htw : twTo (runP false) s k = k + n := by
    unfold twTo
    rw [hd, ← hn]
    rfl
  have hkn : k + n ≤ s.size := by rw [← htw]; exact (twTo_le (by omega)).2
  have hst : LexM.tokStep b t = if 15 < n then .bad 0 else .tok 1 ((b :: t).takeWhile LexM.isDigit) n := by
    unfold LexM.tokStep
    rw [if_neg (by rw [hl]; simp), if_pos hdg]
    dsimp only
    rw [hn]
  rw [hst]
  obtain ⟨hz, c0, c1, hrun, hfl, hput⟩ := hM
  have hix := index_run s k (k : Int) rfl hk
  rw [hb] at hix
  have hlet := fun wx => rLetter_calls wx b
  rw [hl] at hlet
  have hdig := fun wx => rDigit_calls wx b
  rw [hdg] at hdig
  have HL := Lib.hid hlet
  have HD := Lib.hid hdig
  have HRUN := Lib.hid (hrun false n htw)
  have HFL := Lib.hid hfl
  by_cases h24 : 15 < n
  · rw [if_pos h24]
    have q24 : decide ((15 : Int) < (n : Int)) = true := by simp; omega
    clear hlet hrun hfl hst htw hb hd hl h24 hn hput hdig hdg
    go_enter Tryz.func45, Tryz.ntmps45
    go_wp2
    go_quiet (fail)
    go_wp2_with (first
      | (go_at_call 65; refine (HL.out _).mono ?_; rintro e w' ⟨rfl, rfl⟩)
      | (go_at_call 69; refine (HD.out _).mono ?_; rintro e w' ⟨rfl, rfl⟩)
      | (go_at_call 66; refine (HRUN.out _ (bel_of (by rfl) (by rfl) (by rfl) (by rfl))).mono ?_; rintro e w' ⟨rfl, q2, rfl⟩)
      | (go_at_call 64; refine (HFL.out _ (bel_of (by rfl) (by rfl) (by rfl) (by rfl))).mono ?_; rintro e w1 ⟨rfl, hr1, hb1⟩; have HR1 := Lib.hid hr1; have HB1 := Lib.hid hb1; clear hr1 hb1))
    refine bodyPost_ret (results_none rfl _ _ _) rfl ?_
    exact ⟨rfl, ⟨k, ln, out, by omega, by rw [Nat.add_zero]; exact HR1.out⟩, HB1.out⟩
  · rw [if_neg h24]
    have q24 : decide ((15 : Int) < (n : Int)) = false := by simp; omega
    have htext : bs (s.extract k (k + n)) = (b :: t).takeWhile LexM.isDigit := by
      rw [bs_extract, hd, show k + n - k = n from by omega, ← hn]
      exact (List.prefix_iff_eq_take.1 (List.takeWhile_prefix _)).symm
    obtain ⟨X, hX⟩ : ∃ X, s.extract k (k + n) = X := ⟨_, rfl⟩
    rw [hX] at htext
    have hput2 := hput 1 X n hkn
    rw [htext] at hput2
    have hsl := slice_run s k (k + n) k ((k : Int) + n) rfl (by omega) (by omega) hkn
    rw [hX] at hsl
    have hw : IntKind.i64.wrap ((k : Int) + (n : Int)) = (k : Int) + n := wrap_small _ (by omega) (by omega)
    have HPUT := Lib.hid hput2
    have HSL := Lib.hid (And.intro hsl hw)
    clear hlet hrun hst htw hb hd hl h24 hn htext hX hput hput2 hsl hw hfl hdig hdg
    go_enter Tryz.func45, Tryz.ntmps45
    go_wp2
    go_quiet (fail)
    go_wp2_with (first
      | (go_at_call 65; refine (HL.out _).mono ?_; rintro e w' ⟨rfl, rfl⟩)
      | (go_at_call 69; refine (HD.out _).mono ?_; rintro e w' ⟨rfl, rfl⟩)
      | (go_at_call 66; refine (HRUN.out _ (bel_of (by rfl) (by rfl) (by rfl) (by rfl))).mono ?_; rintro e w' ⟨rfl, q2, rfl⟩))
    obtain ⟨hsl, hw⟩ := HSL.out
    go_region_with ((go_at_call 67; refine (HPUT.out _ (bel_of (by rfl) (by rfl) (by rfl) (by rfl))).mono ?_; rintro e w3 ⟨rfl, hr3, hb3⟩; have HR3 := Lib.hid hr3; have HB3 := Lib.hid hb3; clear hr3 hb3))
    all_goals
      go_wp2
      go_end0
      exact ⟨rfl, HR3.out, HB3.out⟩

set_option maxHeartbeats 2000000 in
set_option maxRecDepth 100000 in
theorem rtoken_quote (w : World) (g : Nat) (s : ByteArray) (k : Nat) (ln : Bool) (ob : Nat) (out : List LexM.Tk) (h : RdSt w g s k ln (-1) ob out) (hs : s.size ≤ 20000) (hk : k < s.size) (hg : g < ob) (hob : ob ≤ w.heap.size) (hlen : out.length ≤ 50000)
    (b : UInt8) (t : List UInt8) (hd : (bs s).drop k = b :: t) (hq : (b == 34 || b == 39) = true) :
    Calls Tryz.prog 45 #[.pointer (some ⟨g, 0, none⟩)] w fun e w' => e = .returned (.tuple #[]) ∧ TokPost g s k ob out (LexM.tokStep b t) w' ∧ Below g w w' := by
  have hb : s[k] = b := drop_here hd hk
  have hl : LexM.isLetter b = false := by
    simp only [Bool.or_eq_true, beq_iff_eq] at hq
    rcases hq with rfl | rfl <;> rfl
  have hdg : LexM.isDigit b = false := by
    simp only [Bool.or_eq_true, beq_iff_eq] at hq
    rcases hq with rfl | rfl <;> rfl
  have hb10 : (b == 10) = false := by
    simp only [Bool.or_eq_true, beq_iff_eq] at hq
    rcases hq with rfl | rfl <;> rfl
  have hbw : LexM.isWrong b = false := by
    simp only [Bool.or_eq_true, beq_iff_eq] at hq
    rcases hq with rfl | rfl <;> rfl
  have hd1 : (bs s).drop (k + 1) = t := (drop_lt hd).2.2
  have hqt : quoteTo s k b = k + 1 + (t.takeWhile fun c => c != 10 && c != b).length := by
    unfold quoteTo twTo
    rw [hd1]
  have hget : ∀ i, t[i]? = (bs s)[k + 1 + i]? := fun i => by rw [← hd1, List.getElem?_drop]
  have hqd : ∀ wx, Below w.heap.size w wx → Calls Tryz.prog 70 #[.pointer (some ⟨g, 0, none⟩)] wx fun e w' => e = .returned (.tuple #[]) ∧ TokPost g s k ob out (LexM.tokStep b t) w' ∧ Below g w w' := fun wx hx => by
    have hlt := h.lt
    have hR := h.below hx
    have hob' := Nat.le_trans hob hx.size
    unfold LexM.tokStep
    rw [if_neg (by rw [hl]; simp), if_neg (by rw [hdg]; simp), if_pos hq]
    cases hf : (LexM.line t).findIdx? (· == b) with
    | none =>
      have hE : s.size ≤ quoteTo s k b ∨ ∃ hE : quoteTo s k b < s.size, s[quoteTo s k b] = 10 := by
        rw [hqt]
        rcases q_none hf with h1 | h1
        · left
          rw [hget, List.getElem?_eq_none_iff, bs_length] at h1
          exact h1
        · right
          rw [hget] at h1
          obtain ⟨h2, h3⟩ := List.getElem?_eq_some_iff.1 h1
          rw [bs_length] at h2
          exact ⟨h2, h3⟩
      refine (rquoted_none wx g s k ln ob out hR hs hk hg hob' b hb hE).mono ?_
      rintro e w' ⟨rfl, hr, hb2⟩
      exact ⟨rfl, ⟨k, ln, out, by omega, by rw [Nat.add_zero]; exact hr⟩, (hx.mono (Nat.le_of_lt hlt)).trans hb2⟩
    | some j =>
      obtain ⟨h1, h2⟩ := q_some hb10 hf
      rw [h1] at hqt
      rw [hget] at h2
      obtain ⟨h3, h4⟩ := List.getElem?_eq_some_iff.1 h2
      rw [bs_length] at h3
      have hEb : s[k + 1 + j] = b := h4
      refine (rquoted_some wx g s k ln ob out hR hs hk hg hob' hlen b hb (k + 1 + j) hqt h3 hEb (by rw [hEb]; simpa using hb10)).mono ?_
      rintro e w' ⟨rfl, hr, hb2⟩
      refine ⟨rfl, ?_, (hx.mono (Nat.le_of_lt hlt)).trans hb2⟩
      rw [fw_quote hd hbw] at hr
      have htx : bs (s.extract (k + 1) (k + 1 + j)) = t.take j := by rw [bs_extract, hd1, show k + 1 + j - (k + 1) = j from by omega]
      rw [htx] at hr
      show TokPost g s k ob out (match LexM.firstWrong (t.take j) with | some i => LexM.Step.bad (1 + i) | none => LexM.Step.tok 2 (t.take j) (j + 2)) w'
      cases hw : LexM.firstWrong (t.take j) with
      | none =>
        rw [hw] at hr
        exact (show RdSt w' g s (k + (j + 2)) true (-1) ob (out ++ [⟨2, k, t.take j⟩]) by rw [show k + (j + 2) = k + 1 + j + 1 from by omega]; exact hr)
      | some i =>
        rw [hw] at hr
        exact ⟨k + 1 + j + 1, true, out ++ [⟨2, k, t.take j⟩], by simp; omega, (show RdSt w' g s _ true ((k + (1 + i) : Nat) : Int) ob _ by rw [show k + (1 + i) = k + 1 + i from by omega]; exact hr)⟩
  obtain ⟨v, h1, h2⟩ := h
  obtain ⟨c0, c1, _, _, _⟩ := rd_cells h1
  have hz := blk_lt h1
  have hix := index_run s k (k : Int) rfl hk
  rw [hb] at hix
  have hlet := fun wx => rLetter_calls wx b
  rw [hl] at hlet
  have hdig := fun wx => rDigit_calls wx b
  rw [hdg] at hdig
  have HL := Lib.hid hlet
  have HD := Lib.hid hdig
  have HQ := Lib.hid hqd
  have hq34 : ((b.toNat : Int) == 34) = (b == 34) := eq_int b 34
  have hq39 : ((b.toNat : Int) == 39) = (b == 39) := eq_int b 39
  rw [← hq34, ← hq39] at hq
  clear hlet hdig hqd hq34 hq39 hl hdg hb10 hbw hd1 hqt hget hd hb h1 h2
  cases q34 : ((b.toNat : Int) == 34) with
  | true =>
    clear hq
    go_enter Tryz.func45, Tryz.ntmps45
    go_wp2
    go_quiet (fail)
    go_wp2_with (first
      | (go_at_call 65; refine (HL.out _).mono ?_; rintro e w' ⟨rfl, rfl⟩)
      | (go_at_call 69; refine (HD.out _).mono ?_; rintro e w' ⟨rfl, rfl⟩)
      | (go_at_call 70; refine (HQ.out _ (bel_of (by rfl) (by rfl) (by rfl) (by rfl))).mono ?_; rintro e w1 ⟨rfl, hr1, hb1⟩; have HR1 := Lib.hid hr1; have HB1 := Lib.hid hb1; clear hr1 hb1))
    go_end0
    exact ⟨rfl, HR1.out, HB1.out⟩
  | false =>
    rw [q34, Bool.false_or] at hq
    go_enter Tryz.func45, Tryz.ntmps45
    go_wp2
    go_quiet (fail)
    go_wp2_with (first
      | (go_at_call 65; refine (HL.out _).mono ?_; rintro e w' ⟨rfl, rfl⟩)
      | (go_at_call 69; refine (HD.out _).mono ?_; rintro e w' ⟨rfl, rfl⟩)
      | (go_at_call 70; refine (HQ.out _ (bel_of (by rfl) (by rfl) (by rfl) (by rfl))).mono ?_; rintro e w1 ⟨rfl, hr1, hb1⟩; have HR1 := Lib.hid hr1; have HB1 := Lib.hid hb1; clear hr1 hb1))
    go_end0
    exact ⟨rfl, HR1.out, HB1.out⟩

end Go.Proofs.YtpnfcgmogjpliaaGreatDoor
