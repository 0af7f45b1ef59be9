/- The document's reader: step. The contract holds of every source of at most 20,000 bytes. -/
import Derived.Test.YtpnfcgmogjpliaaGreatDoorRd7
namespace Go.Proofs.YtpnfcgmogjpliaaGreatDoor
open Go.RowKit
attribute [local go_sem ↓] Go.wp_at_zero Go.wp_at_succ

theorem RdSt.setAt {w : World} {g : Nat} {s : ByteArray} {k : Nat} {ln : Bool} {wrong : Int} {ob : Nat} {out : List LexM.Tk} (h : RdSt w g s k ln wrong ob out) (hg : g < ob) {n : Int} {k' : Nat} (e : n = k') : RdSt (w.setCell ⟨g, 1, none⟩ (.int .i64 n)) g s k' ln wrong ob out := by
  obtain ⟨v, h1, h2⟩ := h
  exact ⟨v, h1.setAt e, row_far h2 hg⟩
theorem RdSt.cells {w : World} {g : Nat} {s : ByteArray} {k : Nat} {ln : Bool} {wrong : Int} {ob : Nat} {out : List LexM.Tk} (h : RdSt w g s k ln wrong ob out) : w.cell? ⟨g, 0, none⟩ = some (.string s) ∧ w.cell? ⟨g, 1, none⟩ = some (.int .i64 k) ∧ w.cell? ⟨g, 2, none⟩ = some (.bool ln) ∧ w.frozen? ⟨g, 1, none⟩ = false := by
  obtain ⟨v, h1, _⟩ := h
  obtain ⟨c0, c1, c2, _, _⟩ := rd_cells h1
  exact ⟨c0, c1, c2, blk_frozen h1 1⟩
theorem rskips_st (w : World) (g : Nat) (s : ByteArray) (k : Nat) (ln : Bool) (ob : Nat) (out : List LexM.Tk) (h : RdSt w g s k ln (-1) ob out) (hs : s.size ≤ 20000) (hg : g < ob) (T : Nat) (hk : k ≤ T) (hT : T ≤ s.size) :
    Calls Tryz.prog 42 #[.pointer (some ⟨g, 0, none⟩), .int .i64 T] w fun e w' => e = .returned (.tuple #[]) ∧ RdSt w' g s T ln (wV (fwTo s k T)) ob out ∧ Below g w w' := by
  obtain ⟨v, h1, h2⟩ := h
  refine (rskips_calls w g s k ln v h1 hs T hk hT).mono ?_
  rintro e w' ⟨rfl, hr, hc⟩
  exact ⟨rfl, ⟨v, hr, row_ch h2 hc hg⟩, hc.below (Nat.le_refl _) (Nat.le_of_lt (blk_lt h1))⟩
theorem fw_line (s : ByteArray) (k : Nat) : fwTo s k (lineTo s k) = (LexM.firstWrong (LexM.line ((bs s).drop k))).map (k + ·) := by
  unfold fwTo lineTo
  rw [Nat.add_sub_cancel_left, line_take]

/-- What step comes to. -/
def StepPost (g : Nat) (s : ByteArray) (k : Nat) (ln : Bool) (ob : Nat) (out : List LexM.Tk) (st : LexM.Step) (w' : World) : Prop :=
  match st with
  | .eol => RdSt w' g s (k + 1) false (-1) ob (out ++ LexM.ends ln k)
  | .skip n => RdSt w' g s (k + n) ln (-1) ob out
  | .tok kind text n => RdSt w' g s (k + n) true (-1) ob (out ++ [⟨kind, k, text⟩])
  | .bad i => RdBad w' g s ob (k + i)

set_option maxHeartbeats 1000000 in
set_option maxRecDepth 100000 in
theorem rstep_eol (w : World) (g : Nat) (s : ByteArray) (k : Nat) (ln : Bool) (ob : Nat) (out : List LexM.Tk) (h : RdSt w g s k ln (-1) ob out) (hs : s.size ≤ 20000) (hk : k < s.size) (hg : g < ob) (hob : ob ≤ w.heap.size) (hlen : out.length ≤ 50000)
    (t : List UInt8) (hd : (bs s).drop k = 10 :: t) :
    Calls Tryz.prog 25 #[.pointer (some ⟨g, 0, none⟩)] w fun e w' => e = .returned (.tuple #[]) ∧ StepPost g s k ln ob out (LexM.step 10 t ln) w' ∧ Below g w w' := by
  have hb : s[k] = 10 := drop_here hd hk
  have hst : LexM.step 10 t ln = .eol := rfl
  rw [hst]
  obtain ⟨c0, c1, c2, _⟩ := h.cells
  have hlt := h.lt
  have hix := index_run s k (k : Int) rfl hk
  rw [hb] at hix
  have hen : ∀ wx, Below w.heap.size w wx → Calls Tryz.prog 26 #[.pointer (some ⟨g, 0, none⟩)] wx fun e w' => e = .returned (.tuple #[]) ∧ RdSt w' g s k false (-1) ob (out ++ LexM.ends ln k) ∧ Below g w w' := fun wx hx => by
    have hR := h.below hx
    cases ln with
    | true =>
      refine (rends_yes wx g s k (-1) ob out hR hs (by omega) hg (Nat.le_trans hob hx.size) hlen).mono ?_
      rintro e w' ⟨rfl, hr, hb2⟩
      exact ⟨rfl, hr, (hx.mono (Nat.le_of_lt hlt)).trans hb2⟩
    | false =>
      refine (rends_no wx g s k (-1) ob out hR hg).mono ?_
      rintro e w' ⟨rfl, hr, hb2⟩
      exact ⟨rfl, by simpa [LexM.ends] using hr, (hx.mono (Nat.le_of_lt hlt)).trans hb2⟩
  have HEN := Lib.hid hen
  clear hen hst hb hd h
  go_enter Tryz.func25, Tryz.ntmps25
  go_wp2
  go_quiet (fail)
  go_wp2_with (go_at_call 26; refine (HEN.out _ (bel_of (by rfl) (by rfl) (by rfl) (by rfl))).mono ?_; rintro e w1 ⟨rfl, hr1, hb1⟩; obtain ⟨d0, d1, d2, df⟩ := hr1.cells; have HR1 := Lib.hid hr1; have HB1 := Lib.hid hb1; clear hr1 hb1)
  go_end0
  exact ⟨rfl, HR1.out.setAt hg (by omega), HB1.out.setCell (p := ⟨g, 1, none⟩) (Nat.le_refl _) _⟩

set_option maxHeartbeats 1000000 in
set_option maxRecDepth 100000 in
theorem rstep_blank (w : World) (g : Nat) (s : ByteArray) (k : Nat) (ln : Bool) (ob : Nat) (out : List LexM.Tk) (h : RdSt w g s k ln (-1) ob out) (hs : s.size ≤ 20000) (hk : k < s.size) (hg : g < ob)
    (b : UInt8) (t : List UInt8) (hd : (bs s).drop k = b :: t) (h10 : (b == 10) = false) (hbl : LexM.isBlank b = true) :
    Calls Tryz.prog 25 #[.pointer (some ⟨g, 0, none⟩)] w fun e w' => e = .returned (.tuple #[]) ∧ StepPost g s k ln ob out (LexM.step b t ln) w' ∧ Below g w w' := by
  have hb : s[k] = b := drop_here hd hk
  have hst : LexM.step b t ln = .skip 1 := by
    unfold LexM.step
    rw [if_neg (by rw [h10]; simp), if_pos hbl]
  rw [hst]
  obtain ⟨c0, c1, c2, cf⟩ := h.cells
  have hlt := h.lt
  have hix := index_run s k (k : Int) rfl hk
  rw [hb] at hix
  have q10 := eq_int b 10
  rw [show (((10 : UInt8).toNat : Nat) : Int) = 10 from rfl, h10] at q10
  have hbk := fun wx => rBlank_calls wx b
  rw [hbl] at hbk
  have HBK := Lib.hid hbk
  have H := Lib.hid h
  clear hbk hst hb hd h h10 hbl
  go_enter Tryz.func25, Tryz.ntmps25
  go_wp2
  go_quiet (fail)
  go_wp2_with (go_at_call 39; refine (HBK.out _).mono ?_; rintro e w' ⟨rfl, rfl⟩)
  go_end0
  exact ⟨rfl, (H.out.drewN _).setAt hg (by omega), (below_drewN' (Below.refl _ _) _).setCell (p := ⟨g, 1, none⟩) (Nat.le_refl _) _⟩

theorem comm_next {s : ByteArray} {k : Nat} {b : UInt8} {t : List UInt8} (hd : (bs s).drop k = b :: t) : (nextIs s k 38 && nextIs s (k + 1) 38) = (b == 38 && t.head? == some 38) := by
  unfold nextIs
  rw [hd, (drop_lt hd).2.2]
  simp

/-- What the reader's methods do from a world in which the reader lies as in w: those that step calls. -/
structure RdN (w : World) (g : Nat) (s : ByteArray) (k : Nat) (ln : Bool) (ob : Nat) (out : List LexM.Tk) : Prop where
  lt : g < w.heap.size
  comm : ∀ r, (nextIs s k 38 && nextIs s (k + 1) 38) = r → ∀ wx, Below w.heap.size w wx → Calls Tryz.prog 40 #[.pointer (some ⟨g, 0, none⟩)] wx fun e w' => e = .returned (.bool r) ∧ ∃ q, w' = wx.drewN q
  goes : ∀ r, LexM.goes ((bs s).drop (k + 1)) = r → ∀ wx, Below w.heap.size w wx → Calls Tryz.prog 44 #[.pointer (some ⟨g, 0, none⟩)] wx fun e w' => e = .returned (.bool r) ∧ wx = w'
  first : Fresh s k → ∀ wx, Below w.heap.size w wx → Calls Tryz.prog 41 #[.pointer (some ⟨g, 0, none⟩)] wx fun e w' => e = .returned (.bool true) ∧ wx = w'
  end_ : ∀ j, j ≤ s.size → ∀ wx, wx.cell? ⟨g, 0, none⟩ = some (.string s) → Calls Tryz.prog 43 #[.pointer (some ⟨g, 0, none⟩), .int .i64 j] wx fun e w' => e = .returned (.int .i64 (lineTo s j)) ∧ wx = w'
theorem rdN_of {w : World} {g : Nat} {s : ByteArray} {k : Nat} {ln : Bool} {ob : Nat} {out : List LexM.Tk} (h : RdSt w g s k ln (-1) ob out) (hs : s.size ≤ 20000) (hk : k < s.size) : RdN w g s k ln ob out := by
  obtain ⟨c0, c1, _, _⟩ := h.cells
  have hlt := h.lt
  refine ⟨hlt, fun r hr wx hb => ?_, fun r hr wx hb => ?_, fun hF wx hb => ?_, fun j hj wx hc => ?_⟩
  · exact risComment_calls wx g s k ((hb.cell (p := ⟨g, 0, none⟩) hlt).trans c0) ((hb.cell (p := ⟨g, 1, none⟩) hlt).trans c1) hs hk r hr
  · exact rgoesOn_calls wx g s k ((hb.cell (p := ⟨g, 0, none⟩) hlt).trans c0) ((hb.cell (p := ⟨g, 1, none⟩) hlt).trans c1) hs hk r hr
  · exact rfirst_calls wx g s k ((hb.cell (p := ⟨g, 0, none⟩) hlt).trans c0) ((hb.cell (p := ⟨g, 1, none⟩) hlt).trans c1) hs (by omega) hF
  · exact rend_calls wx g s j hc hs hj _ rfl

set_option maxHeartbeats 2000000 in
set_option maxRecDepth 100000 in
theorem rstep_comment (w : World) (g : Nat) (s : ByteArray) (k : Nat) (ln : Bool) (ob : Nat) (out : List LexM.Tk) (h : RdSt w g s k ln (-1) ob out) (hs : s.size ≤ 20000) (hk : k < s.size) (hg : g < ob) (hlen : out.length ≤ 50000)
    (b : UInt8) (t : List UInt8) (hd : (bs s).drop k = b :: t) (h10 : (b == 10) = false) (hbl : LexM.isBlank b = false) (hcm : LexM.isComment b t ln = true) (hF : ln = false → Fresh s k) :
    Calls Tryz.prog 25 #[.pointer (some ⟨g, 0, none⟩)] w fun e w' => e = .returned (.tuple #[]) ∧ StepPost g s k ln ob out (LexM.step b t ln) w' ∧ Below g w w' := by
  have hb : s[k] = b := drop_here hd hk
  have hN := rdN_of h hs hk
  have hl := lineTo_le (s := s) (k := k) (by omega)
  have hst : LexM.step b t ln = match LexM.firstWrong (LexM.line (b :: t)) with | some i => .bad i | none => .skip (LexM.line (b :: t)).length := by
    unfold LexM.step
    rw [if_neg (by rw [h10]; simp), if_neg (by rw [hbl]; simp), if_pos hcm]
    rfl
  obtain ⟨ST, hST⟩ : ∃ ST, LexM.step b t ln = ST := ⟨_, rfl⟩
  rw [hST] at hst ⊢
  obtain ⟨c0, c1, c2, cf⟩ := h.cells
  have hlt := h.lt
  have hix := index_run s k (k : Int) rfl hk
  rw [hb] at hix
  have q10 := eq_int b 10
  rw [show (((10 : UInt8).toNat : Nat) : Int) = 10 from rfl, h10] at q10
  have hbk := fun wx => rBlank_calls wx b
  rw [hbl] at hbk
  have HBK := Lib.hid hbk
  have hsk : ∀ wx, Below w.heap.size w wx → Calls Tryz.prog 42 #[.pointer (some ⟨g, 0, none⟩), .int .i64 (lineTo s k)] wx fun e w' => e = .returned (.tuple #[]) ∧ StepPost g s k ln ob out ST w' ∧ Below g w w' := fun wx hx => by
    rw [hst]
    refine (rskips_st wx g s k ln ob out (h.below hx) hs hg (lineTo s k) hl.1 hl.2).mono ?_
    rintro e w' ⟨rfl, hr, hb2⟩
    refine ⟨rfl, ?_, (hx.mono (Nat.le_of_lt hlt)).trans hb2⟩
    rw [fw_line, hd] at hr
    unfold lineTo at hr
    rw [hd] at hr
    cases hw : LexM.firstWrong (LexM.line (b :: t)) with
    | none =>
      rw [hw] at hr
      exact hr
    | some i =>
      rw [hw] at hr
      exact ⟨_, ln, out, by omega, hr⟩
  have HSK := Lib.hid hsk
  have HEND := Lib.hid (hN.end_ k (by omega))
  have HCOM := Lib.hid (hN.comm _ (comm_next hd))
  have HFI := Lib.hid (fun (e : ln = false) => hN.first (hF e))
  unfold LexM.isComment at hcm
  obtain ⟨T, hT⟩ : ∃ T, lineTo s k = T := ⟨_, rfl⟩
  rw [hT] at HSK HEND
  cases q38 : (b == 38 && t.head? == some 38) with
  | true =>
    rw [q38] at HCOM
    clear hbk hst hST hb hd h h10 hbl hsk hN hcm q38 hF hT hl
    go_enter Tryz.func25, Tryz.ntmps25
    go_wp2
    go_quiet (fail)
    go_wp2_with (first
      | (go_at_call 39; refine (HBK.out _).mono ?_; rintro e w' ⟨rfl, rfl⟩)
      | (go_at_call 40; refine (HCOM.out _ (bel_of (by rfl) (by rfl) (by rfl) (by rfl))).mono ?_; rintro e w' ⟨rfl, q2, rfl⟩)
      | (go_at_call 43; refine (HEND.out _ (by exact c0)).mono ?_; rintro e w' ⟨rfl, rfl⟩)
      | (go_at_call 42; refine (HSK.out _ (bel_of (by rfl) (by rfl) (by rfl) (by rfl))).mono ?_; rintro e w1 ⟨rfl, hr1, hb1⟩; have HR1 := Lib.hid hr1; have HB1 := Lib.hid hb1; clear hr1 hb1))
    go_end0
    exact ⟨rfl, HR1.out, HB1.out⟩
  | false =>
    rw [q38] at HCOM
    rw [q38, Bool.false_or, Bool.and_eq_true] at hcm
    have hln : ln = false := by simpa using hcm.2
    have hb42 : b = 42 := by simpa using hcm.1
    subst hln
    subst hb42
    have HFI2 := Lib.hid (HFI.out rfl)
    clear hbk hst hST hb hd h h10 hbl hsk hN hcm q38 hF HFI hT hl
    go_enter Tryz.func25, Tryz.ntmps25
    go_wp2
    go_quiet (fail)
    go_wp2_with (first
      | (go_at_call 39; refine (HBK.out _).mono ?_; rintro e w' ⟨rfl, rfl⟩)
      | (go_at_call 40; refine (HCOM.out _ (bel_of (by rfl) (by rfl) (by rfl) (by rfl))).mono ?_; rintro e w' ⟨rfl, q2, rfl⟩)
      | (go_at_call 41; refine (HFI2.out _ (bel_of (by rfl) (by rfl) (by rfl) (by rfl))).mono ?_; rintro e w' ⟨rfl, rfl⟩)
      | (go_at_call 43; refine (HEND.out _ (by exact c0)).mono ?_; rintro e w' ⟨rfl, rfl⟩)
      | (go_at_call 42; refine (HSK.out _ (bel_of (by rfl) (by rfl) (by rfl) (by rfl))).mono ?_; rintro e w1 ⟨rfl, hr1, hb1⟩; have HR1 := Lib.hid hr1; have HB1 := Lib.hid hb1; clear hr1 hb1))
    go_end0
    exact ⟨rfl, HR1.out, HB1.out⟩

end Go.Proofs.YtpnfcgmogjpliaaGreatDoor
