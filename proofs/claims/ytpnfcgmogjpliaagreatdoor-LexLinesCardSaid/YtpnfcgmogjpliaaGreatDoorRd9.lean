/- The document's reader: step as a whole. The contract holds of every source of at most 20,000 bytes. -/
import Derived.Test.YtpnfcgmogjpliaaGreatDoorRd8
namespace Go.Proofs.YtpnfcgmogjpliaaGreatDoor
open Go.RowKit
attribute [local go_sem ↓] Go.wp_at_zero Go.wp_at_succ

set_option maxHeartbeats 2000000 in
set_option maxRecDepth 100000 in
theorem rstep_semi (w : World) (g : Nat) (s : ByteArray) (k : Nat) (ln : Bool) (ob : Nat) (out : List LexM.Tk) (h : RdSt w g s k ln (-1) ob out) (hs : s.size ≤ 20000) (hk : k < s.size) (hg : g < ob) (hlen : out.length ≤ 50000)
    (t : List UInt8) (hd : (bs s).drop k = 59 :: t) (hgo : LexM.goes t = true) :
    Calls Tryz.prog 25 #[.pointer (some ⟨g, 0, none⟩)] w fun e w' => e = .returned (.tuple #[]) ∧ StepPost g s k ln ob out (LexM.step 59 t ln) w' ∧ Below g w w' := by
  have hb : s[k] = 59 := drop_here hd hk
  have hN := rdN_of h hs hk
  have hd1 : (bs s).drop (k + 1) = t := (drop_lt hd).2.2
  have htl := (drop_lt hd).2.1
  have hl := lineTo_le (s := s) (k := k + 1) (by omega)
  have hcm0 : LexM.isComment 59 t ln = false := rfl
  have hst : LexM.step 59 t ln = match LexM.firstWrong (LexM.line t) with | some i => .bad (1 + i) | none => .skip (1 + (LexM.line t).length + (if (LexM.line t).length < t.length then 1 else 0)) := by
    unfold LexM.step
    rw [if_neg (by decide), if_neg (by decide), hcm0, hgo]
    rfl
  obtain ⟨ST, hST⟩ : ∃ ST, LexM.step 59 t ln = ST := ⟨_, rfl⟩
  rw [hST] at hst ⊢
  obtain ⟨c0, c1, c2, cf⟩ := h.cells
  have hlt := h.lt
  have hix := index_run s k (k : Int) rfl hk
  rw [hb] at hix
  have hbk := fun wx => rBlank_calls wx 59
  rw [show LexM.isBlank 59 = false from rfl] at hbk
  have HBK := Lib.hid hbk
  obtain ⟨T, hT⟩ : ∃ T, lineTo s (k + 1) = T := ⟨_, rfl⟩
  have hTl : T = k + 1 + (LexM.line t).length := by rw [← hT]; unfold lineTo; rw [hd1]
  rw [hT] at hl
  have hsk : ∀ wx, RdSt wx g s (k + 1) ln (-1) ob out → Calls Tryz.prog 42 #[.pointer (some ⟨g, 0, none⟩), .int .i64 T] wx fun e w' => e = .returned (.tuple #[]) ∧ RdSt w' g s T ln (wV (fwTo s (k + 1) T)) ob out ∧ Below g wx w' := fun wx hx => rskips_st wx g s (k + 1) ln ob out hx hs hg T hl.1 hl.2
  have hpost : ∀ w' K, (T < s.size ∧ K = T + 1 ∨ ¬ T < s.size ∧ K = T) → RdSt w' g s K ln (wV (fwTo s (k + 1) T)) ob out → StepPost g s k ln ob out ST w' := fun w' K hK hr => by
    rw [hst]
    rw [← hT, fw_line, hd1] at hr
    cases hw : LexM.firstWrong (LexM.line t) with
    | none =>
      rw [hw] at hr
      show RdSt w' g s (k + (1 + (LexM.line t).length + (if (LexM.line t).length < t.length then 1 else 0))) ln (-1) ob out
      have e : k + (1 + (LexM.line t).length + (if (LexM.line t).length < t.length then 1 else 0)) = K := by
        split <;> omega
      rw [e]
      exact hr
    | some i =>
      rw [hw] at hr
      exact ⟨K, ln, out, by omega, by rw [show k + (1 + i) = k + 1 + i from by omega]; exact hr⟩
  have hcom : (nextIs s k 38 && nextIs s (k + 1) 38) = false := by
    rw [comm_next hd]
    rfl
  have HSK := Lib.hid hsk
  have HPO := Lib.hid hpost
  have HEND := Lib.hid (fun wx hc => hN.end_ (k + 1) (by omega) wx hc)
  have HCOM := Lib.hid (hN.comm _ hcom)
  have HGO := Lib.hid (hN.goes true (by rw [hd1]; exact hgo))
  rw [hT] at HEND
  have H := Lib.hid h
  by_cases hTs : T < s.size
  · have qT : decide (T < s.size) = true := by simpa using hTs
    have qT' : decide ((T : Int) < (s.size : Int)) = true := by simp; omega
    clear hbk hst hST hb hd hsk hN hcm0 hpost hT hcom hgo hd1 h hTl
    go_enter Tryz.func25, Tryz.ntmps25
    go_wp2
    go_quiet (fail)
    go_wp2_with (first
      | (go_at_call 39; refine (HBK.out _).mono ?_; rintro e w' ⟨rfl, rfl⟩)
      | (go_at_call 40; refine (HCOM.out _ (bel_of (by rfl) (by rfl) (by rfl) (by rfl))).mono ?_; rintro e w' ⟨rfl, q2, rfl⟩)
      | (go_at_call 44; refine (HGO.out _ (bel_of (by rfl) (by rfl) (by rfl) (by rfl))).mono ?_; rintro e w' ⟨rfl, rfl⟩)
      | (go_at_call 43; refine (HEND.out _ (by exact (RdSt.setAt (H.out.drewN _) hg (k' := k + 1) (by omega)).cells.1)).mono ?_; rintro e w' ⟨rfl, rfl⟩)
      | (go_at_call 42; refine (HSK.out _ (by exact RdSt.setAt (H.out.drewN _) hg (by omega))).mono ?_; rintro e w1 ⟨rfl, hr1, hb1⟩; obtain ⟨d0, d1, d2, df⟩ := hr1.cells; have HR1 := Lib.hid hr1; have HB1 := Lib.hid hb1; clear hr1 hb1))
    go_quiet (fail)
    go_wp2
    go_end0
    exact ⟨rfl, HPO.out _ (T + 1) (.inl ⟨hTs, rfl⟩) (HR1.out.setAt hg (by omega)), (below_drewN' (((below_drewN' (Below.refl _ _) _).setCell (p := ⟨g, 1, none⟩) (Nat.le_refl _) _).trans HB1.out) _).setCell (p := ⟨g, 1, none⟩) (Nat.le_refl _) _⟩
  · have qT : decide (T < s.size) = false := by simpa using hTs
    have qT' : decide ((T : Int) < (s.size : Int)) = false := by simp; omega
    clear hbk hst hST hb hd hsk hN hcm0 hpost hT hcom hgo hd1 h hTl
    go_enter Tryz.func25, Tryz.ntmps25
    go_wp2
    go_quiet (fail)
    go_wp2_with (first
      | (go_at_call 39; refine (HBK.out _).mono ?_; rintro e w' ⟨rfl, rfl⟩)
      | (go_at_call 40; refine (HCOM.out _ (bel_of (by rfl) (by rfl) (by rfl) (by rfl))).mono ?_; rintro e w' ⟨rfl, q2, rfl⟩)
      | (go_at_call 44; refine (HGO.out _ (bel_of (by rfl) (by rfl) (by rfl) (by rfl))).mono ?_; rintro e w' ⟨rfl, rfl⟩)
      | (go_at_call 43; refine (HEND.out _ (by exact (RdSt.setAt (H.out.drewN _) hg (k' := k + 1) (by omega)).cells.1)).mono ?_; rintro e w' ⟨rfl, rfl⟩)
      | (go_at_call 42; refine (HSK.out _ (by exact RdSt.setAt (H.out.drewN _) hg (by omega))).mono ?_; rintro e w1 ⟨rfl, hr1, hb1⟩; obtain ⟨d0, d1, d2, df⟩ := hr1.cells; have HR1 := Lib.hid hr1; have HB1 := Lib.hid hb1; clear hr1 hb1))
    go_quiet (fail)
    go_wp2
    go_end0
    exact ⟨rfl, HPO.out _ T (.inr ⟨hTs, rfl⟩) HR1.out, below_drewN' (((below_drewN' (Below.refl _ _) _).setCell (p := ⟨g, 1, none⟩) (Nat.le_refl _) _).trans HB1.out) _⟩

set_option maxHeartbeats 2000000 in
set_option maxRecDepth 100000 in
theorem rstep_token (w : World) (g : Nat) (s : ByteArray) (k : Nat) (ln : Bool) (ob : Nat) (out : List LexM.Tk) (h : RdSt w g s k ln (-1) ob out) (hs : s.size ≤ 20000) (hk : k < s.size) (hg : g < ob) (hob : ob ≤ w.heap.size) (hlen : out.length ≤ 50000)
    (b : UInt8) (t : List UInt8) (hd : (bs s).drop k = b :: t) (h10 : (b == 10) = false) (hbl : LexM.isBlank b = false) (hcm : LexM.isComment b t ln = false) (hgo : (b == 59 && LexM.goes t) = false) :
    Calls Tryz.prog 25 #[.pointer (some ⟨g, 0, none⟩)] w fun e w' => e = .returned (.tuple #[]) ∧ StepPost g s k ln ob out (LexM.step b t ln) w' ∧ Below g w w' := by
  have hb : s[k] = b := drop_here hd hk
  have hN := rdN_of h hs hk
  have hd1 : (bs s).drop (k + 1) = t := (drop_lt hd).2.2
  have hst : LexM.step b t ln = LexM.tokStep b t := by
    unfold LexM.step
    rw [if_neg (by rw [h10]; simp), if_neg (by rw [hbl]; simp), if_neg (by rw [hcm]; simp), if_neg (by rw [hgo]; simp)]
  obtain ⟨ST, hST⟩ : ∃ ST, LexM.step b t ln = ST := ⟨_, rfl⟩
  rw [hST] at hst ⊢
  obtain ⟨c0, c1, c2, cf⟩ := h.cells
  have hlt := h.lt
  have hix := index_run s k (k : Int) rfl hk
  rw [hb] at hix
  have q10 := eq_int b 10
  rw [show (((10 : UInt8).toNat : Nat) : Int) = 10 from rfl, h10] at q10
  have hbk := fun wx => rBlank_calls wx b
  rw [hbl] at hbk
  have HBK := Lib.hid hbk
  have htk : ∀ wx, Below w.heap.size w wx → Calls Tryz.prog 45 #[.pointer (some ⟨g, 0, none⟩)] wx fun e w' => e = .returned (.tuple #[]) ∧ StepPost g s k ln ob out ST w' ∧ Below g w w' := fun wx hx => by
    refine (rtoken_calls wx g s k ln ob out (h.below hx) hs hk hg (Nat.le_trans hob hx.size) hlen b t hd).mono ?_
    rintro e w' ⟨rfl, hr, hb2⟩
    refine ⟨rfl, ?_, (hx.mono (Nat.le_of_lt hlt)).trans hb2⟩
    rw [hst]
    unfold TokPost at hr
    unfold StepPost
    cases hts : LexM.tokStep b t with
    | eol => rw [hts] at hr; exact hr.elim
    | skip n => rw [hts] at hr; exact hr.elim
    | bad i => rw [hts] at hr; exact hr
    | tok kind text n => rw [hts] at hr; exact hr
  have HTK := Lib.hid htk
  unfold LexM.isComment at hcm
  rw [Bool.or_eq_false_iff] at hcm
  have HCOM := Lib.hid (hN.comm false (by rw [comm_next hd]; exact hcm.1))
  have HGO := Lib.hid (fun r e => hN.goes r e)
  rw [hd1] at HGO
  have q42 := eq_int b 42
  rw [show (((42 : UInt8).toNat : Nat) : Int) = 42 from rfl] at q42
  have q59 := eq_int b 59
  rw [show (((59 : UInt8).toNat : Nat) : Int) = 59 from rfl] at q59
  have h42 : ((b.toNat : Int) == 42) = false ∨ ((b.toNat : Int) == 42) = true ∧ ln = true := by
    rw [q42]
    have := hcm.2
    cases hb42 : (b == 42) with
    | false => exact .inl rfl
    | true =>
      rw [hb42, Bool.true_and] at this
      exact .inr ⟨rfl, by simpa using this⟩
  have h59 : ((b.toNat : Int) == 59) = false ∨ ((b.toNat : Int) == 59) = true ∧ LexM.goes t = false := by
    rw [q59]
    cases hb59 : (b == 59) with
    | false => exact .inl rfl
    | true =>
      rw [hb59, Bool.true_and] at hgo
      exact .inr ⟨rfl, hgo⟩
  clear hbk hst hST hb hd htk hN hgo hd1 h hcm q42 q59 h10 hbl
  rcases h42 with e42 | ⟨e42, rfl⟩
  all_goals
    rcases h59 with e59 | ⟨e59, hgf⟩
    · clear HGO
      go_enter Tryz.func25, Tryz.ntmps25
      go_wp2
      go_quiet (fail)
      go_wp2_with (first
        | (go_at_call 39; refine (HBK.out _).mono ?_; rintro e w' ⟨rfl, rfl⟩)
        | (go_at_call 40; refine (HCOM.out _ (bel_of (by rfl) (by rfl) (by rfl) (by rfl))).mono ?_; rintro e w' ⟨rfl, q2, rfl⟩)
        | (go_at_call 45; refine (HTK.out _ (bel_of (by rfl) (by rfl) (by rfl) (by rfl))).mono ?_; rintro e w1 ⟨rfl, hr1, hb1⟩; have HR1 := Lib.hid hr1; have HB1 := Lib.hid hb1; clear hr1 hb1))
      go_end0
      exact ⟨rfl, HR1.out, HB1.out⟩
    · have HG := Lib.hid (HGO.out false hgf)
      clear HGO hgf
      go_enter Tryz.func25, Tryz.ntmps25
      go_wp2
      go_quiet (fail)
      go_wp2_with (first
        | (go_at_call 39; refine (HBK.out _).mono ?_; rintro e w' ⟨rfl, rfl⟩)
        | (go_at_call 40; refine (HCOM.out _ (bel_of (by rfl) (by rfl) (by rfl) (by rfl))).mono ?_; rintro e w' ⟨rfl, q2, rfl⟩)
        | (go_at_call 44; refine (HG.out _ (bel_of (by rfl) (by rfl) (by rfl) (by rfl))).mono ?_; rintro e w' ⟨rfl, rfl⟩)
        | (go_at_call 45; refine (HTK.out _ (bel_of (by rfl) (by rfl) (by rfl) (by rfl))).mono ?_; rintro e w1 ⟨rfl, hr1, hb1⟩; have HR1 := Lib.hid hr1; have HB1 := Lib.hid hb1; clear hr1 hb1))
      go_end0
      exact ⟨rfl, HR1.out, HB1.out⟩

theorem rstep_calls (w : World) (g : Nat) (s : ByteArray) (k : Nat) (ln : Bool) (ob : Nat) (out : List LexM.Tk) (h : RdSt w g s k ln (-1) ob out) (hs : s.size ≤ 20000) (hk : k < s.size) (hg : g < ob) (hob : ob ≤ w.heap.size) (hlen : out.length ≤ 50000)
    (b : UInt8) (t : List UInt8) (hd : (bs s).drop k = b :: t) (hF : ln = false → (b == 10) = false → Fresh s k) :
    Calls Tryz.prog 25 #[.pointer (some ⟨g, 0, none⟩)] w fun e w' => e = .returned (.tuple #[]) ∧ StepPost g s k ln ob out (LexM.step b t ln) w' ∧ Below g w w' := by
  cases h10 : (b == 10) with
  | true =>
    obtain rfl : b = 10 := by simpa using h10
    exact rstep_eol w g s k ln ob out h hs hk hg hob hlen t hd
  | false =>
    cases hbl : LexM.isBlank b with
    | true => exact rstep_blank w g s k ln ob out h hs hk hg b t hd h10 hbl
    | false =>
      cases hcm : LexM.isComment b t ln with
      | true => exact rstep_comment w g s k ln ob out h hs hk hg hlen b t hd h10 hbl hcm (fun e => hF e h10)
      | false =>
        cases hgo : (b == 59 && LexM.goes t) with
        | true =>
          rw [Bool.and_eq_true] at hgo
          obtain rfl : b = 59 := by simpa using hgo.1
          exact rstep_semi w g s k ln ob out h hs hk hg hlen t hd hgo.2
        | false => exact rstep_token w g s k ln ob out h hs hk hg hob hlen b t hd h10 hbl hcm hgo

end Go.Proofs.YtpnfcgmogjpliaaGreatDoor
