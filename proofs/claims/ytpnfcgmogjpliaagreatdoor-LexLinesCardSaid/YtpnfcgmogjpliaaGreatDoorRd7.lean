/- The document's reader: token, dates and signs; and token as a whole. The contract holds of every source of at most 20,000 bytes. -/
import Derived.Test.YtpnfcgmogjpliaaGreatDoorRd6
namespace Go.Proofs.YtpnfcgmogjpliaaGreatDoor
open Go.RowKit
attribute [local go_sem ↓] Go.wp_at_zero Go.wp_at_succ

theorem sign_len {r w : List UInt8} (h : LexM.signM r = some w) : 1 ≤ w.length := (LexM.signM_some h).2.1

theorem quiet_add {P : Program} {f : FuncId} {args : Array Value} {w : World} {a n : Nat} {v : Value}
    (h : Calls P f args (w.drewN (a + n)) fun e w' => e = .returned v ∧ ∃ m, w' = (w.drewN (a + n)).drewN m) :
    Calls P f args (w.drewN (a + n)) fun e w'' => e = .returned v ∧ ∃ m, w'' = w.drewN (a + m) :=
  h.mono fun _ _ ⟨he, m, hm⟩ => ⟨he, n + m, by rw [hm, World.drewN_drewN, Nat.add_assoc]⟩

set_option maxHeartbeats 2000000 in
set_option maxRecDepth 100000 in
theorem rtoken_rest (w : World) (g : Nat) (s : ByteArray) (k : Nat) (ln : Bool) (ob : Nat) (out : List LexM.Tk) (hM : RdM w g s k ln ob out) (hs : s.size ≤ 20000) (hk : k < s.size) (hlen : out.length ≤ 50000)
    (b : UInt8) (t : List UInt8) (hd : (bs s).drop k = b :: t) (hl : LexM.isLetter b = false) (hdg : LexM.isDigit b = false) (hq : (b == 34 || b == 39) = false) :
    Calls Tryz.prog 45 #[.pointer (some ⟨g, 0, none⟩)] w fun e w' => e = .returned (.tuple #[]) ∧ TokPost g s k ob out (LexM.tokStep b t) w' ∧ Below g w w' := by
  have hb : s[k] = b := drop_here hd hk
  obtain ⟨hz, c0, c1, hrun, hfl, hput⟩ := hM
  have hst : LexM.tokStep b t = match LexM.dateM (b :: t) with | some (d, n) => .tok 3 d n | none => match LexM.signM (b :: t) with | some w => .tok 4 w w.length | none => .bad 0 := by
    unfold LexM.tokStep
    rw [if_neg (by rw [hl]; simp), if_neg (by rw [hdg]; simp), if_neg (by rw [hq]; simp)]
    rfl
  rw [hst]
  have hix := index_run s k (k : Int) rfl hk
  rw [hb] at hix
  have hlet := fun wx => rLetter_calls wx b
  rw [hl] at hlet
  have hdig := fun wx => rDigit_calls wx b
  rw [hdg] at hdig
  have hdate := fun wx => rdate_calls wx s k hs hk
  rw [hd] at hdate
  have hsign := fun wx => rsign_calls wx s k hs hk
  rw [hd] at hsign
  have HL := Lib.hid hlet
  have HD := Lib.hid hdig
  have HFL := Lib.hid hfl
  have hq34 : ((b.toNat : Int) == 34) = (b == 34) := eq_int b 34
  have hq39 : ((b.toNat : Int) == 39) = (b == 39) := eq_int b 39
  rw [Bool.or_eq_false_iff] at hq
  rw [hq.1] at hq34
  rw [hq.2] at hq39
  have hlt : ((bs s).drop k).length = s.size - k := by rw [List.length_drop, bs_length]
  rw [hd] at hlt
  cases hdm : LexM.dateM (b :: t) with
  | some dn =>
    obtain ⟨d, n⟩ := dn
    have hn := LexM.dateM_some hdm
    rw [hlt] at hn
    obtain ⟨X, hX⟩ : ∃ X : ByteArray, (⟨d.toArray⟩ : ByteArray) = X := ⟨_, rfl⟩
    have hXd : bs X = d := by rw [← hX]
    have hdate2 : ∀ wx, Calls Tryz.prog 71 #[.string s, .int .i64 k] wx fun e w' => e = .returned (.tuple #[.string X, .int .i64 n]) ∧ ∃ q, w' = wx.drewN q := fun wx => by
      have := hdate wx
      unfold dateR at this
      rw [hdm] at this
      simp only [Option.getD_some] at this
      rw [hX] at this
      exact this
    have hput2 := hput 3 X n (by omega)
    rw [hXd] at hput2
    have hn0 : decide ((0 : Int) < (n : Int)) = true := by simp; omega
    have hn0' : 0 < n := by omega
    have hn0'' : decide (0 < n) = true := by simpa using hn0'
    have HDT := Lib.hid hdate2
    have HPUT := Lib.hid hput2
    clear hlet hdig hfl hput hdate hsign hst hq hd hl hdg hb hdm hX hXd hdate2 hput2 hlt hrun hn
    go_enter Tryz.func45, Tryz.ntmps45
    go_wp2
    go_quiet (fail)
    go_wp2_with (first
      | (go_at_call 65; refine (HL.out _).mono ?_; rintro e w' ⟨rfl, rfl⟩)
      | (go_at_call 69; refine (HD.out _).mono ?_; rintro e w' ⟨rfl, rfl⟩))
    go_quiet ((go_at_call 71; exact quiet_add (HDT.out _)))
    go_wp2_with (first
      | (go_at_call 67; refine (HPUT.out _ (bel_of (by rfl) (by rfl) (by rfl) (by rfl))).mono ?_; rintro e w3 ⟨rfl, hr3, hb3⟩; have HR3 := Lib.hid hr3; have HB3 := Lib.hid hb3; clear hr3 hb3))
    refine bodyPost_ret (results_none rfl _ _ _) rfl ?_
    exact ⟨rfl, HR3.out, HB3.out⟩
  | none =>
    have hdate2 : ∀ wx, Calls Tryz.prog 71 #[.string s, .int .i64 k] wx fun e w' => e = .returned (.tuple #[.string ⟨#[]⟩, .int .i64 0]) ∧ ∃ q, w' = wx.drewN q := fun wx => by
      have := hdate wx
      unfold dateR at this
      rw [hdm] at this
      simpa using this
    have HDT := Lib.hid hdate2
    cases hsm : LexM.signM (b :: t) with
    | none =>
      have hsign2 : ∀ wx, Calls Tryz.prog 72 #[.string s, .int .i64 k] wx fun e w' => e = .returned (.string ⟨#[]⟩) ∧ Below wx.heap.size wx w' := fun wx => by
        have := hsign wx
        unfold signR at this
        rw [hsm] at this
        exact this
      have HSG := Lib.hid hsign2
      clear hlet hdig hfl hput hdate hsign hst hq hd hl hdg hb hdm hdate2 hsign2 hlt hrun hsm
      go_enter Tryz.func45, Tryz.ntmps45
      go_wp2
      go_quiet (fail)
      go_wp2_with (first
        | (go_at_call 65; refine (HL.out _).mono ?_; rintro e w' ⟨rfl, rfl⟩)
        | (go_at_call 69; refine (HD.out _).mono ?_; rintro e w' ⟨rfl, rfl⟩))
      go_quiet ((go_at_call 71; exact quiet_add (HDT.out _)))
      go_wp2
      go_region_with (go_at_call 72; refine (HSG.out _).mono ?_; rintro e w1 ⟨rfl, hb1⟩; have HBW : Hid (Below w.heap.size w w1) := Lib.hid ((bel_of (by rfl) (by rfl) (by rfl) (by rfl)).trans hb1); have d1 := (HBW.out.cell (p := ⟨g, 1, none⟩) hz).trans c1; clear hb1)
      all_goals go_wp2_with (first
        | (go_at_call 64; refine (HFL.out _ HBW.out).mono ?_; rintro e w3 ⟨rfl, hr3, hb3⟩; have HR3 := Lib.hid hr3; have HB3 := Lib.hid hb3; clear hr3 hb3))
      all_goals
        refine bodyPost_ret (results_none rfl _ _ _) rfl ?_
        exact ⟨rfl, ⟨k, ln, out, by omega, by rw [Nat.add_zero]; exact HR3.out⟩, HB3.out⟩
    | some v =>
      have hvl := LexM.signM_some hsm
      obtain ⟨X, hX⟩ : ∃ X : ByteArray, (⟨v.toArray⟩ : ByteArray) = X := ⟨_, rfl⟩
      have hXd : bs X = v := by rw [← hX]
      have hXs : X.size = v.length := by rw [← hX]; rfl
      have hsign2 : ∀ wx, Calls Tryz.prog 72 #[.string s, .int .i64 k] wx fun e w' => e = .returned (.string X) ∧ Below wx.heap.size wx w' := fun wx => by
        have := hsign wx
        unfold signR at this
        rw [hsm] at this
        simp only [Option.getD_some] at this
        rw [hX] at this
        exact this
      have hput2 := hput 4 X X.size (by rw [hXs]; omega)
      rw [hXd] at hput2
      have hpost : ∀ w', RdSt w' g s (k + X.size) true (-1) ob (out ++ [⟨4, k, v⟩]) → TokPost g s k ob out (.tok 4 v v.length) w' := fun w' h => by rw [hXs] at h; exact h
      have hne : X.toList.isEmpty = false := by
        rw [Lib.toList_data, show X.data.toList = v from hXd]
        cases v with
        | nil => simp at hvl
        | cons a v => rfl
      have hne' : (X.toList == ([] : List UInt8)) = false := by
        cases hx : X.toList with
        | nil => rw [hx] at hne; cases hne
        | cons a v => rfl
      have HSG := Lib.hid hsign2
      have HPUT := Lib.hid hput2
      have HPO := Lib.hid hpost
      clear hlet hdig hfl hput hdate hsign hst hq hd hl hdg hb hdm hdate2 hsign2 hlt hrun hsm hX hXd hXs hput2 hpost hvl
      go_enter Tryz.func45, Tryz.ntmps45
      go_wp2
      go_quiet (fail)
      go_wp2_with (first
        | (go_at_call 65; refine (HL.out _).mono ?_; rintro e w' ⟨rfl, rfl⟩)
        | (go_at_call 69; refine (HD.out _).mono ?_; rintro e w' ⟨rfl, rfl⟩))
      go_quiet ((go_at_call 71; exact quiet_add (HDT.out _)))
      go_wp2
      go_region_with (go_at_call 72; refine (HSG.out _).mono ?_; rintro e w1 ⟨rfl, hb1⟩; have HBW : Hid (Below w.heap.size w w1) := Lib.hid ((bel_of (by rfl) (by rfl) (by rfl) (by rfl)).trans hb1); clear hb1)
      all_goals go_wp2_with (first
        | (go_at_call 67; refine (HPUT.out _ HBW.out).mono ?_; rintro e w3 ⟨rfl, hr3, hb3⟩; have HR3 := Lib.hid hr3; have HB3 := Lib.hid hb3; clear hr3 hb3))
      all_goals
        go_end0
        exact ⟨rfl, HPO.out _ HR3.out, HB3.out⟩

theorem rtoken_calls (w : World) (g : Nat) (s : ByteArray) (k : Nat) (ln : Bool) (ob : Nat) (out : List LexM.Tk) (h : RdSt w g s k ln (-1) ob out) (hs : s.size ≤ 20000) (hk : k < s.size) (hg : g < ob) (hob : ob ≤ w.heap.size) (hlen : out.length ≤ 50000)
    (b : UInt8) (t : List UInt8) (hd : (bs s).drop k = b :: t) :
    Calls Tryz.prog 45 #[.pointer (some ⟨g, 0, none⟩)] w fun e w' => e = .returned (.tuple #[]) ∧ TokPost g s k ob out (LexM.tokStep b t) w' ∧ Below g w w' := by
  have hM := rdM_of h hs hk hg hob hlen
  cases hl : LexM.isLetter b with
  | true => exact rtoken_word w g s k ln ob out hM hs hk hlen b t hd hl
  | false =>
    cases hdg : LexM.isDigit b with
    | true => exact rtoken_num w g s k ln ob out hM hs hk hlen b t hd hl hdg
    | false =>
      cases hq : (b == 34 || b == 39) with
      | true => exact rtoken_quote w g s k ln ob out h hs hk hg hob hlen b t hd hq
      | false => exact rtoken_rest w g s k ln ob out hM hs hk hlen b t hd hl hdg hq

end Go.Proofs.YtpnfcgmogjpliaaGreatDoor
