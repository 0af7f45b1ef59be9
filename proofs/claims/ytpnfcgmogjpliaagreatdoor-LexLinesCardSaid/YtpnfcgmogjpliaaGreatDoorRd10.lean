/- The document's Lex answers what the model says, for every source of at most 100,000,000 bytes. -/
import Derived.Test.YtpnfcgmogjpliaaGreatDoorRd9
import Derived.Test.YtpnfcgmogjpliaaGreatDoorKnown
namespace Go.Proofs.YtpnfcgmogjpliaaGreatDoor
open Go.RowKit
attribute [local go_sem ↓] Go.wp_at_zero Go.wp_at_succ

theorem line_end : ∀ l : List UInt8, l[(LexM.line l).length]? = none ∨ l[(LexM.line l).length]? = some 10
  | [] => .inl rfl
  | c :: l => by
    unfold LexM.line
    rw [List.takeWhile_cons]
    by_cases h : (c != 10) = true
    · rw [if_pos h, List.length_cons]
      simpa [LexM.line] using line_end l
    · rw [if_neg h]
      have : c = 10 := by simpa [bne] using h
      subst this
      exact .inr rfl
theorem step_skip_where {b : UInt8} {t : List UInt8} {ln : Bool} {n : Nat} (h : LexM.step b t ln = .skip n) : (LexM.isBlank b = true ∧ n = 1) ∨ (b :: t)[n]? = none ∨ (b :: t)[n]? = some 10 ∨ (1 ≤ n ∧ (b :: t)[n - 1]? = some 10) := by
  unfold LexM.step at h
  split at h
  · cases h
  · split at h
    · rename_i hb
      cases h
      exact .inl ⟨hb, rfl⟩
    · split at h
      · split at h
        · cases h
        · cases h
          rcases line_end (b :: t) with h1 | h1
          · exact .inr (.inl h1)
          · exact .inr (.inr (.inl h1))
      · split at h
        · split at h
          · cases h
          · cases h
            by_cases hl : (LexM.line t).length < t.length
            · rw [if_pos hl]
              rcases line_end t with h1 | h1
              · rw [List.getElem?_eq_none_iff] at h1
                omega
              · exact .inr (.inr (.inr ⟨by omega, by rw [show 1 + (LexM.line t).length + 1 - 1 = (LexM.line t).length + 1 from by omega, List.getElem?_cons_succ]; exact h1⟩))
            · rw [if_neg hl]
              refine .inr (.inl ?_)
              rw [show 1 + (LexM.line t).length + 0 = (LexM.line t).length + 1 from by omega, List.getElem?_cons_succ, List.getElem?_eq_none_iff]
              omega
        · rcases tokStep_two b t with ⟨kind, x, m, e⟩ | ⟨i, e⟩ <;> rw [e] at h <;> cases h

def FreshQ (s : ByteArray) (k : Nat) (ln : Bool) : Prop := ln = false → (∃ h : k < s.size, s[k] ≠ 10) → Fresh s k
/-- The reader reads on. -/
structure GoodSt (g : Nat) (s : ByteArray) (ob : Nat) (all : List LexM.Tk) (er : Option Nat) (q : Nat) (wr : World) (k : Nat) (ln : Bool) (out : List LexM.Tk) : Prop where
  le : k ≤ s.size
  eq : q = s.size - k + 1
  st : RdSt wr g s k ln (-1) ob out
  len : out.length ≤ k
  toks : out ++ (LexM.lex ((bs s).drop k) k ln).1 = all
  err : (LexM.lex ((bs s).drop k) k ln).2 = er
  fresh : FreshQ s k ln
def LexInv (w : World) (g : Nat) (s : ByteArray) (ob : Nat) (all : List LexM.Tk) (er : Option Nat) (q : Nat) (wr : World) : Prop :=
  (Below g w wr ∧ ob ≤ wr.heap.size) ∧ ((∃ k ln out, GoodSt g s ob all er q wr k ln out) ∨ ∃ p, er = some p ∧ q = 0 ∧ RdBad wr g s ob p)

theorem fresh_after {s : ByteArray} {k : Nat} (hk : k < s.size) (h : s[k] = 10) : Fresh s (k + 1) := ⟨k + 1, Nat.le_refl _, fun i hi h1 h2 => by omega, .inr ⟨by simpa using hk, by omega, by simpa using h⟩⟩
theorem fresh_blank {s : ByteArray} {k : Nat} (hF : Fresh s k) (hk : k < s.size) (h : LexM.isBlank s[k] = true) : Fresh s (k + 1) := by
  obtain ⟨j, hj, hb, hs⟩ := hF
  refine ⟨j, by omega, fun i hi h1 h2 => ?_, hs⟩
  by_cases e : i = k
  · subst e
    exact h
  · exact hb i hi h1 (by omega)

theorem inv_next {w : World} {g : Nat} {s : ByteArray} {ob : Nat} {all : List LexM.Tk} {er : Option Nat} {q : Nat} {wr : World} {k : Nat} {ln : Bool} {out : List LexM.Tk} (hB : Below g w wr ∧ ob ≤ wr.heap.size) (h : GoodSt g s ob all er q wr k ln out)
    {b : UInt8} {t : List UInt8} (hd : (bs s).drop k = b :: t) (hk : k < s.size) {w' : World} (hp : StepPost g s k ln ob out (LexM.step b t ln) w') (hb : Below g wr w') : ∃ q', q' < q ∧ LexInv w g s ob all er q' w' := by
  obtain ⟨h1, h2, h3, h4, h5, h6, h7⟩ := h
  have hB' : Below g w w' ∧ ob ≤ w'.heap.size := ⟨hB.1.trans hb, Nat.le_trans hB.2 hb.size⟩
  have hl := (drop_lt hd).2
  have hsk := drop_here hd hk
  rw [hd] at h5 h6
  have hdk : ∀ n, (b :: t).drop n = (bs s).drop (k + n) := fun n => by rw [← hd, List.drop_drop]
  have hgk : ∀ n, (b :: t)[n]? = (bs s)[k + n]? := fun n => by rw [← hd, List.getElem?_drop]
  unfold StepPost at hp
  cases hst : LexM.step b t ln with
  | eol =>
    rw [hst] at hp
    have hb10 : b = 10 := by
      unfold LexM.step at hst
      split at hst
      · rename_i e
        simpa using e
      · split at hst
        · cases hst
        · split at hst
          · split at hst <;> cases hst
          · split at hst
            · split at hst <;> cases hst
            · rcases tokStep_two b t with ⟨kind, x, m, e⟩ | ⟨i, e⟩ <;> rw [e] at hst <;> cases hst
    subst hb10
    rw [LexM.lex_eol] at h5 h6
    refine ⟨s.size - (k + 1) + 1, by omega, hB', .inl ⟨k + 1, false, out ++ LexM.ends ln k, by omega, rfl, hp, ?_, ?_, ?_, fun _ _ => fresh_after hk hsk⟩⟩
    · have : (LexM.ends ln k).length ≤ 1 := by cases ln <;> simp [LexM.ends]
      rw [List.length_append]
      omega
    · rw [List.append_assoc, hl.2]
      exact h5
    · rw [hl.2]
      exact h6
  | skip n =>
    rw [hst] at hp
    have hn := LexM.step_skip hst
    rw [LexM.lex_skip hst, hdk] at h5 h6
    refine ⟨s.size - (k + n) + 1, by omega, hB', .inl ⟨k + n, ln, out, by omega, rfl, hp, by omega, h5, h6, fun hln hx => ?_⟩⟩
    obtain ⟨hkn, hne⟩ := hx
    rcases step_skip_where hst with ⟨hbl, rfl⟩ | hw | hw | ⟨hn1, hw⟩
    · refine fresh_blank (h7 hln ⟨hk, ?_⟩) hk (by rw [hsk]; exact hbl)
      rw [hsk]
      intro e
      subst e
      cases hbl
    · rw [hgk, List.getElem?_eq_none_iff, bs_length] at hw
      omega
    · rw [hgk, bs_get s (k + n) hkn] at hw
      exact absurd (Option.some.inj hw) hne
    · rw [hgk, bs_get s (k + (n - 1)) (by omega)] at hw
      have := fresh_after (s := s) (k := k + (n - 1)) (by omega) (Option.some.inj hw)
      rw [show k + (n - 1) + 1 = k + n from by omega] at this
      exact this
  | bad i =>
    rw [hst] at hp
    rw [LexM.lex_bad hst] at h6
    exact ⟨0, by omega, hB', .inr ⟨k + i, h6.symm, rfl, hp⟩⟩
  | tok kind text n =>
    rw [hst] at hp
    have hn := LexM.step_tok hst
    rw [LexM.lex_tok hst] at h5 h6
    simp only [hdk] at h5 h6
    refine ⟨s.size - (k + n) + 1, by omega, hB', .inl ⟨k + n, true, out ++ [⟨kind, k, text⟩], by omega, rfl, hp, by simp; omega, ?_, h6, fun e => by cases e⟩⟩
    rw [List.append_assoc]
    exact h5

def resOf (all : List LexM.Tk) (oe : Option Nat) : List LexM.Tk × Int × Int := match oe with | some p => ([], (p : Int), 2) | none => if 1200 < all.length then ([], 0, 3) else (all, (all.length : Int), 0)
theorem lexRes_of {s : List UInt8} {all : List LexM.Tk} {oe : Option Nat} (h : s.length ≤ 4000) (hl : LexM.lex s 0 false = (all, oe)) : LexM.lexRes s = resOf all oe := by
  unfold LexM.lexRes resOf
  rw [if_neg (by omega), hl]
  rfl

theorem rends_calls (w : World) (g : Nat) (s : ByteArray) (k : Nat) (ln : Bool) (ob : Nat) (out : List LexM.Tk) (h : RdSt w g s k ln (-1) ob out) (hs : s.size ≤ 20000) (hk : k ≤ s.size) (hg : g < ob) (hob : ob ≤ w.heap.size) (hlen : out.length ≤ 50000) :
    Calls Tryz.prog 26 #[.pointer (some ⟨g, 0, none⟩)] w fun e w' => e = .returned (.tuple #[]) ∧ RdSt w' g s k false (-1) ob (out ++ LexM.ends ln k) ∧ Below g w w' := by
  cases ln with
  | true => exact rends_yes w g s k (-1) ob out h hs hk hg hob hlen
  | false =>
    rw [show out ++ LexM.ends false k = out from List.append_nil _]
    exact rends_no w g s k (-1) ob out h hg

def RLexPost (w : World) (ts : List LexM.Tk) (m er : Int) (e : Ending) (w' : World) : Prop := ∃ A cap, e = .returned (.tuple #[.slice A ts.length cap, .int .i64 m, .int .i64 er]) ∧ (TokS w' A (ts.map tvOf) ∧ ts.length ≤ cap) ∧ Below w.heap.size w w'

theorem row_cap {W : World} {base n : Nat} {A : Option Addr} {cap : Nat} {xs : List Value} (h : W.ownsRow base 49 3 (.slice A n cap) n xs) : n ≤ cap := by
  rcases h.2 with ⟨h1, h2⟩ | ⟨g, c, cur, h1, _, _, h2, _⟩
  · cases h1
    exact Nat.le_refl _
  · cases h1
    exact h2
theorem RdSt.row {w : World} {g : Nat} {s : ByteArray} {k : Nat} {ln : Bool} {wrong : Int} {ob : Nat} {out : List LexM.Tk} (h : RdSt w g s k ln wrong ob out) : ∃ A cap, w.cell? ⟨g, 4, none⟩ = some (.slice A out.length cap) ∧ TokS w A (out.map tvOf) ∧ w.cell? ⟨g, 3, none⟩ = some (.int .i64 wrong) ∧ out.length ≤ cap := by
  obtain ⟨v, h1, h2⟩ := h
  obtain ⟨_, _, _, c3, c4⟩ := rd_cells h1
  obtain ⟨A, cap, rfl, ht⟩ := toks_row h2
  exact ⟨A, cap, c4, ht, c3, row_cap h2⟩

set_option maxHeartbeats 2000000 in
set_option maxRecDepth 100000 in
theorem rlex_small (w : World) (s : ByteArray) (hs : s.size ≤ 4000) (ts : List LexM.Tk) (m er : Int) (hr : LexM.lexRes (bs s) = (ts, m, er)) :
    Calls Tryz.prog 10 #[.string s] w (RLexPost w ts m er) := by
  have q0 : decide ((4000 : Int) < (s.size : Int)) = false := by simp; omega
  obtain ⟨all, oe, hall⟩ : ∃ all oe, LexM.lex ((bs s).drop 0) 0 false = (all, oe) := ⟨_, _, rfl⟩
  have hres : (ts, m, er) = resOf all oe := by
    rw [← hr]
    exact lexRes_of (by rw [bs_length]; omega) (by rw [List.drop_zero] at hall; exact hall)
  have HRES := Lib.hid hres
  have hinv : LexInv (w.alloc (.cells #[.string s, .int .i64 0, .bool false, .int .i64 (-1), .slice none 0 0] 55)) w.heap.size s (w.heap.size + 1) all oe (s.size + 1) (w.alloc (.cells #[.string s, .int .i64 0, .bool false, .int .i64 (-1), .slice none 0 0] 55)) := by
    refine ⟨⟨Below.refl _ _, by simp⟩, .inl ⟨0, false, [], Nat.zero_le _, by omega, ⟨_, blk_new w _ _, World.ownsRow_nil _ _ _ _⟩, Nat.le_refl _, ?_, ?_, fun _ _ => ⟨0, Nat.le_refl _, fun i hi h1 h2 => by omega, .inl rfl⟩⟩⟩
    · rw [hall]; rfl
    · rw [hall]
  have HINV := Lib.hid hinv
  obtain ⟨w1, hw1⟩ : ∃ w1, w.alloc (.cells #[.string s, .int .i64 0, .bool false, .int .i64 (-1), .slice none 0 0] 55) = w1 := ⟨_, rfl⟩
  have hbw : Below w.heap.size w w1 := by rw [← hw1]; exact (Below.refl _ _).alloc (Nat.le_refl _) _
  have HBW := Lib.hid hbw
  have HW1 := Lib.hid hw1
  clear hr hres hall hinv hw1 hbw
  go_enter Tryz.func10, Tryz.ntmps10
  go_wp2
  rw [HW1.out] at HINV ⊢
  go_loopg [] (s.size + 1) (fun q wr => LexInv w1 w.heap.size s (w.heap.size + 1) all oe q wr)
  case atStart => exact HINV.out
  case round =>
    obtain ⟨⟨hBw, hobw⟩, ⟨k, ln, out, hG⟩ | ⟨p, her, hq0, hBad⟩⟩ := hrel
    · have hk0 := hG.le
      have hst0 := hG.st
      have hln0 := hG.len
      obtain ⟨c0, c1, _, _⟩ := hst0.cells
      obtain ⟨_, _, _, _, c3, _⟩ := hst0.row
      by_cases hk : k < s.size
      · have b0 : decide ((k : Int) < (s.size : Int)) = true := by simp; omega
        have hd := drop_cons hk
        have hF : ln = false → (s[k] == 10) = false → Fresh s k := fun e e10 => hG.fresh e ⟨hk, by simpa using e10⟩
        have HST := Lib.hid (rstep_calls wr w.heap.size s k ln (w.heap.size + 1) out hst0 (by omega) hk (Nat.lt_succ_self _) hobw (by omega) s[k] ((bs s).drop (k + 1)) hd hF)
        have HN := Lib.hid (fun (w' : World) h1 h2 => inv_next ⟨hBw, hobw⟩ hG hd hk (w' := w') h1 h2)
        clear hF hd hst0 hG
        go_wp2_with (go_at_call 25; refine (HST.out).mono ?_; rintro e w2 ⟨rfl, hr1, hb1⟩; obtain ⟨q', hlt', hinv'⟩ := HN.out _ hr1 hb1; have HI := Lib.hid hinv'; clear hr1 hb1 hinv')
        go_roundg q'
        case measure => exact hlt'
        case rel => exact HI.out
      · obtain rfl : k = s.size := by omega
        have hnil := List.drop_of_length_le (l := bs s) (i := s.size) (by rw [bs_length]; exact Nat.le_refl _)
        have h5 := hG.toks
        have h6 := hG.err
        rw [hnil, LexM.lex_nil] at h5 h6
        subst h6
        have HEN := Lib.hid (rends_calls wr w.heap.size s s.size ln (w.heap.size + 1) out hst0 (by omega) (Nat.le_refl _) (Nat.lt_succ_self _) hobw (by omega))
        have hres : (ts, m, er) = if 1200 < all.length then ([], 0, 3) else (all, (all.length : Int), 0) := HRES.out
        clear hnil hst0 hG
        by_cases hbig : 1200 < all.length
        · have b1 : decide ((1200 : Int) < (all.length : Int)) = true := by simp; omega
          rw [if_pos hbig] at hres
          injection hres with e1 hres
          injection hres with e2 e3
          subst e1 e2 e3
          go_wp2_with (go_at_call 26; refine (HEN.out).mono ?_; rintro e w2 ⟨rfl, hr1, hb1⟩; rw [h5] at hr1; obtain ⟨A, cap, d4, ht, d3, dcap⟩ := hr1.row; have HT := Lib.hid ht; have HB1 := Lib.hid hb1; clear hr1 hb1 ht)
          refine bodyPost_ret (v := .tuple #[.slice none 0 0, .int .i64 0, .int .i64 3]) (by simp [results, Tryz.results10, go_sem]) rfl ?_
          exact ⟨none, 0, rfl, ⟨TokS.nil _ _, Nat.le_refl _⟩, (HBW.out.trans hBw).trans HB1.out⟩
        · have b1 : decide ((1200 : Int) < (all.length : Int)) = false := by simp; omega
          rw [if_neg hbig] at hres
          injection hres with e1 hres
          injection hres with e2 e3
          subst e1 e2 e3
          go_wp2_with (go_at_call 26; refine (HEN.out).mono ?_; rintro e w2 ⟨rfl, hr1, hb1⟩; rw [h5] at hr1; obtain ⟨A, cap, d4, ht, d3, dcap⟩ := hr1.row; have HT := Lib.hid ht; have HB1 := Lib.hid hb1; clear hr1 hb1 ht)
          go_quiet (fail)
          go_wp2
          refine bodyPost_ret (v := .tuple #[.slice A ts.length cap, .int .i64 ts.length, .int .i64 0]) (by simp [results, Tryz.results10, go_sem]) rfl ?_
          exact ⟨A, cap, rfl, ⟨HT.out, dcap⟩, below_drewN' ((HBW.out.trans hBw).trans HB1.out) _⟩
    · subst her
      obtain ⟨k, ln, out, _, hst⟩ := hBad
      obtain ⟨c0, c1, _, _⟩ := hst.cells
      obtain ⟨_, _, _, _, c3, _⟩ := hst.row
      have hres : (ts, m, er) = ([], (p : Int), 2) := HRES.out
      injection hres with e1 hres
      injection hres with e2 e3
      subst e1 e2 e3
      have b1 : decide ((p : Int) < 0) = false := by simp
      have b2 : decide ((0 : Int) ≤ (p : Int)) = true := by simp
      clear hst
      by_cases hk : k < s.size
      · have b0 : decide ((k : Int) < (s.size : Int)) = true := by simp; omega
        go_wp2
        go_quiet (fail)
        go_wp2
        refine bodyPost_ret (v := .tuple #[.slice none 0 0, .int .i64 p, .int .i64 2]) (by simp [results, Tryz.results10, go_sem]) rfl ?_
        exact ⟨none, 0, rfl, ⟨TokS.nil _ _, Nat.le_refl _⟩, below_drewN' (HBW.out.trans hBw) _⟩
      · have b0 : decide ((k : Int) < (s.size : Int)) = false := by simp; omega
        go_wp2
        go_quiet (fail)
        go_wp2
        refine bodyPost_ret (v := .tuple #[.slice none 0 0, .int .i64 p, .int .i64 2]) (by simp [results, Tryz.results10, go_sem]) rfl ?_
        exact ⟨none, 0, rfl, ⟨TokS.nil _ _, Nat.le_refl _⟩, below_drewN' (HBW.out.trans hBw) _⟩

set_option maxRecDepth 100000 in
theorem rlex_big (w : World) (s : ByteArray) (h4 : 4000 < s.size) (hs : s.size ≤ 140737488355328) : Calls Tryz.prog 10 #[.string s] w (RLexPost w [] 0 3) := by
  have hlt : decide ((4000 : Int) < s.size) = true := by simp; omega
  clear h4
  go_enter Tryz.func10, Tryz.ntmps10
  go_wp2
  refine bodyPost_ret (v := .tuple #[.slice none 0 0, .int .i64 0, .int .i64 3]) (by simp [results, Tryz.results10, go_sem]) rfl ?_
  exact ⟨none, 0, rfl, ⟨TokS.nil _ _, Nat.le_refl _⟩, Below.refl _ _⟩

/-- The reference's Lex, of every source; the slice has room for what it holds. -/
theorem rlexC_calls (w : World) (s : ByteArray) (hs : s.size ≤ 140737488355328) (ts : List LexM.Tk) (m er : Int) (hr : LexM.lexRes (bs s) = (ts, m, er)) :
    Calls Tryz.prog 10 #[.string s] w fun e w' => ∃ A cap, e = .returned (.tuple #[.slice A ts.length cap, .int .i64 m, .int .i64 er]) ∧ (TokS w' A (ts.map tvOf) ∧ ts.length ≤ cap) ∧ Below w.heap.size w w' := by
  by_cases h4 : 4000 < s.size
  · unfold LexM.lexRes at hr
    rw [bs_length, if_pos h4] at hr
    injection hr with e1 hr
    injection hr with e2 e3
    subst e1 e2 e3
    exact rlex_big w s h4 hs
  · exact rlex_small w s (by omega) ts m er hr
theorem rlexT_calls (w : World) (s : ByteArray) (hs : s.size ≤ 140737488355328) (ts : List LexM.Tk) (m er : Int) (hr : LexM.lexRes (bs s) = (ts, m, er)) :
    Calls Tryz.prog 10 #[.string s] w fun e w' => ∃ A cap, e = .returned (.tuple #[.slice A ts.length cap, .int .i64 m, .int .i64 er]) ∧ TokS w' A (ts.map tvOf) ∧ Below w.heap.size w w' :=
  (rlexC_calls w s hs ts m er hr).mono fun _ _ ⟨A, cap, he, ht, hb⟩ => ⟨A, cap, he, ht.1, hb⟩

end Go.Proofs.YtpnfcgmogjpliaaGreatDoor
