/- Lex answers what the model says, for every source of at most 20,000 bytes, where the library's tables lie as their texts lay them. -/
import Derived.Test.YtpnfcgmogjpliaaGreatDoorSc13
namespace Go.Proofs.YtpnfcgmogjpliaaGreatDoor
open Go.RowKit
attribute [local go_sem ↓] Go.wp_at_zero Go.wp_at_succ

theorem all_calls (w : World) (g : Nat) : Calls Tryz.prog 24 #[.pointer (some ⟨g, 0, none⟩)] w fun e w' =>
    e = .returned (.func (.func 37) #[] #[.pointer (some ⟨w.heap.size, 0, none⟩)]) ∧ w' = w.alloc (.cells #[.pointer (some ⟨g, 0, none⟩)] 42) := by
  go_enter Tryz.func24, Tryz.ntmps24
  go_wp2
  go_ret
  exact ⟨rfl, rfl⟩

theorem collect_calls (w0 w : World) (g Bn : Nat) (s : ByteArray) (k : Nat) (ln : Bool) (bad : Int) (h : ScSt w g s k ln bad) (hs : s.size ≤ 20000) (hk : k ≤ s.size) (hT : Tabs w0 w) (hg : w0.heap.size ≤ g) (hne : Bn ≠ g)
    (hc : w.heap[Bn]? = some (.cells #[.pointer (some ⟨g, 0, none⟩)] 42 (0, 0))) {all : List LexM.Tk} {er : Option Nat} (hl : LexM.lex ((bs s).drop k) k ln = (all, er)) :
    Calls Tryz.prog 23 #[.func (.func 37) #[] #[.pointer (some ⟨Bn, 0, none⟩)]] w fun e w' =>
      ∃ v, e = .returned v ∧ w'.ownsRow w.heap.size 49 3 v all.length (tkCells all) ∧ ScEnd g s bad er w' ∧ Ch g w w' := by
  have hA := Lib.hid (appendSeq_calls w0 w g Bn s k ln bad h hs hk hT hg hne hc hl)
  clear h hT hc hl
  go_enter Tryz.func23, Tryz.ntmps23
  go_wp2_with (go_at_call 36; refine hA.out.mono ?_; rintro e w' ⟨v, rfl, hv, hse, hch⟩; have HV := Lib.hid hv; have HSE := Lib.hid hse; have HCH := Lib.hid hch; clear hv hse hch)
  go_ret
  exact ⟨_, rfl, HV.out, HSE.out, HCH.out⟩

set_option maxRecDepth 100000 in
theorem scanner_built (s : ByteArray) : Tryz.prog.built 46 [(0, .string s), (2, .agg clsA.toArray), (5, .int .i64 (-1))] = some (scCells s 0 false (-1)).toArray := by
  kernel_rfl

/-- The tokens, in a slice of their own; the second result; the error. -/
def LexPost (_s : ByteArray) (w : World) (r : List LexM.Tk × Int × Int) (e : Ending) (w' : World) : Prop :=
  ∃ v, e = .returned (.tuple #[v, .int .i64 r.2.1, .int .i64 r.2.2]) ∧ w'.ownsRow w.heap.size 49 3 v r.1.length (tkCells r.1) ∧ Below w.heap.size w w'

theorem bel_drewN {n : Nat} {w w' : World} (h : Below n w w') (q : Nat) : Below n w (w'.drewN q) := ⟨h.os, h.tape, h.output, h.size, h.block⟩
theorem row_base {W : World} {base base' e size n : Nat} {v : Value} {xs : List Value} (h : W.ownsRow base e size v n xs) (hb : base' ≤ base) : W.ownsRow base' e size v n xs := by
  refine ⟨h.1, ?_⟩
  rcases h.2 with hn | ⟨g, cap, cur, hv, hbg, rest⟩
  · exact .inl hn
  · exact .inr ⟨g, cap, cur, hv, Nat.le_trans hb hbg, rest⟩
theorem row_slice {W : World} {base e size n : Nat} {v : Value} {xs : List Value} (h : W.ownsRow base e size v n xs) : ∃ a cap, v = .slice a n cap := by
  rcases h.2 with ⟨hn, h0⟩ | ⟨g, cap, cur, hv, _⟩
  · exact ⟨none, 0, by rw [hn, h0]⟩
  · exact ⟨_, cap, hv⟩

theorem col_calls (w0 w w1 : World) (s : ByteArray) (D : Array Value) (hs : s.size ≤ 20000) (hT : Tabs w0 w) (hD : (scCells s 0 false (-1)).toArray = D) (hb : Below w.heap.size w w1) {ts : List LexM.Tk} {er : Option Nat} (hL : LexM.lex ((bs s).drop 0) 0 false = (ts, er)) :
    Calls Tryz.prog 23 #[.func (.func 37) #[] #[.pointer (some ⟨w1.heap.size + 1, 0, none⟩)]] ((w1.alloc (.cells D 46)).alloc (.cells #[.pointer (some ⟨w1.heap.size, 0, none⟩)] 42)) fun e w' =>
      ∃ a cap, e = .returned (.slice a ts.length cap) ∧ w'.ownsRow w.heap.size 49 3 (.slice a ts.length cap) ts.length (tkCells ts) ∧ ScEnd w1.heap.size s (-1) er w' ∧ Below w.heap.size w w' := by
  subst hD
  have h2 := blk_new (w1.alloc (.cells (scCells s 0 false (-1)).toArray 46)) #[.pointer (some ⟨w1.heap.size, 0, none⟩)] 42
  rw [World.size_alloc] at h2
  have hw1 := hb.size
  have hb2 : Below w.heap.size w ((w1.alloc (.cells (scCells s 0 false (-1)).toArray 46)).alloc (.cells #[.pointer (some ⟨w1.heap.size, 0, none⟩)] 42)) := (hb.alloc hw1 _).alloc (by simp; omega) _
  refine (collect_calls w0 _ w1.heap.size (w1.heap.size + 1) s 0 false (-1) (blk_alloc (blk_new w1 _ _) _) hs (Nat.zero_le _) (hT.belowN hb2) (Nat.le_trans hT.below.size hw1) (by omega) h2 hL).mono ?_
  rintro e w' ⟨v, rfl, hv, hse, hch⟩
  obtain ⟨a, cap, rfl⟩ := row_slice hv
  exact ⟨a, cap, rfl, row_base hv (by simp; omega), hse, hb2.trans (hch.below (by omega) hb2.size)⟩

set_option maxHeartbeats 4000000 in
set_option maxRecDepth 100000 in
theorem lex_calls (w0 w : World) (s : ByteArray) (hs : s.size ≤ 20000) (hT : Tabs w0 w) : Calls Tryz.prog 9 #[.string s] w (LexPost s w (LexM.lexRes (bs s))) := by
  have hlen := bs_length s
  by_cases h4 : 4000 < s.size
  · have hr : LexM.lexRes (bs s) = ([], 0, 3) := by
      unfold LexM.lexRes
      rw [hlen, if_pos h4]
    rw [hr]
    have hlt : decide ((4000 : Int) < s.size) = true := by simp; omega
    go_enter Tryz.func9, Tryz.ntmps9
    go_wp2
    refine bodyPost_ret (v := .tuple #[.slice none 0 0, .int .i64 0, .int .i64 3]) (by simp [results, Tryz.results9, go_sem]) rfl ?_
    exact ⟨_, rfl, World.ownsRow_nil _ _ _ _, Below.refl _ _⟩
  · have hlt : decide ((4000 : Int) < s.size) = false := by simp; omega
    obtain ⟨C, hC⟩ : ∃ C, clsA.toArray = C := ⟨_, rfl⟩
    obtain ⟨D, hD⟩ : ∃ D, (scCells s 0 false (-1)).toArray = D := ⟨_, rfl⟩
    have hcs := fun wx => classes_calls wx
    have hbt := scanner_built s
    rw [hC, hD] at hbt
    rw [hC] at hcs
    have HBT := Lib.hid hbt
    have HCS := Lib.hid hcs
    have HD := Lib.hid hD
    clear hbt hcs hC hD
    have HT := Lib.hid hT
    clear hT
    have hways : (∃ ts p, LexM.lex ((bs s).drop 0) 0 false = (ts, some p)) ∨ (∃ ts, LexM.lex ((bs s).drop 0) 0 false = (ts, none) ∧ 1200 < ts.length) ∨ (∃ ts, LexM.lex ((bs s).drop 0) 0 false = (ts, none) ∧ ¬ 1200 < ts.length) := by
      obtain ⟨ts, er, hL⟩ : ∃ ts er, LexM.lex ((bs s).drop 0) 0 false = (ts, er) := ⟨_, _, rfl⟩
      cases er with
      | some p => exact .inl ⟨ts, p, hL⟩
      | none => exact if h : 1200 < ts.length then .inr (.inl ⟨ts, hL, h⟩) else .inr (.inr ⟨ts, hL, h⟩)
    rcases hways with ⟨ts, p, hL⟩ | ⟨ts, hL, hn⟩ | ⟨ts, hL, hn⟩
    all_goals have HL := Lib.hid hL
    all_goals clear hL
    · have hr : LexM.lexRes (bs s) = ([], (p : Int), 2) := by unfold LexM.lexRes; rw [hlen, if_neg h4, show LexM.lex (bs s) 0 false = (ts, some p) from HL.out]
      rw [hr]
      have hbad : decide ((0 : Int) ≤ (p : Int)) = true := by simp
      have HCO := Lib.hid (fun w1 hb => col_calls w0 w w1 s D hs HT.out HD.out hb HL.out)
      clear hlen
      go_enter Tryz.func9, Tryz.ntmps9
      go_wp2_with (first
        | (go_at_call 22; refine (HCS.out _).mono ?_; rintro e w1 ⟨rfl, hb1⟩; have HB1 := Lib.hid hb1; clear hb1)
        | refine wpList_buildTo rfl 46 _ rfl (some 12) rfl D (by simp [go_sem]; exact HBT.out) ?_
        | (go_at_call 24; refine (all_calls _ _).mono ?_; rintro e w2 ⟨rfl, rfl⟩)
        | (go_at_call 23; refine (HCO.out _ HB1.out).mono ?_; rintro e w3 ⟨a, cap, rfl, hv, hse, hb3⟩; obtain ⟨k', ln', hsc⟩ := hse; have HV := Lib.hid hv; have HB3 := Lib.hid hb3; obtain ⟨_, _, _, _, c260⟩ := sc_cells hsc; clear hv hb3 hsc))
      go_quiet (fail)
      go_wp2
      refine bodyPost_ret (v := .tuple #[.slice none 0 0, .int .i64 p, .int .i64 2]) (by simp [results, Tryz.results9, go_sem]) rfl ?_
      exact ⟨_, rfl, World.ownsRow_nil _ _ _ _, bel_drewN HB3.out _⟩
    · have hr : LexM.lexRes (bs s) = ([], 0, 3) := by unfold LexM.lexRes; rw [hlen, if_neg h4, show LexM.lex (bs s) 0 false = (ts, none) from HL.out]; simp only; rw [if_pos hn]
      rw [hr]
      have hln : decide ((1200 : Int) < (ts.length : Int)) = true := by simp; omega
      have HCO := Lib.hid (fun w1 hb => col_calls w0 w w1 s D hs HT.out HD.out hb HL.out)
      clear hlen
      go_enter Tryz.func9, Tryz.ntmps9
      go_wp2_with (first
        | (go_at_call 22; refine (HCS.out _).mono ?_; rintro e w1 ⟨rfl, hb1⟩; have HB1 := Lib.hid hb1; clear hb1)
        | refine wpList_buildTo rfl 46 _ rfl (some 12) rfl D (by simp [go_sem]; exact HBT.out) ?_
        | (go_at_call 24; refine (all_calls _ _).mono ?_; rintro e w2 ⟨rfl, rfl⟩)
        | (go_at_call 23; refine (HCO.out _ HB1.out).mono ?_; rintro e w3 ⟨a, cap, rfl, hv, hse, hb3⟩; obtain ⟨k', ln', hsc⟩ := hse; have HV := Lib.hid hv; have HB3 := Lib.hid hb3; obtain ⟨_, _, _, _, c260⟩ := sc_cells hsc; clear hv hb3 hsc))
      refine bodyPost_ret (v := .tuple #[.slice none 0 0, .int .i64 0, .int .i64 3]) (by simp [results, Tryz.results9, go_sem]) rfl ?_
      exact ⟨_, rfl, World.ownsRow_nil _ _ _ _, HB3.out⟩
    · have hr : LexM.lexRes (bs s) = (ts, (ts.length : Int), 0) := by unfold LexM.lexRes; rw [hlen, if_neg h4, show LexM.lex (bs s) 0 false = (ts, none) from HL.out]; simp only; rw [if_neg hn]
      rw [hr]
      have hln : decide ((1200 : Int) < (ts.length : Int)) = false := by simp; omega
      have HCO := Lib.hid (fun w1 hb => col_calls w0 w w1 s D hs HT.out HD.out hb HL.out)
      clear hlen
      go_enter Tryz.func9, Tryz.ntmps9
      go_wp2_with (first
        | (go_at_call 22; refine (HCS.out _).mono ?_; rintro e w1 ⟨rfl, hb1⟩; have HB1 := Lib.hid hb1; clear hb1)
        | refine wpList_buildTo rfl 46 _ rfl (some 12) rfl D (by simp [go_sem]; exact HBT.out) ?_
        | (go_at_call 24; refine (all_calls _ _).mono ?_; rintro e w2 ⟨rfl, rfl⟩)
        | (go_at_call 23; refine (HCO.out _ HB1.out).mono ?_; rintro e w3 ⟨a, cap, rfl, hv, hse, hb3⟩; obtain ⟨k', ln', hsc⟩ := hse; have HV := Lib.hid hv; have HB3 := Lib.hid hb3; obtain ⟨_, _, _, _, c260⟩ := sc_cells hsc; clear hv hb3 hsc))
      refine bodyPost_ret (v := .tuple #[.slice a ts.length cap, .int .i64 ts.length, .int .i64 0]) (by simp [results, Tryz.results9, go_sem]) rfl ?_
      exact ⟨_, rfl, HV.out, HB3.out⟩

end Go.Proofs.YtpnfcgmogjpliaaGreatDoor
