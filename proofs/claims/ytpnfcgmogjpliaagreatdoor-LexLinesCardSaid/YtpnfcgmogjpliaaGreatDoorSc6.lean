/- The scanner's method sign, and what the lexer's calls of strings.ToUpper answer. The contracts hold of every source of at most 20,000 bytes, where the library's tables lie as their texts lay them. -/
import Derived.Test.YtpnfcgmogjpliaaGreatDoorSc5
import Derived.Test.YtpnfcgmogjpliaaGreatDoorUpper
namespace Go.Proofs.YtpnfcgmogjpliaaGreatDoor
open Go.RowKit
attribute [local go_sem ↓] Go.wp_at_zero Go.wp_at_succ

/-- The library's tables as they lie in w0; nothing below has changed since. -/
structure Tabs (w0 w : World) : Prop where
  cases : Lib.CaseVar 1 Lib.caseA w0
  utf8 : Lib.Utf8Tabs 2 3 w0
  below : Below w0.heap.size w0 w
theorem Tabs.ch {w0 w w' : World} {g : Nat} (h : Tabs w0 w) (hg : w0.heap.size ≤ g) (hc : Ch g w w') : Tabs w0 w' := ⟨h.cases, h.utf8, h.below.trans (hc.below hg h.below.size)⟩
theorem Tabs.belowN {w0 w w' : World} (h : Tabs w0 w) (hb : Below w.heap.size w w') : Tabs w0 w' := ⟨h.cases, h.utf8, h.below.trans (hb.mono h.below.size)⟩
theorem utf8_below {a b : Nat} {w w' : World} (h : Lib.Utf8Tabs a b w) (hb : Below w.heap.size w w') : Lib.Utf8Tabs a b w' := by
  have k : ∀ {p : Addr} {v : Value}, w.cell? p = some v → w'.cell? p = some v := fun {p v} hc => (hb.cell (World.block_lt_of_cell? w p hc)).trans hc
  exact ⟨fun c hc => k (h.1 c hc), fun i hi => ⟨k (h.2 i hi).1, k (h.2 i hi).2⟩⟩

theorem upper_calls {w0 : World} (w : World) (x : ByteArray) (hx : x.size ≤ 20000) (hT : Tabs w0 w) :
    Calls Tryz.prog 80 #[.string x] w fun e w' => e = .returned (.string ⟨(Lib.toUpperD (bs x)).toArray⟩) ∧ Below w.heap.size w w' :=
  Tryz.strings_ToUpper_any x w (by omega) (Lib.CaseVar_below hT.cases hT.below) (utf8_below hT.utf8 hT.below)

def signV : List Value := LexM.signs.map fun l => Value.string ⟨l.toArray⟩

set_option maxRecDepth 100000 in
theorem signs_calls (w : World) : Calls Tryz.prog 98 #[] w fun e w' => e = .returned (.slice (some ⟨w.heap.size, 0, none⟩) 38 38) ∧ w' = w.alloc (.cells signV.toArray 9) := by
  go_enter Tryz.func98, Tryz.ntmps98
  go_wp2
  go_ret
  exact ⟨rfl, rfl⟩

theorem new2 (w : World) (o : Obj) (cs : Array Value) (t : TypeId) : ((w.alloc o).alloc (.cells cs t)).heap[w.heap.size + 1]? = some (.cells cs t (0, 0)) := by
  have := blk_new (w.alloc o) cs t
  rw [World.size_alloc] at this
  exact this
theorem new3 (w : World) (o o2 : Obj) (cs : Array Value) (t : TypeId) : (((w.alloc o).alloc o2).alloc (.cells cs t)).heap[w.heap.size + 2]? = some (.cells cs t (0, 0)) := by
  have := blk_new ((w.alloc o).alloc o2) cs t
  rw [World.size_alloc, World.size_alloc] at this
  exact this

/-- Whether a sign stands at the begin. -/
def signP (r : List UInt8) : List UInt8 → Bool := fun w => LexM.caps (r.take w.length) == w
theorem sign_at {i : Nat} (hi : i < 38) : ∃ l, LexM.signs[i]? = some l ∧ 1 ≤ l.length ∧ l.length ≤ 6 ∧ ∀ b ∈ l, b.toNat < 128 := by
  have hlen : LexM.signs.length = 38 := rfl
  have h1 : LexM.signs[i]? = some LexM.signs[i] := List.getElem?_eq_getElem (by omega)
  have h2 : ∀ l ∈ LexM.signs, 1 ≤ l.length ∧ l.length ≤ 6 ∧ ∀ b ∈ l, b.toNat < 128 := by decide
  exact ⟨_, h1, h2 _ (List.mem_of_getElem? h1)⟩
theorem sign_drop {i : Nat} {l : List UInt8} (h : LexM.signs[i]? = some l) : LexM.signs.drop i = l :: LexM.signs.drop (i + 1) := by
  obtain ⟨hi, e⟩ := List.getElem?_eq_some_iff.1 h
  rw [List.drop_eq_getElem_cons hi, e]

set_option maxHeartbeats 2000000 in
set_option maxRecDepth 100000 in
theorem sign_yes (w0 w : World) (g : Nat) (s : ByteArray) (k : Nat) (ln : Bool) (bad : Int) (h : ScSt w g s k ln bad) (hs : s.size ≤ 20000) (hk : k < s.size) (hT : Tabs w0 w) (hg : w0.heap.size ≤ g) (v : List UInt8) (hsg : LexM.signM ((bs s).drop k) = some v) :
    Calls Tryz.prog 84 #[.pointer (some ⟨g, 0, none⟩), .agg #[.int .i64 0, .int .i64 k, .string ⟨#[]⟩]] w fun e w' => e = .returned (.tuple #[.agg #[.int .i64 4, .int .i64 k, .string ⟨v.toArray⟩], .bool true]) ∧ ScSt w' g s (k + v.length) ln bad ∧ Ch g w w' := by
  have HS := Lib.hid h
  have hz := blk_lt h
  have HT := Lib.hid hT
  have HSG := Lib.hid hsg
  obtain ⟨c0, c1, c258, c259, c260⟩ := sc_cells h
  clear h hT hsg
  go_enter Tryz.func84, Tryz.ntmps84
  go_wp2_with (go_at_call 98; refine (signs_calls _).mono ?_; rintro e w' ⟨rfl, rfl⟩)
  go_loopg [12] 38 (fun q u wr => ∃ i : Nat, u = .int .i64 i ∧ i ≤ 38 ∧ q = 38 - i ∧ Aside ((LexM.signs.drop i).find? (signP ((bs s).drop k)) = LexM.signM ((bs s).drop k)) ∧ Aside (ScSt wr g s k ln bad) ∧ Aside (Ch g w wr)
    ∧ Aside (wr.heap[w.heap.size]? = some (.cells #[.int .i64 4, .int .i64 k, .string ⟨#[]⟩] 49 (0, 0))) ∧ Aside (wr.heap[w.heap.size + 1]? = some (.cells #[.int .i64 0, .int .i64 0, .string ⟨#[]⟩] 49 (0, 0))) ∧ Aside (wr.heap[w.heap.size + 2]? = some (.cells signV.toArray 9 (0, 0))))
  case atStart =>
    refine ⟨0, rfl, by omega, by omega, rfl, ?_, ?_, ?_, ?_, ?_⟩
    · show ScSt _ _ _ _ _ _
      (repeat (first | with_reducible exact HS.out | with_reducible apply ScSt.drewN | with_reducible apply ScSt.drew | with_reducible apply ScSt.alloc | with_reducible apply ScSt.setLine | ((with_reducible apply ScSt.setAtI); (case e => first | omega | rfl)) | with_reducible apply ScSt.setBad | with_reducible refine ScSt.other ?_ (by first | omega | (simp; done) | (simp; omega)) _))
    · show Ch _ _ _
      (repeat (first | with_reducible exact Ch.refl _ _ | with_reducible exact HCH.out | with_reducible apply Ch.drewN | with_reducible apply Ch.drew | with_reducible apply Ch.alloc | with_reducible apply Ch.set | with_reducible refine Ch.setNew ?_ (by first | omega | (simp; done) | (simp; omega)) _))
    · exact blk_alloc (blk_alloc (blk_new w _ _) _) _
    · exact blk_alloc (new2 w _ _ _) _
    · exact new3 w _ _ _ _
  case round =>
    obtain ⟨i, rfl, hi, rfl, hfi, hst, hch, ha0, ha1, ha2⟩ := hrel
    clear c0 c1 c258 c259 c260
    obtain ⟨c0, c1, c258, c259, c260⟩ := sc_cells hst.out
    have f1 := sc_frozen hst.out 1
    have f260 := sc_frozen hst.out 260
    have t0 : wr.cell? ⟨w.heap.size, 0, none⟩ = some (.int .i64 4) := (blk_cell ha0.out 0).trans rfl
    have t1 : wr.cell? ⟨w.heap.size, 1, none⟩ = some (.int .i64 k) := (blk_cell ha0.out 1).trans rfl
    have t2 : wr.cell? ⟨w.heap.size, 2, none⟩ = some (.string ⟨#[]⟩) := (blk_cell ha0.out 2).trans rfl
    have p2 := blk_frozen ha0.out 2
    have r0 : wr.cell? ⟨w.heap.size + 1, 0, none⟩ = some (.int .i64 0) := (blk_cell ha1.out 0).trans rfl
    have r1 : wr.cell? ⟨w.heap.size + 1, 1, none⟩ = some (.int .i64 0) := (blk_cell ha1.out 1).trans rfl
    have r2 : wr.cell? ⟨w.heap.size + 1, 2, none⟩ = some (.string ⟨#[]⟩) := (blk_cell ha1.out 2).trans rfl
    have q0 := blk_frozen ha1.out 0
    have q1 := blk_frozen ha1.out 1
    have q2 := blk_frozen ha1.out 2
    by_cases hi38 : i < 38
    · obtain ⟨l, hl, hl1, hl6, hlA⟩ := sign_at hi38
      have hcons := sign_drop hl
      have hsz : (⟨l.toArray⟩ : ByteArray).size = l.length := by simp [ByteArray.size]
      have v0 : wr.cell? ⟨w.heap.size + 2, i, none⟩ = some (.string ⟨l.toArray⟩) := by
        rw [blk_cell ha2.out]
        simp [signV, hl]
      have hWl : (⟨l.toArray⟩ : ByteArray).toList = l := by rw [Lib.toList_data]
      obtain ⟨W, hW⟩ : ∃ W : ByteArray, (⟨l.toArray⟩ : ByteArray) = W := ⟨_, rfl⟩
      rw [hW] at v0 hsz hWl
      have hWs1 : 1 ≤ W.size := by omega
      have hWs : W.size ≤ 6 := by omega
      by_cases hfit : k + W.size ≤ s.size
      · obtain ⟨x, hx⟩ : ∃ x, s.extract k (k + W.size) = x := ⟨_, rfl⟩
        have hsl := slice_run s k (k + W.size) k ((k : Int) + W.size) rfl (by omega) (by omega) hfit
        rw [hx] at hsl
        have hxb : bs x = ((bs s).drop k).take l.length := by
          rw [← hx, ← hsz]
          exact (Lib.extract_data s k (k + W.size)).trans (by rw [Nat.add_sub_cancel_left])
        have hxs : x.size ≤ 6 := by rw [← hx]; simp; omega
        obtain ⟨y, hy⟩ : ∃ y : ByteArray, (⟨(Lib.toUpperD (bs x)).toArray⟩ : ByteArray) = y := ⟨_, rfl⟩
        have hcmp : (y.toList == W.toList) = signP ((bs s).drop k) l := by
          rw [hWl, ← hy, Lib.toList_data]
          show (Lib.toUpperD (bs x) == l) = _
          rw [upper_caps (bs x) l (by rw [bs_length, ← hx]; simp; omega) hlA, hxb]
          rfl
        have hup : ∀ wx, Ch g w wx → wx.cell? ⟨g, 0, none⟩ = some (.string s) → wx.cell? ⟨g, 1, none⟩ = some (.int .i64 k) → Calls Tryz.prog 80 #[.string x] wx fun e w' => e = .returned (.string y) ∧ Below wx.heap.size wx w' ∧ w'.cell? ⟨g, 0, none⟩ = some (.string s) ∧ w'.cell? ⟨g, 1, none⟩ = some (.int .i64 k) := fun wx hc k0 k1 => by
          refine (upper_calls wx x (by omega) (HT.out.ch hg hc)).mono fun e w' he => ⟨?_, he.2, ?_, ?_⟩
          · rw [he.1, hy]
          · exact (he.2.cell (World.block_lt_of_cell? wx _ k0)).trans k0
          · exact (he.2.cell (World.block_lt_of_cell? wx _ k1)).trans k1
        have HUP := Lib.hid hup
        have b1 : decide ((k : Int) + W.size ≤ s.size) = true := by simp; omega
        cases hp : signP ((bs s).drop k) l with
        | true =>
          rw [hp] at hcmp
          have hfl : some l = LexM.signM ((bs s).drop k) := by rw [← hfi.out, hcons, List.find?_cons, hp]
          have HW := Lib.hid hW
          have HSZ := Lib.hid hsz
          have HFL := Lib.hid hfl
          clear hl hcons hsz hWl hW hxb hup hfl hp hx hy
          obtain rfl : l = v := by
            have := HFL.out.trans HSG.out
            injection this
          go_wp2
          go_region_held3 (fun w' => w'.cell? ⟨g, 0, none⟩ = some (.string s) ∧ w'.cell? ⟨g, 1, none⟩ = some (.int .i64 k)) (go_keep) (first | (go_at_call 80; refine (HUP.out _ hch.out.drew c0 c1).mono ?_; rintro e w1 ⟨rfl, hb1, k0, k1⟩))
          have hst1 := hst.out.drew.below hb1
          have hch1 := hch.out.drew.belowN hb1
          have hb0' := (hb1.block _ (blk_lt ha0.out)).trans ha0.out
          have hb1' := (hb1.block _ (blk_lt ha1.out)).trans ha1.out
          have HS1 := Lib.hid hst1
          have HCH1 := Lib.hid hch1
          have d0 : w1.cell? ⟨w.heap.size, 0, none⟩ = some (.int .i64 4) := (blk_cell hb0' 0).trans rfl
          have d1 : w1.cell? ⟨w.heap.size, 1, none⟩ = some (.int .i64 k) := (blk_cell hb0' 1).trans rfl
          have d2 : w1.cell? ⟨w.heap.size, 2, none⟩ = some (.string ⟨#[]⟩) := (blk_cell hb0' 2).trans rfl
          have g2 := blk_frozen hb0' 2
          have e0 : w1.cell? ⟨w.heap.size + 1, 0, none⟩ = some (.int .i64 0) := (blk_cell hb1' 0).trans rfl
          have e1 : w1.cell? ⟨w.heap.size + 1, 1, none⟩ = some (.int .i64 0) := (blk_cell hb1' 1).trans rfl
          have e2 : w1.cell? ⟨w.heap.size + 1, 2, none⟩ = some (.string ⟨#[]⟩) := (blk_cell hb1' 2).trans rfl
          have m0 := blk_frozen hb1' 0
          have m1 := blk_frozen hb1' 1
          have m2 := blk_frozen hb1' 2
          have f1' := sc_frozen hst1 1
          clear hst1 hch1 hb0' hb1'
          go_wp2
          refine bodyPost_ret (v := .tuple #[.agg #[.int .i64 4, .int .i64 k, .string W], .bool true]) (by simp [results, Tryz.results84, go_sem, e0, e1, e2]) rfl ⟨by rw [HW.out], ?_, ?_⟩
          · have HS := HS1
            rw [← HSZ.out]
            refine ScSt.other (ScSt.other (ScSt.other (ScSt.setAtI (ScSt.other HS1.out ?_ _) ?_) ?_ _) ?_ _) ?_ _
            all_goals first | omega | (simp; done) | (simp; omega)
          · have HCH := HCH1
            (repeat (first | with_reducible exact Ch.refl _ _ | with_reducible exact HCH.out | with_reducible apply Ch.drewN | with_reducible apply Ch.drew | with_reducible apply Ch.alloc | with_reducible apply Ch.set | with_reducible refine Ch.setNew ?_ (by first | omega | (simp; done) | (simp; omega)) _))
        | false =>
          rw [hp] at hcmp
          have hfl : (LexM.signs.drop (i + 1)).find? (signP ((bs s).drop k)) = LexM.signM ((bs s).drop k) := by rw [← hfi.out, hcons, List.find?_cons, hp]
          have HFL := Lib.hid hfl
          clear hl hcons hsz hWl hW hxb hup hfl hp hx hy
          go_wp2
          go_region_held3 (fun w' => w'.cell? ⟨g, 0, none⟩ = some (.string s) ∧ w'.cell? ⟨g, 1, none⟩ = some (.int .i64 k)) (go_keep) (first | (go_at_call 80; refine (HUP.out _ hch.out.drew c0 c1).mono ?_; rintro e w1 ⟨rfl, hb1, k0, k1⟩))
          go_wp2
          go_roundg (38 - (i + 1))
          case measure => omega
          case rel => exact ⟨i + 1, by go_num, by omega, rfl, HFL.out, hst.out.drew.below hb1, hch.out.drew.belowN hb1, (hb1.block _ (blk_lt ha0.out)).trans ha0.out, (hb1.block _ (blk_lt ha1.out)).trans ha1.out, (hb1.block _ (blk_lt ha2.out)).trans ha2.out⟩
      · have b1 : decide ((k : Int) + W.size ≤ s.size) = false := by simp; omega
        have hp : signP ((bs s).drop k) l = false := by
          unfold signP
          rw [beq_eq_false_iff_ne]
          intro e
          have : (LexM.caps (((bs s).drop k).take l.length)).length = l.length := by rw [e]
          rw [LexM.caps_length, List.length_take, List.length_drop, bs_length] at this
          omega
        have hfl : (LexM.signs.drop (i + 1)).find? (signP ((bs s).drop k)) = LexM.signM ((bs s).drop k) := by rw [← hfi.out, hcons, List.find?_cons, hp]
        have HFL := Lib.hid hfl
        clear hl hcons hsz hWl hW hfl hp
        go_wp2
        go_quiet (fail)
        go_wp2
        go_roundg (38 - (i + 1))
        case measure => omega
        case rel => exact ⟨i + 1, by go_num, by omega, rfl, HFL.out, hst.out.drewN _, hch.out.drewN _, ha0.out, ha1.out, ha2.out⟩
    · obtain rfl : i = 38 := by omega
      have hnone : LexM.signM ((bs s).drop k) = none := by rw [← hfi.out]; rfl
      rw [HSG.out] at hnone
      cases hnone

set_option maxHeartbeats 2000000 in
set_option maxRecDepth 100000 in
theorem sign_no (w0 w : World) (g : Nat) (s : ByteArray) (k : Nat) (ln : Bool) (bad : Int) (h : ScSt w g s k ln bad) (hs : s.size ≤ 20000) (hk : k < s.size) (hT : Tabs w0 w) (hg : w0.heap.size ≤ g) (hsg : LexM.signM ((bs s).drop k) = none) :
    Calls Tryz.prog 84 #[.pointer (some ⟨g, 0, none⟩), .agg #[.int .i64 0, .int .i64 k, .string ⟨#[]⟩]] w fun e w' => e = .returned (.tuple #[.agg #[.int .i64 4, .int .i64 k, .string ⟨#[]⟩], .bool false]) ∧ ScSt w' g s k ln k ∧ Ch g w w' := by
  have HS := Lib.hid h
  have hz := blk_lt h
  have HT := Lib.hid hT
  have HSG := Lib.hid hsg
  obtain ⟨c0, c1, c258, c259, c260⟩ := sc_cells h
  clear h hT hsg
  go_enter Tryz.func84, Tryz.ntmps84
  go_wp2_with (go_at_call 98; refine (signs_calls _).mono ?_; rintro e w' ⟨rfl, rfl⟩)
  go_loopg [12] 38 (fun q u wr => ∃ i : Nat, u = .int .i64 i ∧ i ≤ 38 ∧ q = 38 - i ∧ Aside ((LexM.signs.drop i).find? (signP ((bs s).drop k)) = LexM.signM ((bs s).drop k)) ∧ Aside (ScSt wr g s k ln bad) ∧ Aside (Ch g w wr)
    ∧ Aside (wr.heap[w.heap.size]? = some (.cells #[.int .i64 4, .int .i64 k, .string ⟨#[]⟩] 49 (0, 0))) ∧ Aside (wr.heap[w.heap.size + 1]? = some (.cells #[.int .i64 0, .int .i64 0, .string ⟨#[]⟩] 49 (0, 0))) ∧ Aside (wr.heap[w.heap.size + 2]? = some (.cells signV.toArray 9 (0, 0))))
  case atStart =>
    refine ⟨0, rfl, by omega, by omega, rfl, ?_, ?_, ?_, ?_, ?_⟩
    · show ScSt _ _ _ _ _ _
      (repeat (first | with_reducible exact HS.out | with_reducible apply ScSt.drewN | with_reducible apply ScSt.drew | with_reducible apply ScSt.alloc | with_reducible apply ScSt.setLine | ((with_reducible apply ScSt.setAtI); (case e => first | omega | rfl)) | with_reducible apply ScSt.setBad | with_reducible refine ScSt.other ?_ (by first | omega | (simp; done) | (simp; omega)) _))
    · show Ch _ _ _
      (repeat (first | with_reducible exact Ch.refl _ _ | with_reducible exact HCH.out | with_reducible apply Ch.drewN | with_reducible apply Ch.drew | with_reducible apply Ch.alloc | with_reducible apply Ch.set | with_reducible refine Ch.setNew ?_ (by first | omega | (simp; done) | (simp; omega)) _))
    · exact blk_alloc (blk_alloc (blk_new w _ _) _) _
    · exact blk_alloc (new2 w _ _ _) _
    · exact new3 w _ _ _ _
  case round =>
    obtain ⟨i, rfl, hi, rfl, hfi, hst, hch, ha0, ha1, ha2⟩ := hrel
    clear c0 c1 c258 c259 c260
    obtain ⟨c0, c1, c258, c259, c260⟩ := sc_cells hst.out
    have f1 := sc_frozen hst.out 1
    have f260 := sc_frozen hst.out 260
    have t0 : wr.cell? ⟨w.heap.size, 0, none⟩ = some (.int .i64 4) := (blk_cell ha0.out 0).trans rfl
    have t1 : wr.cell? ⟨w.heap.size, 1, none⟩ = some (.int .i64 k) := (blk_cell ha0.out 1).trans rfl
    have t2 : wr.cell? ⟨w.heap.size, 2, none⟩ = some (.string ⟨#[]⟩) := (blk_cell ha0.out 2).trans rfl
    have p2 := blk_frozen ha0.out 2
    have r0 : wr.cell? ⟨w.heap.size + 1, 0, none⟩ = some (.int .i64 0) := (blk_cell ha1.out 0).trans rfl
    have r1 : wr.cell? ⟨w.heap.size + 1, 1, none⟩ = some (.int .i64 0) := (blk_cell ha1.out 1).trans rfl
    have r2 : wr.cell? ⟨w.heap.size + 1, 2, none⟩ = some (.string ⟨#[]⟩) := (blk_cell ha1.out 2).trans rfl
    have q0 := blk_frozen ha1.out 0
    have q1 := blk_frozen ha1.out 1
    have q2 := blk_frozen ha1.out 2
    by_cases hi38 : i < 38
    · obtain ⟨l, hl, hl1, hl6, hlA⟩ := sign_at hi38
      have hcons := sign_drop hl
      have hsz : (⟨l.toArray⟩ : ByteArray).size = l.length := by simp [ByteArray.size]
      have v0 : wr.cell? ⟨w.heap.size + 2, i, none⟩ = some (.string ⟨l.toArray⟩) := by
        rw [blk_cell ha2.out]
        simp [signV, hl]
      have hWl : (⟨l.toArray⟩ : ByteArray).toList = l := by rw [Lib.toList_data]
      obtain ⟨W, hW⟩ : ∃ W : ByteArray, (⟨l.toArray⟩ : ByteArray) = W := ⟨_, rfl⟩
      rw [hW] at v0 hsz hWl
      have hWs1 : 1 ≤ W.size := by omega
      have hWs : W.size ≤ 6 := by omega
      by_cases hfit : k + W.size ≤ s.size
      · obtain ⟨x, hx⟩ : ∃ x, s.extract k (k + W.size) = x := ⟨_, rfl⟩
        have hsl := slice_run s k (k + W.size) k ((k : Int) + W.size) rfl (by omega) (by omega) hfit
        rw [hx] at hsl
        have hxb : bs x = ((bs s).drop k).take l.length := by
          rw [← hx, ← hsz]
          exact (Lib.extract_data s k (k + W.size)).trans (by rw [Nat.add_sub_cancel_left])
        have hxs : x.size ≤ 6 := by rw [← hx]; simp; omega
        obtain ⟨y, hy⟩ : ∃ y : ByteArray, (⟨(Lib.toUpperD (bs x)).toArray⟩ : ByteArray) = y := ⟨_, rfl⟩
        have hcmp : (y.toList == W.toList) = signP ((bs s).drop k) l := by
          rw [hWl, ← hy, Lib.toList_data]
          show (Lib.toUpperD (bs x) == l) = _
          rw [upper_caps (bs x) l (by rw [bs_length, ← hx]; simp; omega) hlA, hxb]
          rfl
        have hup : ∀ wx, Ch g w wx → wx.cell? ⟨g, 0, none⟩ = some (.string s) → wx.cell? ⟨g, 1, none⟩ = some (.int .i64 k) → Calls Tryz.prog 80 #[.string x] wx fun e w' => e = .returned (.string y) ∧ Below wx.heap.size wx w' ∧ w'.cell? ⟨g, 0, none⟩ = some (.string s) ∧ w'.cell? ⟨g, 1, none⟩ = some (.int .i64 k) := fun wx hc k0 k1 => by
          refine (upper_calls wx x (by omega) (HT.out.ch hg hc)).mono fun e w' he => ⟨?_, he.2, ?_, ?_⟩
          · rw [he.1, hy]
          · exact (he.2.cell (World.block_lt_of_cell? wx _ k0)).trans k0
          · exact (he.2.cell (World.block_lt_of_cell? wx _ k1)).trans k1
        have HUP := Lib.hid hup
        have b1 : decide ((k : Int) + W.size ≤ s.size) = true := by simp; omega
        cases hp : signP ((bs s).drop k) l with
        | true =>
          rw [hp] at hcmp
          have hfl : some l = LexM.signM ((bs s).drop k) := by rw [← hfi.out, hcons, List.find?_cons, hp]
          have HW := Lib.hid hW
          have HSZ := Lib.hid hsz
          have HFL := Lib.hid hfl
          clear hl hcons hsz hWl hW hxb hup hfl hp hx hy
          have := HFL.out.trans HSG.out
          cases this
        | false =>
          rw [hp] at hcmp
          have hfl : (LexM.signs.drop (i + 1)).find? (signP ((bs s).drop k)) = LexM.signM ((bs s).drop k) := by rw [← hfi.out, hcons, List.find?_cons, hp]
          have HFL := Lib.hid hfl
          clear hl hcons hsz hWl hW hxb hup hfl hp hx hy
          go_wp2
          go_region_held3 (fun w' => w'.cell? ⟨g, 0, none⟩ = some (.string s) ∧ w'.cell? ⟨g, 1, none⟩ = some (.int .i64 k)) (go_keep) (first | (go_at_call 80; refine (HUP.out _ hch.out.drew c0 c1).mono ?_; rintro e w1 ⟨rfl, hb1, k0, k1⟩))
          go_wp2
          go_roundg (38 - (i + 1))
          case measure => omega
          case rel => exact ⟨i + 1, by go_num, by omega, rfl, HFL.out, hst.out.drew.below hb1, hch.out.drew.belowN hb1, (hb1.block _ (blk_lt ha0.out)).trans ha0.out, (hb1.block _ (blk_lt ha1.out)).trans ha1.out, (hb1.block _ (blk_lt ha2.out)).trans ha2.out⟩
      · have b1 : decide ((k : Int) + W.size ≤ s.size) = false := by simp; omega
        have hp : signP ((bs s).drop k) l = false := by
          unfold signP
          rw [beq_eq_false_iff_ne]
          intro e
          have : (LexM.caps (((bs s).drop k).take l.length)).length = l.length := by rw [e]
          rw [LexM.caps_length, List.length_take, List.length_drop, bs_length] at this
          omega
        have hfl : (LexM.signs.drop (i + 1)).find? (signP ((bs s).drop k)) = LexM.signM ((bs s).drop k) := by rw [← hfi.out, hcons, List.find?_cons, hp]
        have HFL := Lib.hid hfl
        clear hl hcons hsz hWl hW hfl hp
        go_wp2
        go_quiet (fail)
        go_wp2
        go_roundg (38 - (i + 1))
        case measure => omega
        case rel => exact ⟨i + 1, by go_num, by omega, rfl, HFL.out, hst.out.drewN _, hch.out.drewN _, ha0.out, ha1.out, ha2.out⟩
    · obtain rfl : i = 38 := by omega
      have hnone : LexM.signM ((bs s).drop k) = none := by rw [← hfi.out]; rfl
      clear hnone hi hi38
      go_wp2
      refine bodyPost_ret (v := .tuple #[.agg #[.int .i64 4, .int .i64 k, .string ⟨#[]⟩], .bool false]) (by simp [results, Tryz.results84, go_sem, r0, r1, r2]) rfl ⟨rfl, ?_, ?_⟩
      · have HS := hst
        (repeat (first | with_reducible exact HS.out | with_reducible apply ScSt.drewN | with_reducible apply ScSt.drew | with_reducible apply ScSt.alloc | with_reducible apply ScSt.setLine | ((with_reducible apply ScSt.setAtI); (case e => first | omega | rfl)) | with_reducible apply ScSt.setBad | with_reducible refine ScSt.other ?_ (by first | omega | (simp; done) | (simp; omega)) _))
      · have HCH := hch
        (repeat (first | with_reducible exact Ch.refl _ _ | with_reducible exact HCH.out | with_reducible apply Ch.drewN | with_reducible apply Ch.drew | with_reducible apply Ch.alloc | with_reducible apply Ch.set | with_reducible refine Ch.setNew ?_ (by first | omega | (simp; done) | (simp; omega)) _))

end Go.Proofs.YtpnfcgmogjpliaaGreatDoor
