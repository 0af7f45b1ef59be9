/- The scanner's methods: short, end, continues. Each contract holds of every source of at most 20,000 bytes. -/
import Derived.Test.YtpnfcgmogjpliaaGreatDoorSc1
namespace Go.Proofs.YtpnfcgmogjpliaaGreatDoor
open Go.RowKit

/-- The place that is wrong behind a look that answered r. -/
def orBad (r : Bool) (bad k : Int) : Int := if r then bad else k
/-- A token as a value. -/
def tkV (kind k : Int) (x : ByteArray) : Value := .agg #[.int .i64 kind, .int .i64 k, .string x]

set_option maxRecDepth 100000 in
theorem short_calls (w : World) (g : Nat) (s : ByteArray) (k : Nat) (ln : Bool) (bad : Int) (kind at_ most : Int) (x : ByteArray) (r : Bool) (h : ScSt w g s k ln bad) (hr : decide ((x.size : Int) ≤ most) = r) :
    Calls Tryz.prog 81 #[.pointer (some ⟨g, 0, none⟩), .agg #[.int .i64 kind, .int .i64 at_, .string x], .int .i64 most] w fun e w' => e = .returned (.bool r) ∧ ScSt w' g s k ln (orBad r bad at_) ∧ Ch g w w' := by
  have HS := Lib.hid h
  have c260 := (sc_cells (h.alloc (.cells #[.int .i64 kind, .int .i64 at_, .string x] 49))).2.2.2.2
  have f260 := sc_frozen (h.alloc (.cells #[.int .i64 kind, .int .i64 at_, .string x] 49)) 260
  cases r with
  | true =>
    have h1 : decide (most < (x.size : Int)) = false := by simp at hr ⊢; omega
    clear h hr
    go_enter Tryz.func81, Tryz.ntmps81
    go_wp2
    go_ret
    exact ⟨rfl, HS.out.alloc _, (Ch.refl g w).alloc _⟩
  | false =>
    have h1 : decide (most < (x.size : Int)) = true := by simp at hr ⊢; omega
    clear h hr
    go_enter Tryz.func81, Tryz.ntmps81
    go_wp2
    go_ret
    exact ⟨rfl, (HS.out.alloc _).setBad _, ((Ch.refl g w).alloc _).set _ _⟩

set_option maxRecDepth 100000 in
theorem end_calls (w : World) (g : Nat) (s : ByteArray) (k : Nat) (ln : Bool) (bad : Int) (h : ScSt w g s k ln bad) (hs : s.size ≤ 20000) (hk : k ≤ s.size) :
    Calls Tryz.prog 58 #[.pointer (some ⟨g, 0, none⟩)] w fun e w' => e = .returned (.tuple #[if ln then tkV 5 k ⟨#[]⟩ else tkV 0 0 ⟨#[]⟩, .bool (ln || decide (k = s.size))]) ∧ ScSt w' g s (if k = s.size then k else k + 1) false bad ∧ Ch g w w' := by
  have HS := Lib.hid h
  obtain ⟨c0, c1, c258, c259, c260⟩ := sc_cells h
  have hz := blk_lt h
  have f1 := sc_frozen h 1
  have f258 := sc_frozen h 258
  have f259 := sc_frozen h 259
  clear h
  cases ln with
  | true =>
    by_cases hl : k = s.size
    · have h1 : ((k : Int) == (s.size : Int)) = true := by rw [beq_iff_eq]; omega
      rw [if_pos hl]
      have Hl := Lib.hid hl
      clear hl
      go_enter Tryz.func58, Tryz.ntmps58
      go_wp2
      go_quiet (fail)
      go_wp2
      refine bodyPost_ret (v := .tuple #[.agg #[.int .i64 5, .int .i64 k, .string ⟨#[]⟩], .bool true]) (by simp [results, Tryz.results58, go_sem]) rfl ⟨rfl, ?_, ?_⟩
      · (repeat (first | with_reducible exact HS.out | with_reducible apply ScSt.drewN | with_reducible apply ScSt.drew | with_reducible apply ScSt.alloc | with_reducible apply ScSt.setLine | ((with_reducible apply ScSt.setAtI); (case e => first | omega | rfl)) | with_reducible apply ScSt.setBad | with_reducible refine ScSt.other ?_ (by first | omega | (simp; done) | (simp; omega)) _))
      · (repeat (first | with_reducible exact Ch.refl _ _ | with_reducible exact HCH.out | with_reducible apply Ch.drewN | with_reducible apply Ch.drew | with_reducible apply Ch.alloc | with_reducible apply Ch.set | with_reducible refine Ch.setNew ?_ (by first | omega | (simp; done) | (simp; omega)) _))
    · have h1 : ((k : Int) == (s.size : Int)) = false := by rw [beq_eq_false_iff_ne]; omega
      rw [if_neg hl]
      have hlt : k < s.size := by omega
      have Hl := Lib.hid hl
      clear hl
      go_enter Tryz.func58, Tryz.ntmps58
      go_wp2
      go_quiet (fail)
      go_wp2
      refine bodyPost_ret (v := .tuple #[.agg #[.int .i64 5, .int .i64 k, .string ⟨#[]⟩], .bool true]) (by simp [results, Tryz.results58, go_sem]) rfl ⟨rfl, ?_, ?_⟩
      · (repeat (first | with_reducible exact HS.out | with_reducible apply ScSt.drewN | with_reducible apply ScSt.drew | with_reducible apply ScSt.alloc | with_reducible apply ScSt.setLine | ((with_reducible apply ScSt.setAtI); (case e => first | omega | rfl)) | with_reducible apply ScSt.setBad | with_reducible refine ScSt.other ?_ (by first | omega | (simp; done) | (simp; omega)) _))
      · (repeat (first | with_reducible exact Ch.refl _ _ | with_reducible exact HCH.out | with_reducible apply Ch.drewN | with_reducible apply Ch.drew | with_reducible apply Ch.alloc | with_reducible apply Ch.set | with_reducible refine Ch.setNew ?_ (by first | omega | (simp; done) | (simp; omega)) _))
  | false =>
    by_cases hl : k = s.size
    · have h1 : ((k : Int) == (s.size : Int)) = true := by rw [beq_iff_eq]; omega
      rw [if_pos hl]
      have Hl := Lib.hid hl
      clear hl
      go_enter Tryz.func58, Tryz.ntmps58
      go_wp2
      go_quiet (fail)
      go_wp2
      refine bodyPost_ret (v := .tuple #[.agg #[.int .i64 0, .int .i64 0, .string ⟨#[]⟩], .bool true]) (by simp [results, Tryz.results58, go_sem]) rfl ⟨by simp [tkV, Hl.out], ?_, ?_⟩
      · (repeat (first | with_reducible exact HS.out | with_reducible apply ScSt.drewN | with_reducible apply ScSt.drew | with_reducible apply ScSt.alloc | with_reducible apply ScSt.setLine | ((with_reducible apply ScSt.setAtI); (case e => first | omega | rfl)) | with_reducible apply ScSt.setBad | with_reducible refine ScSt.other ?_ (by first | omega | (simp; done) | (simp; omega)) _))
      · (repeat (first | with_reducible exact Ch.refl _ _ | with_reducible exact HCH.out | with_reducible apply Ch.drewN | with_reducible apply Ch.drew | with_reducible apply Ch.alloc | with_reducible apply Ch.set | with_reducible refine Ch.setNew ?_ (by first | omega | (simp; done) | (simp; omega)) _))
    · have h1 : ((k : Int) == (s.size : Int)) = false := by rw [beq_eq_false_iff_ne]; omega
      rw [if_neg hl]
      have hlt : k < s.size := by omega
      have Hl := Lib.hid hl
      clear hl
      go_enter Tryz.func58, Tryz.ntmps58
      go_wp2
      go_quiet (fail)
      go_wp2
      refine bodyPost_ret (v := .tuple #[.agg #[.int .i64 0, .int .i64 0, .string ⟨#[]⟩], .bool false]) (by simp [results, Tryz.results58, go_sem]) rfl ⟨by simp [tkV, Hl.out], ?_, ?_⟩
      · (repeat (first | with_reducible exact HS.out | with_reducible apply ScSt.drewN | with_reducible apply ScSt.drew | with_reducible apply ScSt.alloc | with_reducible apply ScSt.setLine | ((with_reducible apply ScSt.setAtI); (case e => first | omega | rfl)) | with_reducible apply ScSt.setBad | with_reducible refine ScSt.other ?_ (by first | omega | (simp; done) | (simp; omega)) _))
      · (repeat (first | with_reducible exact Ch.refl _ _ | with_reducible exact HCH.out | with_reducible apply Ch.drewN | with_reducible apply Ch.drew | with_reducible apply Ch.alloc | with_reducible apply Ch.set | with_reducible refine Ch.setNew ?_ (by first | omega | (simp; done) | (simp; omega)) _))

end Go.Proofs.YtpnfcgmogjpliaaGreatDoor
