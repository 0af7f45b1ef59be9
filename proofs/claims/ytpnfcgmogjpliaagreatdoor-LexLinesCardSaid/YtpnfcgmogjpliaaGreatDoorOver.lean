/- The law's over, of which nothing is said but that it answers; and the document's Same. -/
import Derived.Test.YtpnfcgmogjpliaaGreatDoorTok
import Derived.Test.YtpnfcgmogjpliaaGreatDoorSc14
namespace Go.Proofs.YtpnfcgmogjpliaaGreatDoor
open Go.RowKit
attribute [local go_sem ↓] Go.wp_at_zero Go.wp_at_succ

/-- What over counts. -/
def ovStep (z : Int) (t : Tv) : Int := wrap64 (z + (t.text.size : Int))
def ovSum (l : List Tv) : Int := l.foldl ovStep (l.length : Int)

set_option maxRecDepth 100000 in
theorem over_calls (w : World) (A : Option Addr) (l : List Tv) (n ca : Nat) (ha : TokS w A l) (hn : l.length = n) (hl : n ≤ 9223372036854775807) (r : Bool) (hr : decide (20000 < ovSum l) = r) :
    Calls Tryz.prog 12 #[.slice A n ca] w fun e w' => e = .returned (.bool r) ∧ w = w' := by
  have HA := Lib.hid ha
  have HN := Lib.hid hn
  obtain ⟨Z, hZ⟩ : ∃ Z, ovSum l = Z := ⟨_, rfl⟩
  rw [hZ] at hr
  unfold ovSum at hZ
  rw [hn] at hZ
  have HZ := Lib.hid hZ
  have HR := Lib.hid hr
  clear ha hn hZ hr
  go_enter Tryz.func12, Tryz.ntmps12
  go_wp2
  go_loopg [3, 4] n (fun q u3 u4 wr => ∃ (i : Nat) (z : Int), u3 = .int .i64 z ∧ u4 = .int .i64 i ∧ i ≤ n ∧ q = n - i ∧ Aside ((l.drop i).foldl ovStep z = Z) ∧ w = wr)
  case atStart => exact ⟨0, _, rfl, rfl, by omega, by omega, HZ.out, rfl⟩
  case round =>
    obtain ⟨i, z, rfl, rfl, hi, rfl, hz, rfl⟩ := hrel
    by_cases hlt : i < n
    · have hltz : decide ((i : Int) < (n : Int)) = true := by simp; omega
      have hltz2 : (i : Int) < (n : Int) := by omega
      obtain ⟨b, off, rfl, hbl, hT⟩ := HA.out (by have := HN.out; omega)
      obtain ⟨x, hx⟩ : ∃ x, l[i]? = some x := ⟨_, List.getElem?_eq_getElem (by have := HN.out; omega)⟩
      obtain ⟨c0, c1, c2⟩ := hT i x hx
      have hz2 : (l.drop (i + 1)).foldl ovStep (ovStep z x) = Z := by
        obtain ⟨h1, e1⟩ := List.getElem?_eq_some_iff.1 hx
        rw [← hz.out, List.drop_eq_getElem_cons h1, e1]
        rfl
      have HZ2 := Lib.hid hz2
      clear hT hx hz2
      go_wp2
      go_roundg (n - (i + 1))
      case measure => omega
      case rel => exact ⟨i + 1, _, rfl, by go_num, by omega, rfl, HZ2.out, rfl⟩
    · obtain rfl : i = n := by omega
      have hzZ : z = Z := by
        rw [← hz.out, List.drop_of_length_le (by have := HN.out; omega)]
        rfl
      subst hzZ
      go_wp2
      go_ret
      exact ⟨by rw [← HR.out]; rfl, rfl⟩

set_option maxHeartbeats 1000000 in
set_option maxRecDepth 100000 in
theorem rsame_yes (w : World) (A B : Option Addr) (l r : List Tv) (n ca cb : Nat) (ha : TokS w A l) (hb : TokS w B r) (hn : l.length = n) (hm : r.length = n) (hl : n ≤ 9223372036854775807) (S : Bool) (hS : sameTv l r = S) :
    Calls Tryz.prog 27 #[.slice A n ca, .slice B n cb] w fun e w' => e = .returned (.bool S) ∧ ∃ q, w' = w.drewN q := by
  have HA := Lib.hid ha
  have HB := Lib.hid hb
  have HS := Lib.hid hS
  have HN := Lib.hid hn
  have HM := Lib.hid hm
  clear ha hb hS hn hm
  go_enter Tryz.func27, Tryz.ntmps27
  go_wp2
  go_loopg [5] n (fun q u wr => ∃ i : Nat, u = .int .i64 i ∧ i ≤ n ∧ q = n - i ∧ Aside (sameTv (l.drop i) (r.drop i) = S) ∧ ∃ k, wr = w.drewN k)
  case atStart => exact ⟨0, rfl, by omega, by omega, HS.out, 0, rfl⟩
  case round =>
    obtain ⟨i, rfl, hi, rfl, hsi, k, rfl⟩ := hrel
    by_cases hlt : i < n
    · have hltz : decide ((i : Int) < (n : Int)) = true := by simp; omega
      have hltz2 : (i : Int) < (n : Int) := by omega
      have hi0 : (0 : Int) ≤ (i : Int) := by omega
      obtain ⟨b, off, rfl, hbl, hT⟩ := HA.out (by have := HN.out; omega)
      obtain ⟨b2, off2, rfl, hbl2, hT2⟩ := HB.out (by have := HM.out; omega)
      obtain ⟨x, hx⟩ : ∃ x, l[i]? = some x := ⟨_, List.getElem?_eq_getElem (by have := HN.out; omega)⟩
      obtain ⟨y, hy⟩ : ∃ y, r[i]? = some y := ⟨_, List.getElem?_eq_getElem (by have := HM.out; omega)⟩
      obtain ⟨c0, c1, c2⟩ := hT i x hx
      obtain ⟨d0, d1, d2⟩ := hT2 i y hy
      have hst := sameTv_step hx hy
      unfold tvSame at hst
      cases q1 : (x.kind == y.kind) with
      | false =>
        have p1 : (x.kind != y.kind) = true := by simp [bne, q1]
        have hs' : false = S := by rw [← hsi.out, hst, q1, Bool.false_and, Bool.false_and]
        have HS' := Lib.hid hs'
        clear hst hs' hx hy hT hT2 q1
        go_wp2
        go_quiet (fail)
        go_wp2
        go_ret
        exact ⟨by (rw [← HS'.out]; rfl), _, World.drewN_drewN _ _ _⟩
      | true =>
        have p1 : (x.kind != y.kind) = false := by simp [bne, q1]
        cases q2 : (x.text.toList == y.text.toList) with
        | false =>
          have p2 : (x.text.toList != y.text.toList) = true := by simp [bne, q2]
          have hs' : false = S := by rw [← hsi.out, hst, q1, q2, Bool.true_and, Bool.false_and]
          have HS' := Lib.hid hs'
          clear hst hs' hx hy hT hT2 q1
          go_wp2
          go_quiet (fail)
          go_wp2
          go_ret
          exact ⟨by (rw [← HS'.out]; rfl), _, World.drewN_drewN _ _ _⟩
        | true =>
          have p2 : (x.text.toList != y.text.toList) = false := by simp [bne, q2]
          have hs' : sameTv (l.drop (i + 1)) (r.drop (i + 1)) = S := by rw [← hsi.out, hst, q1, q2, Bool.true_and, Bool.true_and]
          have HS' := Lib.hid hs'
          clear hst hs' hx hy hT hT2 q1
          go_wp2
          go_quiet (fail)
          go_wp2
          go_roundg (n - (i + 1))
          case measure => omega
          case rel => exact ⟨i + 1, by go_num, by omega, rfl, HS'.out, _, rfl⟩
    · obtain rfl : i = n := by omega
      have hs' : true = S := by
        rw [← hsi.out, List.drop_of_length_le (by have := HN.out; omega), List.drop_of_length_le (by have := HM.out; omega)]
        rfl
      have HS' := Lib.hid hs'
      clear hs'
      go_wp2
      go_ret
      exact ⟨by (rw [← HS'.out]; rfl), _, rfl⟩

set_option maxRecDepth 100000 in
theorem rsame_no (w : World) (A B : Option Addr) (n m ca cb : Nat) (h : n ≠ m) :
    Calls Tryz.prog 27 #[.slice A n ca, .slice B m cb] w fun e w' => e = .returned (.bool false) ∧ ∃ q, w' = w.drewN q := by
  have hne : ((n : Int) != (m : Int)) = true := by simp [bne]; omega
  clear h
  go_enter Tryz.func27, Tryz.ntmps27
  go_wp2
  go_ret
  exact ⟨rfl, 0, rfl⟩

theorem rsame_calls (w : World) (A B : Option Addr) (l r : List Tv) (n m ca cb : Nat) (ha : TokS w A l) (hb : TokS w B r) (hn : l.length = n) (hm : r.length = m) (hl : n ≤ 9223372036854775807) (S : Bool) (hS : sameTv l r = S) :
    Calls Tryz.prog 27 #[.slice A n ca, .slice B m cb] w fun e w' => e = .returned (.bool S) ∧ ∃ q, w' = w.drewN q := by
  by_cases h : n = m
  · subst h
    exact rsame_yes w A B l r n ca cb ha hb hn hm hl S hS
  · rw [sameTv_len (by omega)] at hS
    subst hS
    exact rsame_no w A B n m ca cb h

end Go.Proofs.YtpnfcgmogjpliaaGreatDoor
