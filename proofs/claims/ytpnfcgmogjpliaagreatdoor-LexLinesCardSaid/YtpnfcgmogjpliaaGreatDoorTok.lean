/- Slices of tokens, and which tokens are the same: the program's Same. No condition but that the slices hold tokens. -/
import Derived.Test.YtpnfcgmogjpliaaGreatDoorSc0
import Derived.Test.YtpnfcgmogjpliaaGreatDoorBack
import Derived.Deep.DrawnRows
namespace Go.Proofs.YtpnfcgmogjpliaaGreatDoor
open Go.RowKit
attribute [local go_sem ↓] Go.wp_at_zero Go.wp_at_succ

/-- A token as a value. -/
structure Tv where
  kind : Int
  pos : Int
  text : ByteArray
def Tv.kt (t : Tv) : LexM.Kt := (t.kind, bs t.text)
def tvV (t : Tv) : Value := .agg #[.int .i64 t.kind, .int .i64 t.pos, .string t.text]
def tvSame (x y : Tv) : Bool := (x.kind == y.kind) && (x.text.toList == y.text.toList)
def sameTv : List Tv → List Tv → Bool
  | [], [] => true
  | x :: l, y :: r => tvSame x y && sameTv l r
  | _, _ => false
/-- From an address on lie tokens. -/
def Toks (w : World) (b off : Nat) (l : List Tv) : Prop :=
  ∀ j t, l[j]? = some t → w.cell? ⟨b, off + j * 3, none⟩ = some (.int .i64 t.kind) ∧ w.cell? ⟨b, off + j * 3 + 1, none⟩ = some (.int .i64 t.pos) ∧ w.cell? ⟨b, off + j * 3 + 2, none⟩ = some (.string t.text)
/-- A slice of tokens. -/
def TokS (w : World) (A : Option Addr) (l : List Tv) : Prop := 0 < l.length → ∃ b off, A = some ⟨b, off, none⟩ ∧ b < w.heap.size ∧ Toks w b off l
theorem Toks.below {w w' : World} {b off : Nat} {l : List Tv} (h : Toks w b off l) (hb : Below w.heap.size w w') (hlt : b < w.heap.size) : Toks w' b off l := fun j t hj => by
  obtain ⟨h0, h1, h2⟩ := h j t hj
  exact ⟨(hb.cell (p := ⟨b, off + j * 3, none⟩) hlt).trans h0, (hb.cell (p := ⟨b, off + j * 3 + 1, none⟩) hlt).trans h1, (hb.cell (p := ⟨b, off + j * 3 + 2, none⟩) hlt).trans h2⟩
theorem TokS.below {w w' : World} {A : Option Addr} {l : List Tv} (h : TokS w A l) (hb : Below w.heap.size w w') : TokS w' A l := fun h0 => by
  obtain ⟨b, off, e, hlt, ht⟩ := h h0
  exact ⟨b, off, e, Nat.lt_of_lt_of_le hlt hb.size, ht.below hb hlt⟩
theorem TokS.nil (w : World) (A : Option Addr) : TokS w A [] := fun h => absurd h (by simp)

theorem tvSame_iff (x y : Tv) : tvSame x y = true ↔ x.kt = y.kt := by
  unfold tvSame Tv.kt
  rw [Bool.and_eq_true, beq_iff_eq, beq_iff_eq, Lib.toList_data, Lib.toList_data, Prod.mk.injEq]
theorem sameTv_iff : ∀ (l r : List Tv), sameTv l r = true ↔ l.map Tv.kt = r.map Tv.kt
  | [], [] => by simp [sameTv]
  | [], y :: r => by simp [sameTv]
  | x :: l, [] => by simp [sameTv]
  | x :: l, y :: r => by
    simp only [sameTv, Bool.and_eq_true, tvSame_iff, sameTv_iff l r, List.map_cons, List.cons.injEq]
theorem sameTv_eq (l r : List Tv) : sameTv l r = decide (l.map Tv.kt = r.map Tv.kt) := by
  rw [Bool.eq_iff_iff, sameTv_iff, decide_eq_true_iff]
theorem sameTv_len {l r : List Tv} (h : l.length ≠ r.length) : sameTv l r = false := by
  rw [← Bool.not_eq_true, sameTv_iff]
  intro e
  have := congrArg List.length e
  simp at this
  exact h this
theorem sameTv_step {l r : List Tv} {k : Nat} {x y : Tv} (hx : l[k]? = some x) (hy : r[k]? = some y) : sameTv (l.drop k) (r.drop k) = (tvSame x y && sameTv (l.drop (k + 1)) (r.drop (k + 1))) := by
  obtain ⟨h1, e1⟩ := List.getElem?_eq_some_iff.1 hx
  obtain ⟨h2, e2⟩ := List.getElem?_eq_some_iff.1 hy
  rw [List.drop_eq_getElem_cons h1, List.drop_eq_getElem_cons h2, e1, e2]
  rfl

set_option maxRecDepth 100000 in
theorem same1_calls (w : World) (x y : Tv) (r : Bool) (hr : tvSame x y = r) : Calls Tryz.prog 51 #[tvV x, tvV y] w fun e w' => e = .returned (.bool r) ∧ Below w.heap.size w w' := by
  obtain ⟨k, p, t⟩ := x
  obtain ⟨k2, p2, t2⟩ := y
  unfold tvSame at hr
  unfold tvV
  simp only at hr ⊢
  cases q : (k == k2) with
  | true =>
    rw [q, Bool.true_and] at hr
    go_enter Tryz.func51, Tryz.ntmps51
    go_wp2
    go_ret
    exact ⟨rfl, ((Below.refl _ _).alloc (Nat.le_refl _) _).alloc (by simp) _⟩
  | false =>
    rw [q, Bool.false_and] at hr
    subst hr
    go_enter Tryz.func51, Tryz.ntmps51
    go_wp2
    go_ret
    exact ⟨rfl, ((Below.refl _ _).alloc (Nat.le_refl _) _).alloc (by simp) _⟩

set_option maxHeartbeats 2000000 in
set_option maxRecDepth 100000 in
theorem equalFunc_yes (w : World) (A B : Option Addr) (l r : List Tv) (n ca cb : Nat) (ha : TokS w A l) (hb : TokS w B r) (hn : l.length = n) (hm : r.length = n) (hl : n ≤ 9223372036854775807) (S : Bool) (hS : sameTv l r = S) :
    Calls Tryz.prog 50 #[.slice A n ca, .slice B n cb, .func (.func 51) #[] #[]] w fun e w' => e = .returned (.bool S) ∧ Below w.heap.size w w' := by
  have HA := Lib.hid ha
  have HB := Lib.hid hb
  have HS := Lib.hid hS
  have HN := Lib.hid hn
  have HM := Lib.hid hm
  clear ha hb hS hn hm
  go_enter Tryz.func50, Tryz.ntmps50
  go_wp2
  go_loopg [17] n (fun q u wr => ∃ i : Nat, u = .int .i64 i ∧ i ≤ n ∧ q = n - i ∧ Aside (sameTv (l.drop i) (r.drop i) = S) ∧ Aside (Below w.heap.size w wr))
  case atStart => exact ⟨0, rfl, by omega, by omega, HS.out, Below.refl _ w⟩
  case round =>
    obtain ⟨i, rfl, hi, rfl, hsi, hB⟩ := hrel
    by_cases hlt : i < n
    · have hltz : decide ((i : Int) < (n : Int)) = true := by simp; omega
      have hltz2 : (i : Int) < (n : Int) := by omega
      obtain ⟨b, off, rfl, hbl, hT⟩ := HA.out (by have := HN.out; omega)
      obtain ⟨b2, off2, rfl, hbl2, hT2⟩ := HB.out (by have := HM.out; omega)
      obtain ⟨x, hx⟩ : ∃ x, l[i]? = some x := ⟨_, List.getElem?_eq_getElem (by have := HN.out; omega)⟩
      obtain ⟨y, hy⟩ : ∃ y, r[i]? = some y := ⟨_, List.getElem?_eq_getElem (by have := HM.out; omega)⟩
      obtain ⟨c0, c1, c2⟩ := hT.below hB.out hbl i x hx
      obtain ⟨d0, d1, d2⟩ := hT2.below hB.out hbl2 i y hy
      have hst := sameTv_step hx hy
      have hsz := hB.out.size
      have hcall := fun wx R hR => same1_calls wx x y R hR
      unfold tvV at hcall
      have f0 := fun o => (World.cell?_alloc_lt wr o ⟨b2, off2 + i * 3, none⟩ (by show b2 < _; omega)).trans d0
      have f1 := fun o => (World.cell?_alloc_lt wr o ⟨b2, off2 + i * 3 + 1, none⟩ (by show b2 < _; omega)).trans d1
      have f2 := fun o => (World.cell?_alloc_lt wr o ⟨b2, off2 + i * 3 + 2, none⟩ (by show b2 < _; omega)).trans d2
      cases hq : tvSame x y with
      | true =>
        have hc2 := fun wx => hcall wx true hq
        have HC := Lib.hid hc2
        have hs' : sameTv (l.drop (i + 1)) (r.drop (i + 1)) = S := by
          rw [← hsi.out, hst, hq, Bool.true_and]
        have HS' := Lib.hid hs'
        clear hst hcall hc2 hs' hq hx hy hT hT2
        go_wp2_with fail
        refine (HC.out _).mono ?_
        rintro e w1 ⟨rfl, hb1⟩
        have HB1 := Lib.hid hb1
        clear hb1
        go_wp2_with fail
        go_roundg (n - (i + 1))
        case measure => omega
        case rel => exact ⟨i + 1, by go_num, by omega, rfl, HS'.out, (((hB.out.alloc hsz _).alloc (by simp; omega) _).trans (HB1.out.mono (by simp; omega)))⟩
      | false =>
        have hc2 := fun wx => hcall wx false hq
        have HC := Lib.hid hc2
        have hs' : false = S := by
          rw [← hsi.out, hst, hq, Bool.false_and]
        have HS' := Lib.hid hs'
        clear hst hcall hc2 hs' hq hx hy hT hT2
        go_wp2_with fail
        refine (HC.out _).mono ?_
        rintro e w1 ⟨rfl, hb1⟩
        have HB1 := Lib.hid hb1
        clear hb1
        go_wp2_with fail
        go_ret
        exact ⟨by (rw [← HS'.out]; rfl), (((hB.out.alloc hsz _).alloc (by simp; omega) _).trans (HB1.out.mono (by simp; omega)))⟩
    · obtain rfl : i = n := by omega
      have hs' : true = S := by
        rw [← hsi.out, List.drop_of_length_le (by have := HN.out; omega), List.drop_of_length_le (by have := HM.out; omega)]
        rfl
      have HS' := Lib.hid hs'
      clear hs'
      go_wp2
      go_ret
      exact ⟨by (rw [← HS'.out]; rfl), hB.out⟩

set_option maxRecDepth 100000 in
theorem equalFunc_no (w : World) (A B : Option Addr) (n m ca cb : Nat) (h : n ≠ m) :
    Calls Tryz.prog 50 #[.slice A n ca, .slice B m cb, .func (.func 51) #[] #[]] w fun e w' => e = .returned (.bool false) ∧ Below w.heap.size w w' := by
  have hne : ((n : Int) != (m : Int)) = true := by simp [bne]; omega
  clear h
  go_enter Tryz.func50, Tryz.ntmps50
  go_wp2
  go_ret
  exact ⟨rfl, Below.refl _ _⟩

theorem equalFunc_calls (w : World) (A B : Option Addr) (l r : List Tv) (n m ca cb : Nat) (ha : TokS w A l) (hb : TokS w B r) (hn : l.length = n) (hm : r.length = m) (hl : n ≤ 9223372036854775807) (S : Bool) (hS : sameTv l r = S) :
    Calls Tryz.prog 50 #[.slice A n ca, .slice B m cb, .func (.func 51) #[] #[]] w fun e w' => e = .returned (.bool S) ∧ Below w.heap.size w w' := by
  by_cases h : n = m
  · subst h
    exact equalFunc_yes w A B l r n ca cb ha hb hn hm hl S hS
  · rw [sameTv_len (by omega)] at hS
    subst hS
    exact equalFunc_no w A B n m ca cb h

set_option maxRecDepth 100000 in
theorem same_calls (w : World) (A B : Option Addr) (l r : List Tv) (n m ca cb : Nat) (ha : TokS w A l) (hb : TokS w B r) (hn : l.length = n) (hm : r.length = m) (hl : n ≤ 9223372036854775807) (S : Bool) (hS : sameTv l r = S) :
    Calls Tryz.prog 29 #[.slice A n ca, .slice B m cb] w fun e w' => e = .returned (.bool S) ∧ Below w.heap.size w w' := by
  have H := Lib.hid (equalFunc_calls w A B l r n m ca cb ha hb hn hm hl S hS)
  clear ha hb hS hn hm hl
  go_enter Tryz.func29, Tryz.ntmps29
  go_wp2_with (go_at_call 50; refine H.out.mono ?_; rintro e w1 ⟨rfl, hb1⟩; have HB1 := Lib.hid hb1; clear hb1)
  go_ret
  exact ⟨rfl, HB1.out⟩

end Go.Proofs.YtpnfcgmogjpliaaGreatDoor
