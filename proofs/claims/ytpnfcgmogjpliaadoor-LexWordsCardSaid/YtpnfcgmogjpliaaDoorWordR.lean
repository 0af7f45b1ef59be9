/- The document's Full and the program's Full answer one thing; the names. -/
import Derived.Test.YtpnfcgmogjpliaaDoorWord
namespace Go.Proofs.YtpnfcgmogjpliaaDoor
open Go.RowKit
attribute [local go_sem ↓] Go.wp_at_zero Go.wp_at_succ

theorem first_find (p : ByteArray → Bool) : ∀ l : List ByteArray, (firstI p l = -1 ∧ l.find? p = none) ∨ ∃ (k : Nat) (x : ByteArray), firstI p l = k ∧ l[k]? = some x ∧ l.find? p = some x
  | [] => .inl ⟨rfl, rfl⟩
  | y :: l => by
    cases hy : p y with
    | true =>
      refine .inr ⟨0, y, ?_, rfl, by simp [hy]⟩
      unfold firstI
      simp [List.findIdx?_cons, hy]
    | false =>
      rcases first_find p l with ⟨h1, h2⟩ | ⟨k, x, h1, h2, h3⟩
      · refine .inl ⟨?_, by simp [hy, h2]⟩
        unfold firstI at h1 ⊢
        rw [List.findIdx?_cons, hy]
        cases hf : l.findIdx? p with
        | none => rfl
        | some k => rw [hf] at h1; simp at h1
      · refine .inr ⟨k + 1, x, ?_, by simpa using h2, by simp [hy, h3]⟩
        unfold firstI at h1 ⊢
        rw [List.findIdx?_cons, hy]
        cases hf : l.findIdx? p with
        | none => rw [hf] at h1; simp at h1
        | some j => rw [hf] at h1; simp at h1 ⊢; omega

def inS (W : ByteArray) (l : List ByteArray) : Bool := decide (0 ≤ firstI (eqS W) l)
/-- What Full answers. -/
def fullR (W : ByteArray) (l : List ByteArray) : ByteArray × Bool := if inS W l then (W, true) else match l.find? (pW W) with | some x => (x, true) | none => (⟨#[]⟩, false)

set_option maxHeartbeats 1000000 in
set_option maxRecDepth 100000 in
theorem full_calls (w : World) (word : ByteArray) (A : Option Addr) (l : List ByteArray) (n ca : Nat) (hs : word.size ≤ 140737488355328) (ha : StrS w A l) (hn : l.length = n) (hl : n ≤ 9223372036854775807) (W : ByteArray) (hW : (⟨(LexM.caps (bs word)).toArray⟩ : ByteArray) = W) (x : ByteArray) (f : Bool) (hr : fullR W l = (x, f)) :
    Calls Tryd.prog 12 #[.string word, .slice A n ca] w fun e w' => e = .returned (.tuple #[.string x, .bool f]) ∧ Below w.heap.size w w' := by
  have hu := up_calls (w.alloc (.cells #[.string word] 9)) word hs
  rw [hW] at hu
  have HU := Lib.hid hu
  have hcn := fun wx (hx : Below w.heap.size w wx) => scontains_calls wx A l n ca W (ha.below hx) hn hl _ rfl
  have hif := fun wx B (hc : wx.cell? ⟨B, 0, none⟩ = some (.string W)) (hx : Below w.heap.size w wx) => sindexf_calls wx A l n ca B W hc (ha.below hx) hn hl _ rfl
  have hb0 : Below w.heap.size w (w.alloc (.cells #[.string word] 9)) := (Below.refl _ _).alloc (Nat.le_refl _) _
  have HA := Lib.hid ha
  have HN := Lib.hid hn
  clear hu ha
  unfold fullR at hr
  cases q : inS W l with
  | true =>
    rw [q, if_pos rfl] at hr
    cases hr
    have hcn2 : ∀ wx, Below w.heap.size w wx → Calls Tryd.prog 23 #[.slice A n ca, .string W] wx fun e w' => e = .returned (.bool true) ∧ wx = w' := fun wx hx => by
      have := hcn wx hx
      rw [show decide (0 ≤ firstI (eqS W) l) = true from q] at this
      exact this
    have HCN := Lib.hid hcn2
    clear hcn hcn2 hif q hW
    go_enter Tryd.func12, Tryd.ntmps12
    go_wp2_with fail
    refine HU.out.mono ?_
    rintro e w1 ⟨rfl, hb1⟩
    have k0 : w1.cell? ⟨w.heap.size, 0, none⟩ = some (.string word) := (hb1.cell (p := ⟨w.heap.size, 0, none⟩) (by simp)).trans (by simp)
    have kf : w1.frozen? ⟨w.heap.size, 0, none⟩ = false := (hb1.frozen (p := ⟨w.heap.size, 0, none⟩) (by simp)).trans (by simp)
    have k1 : w.heap.size < w1.heap.size := by have := hb1.size; simp at this; omega
    have HB1 := Lib.hid ((hb0.trans (hb1.mono (by simp))).setCell (p := ⟨w.heap.size, 0, none⟩) (Nat.le_refl _) (.string W))
    clear hb1
    go_wp2_with fail
    refine (HCN.out _ HB1.out).mono ?_
    rintro e w2 ⟨rfl, rfl⟩
    go_wp2
    go_ret2
    exact ⟨rfl, HB1.out⟩
  | false =>
    rw [q] at hr
    simp only [Bool.false_eq_true, if_false] at hr
    have hcn2 : ∀ wx, Below w.heap.size w wx → Calls Tryd.prog 23 #[.slice A n ca, .string W] wx fun e w' => e = .returned (.bool false) ∧ wx = w' := fun wx hx => by
      have := hcn wx hx
      rw [show decide (0 ≤ firstI (eqS W) l) = false from q] at this
      exact this
    have HCN := Lib.hid hcn2
    clear hcn hcn2 q hW
    rcases first_find (pW W) l with ⟨h1, h2⟩ | ⟨k, y, h1, h2, h3⟩
    · rw [h2] at hr
      cases hr
      rw [h1] at hif
      have HIF := Lib.hid hif
      clear hif h1 h2
      go_enter Tryd.func12, Tryd.ntmps12
      go_wp2_with fail
      refine HU.out.mono ?_
      rintro e w1 ⟨rfl, hb1⟩
      have k0 : w1.cell? ⟨w.heap.size, 0, none⟩ = some (.string word) := (hb1.cell (p := ⟨w.heap.size, 0, none⟩) (by simp)).trans (by simp)
      have kf : w1.frozen? ⟨w.heap.size, 0, none⟩ = false := (hb1.frozen (p := ⟨w.heap.size, 0, none⟩) (by simp)).trans (by simp)
      have k1 : w.heap.size < w1.heap.size := by have := hb1.size; simp at this; omega
      have HB1 := Lib.hid ((hb0.trans (hb1.mono (by simp))).setCell (p := ⟨w.heap.size, 0, none⟩) (Nat.le_refl _) (.string W))
      have K0 := Lib.hid k0
      clear hb1
      go_wp2_with fail
      refine (HCN.out _ HB1.out).mono ?_
      rintro e w2 ⟨rfl, rfl⟩
      go_wp2_with fail
      refine (HIF.out _ _ (by have := K0.out; simp [World.cell?_setCell_same, this]) HB1.out).mono ?_
      rintro e w3 ⟨rfl, rfl⟩
      go_wp2
      go_ret2
      exact ⟨rfl, HB1.out⟩
    · rw [h3] at hr
      cases hr
      rw [h1] at hif
      have HIF := Lib.hid hif
      have hkl := (List.getElem?_eq_some_iff.1 h2).1
      obtain ⟨b, off, rfl, hbl, hT⟩ := HA.out (by omega)
      have c0 := hT k x h2
      have hkn : decide ((k : Int) < (n : Int)) = true := by simp; omega
      have hkn2 : (k : Int) < (n : Int) := by omega
      have C0 := Lib.hid c0
      clear hif h1 h2 h3 hT c0
      go_enter Tryd.func12, Tryd.ntmps12
      go_wp2_with fail
      refine HU.out.mono ?_
      rintro e w1 ⟨rfl, hb1⟩
      have k0 : w1.cell? ⟨w.heap.size, 0, none⟩ = some (.string word) := (hb1.cell (p := ⟨w.heap.size, 0, none⟩) (by simp)).trans (by simp)
      have kf : w1.frozen? ⟨w.heap.size, 0, none⟩ = false := (hb1.frozen (p := ⟨w.heap.size, 0, none⟩) (by simp)).trans (by simp)
      have k1 : w.heap.size < w1.heap.size := by have := hb1.size; simp at this; omega
      have HB1 := Lib.hid ((hb0.trans (hb1.mono (by simp))).setCell (p := ⟨w.heap.size, 0, none⟩) (Nat.le_refl _) (.string W))
      have k2 := ((hb0.trans (hb1.mono (by simp))).cell (p := ⟨b, off + k, none⟩) hbl).trans C0.out
      have m1 : b ≠ w.heap.size := by omega
      have K0 := Lib.hid k0
      clear hb1
      go_wp2_with fail
      refine (HCN.out _ HB1.out).mono ?_
      rintro e w2 ⟨rfl, rfl⟩
      go_wp2_with fail
      refine (HIF.out _ _ (by have := K0.out; simp [World.cell?_setCell_same, this]) HB1.out).mono ?_
      rintro e w3 ⟨rfl, rfl⟩
      go_wp2
      go_ret2
      exact ⟨rfl, HB1.out⟩

/-! ### The document's -/
theorem hasPrefix_ext (x W : ByteArray) (h : W.size ≤ x.size) : ((x.extract 0 W.size).toList == W.toList) = Lib.hasPrefix x.data.toList W.data.toList := by
  have := Lib.hasPrefix_raw x W
  rw [decide_eq_true h, Bool.true_and] at this
  exact this

set_option maxRecDepth 100000 in
theorem rbegins_calls (w : World) (x W : ByteArray) (_hs : W.size ≤ 140737488355328) (r : Bool) (hr : Lib.hasPrefix x.data.toList W.data.toList = r) :
    Calls Tryd.prog 29 #[.string x, .string W] w fun e w' => e = .returned (.bool r) ∧ w = w' := by
  by_cases h : W.size ≤ x.size
  · have q : decide ((W.size : Int) ≤ (x.size : Int)) = true := by simp; omega
    have q' : decide (W.size ≤ x.size) = true := by simpa using h
    rw [← hasPrefix_ext x W h] at hr
    have hsl := slice_to x W.size W.size rfl h
    have HSL := Lib.hid hsl
    clear h
    have hsl := HSL.out
    go_enter Tryd.func29, Tryd.ntmps29
    go_wp2
    go_ret
    exact ⟨rfl, rfl⟩
  · have q : decide ((W.size : Int) ≤ (x.size : Int)) = false := by simp; omega
    have q' : decide (W.size ≤ x.size) = false := by simpa using h
    have hf : Lib.hasPrefix x.data.toList W.data.toList = false := by
      have := Lib.hasPrefix_raw x W
      rw [decide_eq_false h, Bool.false_and] at this
      exact this.symm
    rw [hf] at hr
    subst hr
    clear h hf
    go_enter Tryd.func29, Tryd.ntmps29
    go_wp2
    go_ret
    exact ⟨rfl, rfl⟩

theorem eqS_comm (x y : ByteArray) : (x.toList == y.toList) = eqS y x := by
  unfold eqS
  rw [Bool.eq_iff_iff, beq_iff_eq, beq_iff_eq]
  exact ⟨fun h => h.symm, fun h => h.symm⟩

set_option maxRecDepth 100000 in
theorem rin_calls (w : World) (A : Option Addr) (l : List ByteArray) (n ca : Nat) (v : ByteArray) (ha : StrS w A l) (hn : l.length = n) (hl : n ≤ 9223372036854775807) (r : Bool) (hr : inS v l = r) :
    Calls Tryd.prog 28 #[.slice A n ca, .string v] w fun e w' => e = .returned (.bool r) ∧ w = w' := by
  have HA := Lib.hid ha
  have HN := Lib.hid hn
  have HR := Lib.hid hr
  clear ha hn hr
  go_enter Tryd.func28, Tryd.ntmps28
  go_wp2
  go_loopg [5] n (fun q u wr => ∃ i : Nat, u = .int .i64 i ∧ i ≤ n ∧ q = n - i ∧ Aside (∀ j y, j < i → l[j]? = some y → eqS v y = false) ∧ w = wr)
  case atStart => exact ⟨0, rfl, by omega, by omega, fun j y hj => by omega, rfl⟩
  case round =>
    obtain ⟨i, rfl, hi, rfl, hA, rfl⟩ := hrel
    by_cases hlt : i < n
    · have hltz : decide ((i : Int) < (n : Int)) = true := by simp; omega
      have hltz2 : (i : Int) < (n : Int) := by omega
      obtain ⟨b, off, rfl, hbl, hT⟩ := HA.out (by have := HN.out; omega)
      obtain ⟨x, hx⟩ : ∃ x, l[i]? = some x := ⟨_, List.getElem?_eq_getElem (by have := HN.out; omega)⟩
      have c0 := hT i x hx
      have hc := eqS_comm x v
      cases q : (x.toList == v.toList) with
      | true =>
        rw [q] at hc
        have hf : firstI (eqS v) l = i := first_hit hx hc.symm (fun j y hj hy => hA.out j y hj hy)
        have hr' : true = r := by
          rw [← HR.out]
          unfold inS
          rw [hf]
          simp
        have HR' := Lib.hid hr'
        clear hT hx hf hc hr'
        go_wp2
        go_ret
        exact ⟨by (rw [← HR'.out]; rfl), rfl⟩
      | false =>
        rw [q] at hc
        have hA2 : ∀ (j : Nat) (y : ByteArray), j < i + 1 → l[j]? = some y → eqS v y = false := fun j y hj hy => by
          rcases Nat.lt_or_ge j i with h | h
          · exact hA.out j y h hy
          · obtain rfl : j = i := by omega
            rw [hx] at hy
            cases hy
            exact hc.symm
        have HA2 := Lib.hid hA2
        clear hT hx hA2 hc
        go_wp2
        go_roundg (n - (i + 1))
        case measure => omega
        case rel => exact ⟨i + 1, by go_num, by omega, rfl, HA2.out, rfl⟩
    · obtain rfl : i = n := by omega
      have hf : firstI (eqS v) l = -1 := first_miss (fun j y hy => hA.out j y (by
        have h1 := (List.getElem?_eq_some_iff.1 hy).1
        have := HN.out
        omega) hy)
      have hr' : false = r := by
        rw [← HR.out]
        unfold inS
        rw [hf]
        rfl
      have HR' := Lib.hid hr'
      clear hf hr'
      go_wp2
      go_ret
      exact ⟨by (rw [← HR'.out]; rfl), rfl⟩

theorem find_drop {p : ByteArray → Bool} {l : List ByteArray} {i : Nat} {x : ByteArray} (hx : l[i]? = some x) : (l.drop i).find? p = if p x then some x else (l.drop (i + 1)).find? p := by
  obtain ⟨h1, e1⟩ := List.getElem?_eq_some_iff.1 hx
  rw [List.drop_eq_getElem_cons h1, e1, List.find?_cons]
  cases p x <;> rfl

set_option maxHeartbeats 1000000 in
set_option maxRecDepth 100000 in
theorem rfull_calls (w : World) (word : ByteArray) (A : Option Addr) (l : List ByteArray) (n ca : Nat) (hs : word.size ≤ 140737488355328) (ha : StrS w A l) (hn : l.length = n) (hl : n ≤ 9223372036854775807) (W : ByteArray) (hW : (⟨(LexM.caps (bs word)).toArray⟩ : ByteArray) = W) (x : ByteArray) (f : Bool) (hr : fullR W l = (x, f)) :
    Calls Tryd.prog 13 #[.string word, .slice A n ca] w fun e w' => e = .returned (.tuple #[.string x, .bool f]) ∧ Below w.heap.size w w' := by
  have hu := capitals_calls w word hs
  rw [hW] at hu
  have hWs : W.size ≤ 140737488355328 := by
    rw [← hW]
    simp only [ByteArray.size, List.size_toArray, LexM.caps_length, bs_length]
    exact hs
  have HU := Lib.hid hu
  have hin := fun wx (hx : Below w.heap.size w wx) => rin_calls wx A l n ca W (ha.below hx) hn hl _ rfl
  have HA := Lib.hid ha
  have HN := Lib.hid hn
  clear hu ha hn hW
  unfold fullR at hr
  cases q : inS W l with
  | true =>
    rw [q, if_pos rfl] at hr
    cases hr
    rw [q] at hin
    have HIN := Lib.hid hin
    clear hin q
    go_enter Tryd.func13, Tryd.ntmps13
    go_wp2_with fail
    refine HU.out.mono ?_
    rintro e w1 ⟨rfl, hb1⟩
    have HB1 := Lib.hid hb1
    clear hb1
    go_wp2_with fail
    refine (HIN.out _ HB1.out).mono ?_
    rintro e w2 ⟨rfl, rfl⟩
    go_wp2
    go_ret2
    exact ⟨rfl, HB1.out⟩
  | false =>
    rw [q] at hr hin
    simp only [Bool.false_eq_true, if_false] at hr
    have HIN := Lib.hid hin
    have HR := Lib.hid hr
    clear hin q hr
    go_enter Tryd.func13, Tryd.ntmps13
    go_wp2_with fail
    refine HU.out.mono ?_
    rintro e w1 ⟨rfl, hb1⟩
    have HB1 := Lib.hid hb1
    clear hb1
    go_wp2_with fail
    refine (HIN.out _ HB1.out).mono ?_
    rintro e w2 ⟨rfl, rfl⟩
    by_cases h4 : 4 ≤ W.size
    · have q4 : decide ((4 : Int) ≤ (W.size : Int)) = true := by simp; omega
      have hpw : ∀ y, pW W y = Lib.hasPrefix y.data.toList W.data.toList := fun y => by
        unfold pW
        rw [decide_eq_true h4, Bool.true_and]
      have HPW := Lib.hid hpw
      clear h4 hpw
      go_wp2_with fail
      go_loopg [7] n (fun q u wr => ∃ i : Nat, u = .int .i64 i ∧ i ≤ n ∧ q = n - i ∧ Aside ((l.drop i).find? (pW W) = l.find? (pW W)) ∧ w1 = wr)
      case atStart => exact ⟨0, rfl, by omega, by omega, rfl, rfl⟩
      case round =>
        obtain ⟨i, rfl, hi, rfl, hF, rfl⟩ := hrel
        by_cases hlt : i < n
        · have hltz : decide ((i : Int) < (n : Int)) = true := by simp; omega
          have hltz2 : (i : Int) < (n : Int) := by omega
          obtain ⟨b, off, rfl, hbl, hT⟩ := HA.out (by have := HN.out; omega)
          obtain ⟨y, hy⟩ : ∃ y, l[i]? = some y := ⟨_, List.getElem?_eq_getElem (by have := HN.out; omega)⟩
          have c0 := (hT.below HB1.out hbl) i y hy
          have hfd := find_drop (p := pW W) hy
          have hbg := fun wx r hr => rbegins_calls wx y W hWs r hr
          cases q : pW W y with
          | true =>
            rw [q, if_pos rfl] at hfd
            have hxy : x = y ∧ f = true := by
              have := HR.out
              rw [← hF.out, hfd] at this
              simp only [Prod.mk.injEq] at this
              exact ⟨this.1.symm, this.2.symm⟩
            obtain ⟨rfl, rfl⟩ := hxy
            have hb2 := fun wx => hbg wx true (by rw [← HPW.out]; exact q)
            have HB2 := Lib.hid hb2
            clear hT hy hfd hbg hb2 q
            go_wp2_with fail
            refine (HB2.out _).mono ?_
            rintro e w3 ⟨rfl, rfl⟩
            go_wp2_with fail
            go_ret2
            exact ⟨rfl, HB1.out⟩
          | false =>
            rw [q] at hfd
            simp only [Bool.false_eq_true, if_false] at hfd
            have hF2 : (l.drop (i + 1)).find? (pW W) = l.find? (pW W) := by rw [← hfd]; exact hF.out
            have HF2 := Lib.hid hF2
            have hb2 := fun wx => hbg wx false (by rw [← HPW.out]; exact q)
            have HB2 := Lib.hid hb2
            clear hT hy hfd hbg hb2 q hF2
            go_wp2_with fail
            refine (HB2.out _).mono ?_
            rintro e w3 ⟨rfl, rfl⟩
            go_wp2_with fail
            go_roundg (n - (i + 1))
            case measure => omega
            case rel => exact ⟨i + 1, by go_num, by omega, rfl, HF2.out, rfl⟩
        · obtain rfl : i = n := by omega
          have hxy : x = ⟨#[]⟩ ∧ f = false := by
            have := HR.out
            rw [← hF.out, List.drop_of_length_le (by have := HN.out; omega)] at this
            simp only [List.find?_nil, Prod.mk.injEq] at this
            exact ⟨this.1.symm, this.2.symm⟩
          obtain ⟨rfl, rfl⟩ := hxy
          clear hF
          go_wp2
          go_ret2
          exact ⟨rfl, HB1.out⟩
    · have q4 : decide ((4 : Int) ≤ (W.size : Int)) = false := by simp; omega
      have hxy : x = ⟨#[]⟩ ∧ f = false := by
        have := HR.out
        have hnone : l.find? (pW W) = none := by
          rw [List.find?_eq_none]
          intro y _
          unfold pW
          rw [decide_eq_false h4]
          simp
        rw [hnone] at this
        simp only [Prod.mk.injEq] at this
        exact ⟨this.1.symm, this.2.symm⟩
      obtain ⟨rfl, rfl⟩ := hxy
      clear h4
      go_wp2_with fail
      go_loopg [7] 0 (fun q u wr => u = .int .i64 0 ∧ q = 0 ∧ w1 = wr)
      case atStart => exact ⟨rfl, rfl, rfl⟩
      case round =>
        obtain ⟨rfl, rfl, rfl⟩ := hrel
        by_cases hlt : 0 < n
        · have hltz : decide ((0 : Int) < (n : Int)) = true := by simp; omega
          have hltz' : decide (0 < n) = true := by simpa using hlt
          go_wp2
          go_ret2
          exact ⟨rfl, HB1.out⟩
        · have hltz : decide ((0 : Int) < (n : Int)) = false := by simp; omega
          have hltz' : decide (0 < n) = false := by simpa using hlt
          go_wp2
          go_ret2
          exact ⟨rfl, HB1.out⟩

end Go.Proofs.YtpnfcgmogjpliaaDoor
