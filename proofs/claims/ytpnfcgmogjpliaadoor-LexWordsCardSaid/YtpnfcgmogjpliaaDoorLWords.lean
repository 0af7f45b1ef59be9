/- For every word and every list the program's Full and IsName answer what the document's answer, and the law's own example holds: the walk. The library's tables lie as their texts lay them. -/
import Derived.Test.YtpnfcgmogjpliaaDoorWordR
import Derived.Test.YtpnfcgmogjpliaaDoorName
import Derived.Test.YtpnfcgmogjpliaaDoorKnown
import Derived.Test.YtpnfcgmogjpliaaDoorOpen
import Derived.SliceStrings
namespace Go.Proofs.YtpnfcgmogjpliaaDoor
open Go.RowKit
attribute [local go_sem ↓] Go.wp_at_zero Go.wp_at_succ

theorem fullR_two (W : ByteArray) (l : List ByteArray) : ∃ x f, fullR W l = (x, f) := ⟨_, _, rfl⟩

set_option maxHeartbeats 2000000 in
set_option maxRecDepth 100000 in
theorem lexWords_calls (w : World) (word : ByteArray) (A : Option Addr) (l : List ByteArray) (ca : Nat) (hl : l.length ≤ 9223372036854775807) (ha : StrS w A l) (hs : word.size ≤ 140737488355328) (hT : Tabs w w) :
    Calls Tryd.prog 5 #[.string word, .slice A l.length ca] w fun e w' => e = .returned (.bool true) ∧ Below w.heap.size w w' := by
  have hk := fun wx (hb : Below w.heap.size w wx) => known_calls w wx (hT.belowN hb)
  obtain ⟨n, hn⟩ : ∃ n, l.length = n := ⟨_, rfl⟩
  rw [hn] at hl ⊢
  obtain ⟨W, hW⟩ : ∃ W, (⟨(LexM.caps (bs word)).toArray⟩ : ByteArray) = W := ⟨_, rfl⟩
  obtain ⟨x, f, hr⟩ := fullR_two W l
  obtain ⟨r, hnm⟩ : ∃ r, nameB (bs word) = r := ⟨_, rfl⟩
  have hf1 := full_calls w word A l n ca hs ha hn hl W hW x f hr
  have hf2 := fun wx (hb : Below w.heap.size w wx) => rfull_calls wx word A l n ca hs (ha.below hb) hn hl W hW x f hr
  have hn1 := fun wx => isName_calls wx word r hnm
  have hn2 := fun wx => rIsName_calls wx word r hnm
  have HK := Lib.hid hk
  have HF1 := Lib.hid hf1
  have HF2 := Lib.hid hf2
  have HN1 := Lib.hid hn1
  have HN2 := Lib.hid hn2
  have HA := Lib.hid ha
  have HN := Lib.hid hn
  clear hk hf1 hf2 hn1 hn2 ha hn hW hr hnm hT hs
  go_enter Tryd.func5, Tryd.ntmps5
  go_wp2_with fail
  go_loopg [5, 6] n (fun q u5 u6 wr => ∃ (i : Nat) (z : Int), u5 = .int .i64 z ∧ u6 = .int .i64 i ∧ i ≤ n ∧ q = n - i ∧ w = wr)
  case atStart => exact ⟨0, _, rfl, rfl, by omega, by omega, rfl⟩
  case round =>
    obtain ⟨i, z, rfl, rfl, hi, rfl, rfl⟩ := hrel
    by_cases hlt : i < n
    · have hltz : decide ((i : Int) < (n : Int)) = true := by simp; omega
      have hltz2 : (i : Int) < (n : Int) := by omega
      obtain ⟨b, off, rfl, hbl, hT⟩ := HA.out (by have := HN.out; omega)
      obtain ⟨y, hy⟩ : ∃ y, l[i]? = some y := ⟨_, List.getElem?_eq_getElem (by have := HN.out; omega)⟩
      have c0 := hT i y hy
      clear hT hy
      go_wp2_with fail
      go_roundg (n - (i + 1))
      case measure => omega
      case rel => exact ⟨i + 1, _, rfl, by go_num, by omega, rfl, rfl⟩
    · obtain rfl : i = n := by omega
      cases q : decide ((20000 : Int) < z) with
      | true =>
        go_wp2_with fail
        refine (HK.out _ (Below.refl _ _)).mono ?_
        rintro e w1 ⟨rfl, hb1⟩
        have HB1 := Lib.hid hb1
        clear hb1
        go_wp2_with fail
        go_ret
        exact ⟨rfl, HB1.out⟩
      | false =>
        go_wp2_with fail
        refine HF1.out.mono ?_
        rintro e w1 ⟨rfl, hb1⟩
        have HB1 := Lib.hid hb1
        clear hb1
        go_wp2_with fail
        refine (HF2.out _ HB1.out).mono ?_
        rintro e w2 ⟨rfl, hb2⟩
        have HB2 := Lib.hid (HB1.out.trans (hb2.mono HB1.out.size))
        clear hb2
        cases f
        all_goals
          cases r
          all_goals
            go_wp2_with fail
            refine (HN1.out _).mono ?_
            rintro e w3 ⟨rfl, hb3⟩
            have HB3 := Lib.hid (HB2.out.trans (hb3.mono HB2.out.size))
            clear hb3
            go_wp2_with fail
            refine (HN2.out _).mono ?_
            rintro e w4 ⟨rfl, rfl⟩
            go_wp2_with fail
            refine (HK.out _ HB3.out).mono ?_
            rintro e w5 ⟨rfl, hb5⟩
            have HB5 := Lib.hid (HB3.out.trans (hb5.mono HB3.out.size))
            clear hb5
            go_wp2_with fail
            go_ret
            exact ⟨rfl, HB5.out⟩

open Go.Lib Go.ChangeShapes Go.WideShapes Go.ChangeAt Go.Deep in
/-- An argument of type []string. -/
theorem open_strS {H : Type} {enc : TypeId × Value → H} {w : World} {fuel : Nat} {cs : List Value} {x : DataW H × List MemPlace} (h : DataW.trod enc Tryd.prog w 0 (fun _ => true) true fuel 32 cs = some x) :
    ∃ (A : Option Addr) (l : List ByteArray) (cap : Nat), cs = [.slice A l.length cap] ∧ l.length ≤ maxLen ∧ StrS w A l := by
  have c1 : Tryd.prog.cellsOf 9 = 1 := by kernel_rfl
  rcases open_slice Tryd.underlying32 h with ⟨rfl, _⟩ | ⟨a, len, cap, m, n, D, Pl, rfl, _, hl, hm, hmm, _, hi⟩
  · exact ⟨none, [], 0, rfl, Nat.zero_le _, fun h => absurd h (by simp)⟩
  · have hcell : ∀ i, i < len → ∃ t : ByteArray, w.cell? (a.add i) = some (.string t) := by
      intro i hil
      obtain ⟨cs', hc, ht'⟩ := hi i (by rw [hmm]; simp; omega)
      rw [c1, Nat.mul_one] at hc
      obtain ⟨s, rfl, _, _⟩ := DataW.trod_string Tryd.underlying9 ht'
      obtain ⟨_, _, hat⟩ := World.cells?_some hc
      have := hat 0 (by omega)
      rw [Go.Deep.add_add] at this
      exact ⟨s, by simpa using this⟩
    obtain ⟨l, hlen, hl2⟩ := list_of (Q := fun i (t : ByteArray) => w.cell? (a.add i) = some (.string t)) len hcell
    subst hlen
    refine ⟨some a, l, cap, rfl, by omega, fun h0 => ?_⟩
    obtain ⟨b, off, spot⟩ := a
    obtain ⟨t0, ht0⟩ : ∃ t, l[0]? = some t := ⟨_, List.getElem?_eq_getElem h0⟩
    have hc0 := hl2 0 t0 ht0
    obtain rfl : spot = none := by simpa [Addr.add] using World.cell?_spot hc0
    refine ⟨b, off, rfl, ?_, fun j t hj => ?_⟩
    · have := World.block_lt_of_cell? w _ hc0
      simpa [Addr.add] using this
    · have hadd : ∀ j, (⟨b, off, none⟩ : Addr).add j = ⟨b, off + j, none⟩ := fun j => by unfold Addr.add; split <;> simp_all
      have := hl2 j t hj
      rw [hadd] at this
      exact this

end Go.Proofs.YtpnfcgmogjpliaaDoor
