/- What a word stands for in a list: the program's Full and the document's, of every list of strings. -/
import Derived.Test.YtpnfcgmogjpliaaDoorRCap
import Derived.Test.YtpnfcgmogjpliaaDoorSc14
namespace Go.Proofs.YtpnfcgmogjpliaaDoor
open Go.RowKit
attribute [local go_sem ↓] Go.wp_at_zero Go.wp_at_succ

/-- A slice of strings. -/
def StrsAt (w : World) (b off : Nat) (l : List ByteArray) : Prop := ∀ j x, l[j]? = some x → w.cell? ⟨b, off + j, none⟩ = some (.string x)
def StrS (w : World) (A : Option Addr) (l : List ByteArray) : Prop := 0 < l.length → ∃ b off, A = some ⟨b, off, none⟩ ∧ b < w.heap.size ∧ StrsAt w b off l
theorem StrsAt.below {w w' : World} {b off : Nat} {l : List ByteArray} (h : StrsAt w b off l) (hb : Below w.heap.size w w') (hlt : b < w.heap.size) : StrsAt w' b off l := fun j x hj => (hb.cell (p := ⟨b, off + j, none⟩) hlt).trans (h j x hj)
theorem StrS.below {w w' : World} {A : Option Addr} {l : List ByteArray} (h : StrS w A l) (hb : Below w.heap.size w w') : StrS w' A l := fun h0 => by
  obtain ⟨b, off, e, hlt, ht⟩ := h h0
  exact ⟨b, off, e, Nat.lt_of_lt_of_le hlt hb.size, ht.below hb hlt⟩

def eqS (x y : ByteArray) : Bool := x.toList == y.toList
/-- Where the first string of a list lies of which p holds; -1 for none. -/
def firstI (p : ByteArray → Bool) (l : List ByteArray) : Int := match l.findIdx? p with | some k => k | none => -1
theorem first_hit {p : ByteArray → Bool} {l : List ByteArray} {k : Nat} {x : ByteArray} (hx : l[k]? = some x) (hp : p x = true) (h : ∀ j y, j < k → l[j]? = some y → p y = false) : firstI p l = k := by
  obtain ⟨hk, e⟩ := List.getElem?_eq_some_iff.1 hx
  have : l.findIdx? p = some k := by
    rw [List.findIdx?_eq_some_iff_getElem]
    refine ⟨hk, by rw [e]; exact hp, fun j hj => ?_⟩
    rw [h j _ hj (List.getElem?_eq_getElem (by omega))]
    simp
  unfold firstI
  rw [this]
theorem first_miss {p : ByteArray → Bool} {l : List ByteArray} (h : ∀ (j : Nat) (y : ByteArray), l[j]? = some y → p y = false) : firstI p l = -1 := by
  have : l.findIdx? p = none := by
    rw [List.findIdx?_eq_none_iff]
    intro x hx
    obtain ⟨j, hj, e⟩ := List.mem_iff_getElem.1 hx
    exact h j x (by rw [List.getElem?_eq_getElem hj, e])
  unfold firstI
  rw [this]

set_option maxRecDepth 100000 in
theorem sindex_calls (w : World) (A : Option Addr) (l : List ByteArray) (n ca : Nat) (v : ByteArray) (ha : StrS w A l) (hn : l.length = n) (hl : n ≤ 9223372036854775807) (K : Int) (hK : firstI (eqS v) l = K) :
    Calls Tryd.prog 39 #[.slice A n ca, .string v] w fun e w' => e = .returned (.int .i64 K) ∧ w = w' := by
  have HA := Lib.hid ha
  have HN := Lib.hid hn
  have HK := Lib.hid hK
  clear ha hn hK
  go_enter Tryd.func39, Tryd.ntmps39
  go_wp2
  go_loopg [8] n (fun q u wr => ∃ i : Nat, u = .int .i64 i ∧ i ≤ n ∧ q = n - i ∧ Aside (∀ j y, j < i → l[j]? = some y → eqS v y = false) ∧ w = wr)
  case atStart => exact ⟨0, rfl, by omega, by omega, fun j y hj => by omega, rfl⟩
  case round =>
    obtain ⟨i, rfl, hi, rfl, hA, rfl⟩ := hrel
    by_cases hlt : i < n
    · have hltz : decide ((i : Int) < (n : Int)) = true := by simp; omega
      have hltz2 : (i : Int) < (n : Int) := by omega
      obtain ⟨b, off, rfl, hbl, hT⟩ := HA.out (by have := HN.out; omega)
      obtain ⟨x, hx⟩ : ∃ x, l[i]? = some x := ⟨_, List.getElem?_eq_getElem (by have := HN.out; omega)⟩
      have c0 := hT i x hx
      cases q : (v.toList == x.toList) with
      | true =>
        have hf : firstI (eqS v) l = i := first_hit hx q (fun j y hj hy => hA.out j y hj hy)
        rw [HK.out] at hf
        subst hf
        clear hT hx
        go_wp2
        go_ret
        exact ⟨rfl, rfl⟩
      | false =>
        have hA2 : ∀ j y, j < i + 1 → l[j]? = some y → eqS v y = false := fun j y hj hy => by
          rcases Nat.lt_or_ge j i with h | h
          · exact hA.out j y h hy
          · obtain rfl : j = i := by omega
            rw [hx] at hy
            cases hy
            exact q
        have HA2 := Lib.hid hA2
        clear hT hx hA2
        go_wp2
        go_roundg (n - (i + 1))
        case measure => omega
        case rel => exact ⟨i + 1, by go_num, by omega, rfl, HA2.out, rfl⟩
    · obtain rfl : i = n := by omega
      have hf : firstI (eqS v) l = -1 := first_miss (fun j y hy => hA.out j y (by
        have h1 := (List.getElem?_eq_some_iff.1 hy).1
        have := HN.out
        omega) hy)
      rw [HK.out] at hf
      subst hf
      go_wp2
      go_ret
      exact ⟨rfl, rfl⟩

set_option maxRecDepth 100000 in
theorem scontains_calls (w : World) (A : Option Addr) (l : List ByteArray) (n ca : Nat) (v : ByteArray) (ha : StrS w A l) (hn : l.length = n) (hl : n ≤ 9223372036854775807) (r : Bool) (hr : decide (0 ≤ firstI (eqS v) l) = r) :
    Calls Tryd.prog 23 #[.slice A n ca, .string v] w fun e w' => e = .returned (.bool r) ∧ w = w' := by
  have H := Lib.hid (sindex_calls w A l n ca v ha hn hl _ rfl)
  generalize firstI (eqS v) l = K at H hr
  clear ha hn hl
  go_enter Tryd.func23, Tryd.ntmps23
  go_wp2_with (go_at_call 39; refine H.out.mono ?_; rintro e w' ⟨rfl, rfl⟩)
  go_ret
  exact ⟨by rw [← hr]; rfl, rfl⟩

/-- Whether a word stands for one of the list. -/
def pW (W x : ByteArray) : Bool := decide (4 ≤ W.size) && Lib.hasPrefix x.data.toList W.data.toList

set_option maxRecDepth 100000 in
theorem full1_calls (w : World) (B : Nat) (W x : ByteArray) (hc : w.cell? ⟨B, 0, none⟩ = some (.string W)) (r : Bool) (hr : pW W x = r) :
    Calls Tryd.prog 25 #[.string x, .pointer (some ⟨B, 0, none⟩)] w fun e w' => e = .returned (.bool r) ∧ w = w' := by
  have hp := fun wx => Tryd.strings_HasPrefix x W wx
  unfold pW at hr
  cases q : decide (4 ≤ W.size) with
  | true =>
    rw [q, Bool.true_and] at hr
    rw [hr] at hp
    have HP := Lib.hid hp
    have q4 : decide ((4 : Int) ≤ (W.size : Int)) = true := by
      rw [decide_eq_true_iff] at q ⊢
      omega
    clear hp hr q
    go_enter Tryd.func25, Tryd.ntmps25
    go_wp2_with (go_at_call 26; refine (HP.out _).mono ?_; rintro e w' ⟨rfl, rfl⟩)
    go_ret
    exact ⟨rfl, rfl⟩
  | false =>
    rw [q, Bool.false_and] at hr
    subst hr
    have q4 : decide ((4 : Int) ≤ (W.size : Int)) = false := by
      rw [decide_eq_false_iff_not] at q ⊢
      omega
    clear hp q
    go_enter Tryd.func25, Tryd.ntmps25
    go_wp2
    go_ret
    exact ⟨rfl, rfl⟩

set_option maxHeartbeats 1000000 in
set_option maxRecDepth 100000 in
theorem sindexf_calls (w : World) (A : Option Addr) (l : List ByteArray) (n ca : Nat) (B : Nat) (W : ByteArray) (hc : w.cell? ⟨B, 0, none⟩ = some (.string W)) (ha : StrS w A l) (hn : l.length = n) (hl : n ≤ 9223372036854775807) (K : Int) (hK : firstI (pW W) l = K) :
    Calls Tryd.prog 24 #[.slice A n ca, .func (.func 25) #[] #[.pointer (some ⟨B, 0, none⟩)]] w fun e w' => e = .returned (.int .i64 K) ∧ w = w' := by
  have HA := Lib.hid ha
  have HN := Lib.hid hn
  have HK := Lib.hid hK
  have hcall := fun x r hr => full1_calls w B W x hc r hr
  have HC := Lib.hid hcall
  clear ha hn hK hcall
  go_enter Tryd.func24, Tryd.ntmps24
  go_wp2
  go_loopg [8] n (fun q u wr => ∃ i : Nat, u = .int .i64 i ∧ i ≤ n ∧ q = n - i ∧ Aside (∀ j y, j < i → l[j]? = some y → pW W y = false) ∧ w = wr)
  case atStart => exact ⟨0, rfl, by omega, by omega, fun j y hj => by omega, rfl⟩
  case round =>
    obtain ⟨i, rfl, hi, rfl, hA, rfl⟩ := hrel
    by_cases hlt : i < n
    · have hltz : decide ((i : Int) < (n : Int)) = true := by simp; omega
      have hltz2 : (i : Int) < (n : Int) := by omega
      obtain ⟨b, off, rfl, hbl, hT⟩ := HA.out (by have := HN.out; omega)
      obtain ⟨x, hx⟩ : ∃ x, l[i]? = some x := ⟨_, List.getElem?_eq_getElem (by have := HN.out; omega)⟩
      have c0 := hT i x hx
      cases q : pW W x with
      | true =>
        have hf : firstI (pW W) l = i := first_hit hx q (fun j y hj hy => hA.out j y hj hy)
        rw [HK.out] at hf
        subst hf
        have HQ := Lib.hid (HC.out x true q)
        clear hT hx q
        go_wp2_with fail
        refine HQ.out.mono ?_
        rintro e w' ⟨rfl, rfl⟩
        go_wp2_with fail
        go_ret
        exact ⟨rfl, rfl⟩
      | false =>
        have hA2 : ∀ j y, j < i + 1 → l[j]? = some y → pW W y = false := fun j y hj hy => by
          rcases Nat.lt_or_ge j i with h | h
          · exact hA.out j y h hy
          · obtain rfl : j = i := by omega
            rw [hx] at hy
            cases hy
            exact q
        have HA2 := Lib.hid hA2
        have HQ := Lib.hid (HC.out x false q)
        clear hT hx hA2 q
        go_wp2_with fail
        refine HQ.out.mono ?_
        rintro e w' ⟨rfl, rfl⟩
        go_wp2_with fail
        go_roundg (n - (i + 1))
        case measure => omega
        case rel => exact ⟨i + 1, by go_num, by omega, rfl, HA2.out, rfl⟩
    · obtain rfl : i = n := by omega
      have hf : firstI (pW W) l = -1 := first_miss (fun j y hy => hA.out j y (by
        have h1 := (List.getElem?_eq_some_iff.1 hy).1
        have := HN.out
        omega) hy)
      rw [HK.out] at hf
      subst hf
      go_wp2
      go_ret
      exact ⟨rfl, rfl⟩

set_option maxHeartbeats 1000000 in
set_option maxRecDepth 100000 in
theorem up_calls (w : World) (s : ByteArray) (hs : s.size ≤ 140737488355328) : Calls Tryd.prog 22 #[.string s] w fun e w' => e = .returned (.string ⟨(LexM.caps (bs s)).toArray⟩) ∧ Below w.heap.size w w' := by
  have hcv := fun wx => Lib.run_convert_string_bytes (P := Tryd.prog) wx 9 61 5 s Tryd.underlying9 Tryd.underlying61 Tryd.underlying5
  have hlen := bs_length s
  have HLEN := Lib.hid hlen
  clear hlen
  go_enter Tryd.func22, Tryd.ntmps22
  go_wp2
  obtain ⟨rest, hrest⟩ : ∃ rest, rest = List.replicate (grownCap w s.size 0 5 - s.size) (Value.int .u8 0) := ⟨_, rfl⟩
  obtain ⟨c, hc⟩ : ∃ c, (Lib.bytesCells w 5 s).size = c := ⟨_, rfl⟩
  have hcells : (Lib.bytesCells w 5 s).toList = capRow (bs s) 0 rest := by
    unfold Lib.bytesCells capRow
    rw [hrest]
    simp [LexM.caps, bs]
  have hcs : s.size ≤ c := by
    rw [← hc, ← Array.length_toList, hcells, capRow_length, HLEN.out]
    omega
  have hnew := Lib.bytesWorld_at_new w 5 s
  rw [hc, show Lib.bytesCells w 5 s = (capRow (bs s) 0 rest).toArray from by rw [← hcells]] at hnew
  have hbel : Below w.heap.size w (Lib.bytesWorld w 5 s) := ⟨rfl, rfl, rfl, by rw [Lib.bytesWorld_size]; omega, fun k hk => Lib.bytesWorld_at_old w 5 s k hk⟩
  have HNEW := Lib.hid hnew
  have HBEL := Lib.hid hbel
  clear hrest hc hcells hnew hbel hcv
  go_loopg [10] s.size (fun q u wr => ∃ i : Nat, u = .int .i64 i ∧ i ≤ s.size ∧ q = s.size - i ∧ Aside (wr.heap[w.heap.size]? = some (.cells (capRow (bs s) i rest).toArray 5 (c, c + 1))) ∧ Aside (Below w.heap.size w wr))
  case atStart => exact ⟨0, rfl, by omega, rfl, HNEW.out, HBEL.out⟩
  case round =>
    obtain ⟨i, rfl, hi, rfl, ho, hB⟩ := hrel
    have hlo := blk_lt ho.out
    by_cases hlt : i < s.size
    · have hl := HLEN.out
      have hltz : decide ((i : Int) < (s.size : Int)) = true := by simp; omega
      have hg := capRow_get (l := bs s) (i := i) rest (by omega)
      have hset := capRow_set (l := bs s) (i := i) rest (by omega)
      obtain ⟨b, hb⟩ : ∃ b, (bs s)[i]'(by omega) = b := ⟨_, rfl⟩
      rw [hb] at hg hset
      have hcell : wr.cell? ⟨w.heap.size, i, none⟩ = some (byV b) := by rw [blk_cell ho.out]; simpa using hg
      have hfr := frozen_end ho.out (i := i) (by omega)
      have hct := cap_toNat b
      have hbt := b.toNat_lt
      have HSET := Lib.hid hset
      clear hset hg hb hl
      unfold byV at hcell
      by_cases h : 97 ≤ b.toNat ∧ b.toNat ≤ 122
      · rw [if_pos h] at hct
        have hw : IntKind.u8.wrap ((b.toNat : Int) - 32) = (b.toNat : Int) - 32 := by rw [IntKind.wrap_u8']; omega
        have h1 : decide ((97 : Int) ≤ b.toNat) = true := by simp; omega
        have h2 : decide ((b.toNat : Int) ≤ 122) = true := by simp; omega
        have hcv2 : Value.int .u8 ((b.toNat : Int) - 32) = byV (LexM.cap b) := by
          unfold byV
          rw [hct]
          congr 1
          omega
        have HCV := Lib.hid hcv2
        clear hct hcv2
        go_wp2
        go_roundg (s.size - (i + 1))
        case measure => omega
        case rel =>
          have HB := hB.out
          refine ⟨i + 1, by go_num, by omega, rfl, ?_, HB.setCell (by simp) _⟩
          show (wr.setCell _ _).heap[w.heap.size]? = _
          rw [HCV.out, blk_set ho.out, List.setIfInBounds_toArray, HSET.out]
      · rw [if_neg h] at hct
        have hcb : LexM.cap b = b := UInt8.toNat_inj.1 hct
        have hset2 : (capRow (bs s) i rest) = capRow (bs s) (i + 1) rest := by
          rw [← HSET.out, hcb]
          have hlt2 : i < (capRow (bs s) i rest).length := by rw [capRow_length, HLEN.out]; omega
          have hgg := hcell
          rw [blk_cell ho.out, List.getElem?_toArray] at hgg
          exact (List.ext_getElem? fun j => by
            by_cases e : i = j
            · subst e
              rw [List.getElem?_set_self hlt2, hgg]
            · rw [List.getElem?_set_ne e])
        have HS2 := Lib.hid hset2
        clear hct hcb hset2
        by_cases h97 : 97 ≤ b.toNat
        · have h1 : decide ((97 : Int) ≤ b.toNat) = true := by simp; omega
          have h2 : decide ((b.toNat : Int) ≤ 122) = false := by simp; omega
          clear h h97
          go_wp2
          go_roundg (s.size - (i + 1))
          case measure => omega
          case rel => exact ⟨i + 1, by go_num, by omega, rfl, by rw [← HS2.out]; exact ho.out, hB.out⟩
        · have h1 : decide ((97 : Int) ≤ b.toNat) = false := by simp; omega
          clear h h97
          go_wp2
          go_roundg (s.size - (i + 1))
          case measure => omega
          case rel => exact ⟨i + 1, by go_num, by omega, rfl, by rw [← HS2.out]; exact ho.out, hB.out⟩
    · obtain rfl : i = s.size := by omega
      have hcb := run_convert_bytes_arg (P := Tryd.prog) wr 61 5 Tryd.underlying61 Tryd.underlying5 w.heap.size 0 s.size (grownCap w s.size 0 5) ((LexM.caps (bs s)).map fun b => (b.toNat : Int)) (by simp [LexM.caps_length]) (fun j hj => by
        have hl := HLEN.out
        rw [Nat.zero_add, blk_cell ho.out]
        have e : capRow (bs s) s.size rest = (LexM.caps (bs s)).map byV ++ rest := by
          unfold capRow
          rw [List.take_of_length_le (by omega), List.drop_of_length_le (by omega), List.append_nil]
        have hj' : j < (LexM.caps (bs s)).length := by rw [LexM.caps_length]; omega
        rw [e, List.getElem?_toArray, List.getElem?_append_left (by simpa using hj'), List.getElem?_map, List.getElem?_eq_getElem hj']
        simp [List.getD, hj']) 9 Tryd.underlying9
      have hst : strOfNums ((LexM.caps (bs s)).map fun b => (b.toNat : Int)) = ⟨(LexM.caps (bs s)).toArray⟩ := by
        apply ByteArray.ext
        apply Array.toList_inj.1
        rw [strOfNums_data, List.map_map]
        simp [Function.comp_def]
      rw [hst] at hcb
      go_wp2
      go_ret
      exact ⟨rfl, hB.out⟩

end Go.Proofs.YtpnfcgmogjpliaaDoor
