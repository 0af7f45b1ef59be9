/- The document's Capitals, signs and signAt. -/
import Derived.Test.YtpnfcgmogjpliaaGreatDoorRByt
import Derived.Lib.ConvBytes
import Derived.Laws.BytesArg
namespace Go.Proofs.YtpnfcgmogjpliaaGreatDoor
open Go.RowKit
attribute [local go_sem ↓] Go.wp_at_zero Go.wp_at_succ

/-- The row of bytes when i of them are capitals. -/
def capRow (l : List UInt8) (i : Nat) (rest : List Value) : List Value := (LexM.caps (l.take i) ++ l.drop i).map byV ++ rest
theorem capRow_get {l : List UInt8} {i : Nat} (rest : List Value) (hi : i < l.length) : (capRow l i rest)[i]? = some (byV l[i]) := by
  have h1 : i < (LexM.caps (l.take i) ++ l.drop i).length := by simp [LexM.caps_length]; omega
  unfold capRow
  rw [List.getElem?_append_left (by simpa using h1), List.getElem?_map, List.getElem?_append_right (by simp [LexM.caps_length, Nat.min_le_left]), LexM.caps_length, List.length_take, Nat.min_eq_left (by omega), Nat.sub_self, List.getElem?_drop, Nat.add_zero, List.getElem?_eq_getElem hi]
  rfl
theorem capRow_set {l : List UInt8} {i : Nat} (rest : List Value) (hi : i < l.length) : (capRow l i rest).set i (byV (LexM.cap l[i])) = capRow l (i + 1) rest := by
  have e1 : l.drop i = l[i] :: l.drop (i + 1) := List.drop_eq_getElem_cons hi
  have e2 : l.take (i + 1) = l.take i ++ [l[i]] := by rw [List.take_succ_eq_append_getElem hi]
  unfold capRow
  rw [e1, e2]
  simp only [LexM.caps, List.map_append, List.map_cons, List.map_nil, List.append_assoc, List.cons_append, List.nil_append, List.map_map]
  rw [List.set_append_right _ _ (by simp; omega)]
  simp [Nat.min_eq_left (Nat.le_of_lt hi)]
theorem capRow_length (l : List UInt8) (i : Nat) (rest : List Value) : (capRow l i rest).length = l.length + rest.length := by
  simp [capRow, LexM.caps_length]
  omega

theorem frozen_end {w : World} {g c i : Nat} {t : TypeId} {cs : Array Value} (h : w.heap[g]? = some (.cells cs t (c, c + 1))) (hi : i < c) : w.frozen? ⟨g, i, none⟩ = false := by
  simp [World.frozen?, h]
  omega

set_option maxHeartbeats 1000000 in
set_option maxRecDepth 100000 in
theorem capitals_calls (w : World) (s : ByteArray) (hs : s.size ≤ 140737488355328) : Calls Tryz.prog 68 #[.string s] w fun e w' => e = .returned (.string ⟨(LexM.caps (bs s)).toArray⟩) ∧ Below w.heap.size w w' := by
  have hcv := fun wx => Lib.run_convert_string_bytes (P := Tryz.prog) wx 9 70 5 s Tryz.underlying9 Tryz.underlying70 Tryz.underlying5
  have hlen := bs_length s
  have HLEN := Lib.hid hlen
  clear hlen
  go_enter Tryz.func68, Tryz.ntmps68
  go_wp2
  obtain ⟨rest, hrest⟩ : ∃ rest, rest = List.replicate (grownCap w s.size 0 5 - s.size) (Value.int .u8 0) := ⟨_, rfl⟩
  obtain ⟨c, hc⟩ : ∃ c, (Lib.bytesCells w 5 s).size = c := ⟨_, rfl⟩
  have hcells : (Lib.bytesCells w 5 s).toList = capRow (bs s) 0 rest := by
    unfold Lib.bytesCells capRow
    rw [hrest]
    simp [LexM.caps, bs]
  have hcs : s.size ≤ c := by
    rw [← hc, ← Array.length_toList, hcells, capRow_length, HLEN.out]
    omega
  have hnew := Lib.bytesWorld_at_new w 5 s
  rw [hc, show Lib.bytesCells w 5 s = (capRow (bs s) 0 rest).toArray from by rw [← hcells]] at hnew
  have hbel : Below w.heap.size w (Lib.bytesWorld w 5 s) := ⟨rfl, rfl, rfl, by rw [Lib.bytesWorld_size]; omega, fun k hk => Lib.bytesWorld_at_old w 5 s k hk⟩
  have HNEW := Lib.hid hnew
  have HBEL := Lib.hid hbel
  clear hrest hc hcells hnew hbel hcv
  go_loopg [4] s.size (fun q u wr => ∃ i : Nat, u = .int .i64 i ∧ i ≤ s.size ∧ q = s.size - i ∧ Aside (wr.heap[w.heap.size]? = some (.cells (capRow (bs s) i rest).toArray 5 (c, c + 1))) ∧ Aside (Below w.heap.size w wr))
  case atStart => exact ⟨0, rfl, by omega, rfl, HNEW.out, HBEL.out⟩
  case round =>
    obtain ⟨i, rfl, hi, rfl, ho, hB⟩ := hrel
    have hlo := blk_lt ho.out
    by_cases hlt : i < s.size
    · have hl := HLEN.out
      have hg := capRow_get (l := bs s) (i := i) rest (by omega)
      have hset := capRow_set (l := bs s) (i := i) rest (by omega)
      obtain ⟨b, hb⟩ : ∃ b, (bs s)[i]'(by omega) = b := ⟨_, rfl⟩
      rw [hb] at hg hset
      have hcell : wr.cell? ⟨w.heap.size, i, none⟩ = some (byV b) := by rw [blk_cell ho.out]; simpa using hg
      have hfr := frozen_end ho.out (i := i) (by omega)
      have hcall := fun wx => rCapital_calls wx b
      have HCL := Lib.hid hcall
      have HSET := Lib.hid hset
      clear hcall hset hg hb hl
      go_wp2_with (go_at_call 85; refine (HCL.out _).mono ?_; rintro e w' ⟨rfl, rfl⟩)
      go_roundg (s.size - (i + 1))
      case measure => omega
      case rel =>
        have HB := hB.out
        refine ⟨i + 1, by go_num, by omega, rfl, ?_, HB.setCell (by simp) _⟩
        show (wr.setCell _ _).heap[w.heap.size]? = _
        rw [blk_set ho.out, List.setIfInBounds_toArray, HSET.out]
    · obtain rfl : i = s.size := by omega
      have hcb := run_convert_bytes_arg (P := Tryz.prog) wr 70 5 Tryz.underlying70 Tryz.underlying5 w.heap.size 0 s.size (grownCap w s.size 0 5) ((LexM.caps (bs s)).map fun b => (b.toNat : Int)) (by simp [LexM.caps_length]) (fun j hj => by
        have hl := HLEN.out
        rw [Nat.zero_add, blk_cell ho.out]
        have e : capRow (bs s) s.size rest = (LexM.caps (bs s)).map byV ++ rest := by
          unfold capRow
          rw [List.take_of_length_le (by omega), List.drop_of_length_le (by omega), List.append_nil]
        have hj' : j < (LexM.caps (bs s)).length := by rw [LexM.caps_length]; omega
        rw [e, List.getElem?_toArray, List.getElem?_append_left (by simpa using hj'), List.getElem?_map, List.getElem?_eq_getElem hj']
        simp [List.getD, hj']) 9 Tryz.underlying9
      have hst : strOfNums ((LexM.caps (bs s)).map fun b => (b.toNat : Int)) = ⟨(LexM.caps (bs s)).toArray⟩ := by
        apply ByteArray.ext
        apply Array.toList_inj.1
        rw [strOfNums_data, List.map_map]
        simp [Function.comp_def]
      rw [hst] at hcb
      go_wp2
      go_ret
      exact ⟨rfl, hB.out⟩

end Go.Proofs.YtpnfcgmogjpliaaGreatDoor
