/- The table of classes is what the model says. -/
import Derived.Test.YtpnfcgmogjpliaaGreatDoorSc12
import Derived.Deep.WholeRow
import Derived.Great.BuildSlice
namespace Go.Proofs.YtpnfcgmogjpliaaGreatDoor
open Go.RowKit
attribute [local go_sem ↓] Go.wp_at_zero Go.wp_at_succ

/-- The table when i bytes have their class. -/
def partA (i : Nat) : List Value := ((List.range i).map fun j => Value.int .u8 (classOf (UInt8.ofNat j))) ++ List.replicate (256 - i) (Value.int .u8 0)
theorem partA_length {i : Nat} (h : i ≤ 256) : (partA i).length = 256 := by
  simp [partA]
  omega
theorem partA_set {i : Nat} (h : i < 256) : (partA i).set i (.int .u8 (classOf (UInt8.ofNat i))) = partA (i + 1) := by
  unfold partA
  rw [List.set_append_right _ _ (by simp), List.length_map, List.length_range, Nat.sub_self, show 256 - i = (256 - (i + 1)) + 1 from by omega, List.replicate_succ, List.set_cons_zero, List.range_succ, List.map_append, List.append_assoc]
  rfl
theorem partA_keep {i : Nat} (h : i < 256) (h0 : classOf (UInt8.ofNat i) = 0) : partA i = partA (i + 1) := by
  rw [← partA_set h, h0]
  unfold partA
  rw [List.set_append_right _ _ (by simp), List.length_map, List.length_range, Nat.sub_self, show 256 - i = (256 - (i + 1)) + 1 from by omega, List.replicate_succ, List.set_cons_zero]
  rfl
theorem partA_all : partA 256 = clsA := by simp [partA, clsA]

set_option maxRecDepth 100000 in
theorem cls3 : ∀ i, i < 256 → i = 9 ∨ i = 32 → classOf (UInt8.ofNat i) = 3 := by decide
set_option maxRecDepth 100000 in
theorem cls1 : ∀ i, i < 256 → i = 95 ∨ (97 ≤ i ∧ i ≤ 122) ∨ (65 ≤ i ∧ i ≤ 90) → classOf (UInt8.ofNat i) = 1 := by decide
set_option maxRecDepth 100000 in
theorem cls2 : ∀ i, i < 256 → (48 ≤ i ∧ i ≤ 57) → classOf (UInt8.ofNat i) = 2 := by decide
set_option maxRecDepth 100000 in
theorem cls4 : ∀ i, i < 256 → ¬ i = 9 → ¬ i = 10 → i < 32 ∨ 126 < i → classOf (UInt8.ofNat i) = 4 := by decide
set_option maxRecDepth 100000 in
theorem cls0' : ∀ i, i < 256 → ((i = 9 ∨ i = 32) ∨ (i = 95 ∨ (97 ≤ i ∧ i ≤ 122) ∨ (65 ≤ i ∧ i ≤ 90)) ∨ (48 ≤ i ∧ i ≤ 57) ∨ (i ≠ 10 ∧ (i < 32 ∨ 126 < i))) ∨ classOf (UInt8.ofNat i) = 0 := by decide
theorem cls0 (i : Nat) (h : i < 256) (h1 : ¬ ((i = 9 ∨ i = 32) ∨ (i = 95 ∨ (97 ≤ i ∧ i ≤ 122) ∨ (65 ≤ i ∧ i ≤ 90)) ∨ (48 ≤ i ∧ i ≤ 57) ∨ (i ≠ 10 ∧ (i < 32 ∨ 126 < i)))) : classOf (UInt8.ofNat i) = 0 :=
  (cls0' i h).resolve_left h1

theorem idxA (o i : Nat) (hi : i < 256) (w : World) : (Instr.indexAt 43 (.pointer (some ⟨o, 0, none⟩)) (.int .i64 (i : Int))).run Tryz.prog w = .ok (.pointer (some ⟨o, i, none⟩)) w := by
  have ha : Tryz.prog.arrayLen 43 = 256 := by kernel_rfl
  have he : Tryz.prog.elem 43 = 5 := by kernel_rfl
  rw [run_indexAt_array w 43 ⟨o, 0, none⟩ .i64 i (by kernel_rfl), ha, he, if_pos ⟨by omega, by omega⟩]
  have hs : (sizeOf 5).run Tryz.prog w = .ok 1 w := by kernel_rfl
  rw [hs]
  have e : (⟨o, 0, none⟩ : Addr).add i = ⟨o, i, none⟩ := by
    unfold Addr.add
    split <;> simp_all
  simp [Result.andThen, e]

theorem part_store {w : World} {o i : Nat} {v : Int} (h : w.heap[o]? = some (.cells (partA i).toArray 43 (0, 0))) (hi : i < 256) (hv : classOf (UInt8.ofNat i) = v) :
    (w.setCell ⟨o, i, none⟩ (.int .u8 v)).heap[o]? = some (.cells (partA (i + 1)).toArray 43 (0, 0)) := by
  rw [blk_set h, List.setIfInBounds_toArray, ← hv, partA_set hi]
theorem cls_cases (i : Nat) (h : i < 256) : i = 9 ∨ i = 32 ∨ i = 95 ∨ (97 ≤ i ∧ i ≤ 122) ∨ (65 ≤ i ∧ i ≤ 90) ∨ (48 ≤ i ∧ i ≤ 57) ∨ (i < 9 ∨ (11 ≤ i ∧ i ≤ 31)) ∨ 127 ≤ i ∨ i = 10 ∨ (33 ≤ i ∧ i ≤ 47) ∨ (58 ≤ i ∧ i ≤ 64) ∨ (91 ≤ i ∧ i ≤ 94) ∨ i = 96 ∨ (123 ≤ i ∧ i ≤ 126) := by omega
theorem info_classes : (Tryz.prog.info? 43).map (·.size) = some 256 := by kernel_rfl

set_option maxHeartbeats 4000000 in
set_option maxRecDepth 100000 in
theorem classes_calls (w : World) : Calls Tryz.prog 22 #[] w fun e w' => e = .returned (.agg clsA.toArray) ∧ Below w.heap.size w w' := by
  go_enter Tryz.func22, Tryz.ntmps22
  go_wp2
  go_loopg [4] 256 (fun q u wr => ∃ i : Nat, u = .int .i64 i ∧ i ≤ 256 ∧ q = 256 - i ∧ Aside (wr.heap[w.heap.size]? = some (.cells (partA 0).toArray 43 (0, 0))) ∧ Aside (wr.heap[w.heap.size + 1]? = some (.cells (partA i).toArray 43 (0, 0)))
    ∧ Aside (Below w.heap.size w wr))
  case atStart => 
    have hz : (partA 0).toArray = Tryz.zeroCells43 := by kernel_rfl
    have h2 := blk_new (w.alloc (.cells Tryz.zeroCells43 43)) Tryz.zeroCells43 43
    rw [World.size_alloc] at h2
    exact ⟨0, rfl, by omega, rfl, by rw [hz]; exact blk_alloc (blk_new w _ _) _, by rw [hz]; exact h2, ((Below.refl _ w).alloc (Nat.le_refl _) _).alloc (by simp) _⟩
  case round =>
    obtain ⟨i, rfl, hi, rfl, hr0, ho, hB⟩ := hrel
    have hlo := blk_lt ho.out
    by_cases h256 : i = 256
    · have hlt : decide ((i : Int) < 256) = false := by simp; omega
      have hcl : (partA i).toArray = clsA.toArray := by rw [h256, partA_all]
      have hsz : clsA.toArray.size = 256 := by simp [clsA_length]
      have ho' := ho.out
      rw [hcl] at ho'
      have hin : (Tryz.prog.info? 43).map (·.size) = some clsA.toArray.size := by rw [hsz]; exact info_classes
      have hsp : (partA 0).toArray.size = clsA.toArray.size := by rw [hsz]; simp [partA_length]
      have hone : clsA.toArray.all (·.oneCell') = true := by simp [clsA, Value.oneCell']
      clear h256 hcl
      go_wp2_with (first
        | refine wpList_load_row rfl 43 (.tmp 1) rfl (w.heap.size + 1) rfl 43 clsA.toArray (0, 0) (.array 256 5) ho' Tryz.underlying43 rfl hin ?_
        | refine wpList_store_rowTo rfl 43 (.tmp 0) (.tmp 62) rfl rfl w.heap.size clsA.toArray rfl rfl 43 _ hr0.out hin hsp hone ?_)
      refine bodyPost_ret (v := .agg clsA.toArray) (results_cell_row rfl _ _ w.heap.size 43 clsA.toArray (0, 0) (.array 256 5) rfl ?_ Tryz.underlying43 rfl hin) rfl ⟨rfl, ?_⟩
      · simp [World.setRow, Array.getElem?_modify, hr0.out]
      · have HB := hB.out
        exact ⟨HB.os, HB.tape, HB.output, by simpa [World.setRow] using HB.size, fun k hk => by
          rw [← HB.block k hk]
          simp only [World.setRow, Array.getElem?_modify]
          rw [if_neg (by omega)]⟩
    · have hlt : decide ((i : Int) < 256) = true := by simp; omega
      have hi' : i < 256 := by omega
      have hc : ∃ v, wr.cell? ⟨w.heap.size + 1, i, none⟩ = some v := ⟨(partA i)[i]'(by rw [partA_length (by omega)]; omega), by rw [blk_cell ho.out]; simp⟩
      obtain ⟨v0, hc⟩ := hc
      have hf := blk_frozen ho.out i
      have hw : IntKind.u8.wrap (i : Int) = i := by rw [IntKind.wrap_u8']; omega
      have hw1 : IntKind.i64.wrap ((i : Int) + 1) = (i : Int) + 1 := wrap_small _ (by omega) (by omega)
      have hcs := cls_cases i hi'
      have hix := idxA (w.heap.size + 1) i hi'
      have HC := Lib.hid hcs
      clear h256 hi hcs
      rcases HC.out with hA | hA | hA | hA | hA | hA | hA | hA | hA | hA | hA | hA | hA | hA
      all_goals (
        first | have hcl := Lib.hid (cls3 i hi' (by omega)) | have hcl := Lib.hid (cls1 i hi' (by omega)) | have hcl := Lib.hid (cls2 i hi' (by omega)) | have hcl := Lib.hid (cls4 i hi' (by omega) (by omega) (by omega)) | have hcl := Lib.hid (cls0 i hi' (by omega))
        first | have t1 : ((i : Int) == 9) = true := by (rw [beq_iff_eq]; omega) | have t1 : ((i : Int) == 9) = false := by (rw [beq_eq_false_iff_ne]; omega)
        first | have t2 : ((i : Int) == 32) = true := by (rw [beq_iff_eq]; omega) | have t2 : ((i : Int) == 32) = false := by (rw [beq_eq_false_iff_ne]; omega)
        first | have t3 : ((i : Int) == 95) = true := by (rw [beq_iff_eq]; omega) | have t3 : ((i : Int) == 95) = false := by (rw [beq_eq_false_iff_ne]; omega)
        first | have t4 : decide (97 ≤ (i : Int)) = true := by (rw [decide_eq_true_iff]; omega) | have t4 : decide (97 ≤ (i : Int)) = false := by (rw [decide_eq_false_iff_not]; omega)
        first | have t5 : decide ((i : Int) ≤ 122) = true := by (rw [decide_eq_true_iff]; omega) | have t5 : decide ((i : Int) ≤ 122) = false := by (rw [decide_eq_false_iff_not]; omega)
        first | have t6 : decide (65 ≤ (i : Int)) = true := by (rw [decide_eq_true_iff]; omega) | have t6 : decide (65 ≤ (i : Int)) = false := by (rw [decide_eq_false_iff_not]; omega)
        first | have t7 : decide ((i : Int) ≤ 90) = true := by (rw [decide_eq_true_iff]; omega) | have t7 : decide ((i : Int) ≤ 90) = false := by (rw [decide_eq_false_iff_not]; omega)
        first | have t8 : decide (48 ≤ (i : Int)) = true := by (rw [decide_eq_true_iff]; omega) | have t8 : decide (48 ≤ (i : Int)) = false := by (rw [decide_eq_false_iff_not]; omega)
        first | have t9 : decide ((i : Int) ≤ 57) = true := by (rw [decide_eq_true_iff]; omega) | have t9 : decide ((i : Int) ≤ 57) = false := by (rw [decide_eq_false_iff_not]; omega)
        first | have t10 : ((i : Int) != 10) = true := by (simp [bne]; omega) | have t10 : ((i : Int) != 10) = false := by (simp [bne]; omega)
        first | have t11 : decide ((i : Int) < 32) = true := by (rw [decide_eq_true_iff]; omega) | have t11 : decide ((i : Int) < 32) = false := by (rw [decide_eq_false_iff_not]; omega)
        first | have t12 : decide (126 < (i : Int)) = true := by (rw [decide_eq_true_iff]; omega) | have t12 : decide (126 < (i : Int)) = false := by (rw [decide_eq_false_iff_not]; omega)
        clear hA
        go_wp2
        go_roundg (256 - (i + 1))
        case measure => omega
        case rel =>
          have HO := ho.out
          have HB := hB.out
          first
          | exact ⟨i + 1, by simp, by omega, rfl, blk_far hr0.out (by simp) _, part_store HO hi' (by rw [hcl.out]; rfl), HB.setCell (by simp) _⟩
          | exact ⟨i + 1, by simp, by omega, rfl, hr0.out, by rw [← partA_keep hi' hcl.out]; exact HO, HB⟩)

end Go.Proofs.YtpnfcgmogjpliaaGreatDoor
