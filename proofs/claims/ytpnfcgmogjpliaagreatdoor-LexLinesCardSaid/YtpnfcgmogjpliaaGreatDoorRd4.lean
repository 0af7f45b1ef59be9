/- The document's reader: ends. -/
import Derived.Test.YtpnfcgmogjpliaaGreatDoorRd3
namespace Go.Proofs.YtpnfcgmogjpliaaGreatDoor
open Go.RowKit
attribute [local go_sem ↓] Go.wp_at_zero Go.wp_at_succ

set_option maxRecDepth 100000 in
theorem rends_no (w : World) (g : Nat) (s : ByteArray) (k : Nat) (wrong : Int) (ob : Nat) (out : List LexM.Tk) (h : RdSt w g s k false wrong ob out) (hg : g < ob) :
    Calls Tryz.prog 26 #[.pointer (some ⟨g, 0, none⟩)] w fun e w' => e = .returned (.tuple #[]) ∧ RdSt w' g s k false wrong ob out ∧ Below g w w' := by
  obtain ⟨v, h, hrow⟩ := h
  obtain ⟨c0, c1, c2, c3, c4⟩ := rd_cells h
  have f2 := blk_frozen h 2
  have H := Lib.hid h
  have HROW := Lib.hid hrow
  clear h hrow
  go_enter Tryz.func26, Tryz.ntmps26
  go_wp2
  go_end0
  exact ⟨rfl, ⟨v, H.out.setLine _, row_far HROW.out hg⟩, (Below.refl g w).setCell (p := ⟨g, 2, none⟩) (Nat.le_refl g) _⟩

set_option maxHeartbeats 2000000 in
set_option maxRecDepth 100000 in
theorem rends_yes (w : World) (g : Nat) (s : ByteArray) (k : Nat) (wrong : Int) (ob : Nat) (out : List LexM.Tk) (h : RdSt w g s k true wrong ob out) (_hs : s.size ≤ 20000) (_hk : k ≤ s.size) (hg : g < ob) (hob : ob ≤ w.heap.size) (hlen : out.length ≤ 50000) :
    Calls Tryz.prog 26 #[.pointer (some ⟨g, 0, none⟩)] w fun e w' => e = .returned (.tuple #[]) ∧ RdSt w' g s k false wrong ob (out ++ [⟨5, k, []⟩]) ∧ Below g w w' := by
  obtain ⟨v, h, hrow⟩ := h
  obtain ⟨c0, c1, c2, c3, c4⟩ := rd_cells h
  have f2 := blk_frozen h 2
  have f4 := blk_frozen h 4
  have hne := row_ne hrow hg
  have hz := blk_lt h
  obtain ⟨i0, hi, hz0, hz1, hz2⟩ := info_parts info_token
  have H := Lib.hid h
  have HROW := Lib.hid hrow
  clear h hrow
  have hgn : w.heap.size ≠ g := by omega
  go_enter Tryz.func26, Tryz.ntmps26
  go_wp2
  go_region_law
    ((refine step_append_lies _ (by rfl) _ _ _ (by rfl) ob 49 i0 _ 3 32 Tryz.underlying23 hi hz0 hz1 hz2 rfl (by omega) v out.length (tkCells out) (by rfl) ((HROW.out.alloc _).drew)
        ⟨w.heap.size, 0, none⟩ 1 1 [.int .i64 5, .int .i64 k, .string ⟨#[]⟩] (by rfl) (by rfl) (World.news_of_block (cs := #[.int .i64 5, .int .i64 k, .string ⟨#[]⟩]) (t := 49) (fr := (0, 0)) (heap_alloc_new w _)) (by simp [Value.oneCell'])
        (by omega) (by simp only [maxLen]; omega) (by omega) (by simp; omega) (w.heap.size + 1) (by simp) ?_; intro gg cap w1 hown1 hgrow hat hlt; have hb1 : RdB w1 g s k true wrong v := (hgrow.block g (by simp; omega) (Ne.symm hne)).trans (blk_alloc H.out _); obtain ⟨d0, d1, d2, d3, d4⟩ := rd_cells hb1; have e1 := blk_frozen hb1 1; have e2 := blk_frozen hb1 2; have e4 := blk_frozen hb1 4))
  go_wp2
  all_goals
    go_end0
    refine ⟨rfl, ⟨.slice (some ⟨gg, 0, none⟩) (out.length + 1) cap, ((hb1.setOut _).setLine false), ?_⟩, ?_⟩
    · rw [tkCells_snoc, List.length_append]
      exact row_far (row_far hown1 hg) hg
    · have hsz := hgrow.size
      simp only [World.size_alloc, World.drew] at hsz
      have hw1 : Below g w w1 := ⟨hgrow.os, hgrow.tape, hgrow.output, by omega, fun j hj => (hgrow.block j (by simp; omega) (Ne.symm (row_ne HROW.out (by omega)))).trans (Below.heap_alloc w _ j (by omega))⟩
      exact (hw1.setCell (Nat.le_refl _) _).setCell (Nat.le_refl _) _

end Go.Proofs.YtpnfcgmogjpliaaGreatDoor
