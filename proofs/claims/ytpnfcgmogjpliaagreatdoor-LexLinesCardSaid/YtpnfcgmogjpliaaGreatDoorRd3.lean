/- The document's reader: the methods that add a token. -/
import Derived.Test.YtpnfcgmogjpliaaGreatDoorRd2
import Derived.Test.YtpnfcgmogjpliaaGreatDoorSc12
import Derived.Deep.AppendLies
namespace Go.Proofs.YtpnfcgmogjpliaaGreatDoor
open Go.RowKit
attribute [local go_sem ↓] Go.wp_at_zero Go.wp_at_succ

/-- The reader: its block, and the row of its tokens, which lies at ob or beyond. -/
def RdSt (w : World) (g : Nat) (s : ByteArray) (k : Nat) (ln : Bool) (wrong : Int) (ob : Nat) (out : List LexM.Tk) : Prop :=
  ∃ v, RdB w g s k ln wrong v ∧ w.ownsRow ob 49 3 v out.length (tkCells out)

theorem row_ne {w : World} {base e size n : Nat} {v : Value} {xs : List Value} (h : w.ownsRow base e size v n xs) {g : Nat} (hg : g < base) : v.ownBlock ≠ some g := by
  rcases h.2 with ⟨rfl, _⟩ | ⟨b, cap, cur, rfl, hb, _⟩
  · simp [Value.ownBlock]
  · simp only [Value.ownBlock, ne_eq, Option.some.injEq]
    omega

theorem row_far {w : World} {base e size n : Nat} {v : Value} {xs : List Value} (h : w.ownsRow base e size v n xs) {g j : Nat} {u : Value} (hg : g < base) : (w.setCell ⟨g, j, none⟩ u).ownsRow base e size v n xs := by
  refine ⟨h.1, ?_⟩
  rcases h.2 with hn | ⟨b, cap, cur, rfl, hb, hgg, rest⟩
  · exact .inl hn
  · exact .inr ⟨b, cap, cur, rfl, hb, blk_far hgg (by simp; omega) _, rest⟩

set_option maxHeartbeats 2000000 in
set_option maxRecDepth 100000 in
theorem rput_calls (w : World) (g : Nat) (s : ByteArray) (k : Nat) (ln : Bool) (wrong : Int) (ob : Nat) (out : List LexM.Tk) (h : RdSt w g s k ln wrong ob out) (hs : s.size ≤ 20000) (hk : k ≤ s.size) (hg : g < ob) (hob : ob ≤ w.heap.size) (hlen : out.length ≤ 50000)
    (kind : Nat) (x : ByteArray) (n : Nat) (hn : k + n ≤ s.size) :
    Calls Tryz.prog 67 #[.pointer (some ⟨g, 0, none⟩), .int .i64 kind, .string x, .int .i64 n] w fun e w' => e = .returned (.tuple #[]) ∧ RdSt w' g s (k + n) true wrong ob (out ++ [⟨kind, k, bs x⟩]) ∧ Below g w w' := by
  obtain ⟨v, h, hrow⟩ := h
  obtain ⟨c0, c1, c2, c3, c4⟩ := rd_cells h
  have f1 := blk_frozen h 1
  have f2 := blk_frozen h 2
  have f4 := blk_frozen h 4
  have hne := row_ne hrow hg
  have hz := blk_lt h
  obtain ⟨i0, hi, hz0, hz1, hz2⟩ := info_parts info_token
  have H := Lib.hid h
  have HROW := Lib.hid hrow
  have hff : ∀ o, (w.alloc o).drew.cell? ⟨g, 4, none⟩ = some v ∧ (w.alloc o).drew.cell? ⟨g, 1, none⟩ = some (.int .i64 k) ∧ (w.alloc o).drew.frozen? ⟨g, 4, none⟩ = false := fun o =>
    ⟨(blk_cell (w := (w.alloc o).drew) (blk_alloc h o) 4).trans rfl, (blk_cell (w := (w.alloc o).drew) (blk_alloc h o) 1).trans rfl, blk_frozen (w := (w.alloc o).drew) (blk_alloc h o) 4⟩
  have FF := Lib.hid hff
  clear h hrow hff
  have hgn : w.heap.size ≠ g := by omega
  go_enter Tryz.func67, Tryz.ntmps67
  go_wp2
  go_region_law
    ((refine step_append_lies _ (by rfl) _ _ _ (by rfl) ob 49 i0 _ 3 32 Tryz.underlying23 hi hz0 hz1 hz2 rfl (by omega) v out.length (tkCells out) (by rfl) ((HROW.out.alloc _).drew)
        ⟨w.heap.size, 0, none⟩ 1 1 [.int .i64 kind, .int .i64 k, .string x] (by rfl) (by rfl) (World.news_of_block (cs := #[.int .i64 kind, .int .i64 k, .string x]) (t := 49) (fr := (0, 0)) (heap_alloc_new w _)) (by simp [Value.oneCell'])
        (by omega) (by simp only [maxLen]; omega) (by omega) (by simp; omega) (w.heap.size + 1) (by simp) ?_; intro gg cap w1 hown1 hgrow hat hlt; have hb1 : RdB w1 g s k ln wrong v := (hgrow.block g (by simp; omega) (Ne.symm hne)).trans (blk_alloc H.out _); obtain ⟨d0, d1, d2, d3, d4⟩ := rd_cells hb1; have e1 := blk_frozen hb1 1; have e2 := blk_frozen hb1 2; have e4 := blk_frozen hb1 4))
  go_wp2
  all_goals
    go_end0
    have hr2 : w1.heap[g]? = _ := hb1
    refine ⟨rfl, ⟨.slice (some ⟨gg, 0, none⟩) (out.length + 1) cap, (((hb1.setOut _).setAt (by omega)).setLine true), ?_⟩, ?_⟩
    · rw [tkCells_snoc, List.length_append]
      exact row_far (row_far (row_far hown1 hg) hg) hg
    · have hsz := hgrow.size
      simp only [World.size_alloc, World.drew] at hsz
      have hw1 : Below g w w1 := ⟨hgrow.os, hgrow.tape, hgrow.output, by omega, fun j hj => (hgrow.block j (by simp; omega) (Ne.symm (row_ne HROW.out (by omega)))).trans (Below.heap_alloc w _ j (by omega))⟩
      exact ((hw1.setCell (Nat.le_refl _) _).setCell (Nat.le_refl _) _).setCell (Nat.le_refl _) _

end Go.Proofs.YtpnfcgmogjpliaaGreatDoor
