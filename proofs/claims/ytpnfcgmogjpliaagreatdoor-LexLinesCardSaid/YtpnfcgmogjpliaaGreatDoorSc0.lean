/- Words for the walks through the lexer: the scanner's block, what a call may change, and small facts. No condition. -/
import Derived.Test.YtpnfcgmogjpliaaGreatDoorProg
import Derived.Test.YtpnfcgmogjpliaaGreatDoorLexM
import Derived.WalkKit
import Derived.KernelRfl
import Derived.RowKit3
import Derived.Deep.QuietTactic
import Derived.BigQuiet
import Derived.WideLaws
import Derived.Deep.RegionHeld3
import Derived.WalkSpells
import Derived.RowKit
import Derived.Lib.Hide
import Derived.Deep.LoopGhost
import Derived.Deep.DeepFit
import Derived.Lib.Strings
import Derived.Lib.IndexBytes
namespace Go.Proofs.YtpnfcgmogjpliaaGreatDoor
open Go.RowKit

/-- What a call may change: the block g alone, and it may make new ones. -/
structure Ch (g : Nat) (w w' : World) : Prop where
  os : w'.os = w.os
  tape : w'.tape = w.tape
  output : w'.output = w.output
  size : w.heap.size ≤ w'.heap.size
  block : ∀ k, k < w.heap.size → k ≠ g → w'.heap[k]? = w.heap[k]?

theorem Ch.refl (g : Nat) (w : World) : Ch g w w := ⟨rfl, rfl, rfl, Nat.le_refl _, fun _ _ _ => rfl⟩
theorem Ch.trans {g : Nat} {a b c : World} (h : Ch g a b) (k : Ch g b c) : Ch g a c :=
  ⟨k.os.trans h.os, k.tape.trans h.tape, k.output.trans h.output, Nat.le_trans h.size k.size,
    fun i hi hg => (k.block i (Nat.lt_of_lt_of_le hi h.size) hg).trans (h.block i hi hg)⟩
theorem Ch.drew {g : Nat} {a w : World} (h : Ch g a w) : Ch g a w.drew := ⟨h.os, h.tape, h.output, h.size, h.block⟩
theorem Ch.drewN {g : Nat} {a w : World} (h : Ch g a w) (n : Nat) : Ch g a (w.drewN n) := ⟨h.os, h.tape, h.output, h.size, h.block⟩
theorem Ch.alloc {g : Nat} {a w : World} (h : Ch g a w) (o : Obj) : Ch g a (w.alloc o) :=
  ⟨h.os, h.tape, h.output, Nat.le_trans h.size (by simp), fun i hi hg => (Below.heap_alloc w o i (Nat.lt_of_lt_of_le hi h.size)).trans (h.block i hi hg)⟩
theorem Ch.set {g : Nat} {a w : World} (h : Ch g a w) (j : Nat) (u : Value) : Ch g a (w.setCell ⟨g, j, none⟩ u) :=
  ⟨h.os, h.tape, h.output, by simpa [World.setCell] using h.size, fun i hi hg => (Below.heap_setCell w ⟨g, j, none⟩ u i hg).trans (h.block i hi hg)⟩
/-- A store into a block that is new. -/
theorem Ch.setNew {g : Nat} {a w : World} (h : Ch g a w) {p : Addr} (hp : a.heap.size ≤ p.block) (u : Value) : Ch g a (w.setCell p u) :=
  ⟨h.os, h.tape, h.output, by simpa [World.setCell] using h.size, fun i hi hg => (Below.heap_setCell w p u i (by omega)).trans (h.block i hi hg)⟩
theorem Ch.below {g B : Nat} {w w' : World} (h : Ch g w w') (hg : B ≤ g) (hB : B ≤ w.heap.size) : Below B w w' :=
  ⟨h.os, h.tape, h.output, h.size, fun k hk => h.block k (by omega) (by omega)⟩
theorem Ch.of_below {g : Nat} {w w' : World} (h : Below w.heap.size w w') : Ch g w w' := ⟨h.os, h.tape, h.output, h.size, fun k hk _ => h.block k hk⟩
theorem Ch.belowN {g : Nat} {a w w' : World} (h : Ch g a w) (k : Below w.heap.size w w') : Ch g a w' := h.trans (Ch.of_below k)
theorem Ch.cell {g : Nat} {w w' : World} (h : Ch g w w') {p : Addr} (hp : p.block < w.heap.size) (hg : p.block ≠ g) : w'.cell? p = w.cell? p := World.cell?_of_block (h.block p.block hp hg)
theorem Ch.frozen {g : Nat} {w w' : World} (h : Ch g w w') {p : Addr} (hp : p.block < w.heap.size) (hg : p.block ≠ g) : w'.frozen? p = w.frozen? p := World.frozen?_of_block (h.block p.block hp hg)

/-! ### The scanner -/
def classOf (b : UInt8) : Nat := if LexM.isBlank b then 3 else if LexM.isLetter b then 1 else if LexM.isDigit b then 2 else if LexM.isWrong b then 4 else 0
def clsA : List Value := (List.range 256).map fun i => Value.int .u8 (classOf (UInt8.ofNat i))
def scCells (s : ByteArray) (k : Nat) (ln : Bool) (bad : Int) : List Value := Value.string s :: Value.int .i64 k :: (clsA ++ [Value.bool ln, Value.bool ln, Value.int .i64 bad])
/-- A scanner lies at block g: its source, its place, whether there is a token in the line, the place that is wrong. -/
def ScSt (w : World) (g : Nat) (s : ByteArray) (k : Nat) (ln : Bool) (bad : Int) : Prop :=
  w.heap[g]? = some (.cells (scCells s k ln bad).toArray 46 (0, 0))

theorem blk_cell {w : World} {g : Nat} {t : TypeId} {cs : Array Value} {f : Nat × Nat} (h : w.heap[g]? = some (.cells cs t f)) (i : Nat) : w.cell? ⟨g, i, none⟩ = cs[i]? := by simp [World.cell?, h]
theorem blk_frozen {w : World} {g : Nat} {t : TypeId} {cs : Array Value} (h : w.heap[g]? = some (.cells cs t (0, 0))) (i : Nat) : w.frozen? ⟨g, i, none⟩ = false := by simp [World.frozen?, h]
theorem blk_lt {w : World} {g : Nat} {o : Obj} (h : w.heap[g]? = some o) : g < w.heap.size := by
  by_cases hg : g < w.heap.size
  · exact hg
  · rw [Array.getElem?_eq_none (by omega)] at h
    cases h
theorem blk_set {w : World} {g : Nat} {t : TypeId} {cs : Array Value} {f : Nat × Nat} (h : w.heap[g]? = some (.cells cs t f)) (i : Nat) (u : Value) : (w.setCell ⟨g, i, none⟩ u).heap[g]? = some (.cells (cs.setIfInBounds i u) t f) := by
  simp [World.setCell, Array.getElem?_modify, h]
theorem blk_alloc {w : World} {g : Nat} {o : Obj} (h : w.heap[g]? = some o) (o' : Obj) : (w.alloc o').heap[g]? = some o := (Below.heap_alloc w o' g (blk_lt h)).trans h

theorem blk_new (w : World) (cs : Array Value) (t : TypeId) : (w.alloc (.cells cs t)).heap[w.heap.size]? = some (.cells cs t (0, 0)) := heap_alloc_new w _
theorem blk_far {w : World} {g : Nat} {o : Obj} (h : w.heap[g]? = some o) {p : Addr} (hp : g ≠ p.block) (u : Value) : (w.setCell p u).heap[g]? = some o := (Below.heap_setCell w p u g hp).trans h
theorem blk_ch {g : Nat} {w w' : World} (h : Ch g w w') {b : Nat} {o : Obj} (hb : w.heap[b]? = some o) (hne : b ≠ g) : w'.heap[b]? = some o := (h.block b (blk_lt hb) hne).trans hb

theorem clsA_length : clsA.length = 256 := by simp [clsA]
theorem clsA_get (b : UInt8) : clsA[b.toNat]? = some (.int .u8 (classOf b)) := by
  have hb : b.toNat < 256 := b.toNat_lt
  simp [clsA, hb]

theorem sc_class {w : World} {g : Nat} {s : ByteArray} {k : Nat} {ln : Bool} {bad : Int} (h : ScSt w g s k ln bad) (b : UInt8) : w.cell? ⟨g, 2 + b.toNat, none⟩ = some (.int .u8 (classOf b)) := by
  rw [blk_cell h]
  have hb : b.toNat < clsA.length := by rw [clsA_length]; exact b.toNat_lt
  have e : 2 + b.toNat = b.toNat + 1 + 1 := by omega
  simp only [scCells, List.getElem?_toArray]
  rw [e, List.getElem?_cons_succ, List.getElem?_cons_succ, List.getElem?_append_left hb, clsA_get]
theorem sc_tail {l m : List Value} (a b : Value) (n : Nat) (h : l.length = 256) : (a :: b :: (l ++ m))[258 + n]? = m[n]? := by
  have e : 258 + n = (256 + n) + 1 + 1 := by omega
  rw [e, List.getElem?_cons_succ, List.getElem?_cons_succ, List.getElem?_append_right (by omega)]
  congr 1
  omega
theorem sc_cells {w : World} {g : Nat} {s : ByteArray} {k : Nat} {ln : Bool} {bad : Int} (h : ScSt w g s k ln bad) :
    w.cell? ⟨g, 0, none⟩ = some (.string s) ∧ w.cell? ⟨g, 1, none⟩ = some (.int .i64 k) ∧ w.cell? ⟨g, 258, none⟩ = some (.bool ln) ∧ w.cell? ⟨g, 259, none⟩ = some (.bool ln) ∧ w.cell? ⟨g, 260, none⟩ = some (.int .i64 bad) := by
  refine ⟨(blk_cell h 0).trans rfl, (blk_cell h 1).trans rfl, ?_, ?_, ?_⟩
  · rw [blk_cell h, List.getElem?_toArray, scCells]; exact sc_tail _ _ 0 clsA_length
  · rw [blk_cell h, List.getElem?_toArray, scCells]; exact sc_tail _ _ 1 clsA_length
  · rw [blk_cell h, List.getElem?_toArray, scCells]; exact sc_tail _ _ 2 clsA_length
theorem sc_frozen {w : World} {g : Nat} {s : ByteArray} {k : Nat} {ln : Bool} {bad : Int} (h : ScSt w g s k ln bad) (i : Nat) : w.frozen? ⟨g, i, none⟩ = false := blk_frozen h i
theorem ScSt.drewN {w : World} {g : Nat} {s : ByteArray} {k : Nat} {ln : Bool} {bad : Int} (h : ScSt w g s k ln bad) (n : Nat) : ScSt (w.drewN n) g s k ln bad := h
theorem ScSt.drew {w : World} {g : Nat} {s : ByteArray} {k : Nat} {ln : Bool} {bad : Int} (h : ScSt w g s k ln bad) : ScSt w.drew g s k ln bad := h
theorem ScSt.alloc {w : World} {g : Nat} {s : ByteArray} {k : Nat} {ln : Bool} {bad : Int} (h : ScSt w g s k ln bad) (o : Obj) : ScSt (w.alloc o) g s k ln bad := blk_alloc h o
theorem ScSt.below {w w' : World} {g : Nat} {s : ByteArray} {k : Nat} {ln : Bool} {bad : Int} (h : ScSt w g s k ln bad) (hb : Below w.heap.size w w') : ScSt w' g s k ln bad := (hb.block g (blk_lt h)).trans h
theorem ScSt.other {w : World} {g : Nat} {s : ByteArray} {k : Nat} {ln : Bool} {bad : Int} (h : ScSt w g s k ln bad) {p : Addr} (hp : g ≠ p.block) (u : Value) : ScSt (w.setCell p u) g s k ln bad := (Below.heap_setCell w p u g hp).trans h
theorem sc_set_aux {l m : List Value} (a b : Value) (n : Nat) (u : Value) (h : l.length = 256) : (a :: b :: (l ++ m)).set (258 + n) u = a :: b :: (l ++ m.set n u) := by
  have e : 258 + n = (256 + n) + 1 + 1 := by omega
  rw [e, List.set_cons_succ, List.set_cons_succ, List.set_append_right _ _ (by omega)]
  congr 4
  omega
theorem ScSt.setAt {w : World} {g : Nat} {s : ByteArray} {k : Nat} {ln : Bool} {bad : Int} (h : ScSt w g s k ln bad) (k' : Nat) : ScSt (w.setCell ⟨g, 1, none⟩ (.int .i64 k')) g s k' ln bad := by
  unfold ScSt
  rw [blk_set h]
  simp [scCells]
theorem ScSt.setAtI {w : World} {g : Nat} {s : ByteArray} {k : Nat} {ln : Bool} {bad : Int} (h : ScSt w g s k ln bad) {n : Int} {k' : Nat} (e : n = k') : ScSt (w.setCell ⟨g, 1, none⟩ (.int .i64 n)) g s k' ln bad := by
  subst e
  exact h.setAt k'
theorem ScSt.setBad {w : World} {g : Nat} {s : ByteArray} {k : Nat} {ln : Bool} {bad : Int} (h : ScSt w g s k ln bad) (bad' : Int) : ScSt (w.setCell ⟨g, 260, none⟩ (.int .i64 bad')) g s k ln bad' := by
  unfold ScSt
  rw [blk_set h]
  simp only [List.setIfInBounds_toArray, scCells]
  rw [show (260 : Nat) = 258 + 2 from rfl, sc_set_aux _ _ 2 _ clsA_length]
  rfl
/-- Both marks of the line are set. -/
theorem ScSt.setLine {w : World} {g : Nat} {s : ByteArray} {k : Nat} {ln : Bool} {bad : Int} (h : ScSt w g s k ln bad) (ln' : Bool) : ScSt ((w.setCell ⟨g, 258, none⟩ (.bool ln')).setCell ⟨g, 259, none⟩ (.bool ln')) g s k ln' bad := by
  unfold ScSt
  rw [blk_set (blk_set h _ _)]
  simp only [List.setIfInBounds_toArray, scCells]
  rw [show (258 : Nat) = 258 + 0 from rfl, sc_set_aux _ _ 0 _ clsA_length, show (259 : Nat) = 258 + 1 from rfl, sc_set_aux _ _ 1 _ clsA_length]
  rfl

/-- The bytes of a string. -/
abbrev bs (s : ByteArray) : List UInt8 := s.data.toList
theorem bs_length (s : ByteArray) : (bs s).length = s.size := by simp [bs]
theorem bs_get (s : ByteArray) (k : Nat) (h : k < s.size) : (bs s)[k]? = some s[k] := by
  rw [List.getElem?_eq_getElem (by rw [bs_length]; exact h)]; rfl

theorem idxCls (g i : Nat) (hi : i < 256) (w : World) : (Instr.indexAt 43 (.pointer (some ⟨g, 2, none⟩)) (.int .u8 (i : Int))).run Tryz.prog w = .ok (.pointer (some ⟨g, 2 + i, none⟩)) w := by
  have ha : Tryz.prog.arrayLen 43 = 256 := by kernel_rfl
  have he : Tryz.prog.elem 43 = 5 := by kernel_rfl
  rw [run_indexAt_array w 43 ⟨g, 2, none⟩ .u8 i (by kernel_rfl), ha, he, if_pos ⟨by omega, by omega⟩]
  have hs : (sizeOf 5).run Tryz.prog w = .ok 1 w := by kernel_rfl
  rw [hs]
  simp [Result.andThen, Addr.add]

end Go.Proofs.YtpnfcgmogjpliaaGreatDoor
