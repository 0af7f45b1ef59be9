/- The tokens of a source, collected: the scanner's iterator, slices.AppendSeq and slices.Collect over it. -/
import Derived.Test.YtpnfcgmogjpliaaGreatDoorSeq
import Derived.Maps.AppendAt
namespace Go.Proofs.YtpnfcgmogjpliaaGreatDoor
open Go.RowKit Go.Shelf
attribute [local go_sem] Oper.semAt_some

/-- A token as a value; its three cells. -/
def tkVal (t : LexM.Tk) : Value := .agg #[.int .i64 t.kind, .int .i64 t.pos, .string ⟨t.text.toArray⟩]
def tkCells (ts : List LexM.Tk) : List Value := ts.flatMap fun t => [.int .i64 t.kind, .int .i64 t.pos, .string ⟨t.text.toArray⟩]
theorem tkCells_length : ∀ ts, (tkCells ts).length = ts.length * 3
  | [] => rfl
  | t :: ts => by
    have := tkCells_length ts
    simp only [tkCells, List.flatMap_cons, List.length_append, List.length_cons, List.length_nil] at this ⊢
    omega
theorem tkCells_snoc (ts : List LexM.Tk) (t : LexM.Tk) : tkCells (ts ++ [t]) = tkCells ts ++ [.int .i64 t.kind, .int .i64 t.pos, .string ⟨t.text.toArray⟩] := by
  simp [tkCells]

/-- What the scanner holds when its iterator has ended. -/
def ScEnd (g : Nat) (s : ByteArray) (bad : Int) (er : Option Nat) (W : World) : Prop :=
  match er with
  | none => ∃ k' ln', ScSt W g s k' ln' bad
  | some p => ∃ k' ln', ScSt W g s k' ln' p

/-- Where a scanner stands, read off the memory. -/
theorem sc_inj {w : World} {g : Nat} {s : ByteArray} {k k' : Nat} {ln ln' : Bool} {bad bad' : Int} (h : ScSt w g s k ln bad) (h' : ScSt w g s k' ln' bad') : k = k' ∧ ln = ln' := by
  obtain ⟨_, a1, a2, _⟩ := sc_cells h
  obtain ⟨_, b1, b2, _⟩ := sc_cells h'
  rw [a1] at b1
  rw [a2] at b2
  injection b1 with b1
  injection b2 with b2
  injection b1 with _ b1
  injection b2 with b2
  exact ⟨by omega, b2⟩
open Classical in
/-- How many tokens are still to come. -/
noncomputable def scLeft (g : Nat) (s : ByteArray) (W : World) : Nat :=
  if h : ∃ r : Nat × Bool × Int, ScSt W g s r.1 r.2.1 r.2.2 then (LexM.lex ((bs s).drop (Classical.choose h).1) (Classical.choose h).1 (Classical.choose h).2.1).1.length else 0
theorem scLeft_eq {g : Nat} {s : ByteArray} {W : World} {k : Nat} {ln : Bool} {bad : Int} (h : ScSt W g s k ln bad) : scLeft g s W = (LexM.lex ((bs s).drop k) k ln).1.length := by
  have hex : ∃ r : Nat × Bool × Int, ScSt W g s r.1 r.2.1 r.2.2 := ⟨(k, ln, bad), h⟩
  unfold scLeft
  rw [dif_pos hex]
  obtain ⟨e1, e2⟩ := sc_inj (Classical.choose_spec hex) h
  rw [e1, e2]

theorem ScEnd.alloc {g : Nat} {s : ByteArray} {bad : Int} {er : Option Nat} {W : World} (h : ScEnd g s bad er W) (o : Obj) : ScEnd g s bad er (W.alloc o) := by
  cases er <;> exact ⟨h.choose, h.choose_spec.choose, h.choose_spec.choose_spec.alloc o⟩
theorem next_some (w0 w : World) (g : Nat) (s : ByteArray) (k : Nat) (ln : Bool) (bad : Int) (h : ScSt w g s k ln bad) (hs : s.size ≤ 20000) (hk : k ≤ s.size) (hT : Tabs w0 w) (hg : w0.heap.size ≤ g) {t : LexM.Tk} {ts : List LexM.Tk} {er : Option Nat}
    (hl : LexM.lex ((bs s).drop k) k ln = (t :: ts, er)) :
    Calls Tryz.prog 38 #[.pointer (some ⟨g, 0, none⟩)] w fun e w' => e = .returned (.tuple #[.agg #[.int .i64 t.kind, .int .i64 t.pos, .string ⟨t.text.toArray⟩], .bool true]) ∧ (∃ k' ln', k' ≤ s.size ∧ ScSt w' g s k' ln' bad ∧ LexM.lex ((bs s).drop k') k' ln' = (ts, er)) ∧ Ch g w w' := by
  have := next_calls w0 w g s k ln bad h hs hk hT hg
  rw [hl] at this
  refine this.mono ?_
  rintro e w' ⟨⟨he, hr⟩, hc⟩
  exact ⟨he, hr, hc⟩
theorem next_none (w0 w : World) (g : Nat) (s : ByteArray) (k : Nat) (ln : Bool) (bad : Int) (h : ScSt w g s k ln bad) (hs : s.size ≤ 20000) (hk : k ≤ s.size) (hT : Tabs w0 w) (hg : w0.heap.size ≤ g) {er : Option Nat}
    (hl : LexM.lex ((bs s).drop k) k ln = ([], er)) :
    Calls Tryz.prog 38 #[.pointer (some ⟨g, 0, none⟩)] w fun e w' => (∃ (a b : Int) (x : ByteArray), e = .returned (.tuple #[.agg #[.int .i64 a, .int .i64 b, .string x], .bool false])) ∧ ScEnd g s bad er w' ∧ Ch g w w' := by
  have := next_calls w0 w g s k ln bad h hs hk hT hg
  rw [hl] at this
  refine this.mono ?_
  cases er with
  | none =>
    rintro e w' ⟨⟨he, hr⟩, hc⟩
    exact ⟨he, hr, hc⟩
  | some p =>
    rintro e w' ⟨⟨he, hr⟩, hc⟩
    exact ⟨he, hr, hc⟩

set_option maxRecDepth 100000 in
set_option maxHeartbeats 2000000 in
/-- The scanner's iterator gives the tokens of the model, in their order. -/
theorem all1_seq (w0 w : World) (n g Bn n₀ : Nat) (s : ByteArray) (k : Nat) (ln : Bool) (bad : Int) (h : ScSt w g s k ln bad) (hs : s.size ≤ 20000) (hk : k ≤ s.size) (hT : Tabs w0 w) (hg : w0.heap.size ≤ g) (hgn : g < n₀) (hBn : Bn < n₀) (hne : Bn ≠ g) (hn₀ : n₀ ≤ w.heap.size)
    (hc : w.heap[Bn]? = some (.cells #[.pointer (some ⟨g, 0, none⟩)] 42 (0, 0))) {all : List LexM.Tk} {er : Option Nat} (hl : LexM.lex ((bs s).drop k) k ln = (all, er)) :
    SeqCh n Tryz.prog 37 #[.pointer (some ⟨Bn, 0, none⟩)] tkVal g n₀ all.length (fun xs W => xs = all ∧ ScEnd g s bad er W) w := by
  intro l J W hW hJ hY h0
  have hst := h.below hW
  have hT1 := hT.belowN hW
  have hb1 : W.heap[Bn]? = some (.cells #[.pointer (some ⟨g, 0, none⟩)] 42 (0, 0)) := (hW.block _ (by omega)).trans hc
  have hn1 : n₀ ≤ W.heap.size := Nat.le_trans hn₀ hW.size
  clear hW hc hn₀ hT h
  refine callsIn_of_wp Tryz.func37 rfl trivial ?_ rfl
  simp only [Tryz.ntmps37, List.size_toArray, List.length_cons, List.length_nil, Nat.reduceAdd, Nat.reduceSub, Array.replicate_succ, Array.replicate_zero, List.push_toArray, List.append_toArray, List.nil_append, List.cons_append]
  gi_wp2
  gi_loopw [] (fun wr => ∃ (pre rest : List LexM.Tk) (k0 : Nat) (l0 : Bool), all = pre ++ rest ∧ k0 ≤ s.size ∧ Aside (LexM.lex ((bs s).drop k0) k0 l0 = (rest, er)) ∧ Aside (ScSt wr g s k0 l0 bad) ∧ Aside (Tabs w0 wr)
    ∧ Aside (wr.heap[Bn]? = some (.cells #[.pointer (some ⟨g, 0, none⟩)] 42 (0, 0))) ∧ n₀ ≤ wr.heap.size ∧ Aside (J pre wr)) (fun wr => scLeft g s wr)
  case atStart => exact ⟨[], all, k, ln, rfl, hk, hl, hst, hT1, hb1, hn1, h0⟩
  case round =>
    obtain ⟨pre, rest, k0, l0, hx, hk0, hl0, hs0, hT0, hb0, hn0, hJ0⟩ := hrel
    have hbc := blk_cell hb0.out 0
    cases rest with
    | nil =>
      have hnx := next_none w0 wr g s k0 l0 bad hs0.out hs hk0 hT0.out hg hl0.out
      gi_wp2_with (refine ⟨trivial, fun h => (by cases h), ?_⟩; gi_at_call 38; refine (callsIn_wide.2 hnx).mono ?_; rintro e w2 ⟨⟨a, b, x, rfl⟩, hse, hc2⟩)
      refine ⟨fun _ h => (by cases h), ?_⟩
      gi_wp2
      refine bodyPost_ret (results_none rfl _ _ _) rfl ?_
      refine ⟨⟨_, rfl⟩, pre, ⟨by rw [hx, List.append_nil], ?_⟩, hJ pre _ _ hJ0.out (hc2.alloc _)⟩
      exact hse.alloc _
    | cons t ts =>
      have hnx := next_some w0 wr g s k0 l0 bad hs0.out hs hk0 hT0.out hg hl0.out
      have hJA : ∀ w2 c, Ch g wr w2 → J pre (w2.alloc c) := fun w2 c hc => hJ pre _ _ hJ0.out (hc.alloc _)
      gi_wp2_with (refine ⟨trivial, fun h => (by cases h), ?_⟩; gi_at_call 38; refine (callsIn_wide.2 hnx).mono ?_; rintro e w2 ⟨rfl, ⟨k2, l2, hk2, hs2, hl2⟩, hc2⟩; obtain ⟨fn, tmps, assign, body, hy, hR⟩ := hY pre t _ (hJA w2 (.cells #[.int .i64 t.kind, .int .i64 t.pos, .string ⟨t.text.toArray⟩] 49 (0, 0)) hc2) (by rw [hx]; simp); unfold tkVal at hy)
      refine ⟨fun h => (by cases h), ?_⟩
      refine hR.mono ?_
      rintro e W3 ⟨rfl, hJ3, hb3⟩
      have hwr := hc2.size
      have hbb := (hc2.alloc (.cells #[.int .i64 t.kind, .int .i64 t.pos, .string ⟨t.text.toArray⟩] 49 (0, 0)))
      have hs3 : ScSt W3 g s k2 l2 bad := (hb3.block g (by omega)).trans (hs2.alloc _)
      have hT3 : Tabs w0 W3 := ⟨hT0.out.cases, hT0.out.utf8, ((hT0.out.ch hg hbb).below).trans (hb3.mono (by omega))⟩
      have hB3 : W3.heap[Bn]? = some (.cells #[.pointer (some ⟨g, 0, none⟩)] 42 (0, 0)) := (hb3.block Bn (by omega)).trans (blk_ch hbb hb0.out hne)
      have hn3 : n₀ ≤ W3.heap.size := by
        have := hb3.size
        simp at this
        omega
      gi_wp2
      go_roundw
      case rel => exact ⟨pre ++ [t], ts, k2, l2, by simp [hx], hk2, hl2, hs3, hT3, hB3, hn3, hJ3⟩
      case measure =>
        rw [scLeft_eq hs3, scLeft_eq hs0.out, hl2, hl0.out]
        simp

end Go.Proofs.YtpnfcgmogjpliaaGreatDoor
