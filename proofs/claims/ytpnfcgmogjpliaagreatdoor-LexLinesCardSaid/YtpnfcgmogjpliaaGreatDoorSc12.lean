/- The tokens of a source, collected: slices.AppendSeq, slices.Collect over the scanner's iterator. -/
import Derived.Test.YtpnfcgmogjpliaaGreatDoorSc11
namespace Go.Proofs.YtpnfcgmogjpliaaGreatDoor
open Go.RowKit Go.Shelf
attribute [local go_sem] Oper.semAt_some

theorem lexF_length : ∀ (n : Nat) (r : List UInt8) (at_ : Nat) (ln : Bool), (LexM.lexF n r at_ ln).1.length ≤ 2 * r.length + (if ln then 1 else 0) := by
  have he : ∀ (ln : Bool) at_, (LexM.ends ln at_).length = if ln then 1 else 0 := by
    intro ln at_
    cases ln <;> rfl
  intro n
  induction n with
  | zero => intros; simp [LexM.lexF]
  | succ n ih =>
    intro r at_ ln
    cases r with
    | nil =>
      simp only [LexM.lexF, he]
      omega
    | cons b t =>
      simp only [LexM.lexF]
      split
      · have := ih t (at_ + 1) false
        simp only [Bool.false_eq_true, if_false] at this
        simp only [List.length_append, he, List.length_cons]
        omega
      · rename_i k hk
        have h1 := LexM.step_skip hk
        have := ih ((b :: t).drop k) (at_ + k) ln
        simp only [List.length_drop, List.length_cons] at this ⊢
        omega
      · simp
      · rename_i kind text k hk
        have h1 := LexM.step_tok hk
        have := ih ((b :: t).drop k) (at_ + k) true
        simp only [List.length_drop, List.length_cons, if_true] at this ⊢
        omega
theorem lex_length (r : List UInt8) (at_ : Nat) (ln : Bool) : (LexM.lex r at_ ln).1.length ≤ 2 * r.length + 1 := by
  have := lexF_length (r.length + 1) r at_ ln
  unfold LexM.lex
  split at this <;> omega

theorem info_token : (Tryz.prog.info? 49).map (fun i => (i.zero, i.size, i.bytes)) = some (some (.agg #[.int .i64 0, .int .i64 0, .string ⟨#[]⟩]), 3, 32) := by kernel_rfl

theorem scEnd_own (g : Nat) (s : ByteArray) (bad : Int) (er : Option Nat) (all : List LexM.Tk) (B : Nat) (hB : g < B) : OwnFrom B (fun (xs : List LexM.Tk) W => xs = all ∧ ScEnd g s bad er W) := by
  intro xs A C row hs hg hr
  have hne : some g ≠ row := fun e => by have := (hr g e.symm).1; omega
  refine ⟨hs.1, ?_⟩
  cases er with
  | none =>
    obtain ⟨_, k', ln', h⟩ := hs
    exact ⟨k', ln', (hg.block g (blk_lt h) hne).trans h⟩
  | some p =>
    obtain ⟨_, k', ln', h⟩ := hs
    exact ⟨k', ln', (hg.block g (blk_lt h) hne).trans h⟩

theorem ScEnd.putObj {g : Nat} {s : ByteArray} {bad : Int} {er : Option Nat} {W : World} (h : ScEnd g s bad er W) {D : Nat} {o o' : Obj} (hD : W.heap[D]? = some o) (ho : o.isCells = false) : ScEnd g s bad er (W.putObj D o') := by
  have k : ∀ {k ln b}, ScSt W g s k ln b → ScSt (W.putObj D o') g s k ln b := fun {k ln b} h => by
    refine (World.putObj_heap_other fun e => ?_).trans h
    subst e
    rw [show W.heap[g]? = _ from h] at hD
    cases hD
    cases ho
  cases er with
  | none =>
    obtain ⟨k', ln', h⟩ := h
    exact ⟨k', ln', k h⟩
  | some p =>
    obtain ⟨k', ln', h⟩ := h
    exact ⟨k', ln', k h⟩
theorem Ch.belowSz {g : Nat} {a w w' : World} (h : Ch g a w) (k : Below a.heap.size w w') : Ch g a w' :=
  ⟨k.os.trans h.os, k.tape.trans h.tape, k.output.trans h.output, Nat.le_trans h.size k.size, fun i hi hg => (k.block i hi).trans (h.block i hi hg)⟩
theorem Ch.grown {g : Nat} {a w w' : World} {row : Option Nat} (h : Ch g a w) (k : w.grownBy w' row) (hr : ∀ r, row = some r → a.heap.size ≤ r) : Ch g a w' :=
  ⟨k.os.trans h.os, k.tape.trans h.tape, k.output.trans h.output, Nat.le_trans h.size k.size, fun i hi hg => (k.block i (Nat.lt_of_lt_of_le hi h.size) fun e => by have := hr i e.symm; omega).trans (h.block i hi hg)⟩
theorem boxed_ch {g : Nat} {A B : World} {b t : Nat} {v : Value} (h : Boxed A b t v) (hc : Ch g A B) (hne : b ≠ g) : Boxed B b t v := (hc.block b h.lt hne).trans h
theorem row_ch {g : Nat} {A B : World} {base e size n : Nat} {v : Value} {xs : List Value} (h : A.ownsRow base e size v n xs) (hc : Ch g A B) (hg : g < base) : B.ownsRow base e size v n xs := by
  refine ⟨h.1, ?_⟩
  rcases h.2 with hn | ⟨b, cap, cur, rfl, hb, hgg, rest⟩
  · exact .inl hn
  · exact .inr ⟨b, cap, cur, rfl, hb, (hc.block b (blk_lt hgg) (by omega)).trans hgg, rest⟩

theorem three_new (w : World) (a b c : Value) (t : TypeId) : ∀ (j : Nat) (u : Value), [a, b, c][j]? = some u → (w.alloc (.cells #[a, b, c] t)).cell? ((⟨w.heap.size, 0, none⟩ : Addr).add j) = some u := by
  intro j u h
  have e : (⟨w.heap.size, 0, none⟩ : Addr).add j = ⟨w.heap.size, j, none⟩ := by
    unfold Addr.add
    split <;> simp_all
  rw [e, blk_cell (blk_new w _ _) j]
  simpa using h

set_option maxRecDepth 100000 in
set_option maxHeartbeats 2000000 in
theorem appendSeq_calls (w0 w : World) (g Bn : Nat) (s : ByteArray) (k : Nat) (ln : Bool) (bad : Int) (h : ScSt w g s k ln bad) (hs : s.size ≤ 20000) (hk : k ≤ s.size) (hT : Tabs w0 w) (hg : w0.heap.size ≤ g) (hne : Bn ≠ g)
    (hc : w.heap[Bn]? = some (.cells #[.pointer (some ⟨g, 0, none⟩)] 42 (0, 0))) {all : List LexM.Tk} {er : Option Nat} (hl : LexM.lex ((bs s).drop k) k ln = (all, er)) :
    Calls Tryz.prog 36 #[.slice none 0 0, .func (.func 37) #[] #[.pointer (some ⟨Bn, 0, none⟩)]] w fun e w' =>
      ∃ v, e = .returned v ∧ w'.ownsRow w.heap.size 49 3 v all.length (tkCells all) ∧ ScEnd g s bad er w' ∧ Ch g w w' := by
  have hglt := blk_lt h
  have hBlt := blk_lt hc
  have hall : all.length ≤ 40001 := by
    have := lex_length ((bs s).drop k) k ln
    rw [hl, List.length_drop, bs_length] at this
    simp only at this
    omega
  obtain ⟨i0, hi, hz0, hz1, hz2⟩ := info_parts info_token
  refine (callsIn_wide (n := 3)).1 ?_
  refine callsIn_of_wp_marks Tryz.func36 rfl trivial ?_ rfl
  simp only [Tryz.ntmps36, List.size_toArray, List.length_cons, List.length_nil, Nat.reduceAdd, Nat.reduceSub, Array.replicate_succ, Array.replicate_zero, List.push_toArray, List.append_toArray, List.nil_append, List.cons_append]
  gi_wp2
  have bO := Boxed.new w 23 (.slice none 0 0)
  have hb0 : Below w.heap.size w (w.alloc (.cells #[.slice none 0 0] 23)) := (Below.refl _ w).alloc (Nat.le_refl _) _
  refine wpIn_rangeFunc_ch (gf := 37) (lb := #[.pointer (some ⟨Bn, 0, none⟩)]) rfl (enters_of Tryz.func37 (by kernel_rfl) rfl) (n₀ := w.heap.size) (g := g)
    (all1_seq w0 _ _ g Bn w.heap.size s k ln bad (h.alloc _) hs hk (hT.belowN hb0) hg hglt hBlt hne (by simp) (blk_alloc hc _) hl) (by simp; omega) (by simp) rfl
    (fun pre W => (∃ v, Boxed W w.heap.size 23 v ∧ W.ownsRow w.heap.size 49 3 v pre.length (tkCells pre)) ∧ Ch g w W)
    ?hI ?hIo ?hS ⟨⟨_, bO, World.ownsRow_nil _ _ _ _⟩, (Ch.refl g w).alloc _⟩
    (fun x a' W => ∃ b, w.heap.size < b ∧ W.heap[b]? = some (.cells #[.int .i64 x.kind, .int .i64 x.pos, .string ⟨x.text.toArray⟩] 49 (0, 0)) ∧ a' = { tmps := #[.slice none 0 0, .func (.func 37) #[] #[.pointer (some ⟨Bn, 0, none⟩)], .pointer (some ⟨w.heap.size, 0, none⟩), undef, .slice none 0 0, .pointer (some ⟨b, 0, none⟩), .func (.func 37) #[] #[.pointer (some ⟨Bn, 0, none⟩)], .agg #[.int .i64 x.kind, .int .i64 x.pos, .string ⟨x.text.toArray⟩], undef, undef, undef, undef, undef], defers := [] }) ?hAx ?assign ?body ?done
  case hI =>
    rintro pre A B ⟨⟨v, hv, hr⟩, hcc⟩ hch
    exact ⟨⟨v, boxed_ch hv hch (by omega), row_ch hr hch (by omega)⟩, hcc.trans hch⟩
  case hIo =>
    rintro pre A C row ⟨⟨v, hv, hr⟩, hcc⟩ hgb hrow
    obtain ⟨v', a, b, _⟩ := (holdsRow_own w.heap.size w.heap.size 23 49 3 (fun pre : List LexM.Tk => pre.length) tkCells (fun _ _ => True)) pre A C row ⟨v, hv, hr, trivial⟩ hgb (fun r e => (hrow r e).2)
    exact ⟨⟨v', a, b⟩, hcc.grown hgb (fun r e => by have := (hrow r e).1; simp at this; omega)⟩
  case hS => exact scEnd_own g s bad er all _ (by simp; omega)
  case hAx =>
    rintro x a' _ A C row ⟨b, hb, hbx, he⟩ hgb hrow
    refine ⟨b, hb, (hgb.block b (blk_lt hbx) fun e => ?_).trans hbx, he⟩
    obtain ⟨_, o, ho, hc'⟩ := hrow b e.symm
    rw [hbx] at ho
    cases ho
    cases hc'
  case assign => 
    intro l pre x W K hi hK
    unfold tkVal
    gi_wp2
    have hw : w.heap.size < W.heap.size := hi.1.choose_spec.1.lt
    refine hK _ _ (KeepsOthers.alloc _ _) ((Below.refl _ W).alloc (Nat.le_of_lt hw) _) ?_ ⟨W.heap.size, hw, blk_new W _ _, rfl⟩
    obtain ⟨⟨v, hv, hr⟩, hch⟩ := hi
    exact ⟨⟨v, hv.alloc _, hr.alloc _⟩, hch.alloc _⟩
  case body =>
    rintro l pre x a' W ⟨⟨v, hv, hrow⟩, hch⟩ ⟨b, hb, hbx, rfl⟩ hlen
    have hcv := hv.cell
    have x0 := (blk_cell hbx 0).trans rfl
    have x1 := (blk_cell hbx 1).trans rfl
    have x2 := (blk_cell hbx 2).trans rfl
    gi_wp2_with (gi_at_builtin; refine wpListIn_append_own _ rfl _ _ 23 rfl w.heap.size 49 i0 _ 3 32 Tryz.underlying23 hi hz0 hz1 hz2 rfl (by decide) _ _ _ rfl (hrow.alloc _) ⟨W.heap.size, 0, none⟩ 1 1 [.int .i64 x.kind, .int .i64 x.pos, .string ⟨x.text.toArray⟩] rfl rfl (three_new _ _ _ _ _) (by simp [Value.oneCell']) (by simp only [maxLen]; omega) (by omega) (by have := hch.size; simp; omega) ?_; intro v' w1 hown' hgrow _; obtain ⟨g', cap', rfl⟩ := ownsRow_succ hown'; obtain ⟨hv1, hv2, hr2, hk2, hb2⟩ := hv.appended (by decide) hrow hch.size (Nat.le_refl _) hown' hgrow; have hc1 := hv1.cell; have hf1 := hv1.frozen)
    refine ⟨hk2, hb2, ⟨_, hv2, ?_⟩, hch.belowSz hb2⟩
    rw [tkCells_snoc, List.length_append]
    exact hr2
  case done => 
    rintro D ys W hD ⟨rfl, hse⟩ ⟨⟨v, hv, hrow⟩, hch⟩ hK
    have hcv := hv.cell
    gi_wp2
    refine ⟨by simp, .inl ⟨_, _, rfl, run_takeDeferred hK, ?_⟩⟩
    have hD' : w.heap.size ≤ D := by simp at hD; omega
    exact ⟨_, results_tmp rfl _ _ _, v, rfl, ownsRow_putObj hrow _ hK rfl, hse.putObj hK rfl, hch.putObj _ hD'⟩

end Go.Proofs.YtpnfcgmogjpliaaGreatDoor
