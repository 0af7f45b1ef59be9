/- An argument that is a slice of tokens, opened, with what it weighs. -/
import Derived.Test.YtpnfcgmogjpliaaGreatDoorOpen
import Derived.Test.YtpnfcgmogjpliaaGreatDoorLJoins
namespace Go.Proofs.YtpnfcgmogjpliaaGreatDoor
open Go.RowKit Go.Lib Go.ChangeShapes Go.WideShapes Go.ChangeAt Go.Deep

theorem bulk_sum {H : Type} (D : Nat → DataW H) : ∀ (l : List Tv) (k : Nat), (∀ i t, l[i]? = some t → t.text.size + 1 ≤ Rows.uptoBulk (D (k + i))) → tvBulk l ≤ Rows.uptoBulkAll ((List.range' k l.length).map D)
  | [], _, _ => Nat.zero_le _
  | t :: l, k, h => by
    have h0 : t.text.size + 1 ≤ Rows.uptoBulk (D k) := h 0 t rfl
    have h1 := bulk_sum D l (k + 1) fun i u hu => by
      have := h (i + 1) u (by simpa using hu)
      rwa [show k + (i + 1) = k + 1 + i from by omega] at this
    have hb : tvBulk (t :: l) = t.text.size + 1 + tvBulk l := by simp [tvBulk]
    rw [hb, List.length_cons, List.range'_succ, List.map_cons]
    simp only [Rows.uptoBulkAll]
    omega

section
variable {H : Type} {enc : TypeId × Value → H} {w : World}
/-- An argument of type []api.Token. -/
theorem open_toksB {fuel : Nat} {cs : List Value} {x : DataW H × List MemPlace} (h : DataW.trod enc Tryz.prog w 0 (fun _ => true) true fuel 23 cs = some x) :
    ∃ (A : Option Addr) (l : List Tv) (cap : Nat), cs = [.slice A l.length cap] ∧ l.length ≤ maxLen ∧ TokS w A l ∧ tvBulk l ≤ Rows.uptoBulk x.1 := by
  rcases open_slice Tryz.underlying23 h with ⟨rfl, rfl⟩ | ⟨a, len, cap, m, n, D, Pl, rfl, _, hl, hm, hmm, hx, hi⟩
  · exact ⟨none, [], 0, rfl, Nat.zero_le _, TokS.nil _ _, Nat.zero_le _⟩
  · have hcell : ∀ i, i < len → ∃ t : Tv, w.cell? (a.add (i * 3)) = some (.int .i64 t.kind) ∧ w.cell? (a.add (i * 3 + 1)) = some (.int .i64 t.pos) ∧ w.cell? (a.add (i * 3 + 2)) = some (.string t.text) ∧ t.text.size + 1 ≤ Rows.uptoBulk (D i) := by
      intro i hil
      obtain ⟨cs', hc, ht'⟩ := hi i (by rw [hmm]; simp; omega)
      rw [tok_cells] at hc
      obtain ⟨ys, n', _, hDi, hlen, hyl, hf⟩ := DataW.trod_struct Tryz.underlying49 ht'
      obtain ⟨_, hcl, hat⟩ := World.cells?_some hc
      have c0 : Tryz.prog.cellsOf 3 = 1 := by kernel_rfl
      have c1 : Tryz.prog.cellsOf 9 = 1 := by kernel_rfl
      obtain ⟨u0, u1, u2, rfl⟩ := three_of hcl
      obtain ⟨y0, y1, y2, rfl⟩ := three_of hyl
      have f0 : DataW.trod enc Tryz.prog w 0 (fun _ => true) true n' 3 [u0] = some y0 := by
        have := hf 0 _ rfl
        simpa [c0] using this
      have f1 : DataW.trod enc Tryz.prog w 0 (fun _ => true) true n' 3 [u1] = some y1 := by
        have := hf 1 _ rfl
        simpa [c0] using this
      have f2 : DataW.trod enc Tryz.prog w 0 (fun _ => true) true n' 9 [u2] = some y2 := by
        have := hf 2 _ rfl
        simpa [c1] using this
      obtain ⟨k, e0, _, _⟩ := DataW.trod_int Tryz.underlying3 f0
      obtain ⟨p, e1, _, _⟩ := DataW.trod_int Tryz.underlying3 f1
      obtain ⟨s, e2, e3, _⟩ := DataW.trod_string Tryz.underlying9 f2
      simp only [List.cons.injEq, and_true] at e0 e1 e2
      subst e0
      subst e1
      subst e2
      refine ⟨⟨k, p, s⟩, ?_, ?_, ?_, ?_⟩
      · have := hat 0 (by omega)
        rw [Go.Deep.add_add] at this
        simpa using this
      · have := hat 1 (by omega)
        rw [Go.Deep.add_add] at this
        simpa using this
      · have := hat 2 (by omega)
        rw [Go.Deep.add_add] at this
        simpa using this
      · have e : D i = .agg [y0.1, y1.1, y2.1] := congrArg Prod.fst hDi
        have es : s.data.toList.length = s.size := by rw [Array.length_toList]; rfl
        rw [e, e3]
        simp only [Rows.uptoBulk, Rows.uptoBulkAll, es]
        omega
    obtain ⟨l, hlen, hl2⟩ := list_of (Q := fun i (t : Tv) => w.cell? (a.add (i * 3)) = some (.int .i64 t.kind) ∧ w.cell? (a.add (i * 3 + 1)) = some (.int .i64 t.pos) ∧ w.cell? (a.add (i * 3 + 2)) = some (.string t.text) ∧ t.text.size + 1 ≤ Rows.uptoBulk (D i)) len hcell
    subst hlen
    refine ⟨some a, l, cap, rfl, by omega, fun h0 => ?_, ?_⟩
    rotate_left
    · rw [hx]
      refine Nat.le_trans (bulk_sum D l 0 fun i t hi => ?_) ?_
      · rw [Nat.zero_add]
        exact (hl2 i t hi).2.2.2
      · simp only [Rows.uptoBulk]
        rw [List.range_eq_range']
        omega
    obtain ⟨b, off, spot⟩ := a
    obtain ⟨t0, ht0⟩ : ∃ t, l[0]? = some t := ⟨_, List.getElem?_eq_getElem h0⟩
    have hc0 := (hl2 0 t0 ht0).1
    obtain rfl : spot = none := by simpa [Addr.add] using World.cell?_spot hc0
    refine ⟨b, off, rfl, ?_, fun j t hj => ?_⟩
    · have := World.block_lt_of_cell? w _ hc0
      simpa [Addr.add] using this
    · have hadd : ∀ j, (⟨b, off, none⟩ : Addr).add j = ⟨b, off + j, none⟩ := fun j => by unfold Addr.add; split <;> simp_all
      obtain ⟨g0, g1, g2, _⟩ := hl2 j t hj
      have := And.intro g0 (And.intro g1 g2)
      rw [hadd, hadd, hadd] at this
      simpa [Nat.add_assoc] using this
end

end Go.Proofs.YtpnfcgmogjpliaaGreatDoor
