/- An argument that is a slice of tokens, opened; and the rows' last step. No condition. -/
import Derived.Test.YtpnfcgmogjpliaaGreatDoorTabs
namespace Go.Proofs.YtpnfcgmogjpliaaGreatDoor
open Go.RowKit Go.Lib Go.ChangeShapes Go.WideShapes Go.ChangeAt Go.Deep

theorem tok_cells : Tryz.prog.cellsOf 49 = 3 := by kernel_rfl

theorem three_of {α : Type} {l : List α} (h : l.length = 3) : ∃ a b c, l = [a, b, c] := by
  match l, h with
  | [a, b, c], _ => exact ⟨a, b, c, rfl⟩
theorem list_of {α : Type} {Q : Nat → α → Prop} : ∀ n : Nat, (∀ i, i < n → ∃ t, Q i t) → ∃ l : List α, l.length = n ∧ ∀ i t, l[i]? = some t → Q i t
  | 0, _ => ⟨[], rfl, fun i t h => by simp at h⟩
  | n + 1, h => by
    obtain ⟨l, h1, h2⟩ := list_of n (fun i hi => h i (by omega))
    obtain ⟨t, ht⟩ := h n (by omega)
    refine ⟨l ++ [t], by simp [h1], fun i u hu => ?_⟩
    rcases Nat.lt_or_ge i l.length with hi | hi
    · rw [List.getElem?_append_left hi] at hu
      exact h2 i u hu
    · rw [List.getElem?_append_right hi] at hu
      have e : i - l.length = 0 := by
        rcases Nat.eq_zero_or_pos (i - l.length) with h0 | h0
        · exact h0
        · rw [List.getElem?_eq_none (by simp; omega)] at hu
          cases hu
      rw [e] at hu
      simp only [List.getElem?_cons_zero, Option.some.injEq] at hu
      subst hu
      obtain rfl : i = n := by omega
      exact ht

section
variable {H : Type} {enc : TypeId × Value → H} {w : World}
/-- An argument of type []api.Token. -/
theorem open_toks {fuel : Nat} {cs : List Value} {x : DataW H × List MemPlace} (h : DataW.trod enc Tryz.prog w 0 (fun _ => true) true fuel 23 cs = some x) :
    ∃ (A : Option Addr) (l : List Tv) (cap : Nat), cs = [.slice A l.length cap] ∧ l.length ≤ maxLen ∧ TokS w A l := by
  rcases open_slice Tryz.underlying23 h with ⟨rfl, _⟩ | ⟨a, len, cap, m, n, D, Pl, rfl, _, hl, hm, hmm, _, hi⟩
  · exact ⟨none, [], 0, rfl, Nat.zero_le _, TokS.nil _ _⟩
  · have hcell : ∀ i, i < len → ∃ t : Tv, w.cell? (a.add (i * 3)) = some (.int .i64 t.kind) ∧ w.cell? (a.add (i * 3 + 1)) = some (.int .i64 t.pos) ∧ w.cell? (a.add (i * 3 + 2)) = some (.string t.text) := by
      intro i hil
      obtain ⟨cs', hc, ht'⟩ := hi i (by rw [hmm]; simp; omega)
      rw [tok_cells] at hc
      obtain ⟨ys, n', _, _, hlen, hyl, hf⟩ := DataW.trod_struct Tryz.underlying49 ht'
      obtain ⟨_, hcl, hat⟩ := World.cells?_some hc
      have c0 : Tryz.prog.cellsOf 3 = 1 := by kernel_rfl
      have c1 : Tryz.prog.cellsOf 9 = 1 := by kernel_rfl
      obtain ⟨u0, u1, u2, rfl⟩ := three_of hcl
      obtain ⟨y0, y1, y2, rfl⟩ := three_of hyl
      have f0 : DataW.trod enc Tryz.prog w 0 (fun _ => true) true n' 3 [u0] = some y0 := by
        have := hf 0 _ rfl
        simpa [c0] using this
      have f1 : DataW.trod enc Tryz.prog w 0 (fun _ => true) true n' 3 [u1] = some y1 := by
        have := hf 1 _ rfl
        simpa [c0] using this
      have f2 : DataW.trod enc Tryz.prog w 0 (fun _ => true) true n' 9 [u2] = some y2 := by
        have := hf 2 _ rfl
        simpa [c1] using this
      obtain ⟨k, e0, _, _⟩ := DataW.trod_int Tryz.underlying3 f0
      obtain ⟨p, e1, _, _⟩ := DataW.trod_int Tryz.underlying3 f1
      obtain ⟨s, e2, _, _⟩ := DataW.trod_string Tryz.underlying9 f2
      simp only [List.cons.injEq, and_true] at e0 e1 e2
      subst e0
      subst e1
      subst e2
      refine ⟨⟨k, p, s⟩, ?_, ?_, ?_⟩
      · have := hat 0 (by omega)
        rw [Go.Deep.add_add] at this
        simpa using this
      · have := hat 1 (by omega)
        rw [Go.Deep.add_add] at this
        simpa using this
      · have := hat 2 (by omega)
        rw [Go.Deep.add_add] at this
        simpa using this
    obtain ⟨l, hlen, hl2⟩ := list_of (Q := fun i (t : Tv) => w.cell? (a.add (i * 3)) = some (.int .i64 t.kind) ∧ w.cell? (a.add (i * 3 + 1)) = some (.int .i64 t.pos) ∧ w.cell? (a.add (i * 3 + 2)) = some (.string t.text)) len hcell
    subst hlen
    refine ⟨some a, l, cap, rfl, by omega, fun h0 => ?_⟩
    obtain ⟨b, off, spot⟩ := a
    obtain ⟨t0, ht0⟩ : ∃ t, l[0]? = some t := ⟨_, List.getElem?_eq_getElem h0⟩
    have hc0 := (hl2 0 t0 ht0).1
    obtain rfl : spot = none := by simpa [Addr.add] using World.cell?_spot hc0
    refine ⟨b, off, rfl, ?_, fun j t hj => ?_⟩
    · have := World.block_lt_of_cell? w _ hc0
      simpa [Addr.add] using this
    · have hadd : ∀ j, (⟨b, off, none⟩ : Addr).add j = ⟨b, off + j, none⟩ := fun j => by unfold Addr.add; split <;> simp_all
      have := hl2 j t hj
      rw [hadd, hadd, hadd] at this
      simpa [Nat.add_assoc] using this
end

end Go.Proofs.YtpnfcgmogjpliaaGreatDoor
