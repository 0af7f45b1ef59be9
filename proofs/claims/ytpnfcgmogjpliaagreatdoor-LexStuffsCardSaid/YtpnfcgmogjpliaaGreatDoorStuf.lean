/- The program's Stuff and the document's Stuff: what both answer. -/
import Derived.Test.YtpnfcgmogjpliaaGreatDoorKnown
import Derived.Test.YtpnfcgmogjpliaaGreatDoorOver
namespace Go.Proofs.YtpnfcgmogjpliaaGreatDoor
open Go.RowKit
attribute [local go_sem ↓] Go.wp_at_zero Go.wp_at_succ

/-- How many items of two lists are the same, from their heads on. -/
def preN : List Tv → List Tv → Nat
  | x :: l, y :: k => if tvSame x y then preN l k + 1 else 0
  | _, _ => 0
theorem preN_step {X Y : List Tv} {b : Nat} {x y : Tv} (hx : X[b]? = some x) (hy : Y[b]? = some y) :
    preN (X.drop b) (Y.drop b) = if tvSame x y then preN (X.drop (b + 1)) (Y.drop (b + 1)) + 1 else 0 := by
  obtain ⟨h1, e1⟩ := List.getElem?_eq_some_iff.1 hx
  obtain ⟨h2, e2⟩ := List.getElem?_eq_some_iff.1 hy
  rw [List.drop_eq_getElem_cons h1, List.drop_eq_getElem_cons h2, e1, e2]
  rfl
theorem preN_end {X Y : List Tv} {b : Nat} (h : X.length ≤ b ∨ Y.length ≤ b) : preN (X.drop b) (Y.drop b) = 0 := by
  rcases h with h | h
  · rw [List.drop_of_length_le h]
    rfl
  · rw [List.drop_of_length_le h]
    cases X.drop b <;> rfl
theorem preN_le : ∀ (X Y : List Tv), preN X Y ≤ X.length ∧ preN X Y ≤ Y.length
  | [], _ => ⟨Nat.zero_le _, Nat.zero_le _⟩
  | _ :: _, [] => ⟨Nat.zero_le _, Nat.zero_le _⟩
  | x :: l, y :: k => by
    have := preN_le l k
    unfold preN
    split
    · simp only [List.length_cons]
      omega
    · exact ⟨Nat.zero_le _, Nat.zero_le _⟩
/-- The tokens behind the first a, from the last one on. -/
def backs (l : List Tv) (a : Nat) : List Tv := (l.drop a).reverse
theorem backs_len (l : List Tv) (a : Nat) : (backs l a).length = l.length - a := by simp [backs]
theorem backs_get {l : List Tv} {a b : Nat} (h : a + b < l.length) : (backs l a)[b]? = l[l.length - b - 1]? := by
  unfold backs
  rw [List.getElem?_reverse (by rw [List.length_drop]; omega), List.length_drop, List.getElem?_drop]
  congr 1
  omega

theorem sameTv_one (x y : Tv) : sameTv [x] [y] = tvSame x y := by
  rw [Bool.eq_iff_iff, sameTv_iff, tvSame_iff]
  simp

set_option maxRecDepth 100000 in
/-- A slice of one token. -/
theorem tok_slice {w : World} {A : Option Addr} {l : List Tv} {n cap : Nat} (ha : TokS w A l) (hn : l.length = n) (hc : n ≤ cap) {i : Nat} {x : Tv} (hx : l[i]? = some x) :
    ∃ A1 c1, (∀ (a b : Int), a = i → b = i + 1 → ∀ wx, (Instr.slice 23 (.slice A n cap) (some (.int .i64 a)) (some (.int .i64 b)) none).run Tryz.prog wx = .ok (.slice A1 1 c1) wx) ∧ TokS w A1 [x] := by
  obtain ⟨hi, _⟩ := List.getElem?_eq_some_iff.1 hx
  obtain ⟨b, off, rfl, hlt, hT⟩ := ha (by omega)
  refine ⟨some ⟨b, off + i * 3, none⟩, cap - i, ?_, fun _ => ⟨b, off + i * 3, rfl, hlt, fun j t hj => ?_⟩⟩
  · rintro a b' rfl rfl wx
    have hadd : (⟨b, off, none⟩ : Addr).add (i * 3) = ⟨b, off + i * 3, none⟩ := by unfold Addr.add; split <;> simp_all
    rw [run_slice_lh (P := Tryz.prog) wx 23 (some ⟨b, off, none⟩) n cap Tryz.underlying23 .i64 .i64 i ((i : Int) + 1) (by omega) (by omega) (by omega)]
    have hs : (sizeOf (Tryz.prog.elem 23)).run Tryz.prog wx = .ok 3 wx := by rfl
    rw [hs]
    unfold Result.andThen sliced
    simp only
    rw [if_neg (by omega), show ((i : Int) + 1).toNat - (i : Int).toNat = 1 from by omega, Int.toNat_natCast]
    simp only [Option.map_some]
    rw [hadd]
  · cases j with
    | succ j => simp at hj
    | zero =>
      simp at hj
      subst hj
      have := hT i _ hx
      rw [Nat.zero_mul, Nat.add_zero]
      exact this

/-- What Stuff answers. -/
def stuffRes (s b : ByteArray) (p q er1 er2 : Int) (l k : List Tv) : Value :=
  if er1 = 0 then
    if 0 ≤ p ∧ p ≤ q ∧ q ≤ s.size then
      if 4000 < b.size then .tuple #[.int .i64 0, .int .i64 0, .int .i64 3]
      else if er2 = 0 then .tuple #[.int .i64 (preN l k : Nat), .int .i64 (preN (backs l (preN l k)) (backs k (preN l k)) : Nat), .int .i64 0]
      else .tuple #[.int .i64 0, .int .i64 0, .int .i64 er2]
    else .tuple #[.int .i64 0, .int .i64 0, .int .i64 1]
  else .tuple #[.int .i64 0, .int .i64 0, .int .i64 er1]
theorem stuffRes_three (s b : ByteArray) (p q er1 er2 : Int) (l k : List Tv) : ∃ x y z : Int, stuffRes s b p q er1 er2 l k = .tuple #[.int .i64 x, .int .i64 y, .int .i64 z] := by
  unfold stuffRes
  split
  · split
    · split
      · exact ⟨_, _, _, rfl⟩
      · split
        · exact ⟨_, _, _, rfl⟩
        · exact ⟨_, _, _, rfl⟩
    · exact ⟨_, _, _, rfl⟩
  · exact ⟨_, _, _, rfl⟩

end Go.Proofs.YtpnfcgmogjpliaaGreatDoor
