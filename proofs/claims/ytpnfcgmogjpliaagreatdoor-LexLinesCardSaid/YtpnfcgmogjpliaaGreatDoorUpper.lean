/- A text whose capitals are a sign: strings.ToUpper and the capitals of A to Z say the same there. No condition. -/
import Derived.Test.YtpnfcgmogjpliaaGreatDoorLexM
import Derived.Lib.MapLaws
import Derived.Lib.TrimU
import Derived.Shelf.Strings.CaseAny
namespace Go.Proofs.YtpnfcgmogjpliaaGreatDoor
open Go.Lib

/-- One byte that is no rune. -/
def WOne (x : Nat × Nat) : Prop := x.2 = 1 → x.1 = 65533

theorem width_one (l : List UInt8) (h : (decodeL l).2 = 1) : (l.getD 0 0).toNat < 128 ∨ (decodeL l).1 = 65533 := by
  by_cases h0 : (l.getD 0 0).toNat < 128
  · exact .inl h0
  · right
    have e : (Utf8.decode ⟨l.toArray⟩ 0).2 = 1 := h
    show (Utf8.decode ⟨l.toArray⟩ 0).1 = 65533
    have hb : ¬ ((⟨l.toArray⟩ : ByteArray).get! (0 + 0)).toNat < 0x80 := by
      have : (⟨l.toArray⟩ : ByteArray).get! (0 + 0) = l.getD 0 0 := by
        cases l <;> rfl
      rw [this]
      exact h0
    have key : WOne (Utf8.decode ⟨l.toArray⟩ 0) := by
      unfold Utf8.decode
      simp only [hb, if_false]
      repeat' (first | exact fun _ => rfl | split | (intro h; simp at h; done))
    exact key e

theorem enc_one (r : Int) (h : ∀ b ∈ encodeRune r, b.toNat < 128) : (encodeRune r).length = 1 ∧ 0 ≤ r ∧ r ≤ 127 := by
  unfold encodeRune encodeRuneZ at h ⊢
  split
  · rename_i h1
    exact ⟨rfl, h1⟩
  · rename_i h1
    rw [if_neg h1] at h
    split
    · rename_i h2
      rw [if_pos h2] at h
      have := h (192 + r / 64).toNat.toUInt8 (by simp)
      simp at this
      omega
    · rename_i h2
      rw [if_neg h2] at h
      split
      · rename_i h3
        rw [if_pos h3] at h
        have := h (224 + r / 4096).toNat.toUInt8 (by simp)
        simp at this
        omega
      · rename_i h3
        rw [if_neg h3] at h
        split
        · rename_i h4
          rw [if_pos h4] at h
          have := h (240 + r / 262144).toNat.toUInt8 (by simp)
          simp at this
          omega
        · rename_i h4
          rw [if_neg h4] at h
          exact absurd (h 239 (by simp)) (by decide)

theorem upper_bad : ¬ ∀ b ∈ encodeRune (toUpperU 65533), b.toNat < 128 := by
  have : toUpperU 65533 = 65533 := by kernel_rfl
  rw [this]
  intro h
  have := enc_one 65533 h
  omega

/-- Where what ToUpper makes is of bytes below 128: it is no longer; and where it is as long, the text was of such bytes. -/
theorem upper_len : ∀ (n : Nat) (l : List UInt8), l.length ≤ n → (∀ b ∈ toUpperD l, b.toNat < 128) → (toUpperD l).length ≤ l.length ∧ ((toUpperD l).length = l.length → ∀ b ∈ l, b.toNat < 128)
  | 0, l, hn, _ => by
    obtain rfl := List.eq_nil_of_length_eq_zero (Nat.le_zero.1 hn)
    exact ⟨Nat.le_refl _, fun _ b hb => by cases hb⟩
  | n + 1, [], _, _ => ⟨Nat.le_refl _, fun _ b hb => by cases hb⟩
  | n + 1, b :: t, hn, h => by
    have hne : b :: t ≠ [] := by simp
    have hw1 := decodeL_width (b :: t)
    have hw2 := decodeL_le (b :: t) hne
    have hr := decodeL_rune (b :: t)
    have e : toUpperD (b :: t) = encodeRune (toUpperU (decodeL (b :: t)).1) ++ toUpperD ((b :: t).drop (decodeL (b :: t)).2) := by
      unfold toUpperD
      rw [mapD_step toUpperU (b :: t) hne, if_pos (toUpperU_range _ hr).1]
    rw [e] at h
    have h1 := enc_one _ (fun x hx => h x (List.mem_append_left _ hx))
    have ih := upper_len n ((b :: t).drop (decodeL (b :: t)).2) (by rw [List.length_drop]; simp only [List.length_cons] at hn ⊢; omega) (fun x hx => h x (List.mem_append_right _ hx))
    rw [e, List.length_append, h1.1]
    rw [List.length_drop] at ih
    refine ⟨by omega, fun hl => ?_⟩
    have hone : (decodeL (b :: t)).2 = 1 := by omega
    rw [hone] at ih h hl
    have ht := ih.2 (by simp only [List.length_cons] at hl ⊢; omega)
    intro x hx
    rcases List.mem_cons.1 hx with rfl | hx
    · rcases width_one _ hone with h0 | h0
      · exact h0
      · rw [h0] at h
        exact absurd (fun y hy => h y (List.mem_append_left _ hy)) upper_bad
    · exact ht x (by simpa using hx)

theorem upperA_caps (l : List UInt8) : toUpperA l = LexM.caps l := by
  unfold toUpperA LexM.caps
  apply List.map_congr_left
  intro b _
  rfl

theorem cap_high (b : UInt8) (h : 128 ≤ b.toNat) : LexM.cap b = b := by
  unfold LexM.cap
  rw [if_neg]
  simp only [Bool.and_eq_true, decide_eq_true_eq, UInt8.le_iff_toNat_le]
  rw [show (122 : UInt8).toNat = 122 from rfl]
  omega

/-- Against a text of bytes below 128 and of the same length the two ways to make capitals answer the same. -/
theorem upper_caps (l w : List UInt8) (hl : l.length = w.length) (hw : ∀ b ∈ w, b.toNat < 128) : (toUpperD l == w) = (LexM.caps l == w) := by
  by_cases ha : ∀ b ∈ l, b.toNat < 128
  · rw [toUpperD_ascii l ha, upperA_caps]
  · have h1 : (toUpperD l == w) = false := by
      rw [beq_eq_false_iff_ne]
      intro e
      exact ha ((upper_len l.length l (Nat.le_refl _) (by rw [e]; exact hw)).2 (by rw [e, hl]))
    have h2 : (LexM.caps l == w) = false := by
      rw [beq_eq_false_iff_ne]
      intro e
      apply ha
      intro b hb
      have hc : LexM.cap b ∈ w := by rw [← e]; exact List.mem_map_of_mem hb
      by_cases h128 : b.toNat < 128
      · exact h128
      · rw [cap_high b (by omega)] at hc
        exact hw b hc
    rw [h1, h2]

end Go.Proofs.YtpnfcgmogjpliaaGreatDoor
