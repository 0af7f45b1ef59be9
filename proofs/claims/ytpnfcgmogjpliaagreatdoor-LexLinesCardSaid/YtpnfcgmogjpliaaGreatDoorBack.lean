/- The text of tokens, in plain Lean; and: a text that is made of a source's tokens has the same tokens. No condition. -/
import Derived.Test.YtpnfcgmogjpliaaGreatDoorLexM
namespace Go.Proofs.YtpnfcgmogjpliaaGreatDoor.LexM

/-- A token without its place. -/
abbrev Kt := Int × List UInt8
def Tk.kt (t : Tk) : Kt := ((t.kind : Int), t.text)
def kts (l : List Tk) : List Kt := l.map Tk.kt

/-- A token as text. -/
def written (t : Kt) : List UInt8 :=
  if t.1 = 2 then (if t.2.contains 34 then [39] ++ t.2 ++ [39] else [34] ++ t.2 ++ [34])
  else if t.1 = 3 then
    (if t.2.length = 8 then [123, 94] ++ t.2.take 4 ++ [45] ++ (t.2.drop 4).take 2 ++ [45] ++ t.2.drop 6 ++ [125] else [123] ++ t.2 ++ [125])
  else t.2

/-- The text of tokens; begun: a token stands in the line. -/
def joinM : List Kt → Bool → List UInt8
  | [], _ => []
  | t :: ts, begun => if t.1 = 5 then 10 :: joinM ts false else (if begun then [32] else []) ++ (written t ++ joinM ts true)

/-- What Join returns. -/
def joinRes (l : List Kt) : List UInt8 × Int :=
  if (lexRes (joinM l false)).2.2 ≠ 0 then ([], (lexRes (joinM l false)).2.2)
  else if kts (lexRes (joinM l false)).1 = l then (joinM l false, 0) else ([], 1)

/-! ### A token that is read anew -/
def Sep (c : UInt8) : Prop := c = 32 ∨ c = 10

/-- The token's text, behind which a blank or an end follows, is that token; ln: whether it may be the first one of a line. -/
def TokOk (t : Tk) (ln : Bool) : Prop :=
  t.kind < 5 ∧ ∃ b w, written t.kt = b :: w ∧ b ≠ 10 ∧ isBlank b = false ∧ b ≠ 59 ∧ (∀ c r, Sep c → isComment b (w ++ c :: r) ln = false) ∧
    ∀ c r, Sep c → tokStep b (w ++ c :: r) = .tok t.kind t.text (w.length + 1)

theorem step_of_ok {b : UInt8} {t : List UInt8} {ln : Bool} (h10 : b ≠ 10) (hb : isBlank b = false) (h59 : b ≠ 59) (hc : isComment b t ln = false) : step b t ln = tokStep b t := by
  unfold step
  have e1 : (b == 10) = false := by simpa using h10
  have e2 : (b == 59) = false := by simpa using h59
  rw [e1, hb, hc, e2]
  simp

theorem lex_ok {t : Tk} {ln : Bool} (h : TokOk t ln) {c : UInt8} (hc : Sep c) (r : List UInt8) (at_ : Nat) :
    lex (written t.kt ++ c :: r) at_ ln = (⟨t.kind, at_, t.text⟩ :: (lex (c :: r) (at_ + (written t.kt).length) true).1, (lex (c :: r) (at_ + (written t.kt).length) true).2) := by
  obtain ⟨_, b, w, hw, h10, hb, h59, hcm, htk⟩ := h
  rw [hw, List.cons_append]
  rw [lex_tok (k := w.length + 1) (kind := t.kind) (text := t.text) (by rw [step_of_ok h10 hb h59 (hcm c r hc)]; exact htk c r hc)]
  have e : (b :: (w ++ c :: r)).drop (w.length + 1) = c :: r := by simp
  rw [e, List.length_cons]

theorem bytes_all (p : UInt8 → Bool) (h : (List.range 256).all (fun n => p (UInt8.ofNat n)) = true) (b : UInt8) : p b = true := by
  have hb : b.toNat < 256 := b.toNat_lt
  have := List.all_eq_true.1 h b.toNat (by simpa using hb)
  simpa using this

theorem cap_letter (b : UInt8) : isLetter b = true → isLetter (cap b) = true := by
  have := bytes_all (fun b => !isLetter b || isLetter (cap b)) (by kernel_rfl) b
  intro h
  simpa [h] using this
theorem cap_wordy (b : UInt8) : isWordy b = true → isWordy (cap b) = true := by
  have := bytes_all (fun b => !isWordy b || isWordy (cap b)) (by kernel_rfl) b
  intro h
  simpa [h] using this
theorem cap_cap (b : UInt8) : cap (cap b) = cap b := by
  have := bytes_all (fun b => cap (cap b) == cap b) (by kernel_rfl) b
  simpa using this
theorem cap_star (b : UInt8) : cap b = 42 → b = 42 := by
  have := bytes_all (fun b => !(cap b == 42) || b == 42) (by kernel_rfl) b
  intro h
  simpa [h] using this
theorem caps_caps (l : List UInt8) : caps (caps l) = caps l := by
  induction l with
  | nil => rfl
  | cons b l ih =>
    simp only [caps, List.map_cons] at *
    rw [ih, cap_cap]
theorem letter_no (b : UInt8) (h : isLetter b = true) : b ≠ 10 ∧ isBlank b = false ∧ b ≠ 59 ∧ b ≠ 38 ∧ b ≠ 42 ∧ isDigit b = false := by
  have := bytes_all (fun b => !isLetter b || (!(b == 10) && !isBlank b && !(b == 59) && !(b == 38) && !(b == 42) && !isDigit b)) (by kernel_rfl) b
  simpa [h, and_assoc] using this
theorem digit_no (b : UInt8) (h : isDigit b = true) : b ≠ 10 ∧ isBlank b = false ∧ b ≠ 59 ∧ b ≠ 38 ∧ b ≠ 42 ∧ isLetter b = false := by
  have := bytes_all (fun b => !isDigit b || (!(b == 10) && !isBlank b && !(b == 59) && !(b == 38) && !(b == 42) && !isLetter b)) (by kernel_rfl) b
  simpa [h, and_assoc] using this
theorem wordy_sep {c : UInt8} (h : Sep c) : isWordy c = false := by rcases h with rfl | rfl <;> decide
theorem digit_sep {c : UInt8} (h : Sep c) : isDigit c = false := by rcases h with rfl | rfl <;> decide

theorem tw_app (p : UInt8 → Bool) : ∀ (l : List UInt8) (c : UInt8) (r : List UInt8), (∀ b ∈ l, p b = true) → p c = false → (l ++ c :: r).takeWhile p = l
  | [], c, r, _, hc => by simp [hc]
  | b :: l, c, r, h, hc => by
    rw [List.cons_append, List.takeWhile_cons, h b (by simp)]
    simp only [if_true]
    rw [tw_app p l c r (fun x hx => h x (by simp [hx])) hc]
theorem tw_all (p : UInt8 → Bool) : ∀ (l : List UInt8), ∀ b ∈ l.takeWhile p, p b = true
  | [], b, h => by simp at h
  | x :: l, b, h => by
    rw [List.takeWhile_cons] at h
    by_cases hx : p x = true
    · rw [if_pos hx] at h
      rcases List.mem_cons.1 h with rfl | h
      · exact hx
      · exact tw_all p l b h
    · rw [if_neg hx] at h
      simp at h
theorem noComment {b : UInt8} (h1 : b ≠ 38) (h2 : b ≠ 42) (t : List UInt8) (ln : Bool) : isComment b t ln = false := by
  unfold isComment
  have e1 : (b == 38) = false := by simpa using h1
  have e2 : (b == 42) = false := by simpa using h2
  rw [e1, e2]
  rfl

theorem ok_word {b : UInt8} {t : List UInt8} (hb : isLetter b = true) (ln : Bool) (at_ : Nat) (hl : ¬ 24 < ((b :: t).takeWhile isWordy).length) :
    TokOk ⟨0, at_, caps ((b :: t).takeWhile isWordy)⟩ ln ∧ (written (Tk.kt ⟨0, at_, caps ((b :: t).takeWhile isWordy)⟩)).length = ((b :: t).takeWhile isWordy).length := by
  have hw : isWordy b = true := by simp [isWordy, hb]
  have htw : (b :: t).takeWhile isWordy = b :: t.takeWhile isWordy := by rw [List.takeWhile_cons, if_pos hw]
  rw [htw] at hl ⊢
  have hall : ∀ x ∈ caps (b :: t.takeWhile isWordy), isWordy x = true := by
    intro x hx
    simp only [caps, List.mem_map] at hx
    obtain ⟨y, hy, rfl⟩ := hx
    refine cap_wordy y ?_
    rcases List.mem_cons.1 hy with rfl | hy
    · exact hw
    · exact tw_all _ _ _ hy
  have hwr : written (Tk.kt ⟨0, at_, caps (b :: t.takeWhile isWordy)⟩) = cap b :: caps (t.takeWhile isWordy) := by simp [written, Tk.kt, caps]
  have hcb := cap_letter b hb
  obtain ⟨n1, n2, n3, n4, n5, n6⟩ := letter_no _ hcb
  refine ⟨⟨by show 0 < 5; decide, cap b, caps (t.takeWhile isWordy), hwr, n1, n2, n3, fun c r _ => noComment n4 n5 _ _, fun c r hc => ?_⟩, ?_⟩
  · have e : (cap b :: (caps (t.takeWhile isWordy) ++ c :: r)).takeWhile isWordy = caps (b :: t.takeWhile isWordy) := by
      have := tw_app isWordy (caps (b :: t.takeWhile isWordy)) c r hall (wordy_sep hc)
      simpa [caps] using this
    unfold tokStep
    rw [if_pos hcb]
    simp only [e, caps_length, List.length_cons] at hl ⊢
    rw [if_neg hl, caps_caps]
  · rw [hwr]
    simp [caps]

theorem ok_num {b : UInt8} {t : List UInt8} (hb : isDigit b = true) (ln : Bool) (at_ : Nat) (hl : ¬ 15 < ((b :: t).takeWhile isDigit).length) :
    TokOk ⟨1, at_, (b :: t).takeWhile isDigit⟩ ln ∧ (written (Tk.kt ⟨1, at_, (b :: t).takeWhile isDigit⟩)).length = ((b :: t).takeWhile isDigit).length := by
  have htw : (b :: t).takeWhile isDigit = b :: t.takeWhile isDigit := by rw [List.takeWhile_cons, if_pos hb]
  rw [htw] at hl ⊢
  have hall : ∀ x ∈ b :: t.takeWhile isDigit, isDigit x = true := by
    intro x hx
    rcases List.mem_cons.1 hx with rfl | hx
    · exact hb
    · exact tw_all _ _ _ hx
  have hwr : written (Tk.kt ⟨1, at_, b :: t.takeWhile isDigit⟩) = b :: t.takeWhile isDigit := by simp [written, Tk.kt]
  obtain ⟨n1, n2, n3, n4, n5, n6⟩ := digit_no _ hb
  refine ⟨⟨by show 1 < 5; decide, b, t.takeWhile isDigit, hwr, n1, n2, n3, fun c r _ => noComment n4 n5 _ _, fun c r hc => ?_⟩, by rw [hwr]⟩
  have e : (b :: (t.takeWhile isDigit ++ c :: r)).takeWhile isDigit = b :: t.takeWhile isDigit := by
    have := tw_app isDigit (b :: t.takeWhile isDigit) c r hall (digit_sep hc)
    simpa using this
  unfold tokStep
  rw [if_neg (by simp [n6]), if_pos hb]
  simp only [e, List.length_cons] at hl ⊢
  rw [if_neg hl]

theorem findIdx_app {q : UInt8} : ∀ (l r : List UInt8), (∀ b ∈ l, b ≠ q) → (l ++ q :: r).findIdx? (· == q) = some l.length
  | [], r, _ => by simp [List.findIdx?_cons]
  | b :: l, r, h => by
    have hb : (b == q) = false := by simpa using h b (by simp)
    rw [List.cons_append, List.findIdx?_cons, hb, findIdx_app l r (fun x hx => h x (by simp [hx]))]
    simp
theorem findIdx_none {q : UInt8} : ∀ (l : List UInt8) (k : Nat), l.findIdx? (· == q) = some k → k < l.length ∧ ∀ b ∈ l.take k, b ≠ q
  | [], k, h => by simp at h
  | b :: l, k, h => by
    rw [List.findIdx?_cons] at h
    by_cases hb : (b == q) = true
    · rw [if_pos hb] at h
      cases h
      simp
    · rw [if_neg hb] at h
      cases hf : l.findIdx? (· == q) with
      | none => rw [hf] at h; cases h
      | some j =>
        rw [hf] at h
        cases h
        obtain ⟨h1, h2⟩ := findIdx_none l j hf
        refine ⟨by simpa using h1, fun x hx => ?_⟩
        simp only [List.take_succ_cons, List.mem_cons] at hx
        rcases hx with rfl | hx
        · simpa using hb
        · exact h2 x hx
theorem line_take_le (t : List UInt8) (k : Nat) (hk : k ≤ (line t).length) : t.take k = (line t).take k := by
  have h : t = line t ++ t.dropWhile (· != 10) := (List.takeWhile_append_dropWhile).symm
  conv => lhs; rw [h]
  rw [List.take_append_of_le_length hk]
theorem line_no10 (t : List UInt8) : ∀ b ∈ line t, b ≠ 10 := fun b hb => by simpa using tw_all (· != 10) t b hb

theorem ok_str {b : UInt8} {t : List UInt8} (hb : b = 34 ∨ b = 39) (ln : Bool) (at_ k : Nat) (hk : (line t).findIdx? (· == b) = some k) (hw : firstWrong (t.take k) = none) :
    TokOk ⟨2, at_, t.take k⟩ ln ∧ (written (Tk.kt ⟨2, at_, t.take k⟩)).length = k + 2 := by
  obtain ⟨hk1, hk2⟩ := findIdx_none _ _ hk
  have htk : t.take k = (line t).take k := line_take_le t k (by omega)
  have h10 : ∀ x ∈ t.take k, x ≠ 10 := fun x hx => line_no10 t x (List.mem_of_mem_take (htk ▸ hx))
  have hnb : ∀ x ∈ t.take k, x ≠ b := fun x hx => hk2 x (htk ▸ hx)
  have hlen : (t.take k).length = k := by
    have := line_le t
    rw [List.length_take]
    omega
  generalize t.take k = x at *
  obtain ⟨q, hq, hqn, hwr⟩ : ∃ q : UInt8, (q = 34 ∨ q = 39) ∧ (∀ y ∈ x, y ≠ q) ∧ written (Tk.kt ⟨2, at_, x⟩) = q :: (x ++ [q]) := by
    cases hc : x.contains 34 with
    | true =>
      have hm : 34 ∈ x := by simpa using hc
      refine ⟨39, .inr rfl, ?_, by simp [written, Tk.kt, hm]⟩
      rcases hb with rfl | rfl
      · exact absurd rfl (hnb _ hm)
      · exact hnb
    | false =>
      have hm : ¬ 34 ∈ x := by simpa using hc
      refine ⟨34, .inl rfl, ?_, by simp [written, Tk.kt, hm]⟩
      intro y hy e
      subst e
      exact hm hy
  have q10 : q ≠ 10 := by rcases hq with rfl | rfl <;> decide
  refine ⟨⟨by show 2 < 5; decide, q, x ++ [q], hwr, q10, by rcases hq with rfl | rfl <;> decide, by rcases hq with rfl | rfl <;> decide, fun c r _ => noComment (by rcases hq with rfl | rfl <;> decide) (by rcases hq with rfl | rfl <;> decide) _ _, fun c r hc => ?_⟩, by rw [hwr]; simp; omega⟩
  have e1 : isLetter q = false := by rcases hq with rfl | rfl <;> decide
  have e2 : isDigit q = false := by rcases hq with rfl | rfl <;> decide
  have e3 : (q == 34 || q == 39) = true := by rcases hq with rfl | rfl <;> decide
  have e4 : (line (x ++ [q] ++ c :: r)).findIdx? (· == q) = some x.length := by
    obtain ⟨z, hz⟩ : ∃ z, line (x ++ [q] ++ c :: r) = x ++ q :: z := by
      refine ⟨line (c :: r), ?_⟩
      unfold line
      rw [List.takeWhile_append_of_pos (l₁ := x ++ [q])]
      · simp
      · intro y hy
        rcases List.mem_append.1 hy with hy | hy
        · simpa using h10 y hy
        · simp only [List.mem_singleton] at hy
          subst hy
          simpa using q10
    rw [hz]
    exact findIdx_app x z hqn
  have e5 : (x ++ [q] ++ c :: r).take x.length = x := by simp
  unfold tokStep
  rw [if_neg (by simp [e1]), if_neg (by simp [e2]), if_pos e3, e4]
  simp only
  rw [e5, hw]
  simp

theorem eight {d : List UInt8} (h : d.length = 8) : ∃ a0 a1 a2 a3 a4 a5 a6 a7, d = [a0, a1, a2, a3, a4, a5, a6, a7] := by
  match d, h with
  | [a0, a1, a2, a3, a4, a5, a6, a7], _ => exact ⟨_, _, _, _, _, _, _, _, rfl⟩

theorem ok_date {b : UInt8} {t d : List UInt8} {n : Nat} (h : dateM (b :: t) = some (d, n)) (ln : Bool) (at_ : Nat) :
    TokOk ⟨3, at_, d⟩ ln ∧ (written (Tk.kt ⟨3, at_, d⟩)).length = n := by
  have k1 : isLetter 123 = false := by decide
  have k2 : isDigit 123 = false := by decide
  unfold dateM at h
  split at h
  · cases h
    have hwr : written (Tk.kt ⟨3, at_, []⟩) = [123, 125] := by simp [written, Tk.kt]
    refine ⟨⟨by show 3 < 5; decide, 123, [125], hwr, by decide, by decide, by decide, fun c r _ => noComment (by decide) (by decide) _ _, fun c r hc => ?_⟩, by rw [hwr]; rfl⟩
    unfold tokStep
    rw [if_neg (by simp [k1]), if_neg (by simp [k2]), if_neg (by decide)]
    have : dateM (123 :: ([125] ++ c :: r)) = some ([], 2) := by
      unfold dateM
      rw [if_pos (by simp)]
    rw [this]
    rfl
  · split at h
    · rename_i h2
      simp only [Option.some.injEq, Prod.mk.injEq] at h
      obtain ⟨hd, rfl⟩ := h
      rw [hd] at h2
      simp only [Bool.and_eq_true] at h2
      have hday := h2.2
      have h8 : d.length = 8 := by
        simp only [isDay, Bool.and_eq_true, beq_iff_eq] at hday
        exact hday.1.1
      obtain ⟨a0, a1, a2, a3, a4, a5, a6, a7, rfl⟩ := eight h8
      have hwr : written (Tk.kt ⟨3, at_, [a0, a1, a2, a3, a4, a5, a6, a7]⟩) = [123, 94, a0, a1, a2, a3, 45, a4, a5, 45, a6, a7, 125] := by simp [written, Tk.kt]
      refine ⟨⟨by show 3 < 5; decide, 123, [94, a0, a1, a2, a3, 45, a4, a5, 45, a6, a7, 125], hwr, by decide, by decide, by decide, fun c r _ => noComment (by decide) (by decide) _ _, fun c r hc => ?_⟩, by rw [hwr]; rfl⟩
      unfold tokStep
      rw [if_neg (by simp [k1]), if_neg (by simp [k2]), if_neg (by decide)]
      have : dateM (123 :: ([94, a0, a1, a2, a3, 45, a4, a5, 45, a6, a7, 125] ++ c :: r)) = some ([a0, a1, a2, a3, a4, a5, a6, a7], 13) := by
        unfold dateM
        have hh : hasDate (123 :: ([94, a0, a1, a2, a3, 45, a4, a5, 45, a6, a7, 125] ++ c :: r)) = true := by
          simp [hasDate]
        have hdd : dateDigits (123 :: ([94, a0, a1, a2, a3, 45, a4, a5, 45, a6, a7, 125] ++ c :: r)) = [a0, a1, a2, a3, a4, a5, a6, a7] := by
          simp [dateDigits]
        rw [if_neg (by simp), hh, hdd, hday]
        rfl
      rw [this]
      rfl
    · cases h

set_option maxRecDepth 100000 in
theorem sign_again : ∀ w ∈ signs, ∃ c w', w = c :: w' ∧ c ≠ 10 ∧ isBlank c = false ∧ c ≠ 59 ∧ isLetter c = false ∧ isDigit c = false ∧ (c == 34 || c == 39) = false ∧ (w' = [] ∨ c ≠ 38) ∧ (c = 42 → w = [42]) ∧
    ∀ s, Sep s → ∀ r, ((c :: (w' ++ s :: r)).take 2 == [123, 125]) = false ∧ ((c :: (w' ++ s :: r)).take 2 == [123, 94]) = false ∧ signM (c :: (w' ++ s :: r)) = some w := by
  intro w hw
  simp only [signs, List.mem_cons, List.mem_nil_iff, or_false] at hw
  rcases hw with rfl | rfl | rfl | rfl | rfl | rfl | rfl | rfl | rfl | rfl | rfl | rfl | rfl | rfl | rfl | rfl | rfl | rfl | rfl | rfl | rfl | rfl | rfl | rfl | rfl | rfl | rfl | rfl | rfl | rfl | rfl | rfl | rfl | rfl | rfl | rfl | rfl | rfl
  all_goals
    refine ⟨_, _, rfl, by decide, by decide, by decide, by decide, by decide, by decide, by decide, by decide, ?_⟩
    rintro s (rfl | rfl) r
    · exact ⟨rfl, rfl, rfl⟩
    · exact ⟨rfl, rfl, rfl⟩

theorem dateM_no {r : List UInt8} (h1 : (r.take 2 == [123, 125]) = false) (h2 : (r.take 2 == [123, 94]) = false) : dateM r = none := by
  unfold dateM hasDate
  rw [h1, h2]
  simp

theorem ok_sign {b : UInt8} {t w : List UInt8} (h : signM (b :: t) = some w) (ln : Bool) (hln : (b == 42 && !ln) = false) (at_ : Nat) :
    TokOk ⟨4, at_, w⟩ ln ∧ (written (Tk.kt ⟨4, at_, w⟩)).length = w.length := by
  obtain ⟨hm, _, _, hcap⟩ := signM_some h
  obtain ⟨c, w', rfl, n1, n2, n3, n4, n5, n6, n7, n8, hr⟩ := sign_again w hm
  have hwr : written (Tk.kt ⟨4, at_, c :: w'⟩) = c :: w' := by simp [written, Tk.kt]
  refine ⟨⟨by show 4 < 5; decide, c, w', hwr, n1, n2, n3, fun s r hs => ?_, fun s r hs => ?_⟩, by rw [hwr]⟩
  · unfold isComment
    have e1 : (c == 38 && (w' ++ s :: r).head? == some 38) = false := by
      rcases n7 with rfl | h38
      · rcases hs with rfl | rfl <;> simp
      · simp [h38]
    have e2 : (c == 42 && !ln) = false := by
      by_cases hc : c = 42
      · have hw := n8 hc
        simp only [List.cons.injEq] at hw
        obtain ⟨_, rfl⟩ := hw
        subst hc
        have hb : b = 42 := by
          simp only [List.length_cons, List.length_nil, List.take_succ_cons, List.take_zero, caps, List.map_cons, List.map_nil, List.cons.injEq, and_true] at hcap
          exact cap_star b hcap
        subst hb
        exact hln
      · have : (c == 42) = false := by simpa using hc
        rw [this]
        rfl
    rw [e1, e2]
    rfl
  · obtain ⟨d1, d2, d3⟩ := hr s hs r
    unfold tokStep
    rw [if_neg (by simp [n4]), if_neg (by simp [n5]), if_neg (by simp [n6]), dateM_no d1 d2]
    simp only
    rw [d3]
    rfl

theorem tok_ok {b : UInt8} {t : List UInt8} {ln : Bool} {kind n : Nat} {x : List UInt8} (h : step b t ln = .tok kind x n) (at_ : Nat) :
    TokOk ⟨kind, at_, x⟩ ln ∧ (written (Tk.kt ⟨kind, at_, x⟩)).length = n := by
  unfold step at h
  split at h
  · cases h
  · split at h
    · cases h
    · split at h
      · split at h <;> cases h
      · rename_i _ _ hcm
        split at h
        · split at h <;> cases h
        · unfold tokStep at h
          split at h
          · rename_i hb
            dsimp only at h
            split at h
            · cases h
            · rename_i hl
              cases h
              exact ok_word (t := t) hb ln at_ hl
          · split at h
            · rename_i hb
              dsimp only at h
              split at h
              · cases h
              · rename_i hl
                cases h
                exact ok_num hb ln at_ hl
            · split at h
              · rename_i hb
                split at h
                · cases h
                · rename_i k hk
                  split at h
                  · cases h
                  · rename_i hw
                    cases h
                    exact ok_str (by simpa using hb) ln at_ k hk hw
              · split at h
                · rename_i d m hd
                  cases h
                  exact ok_date hd ln at_
                · split at h
                  · rename_i w hw
                    cases h
                    refine ok_sign hw ln ?_ at_
                    simp only [isComment, Bool.not_eq_true, Bool.or_eq_false_iff] at hcm
                    exact hcm.2
                  · cases h

/-- Tokens that a source has. -/
def Good : List Tk → Bool → Prop
  | [], ln => ln = false
  | t :: ts, ln => if t.kind = 5 then t.text = [] ∧ ln = true ∧ Good ts false else TokOk t ln ∧ Good ts true

theorem lexF_good : ∀ (n : Nat) (r : List UInt8) (at_ : Nat) (ln : Bool) (ts : List Tk), r.length < n → lexF n r at_ ln = (ts, none) →
    Good ts ln ∧ (joinM (kts ts) ln).length ≤ 2 * r.length + (if ln then 1 else 0) := by
  intro n
  induction n with
  | zero => intro r at_ ln ts h; omega
  | succ n ih =>
    intro r at_ ln ts hn h
    cases r with
    | nil =>
      simp only [lexF, Prod.mk.injEq, and_true] at h
      subst h
      cases ln with
      | false => exact ⟨rfl, by simp [ends, kts, joinM]⟩
      | true => exact ⟨by simp [ends, Good], by simp [ends, kts, Tk.kt, joinM]⟩
    | cons b t =>
      simp only [List.length_cons] at hn
      simp only [lexF] at h
      split at h
      · obtain ⟨ts', er, hl⟩ : ∃ ts' er, lexF n t (at_ + 1) false = (ts', er) := ⟨_, _, rfl⟩
        rw [hl] at h
        simp only [Prod.mk.injEq] at h
        obtain ⟨rfl, rfl⟩ := h
        obtain ⟨g1, g2⟩ := ih t (at_ + 1) false ts' (by omega) hl
        cases ln with
        | false =>
          refine ⟨by simpa [ends] using g1, ?_⟩
          have e : joinM (kts (ends false at_ ++ ts')) false = joinM (kts ts') false := rfl
          rw [e]
          simp only [List.length_cons, Bool.false_eq_true, if_false] at g2 ⊢
          omega
        | true =>
          refine ⟨by simpa [ends, Good] using g1, ?_⟩
          have e : joinM (kts (ends true at_ ++ ts')) true = 10 :: joinM (kts ts') false := rfl
          rw [e]
          simp only [List.length_cons, if_true, Bool.false_eq_true, if_false] at g2 ⊢
          omega
      · rename_i k hk
        have h1 := step_skip hk
        obtain ⟨g1, g2⟩ := ih _ _ _ ts (by simp; omega) h
        refine ⟨g1, ?_⟩
        simp only [List.length_drop, List.length_cons] at g2 ⊢
        omega
      · simp at h
      · rename_i kind x k hk
        have h1 := step_tok hk
        obtain ⟨ts', er, hl⟩ : ∃ ts' er, lexF n ((b :: t).drop k) (at_ + k) true = (ts', er) := ⟨_, _, rfl⟩
        rw [hl] at h
        simp only [Prod.mk.injEq] at h
        obtain ⟨rfl, rfl⟩ := h
        obtain ⟨g1, g2⟩ := ih _ _ true ts' (by simp; omega) hl
        obtain ⟨o1, o2⟩ := tok_ok hk at_
        have h5 : kind ≠ 5 := by
          have := o1.1
          simp only at this
          omega
        refine ⟨by rw [Good, if_neg h5]; exact ⟨o1, g1⟩, ?_⟩
        have h5' : ¬ ((kind : Int) = 5) := by omega
        simp only [List.length_drop, List.length_cons, if_true] at g2 ⊢
        have e : joinM (kts (⟨kind, at_, x⟩ :: ts')) ln = (if ln then [32] else []) ++ (written (Tk.kt ⟨kind, at_, x⟩) ++ joinM (kts ts') true) := by
          simp only [kts, List.map_cons, joinM]
          rw [if_neg (by simpa [Tk.kt] using h5')]
        rw [e, List.length_append, List.length_append, o2]
        cases ln <;> simp <;> omega

theorem lex_sep {c : UInt8} (hc : c = 32) (r : List UInt8) (at_ : Nat) (ln : Bool) : lex (c :: r) at_ ln = lex r (at_ + 1) ln := by
  subst hc
  exact lex_blank (by decide)

theorem good_lex : ∀ (ts : List Tk) (ln : Bool), Good ts ln → ∀ at_, ∃ ts', lex (joinM (kts ts) ln) at_ ln = (ts', none) ∧ kts ts' = kts ts := by
  intro ts
  induction ts with
  | nil =>
    intro ln h at_
    simp only [Good] at h
    subst h
    exact ⟨[], rfl, rfl⟩
  | cons t ts ih =>
    intro ln h at_
    rw [Good] at h
    by_cases h5 : t.kind = 5
    · rw [if_pos h5] at h
      obtain ⟨h1, rfl, h3⟩ := h
      have e : joinM (kts (t :: ts)) true = 10 :: joinM (kts ts) false := by
        simp only [kts, List.map_cons, joinM]
        rw [if_pos (by simp [Tk.kt, h5])]
      obtain ⟨ts', g1, g2⟩ := ih false h3 (at_ + 1)
      refine ⟨⟨5, at_, []⟩ :: ts', ?_, ?_⟩
      · rw [e, lex_eol, g1]
        rfl
      · have g2' : ts'.map Tk.kt = ts.map Tk.kt := g2
        simp only [kts, List.map_cons, g2']
        simp [Tk.kt, h5, h1]
    · rw [if_neg h5] at h
      obtain ⟨o, h3⟩ := h
      have h5' : ¬ ((t.kind : Int) = 5) := by omega
      have e : joinM (kts (t :: ts)) ln = (if ln then [32] else []) ++ (written t.kt ++ joinM (kts ts) true) := by
        simp only [kts, List.map_cons, joinM]
        rw [if_neg (by simpa [Tk.kt] using h5')]
      have hsep : ∃ c r, Sep c ∧ joinM (kts ts) true = c :: r := by
        cases ts with
        | nil => simp [Good] at h3
        | cons u us =>
          by_cases hu : u.kind = 5
          · refine ⟨10, joinM (kts us) false, .inr rfl, ?_⟩
            simp only [kts, List.map_cons, joinM]
            rw [if_pos (by simp [Tk.kt, hu])]
          · refine ⟨32, written u.kt ++ joinM (kts us) true, .inl rfl, ?_⟩
            simp only [kts, List.map_cons, joinM]
            rw [if_neg (by simp [Tk.kt]; omega)]
            rfl
      obtain ⟨c, r, hc, hj⟩ := hsep
      have key : ∀ a, ∃ ts', lex (written t.kt ++ joinM (kts ts) true) a ln = (ts', none) ∧ kts ts' = kts (t :: ts) := by
        intro a
        obtain ⟨ts', g1, g2⟩ := ih true h3 (a + (written t.kt).length)
        refine ⟨⟨t.kind, a, t.text⟩ :: ts', ?_, ?_⟩
        · rw [hj, lex_ok o hc, ← hj, g1]
        · have g2' : ts'.map Tk.kt = ts.map Tk.kt := g2
          simp only [kts, List.map_cons, g2']
          simp [Tk.kt]
      rw [e]
      cases ln with
      | false => simpa using key at_
      | true =>
        obtain ⟨ts', g1, g2⟩ := key (at_ + 1)
        refine ⟨ts', ?_, g2⟩
        simp only [if_true, List.cons_append, List.nil_append]
        rw [lex_sep rfl, g1]

/-- What is made of the tokens of a source has the same tokens, unless it is too long; then the source has more than 1,333 bytes. -/
theorem back {s : List UInt8} {ts : List Tk} {n : Int} (h : lexRes s = (ts, n, 0)) :
    (∃ ts' m, lexRes (joinM (kts ts) false) = (ts', m, 0) ∧ kts ts' = kts ts) ∨ (lexRes (joinM (kts ts) false) = ([], 0, 3) ∧ 1333 < s.length) := by
  unfold lexRes at h
  split at h
  · simp at h
  · rename_i h4
    split at h
    · simp at h
    · rename_i hnone
      split at h
      · simp at h
      · rename_i h12
        simp only [Prod.mk.injEq] at h
        obtain ⟨h1, _, _⟩ := h
        have hl : lexF (s.length + 1) s 0 false = (ts, none) := by
          have : lex s 0 false = (ts, none) := Prod.ext h1 hnone
          exact this
        obtain ⟨g1, g2⟩ := lexF_good _ s 0 false ts (by omega) hl
        obtain ⟨ts', e1, e2⟩ := good_lex ts false g1 0
        have hlen : ts'.length = ts.length := by
          have := congrArg List.length e2
          simpa [kts] using this
        by_cases hbig : 4000 < (joinM (kts ts) false).length
        · refine .inr ⟨by unfold lexRes; rw [if_pos hbig], ?_⟩
          simp at g2
          omega
        · refine .inl ⟨ts', ts'.length, ?_, e2⟩
          unfold lexRes
          rw [if_neg hbig, e1]
          simp only
          rw [if_neg (by rw [hlen, ← h1]; exact h12)]

theorem lexRes_three {s : List UInt8} {ts : List Tk} {n e : Int} (h : lexRes s = (ts, n, e)) : e = 0 ∨ e = 2 ∨ e = 3 := by
  unfold lexRes at h
  split at h
  · simp only [Prod.mk.injEq] at h; omega
  · split at h
    · simp only [Prod.mk.injEq] at h; omega
    · split at h
      · simp only [Prod.mk.injEq] at h; omega
      · simp only [Prod.mk.injEq] at h; omega

end Go.Proofs.YtpnfcgmogjpliaaGreatDoor.LexM
