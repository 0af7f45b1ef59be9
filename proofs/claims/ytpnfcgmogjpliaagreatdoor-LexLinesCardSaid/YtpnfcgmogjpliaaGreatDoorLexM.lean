/- What the tokens of a source are, in plain Lean: the model that both the program's lexer and the document's are shown to compute. No condition. -/
import Derived.KernelRfl
namespace Go.Proofs.YtpnfcgmogjpliaaGreatDoor.LexM

/-- A token: its kind, its place, its text. -/
structure Tk where
  kind : Nat
  pos : Nat
  text : List UInt8

def isBlank (b : UInt8) : Bool := b == 9 || b == 32
def isLetter (b : UInt8) : Bool := b == 95 || (97 ≤ b && b ≤ 122) || (65 ≤ b && b ≤ 90)
def isDigit (b : UInt8) : Bool := 48 ≤ b && b ≤ 57
def isWrong (b : UInt8) : Bool := b != 10 && b != 9 && (b < 32 || 126 < b)
def isWordy (b : UInt8) : Bool := isLetter b || isDigit b
def cap (b : UInt8) : UInt8 := if 97 ≤ b && b ≤ 122 then b - 32 else b
def caps (l : List UInt8) : List UInt8 := l.map cap

/-- The bytes of the line that begins here. -/
def line (l : List UInt8) : List UInt8 := l.takeWhile (· != 10)
def firstWrong (l : List UInt8) : Option Nat := l.findIdx? isWrong

/-- The signs, the longest first. -/
def signs : List (List UInt8) :=
  [[46, 78, 85, 76, 76, 46], [46, 65, 78, 68, 46], [46, 78, 79, 84, 46], [46, 79, 82, 46], [46, 84, 46], [46, 70, 46],
   [58, 61], [61, 61], [60, 62], [33, 61], [60, 61], [62, 61], [45, 62],
   [40], [41], [91], [93], [123], [125], [44], [124], [58], [46], [61], [35], [60], [62], [43], [45], [42], [47], [37], [94], [36], [38], [63], [64], [33]]

/-- The sign that stands here. -/
def signM (r : List UInt8) : Option (List UInt8) := signs.find? fun w => caps (r.take w.length) == w

def num (l : List UInt8) : Nat := l.foldl (fun n b => 10 * n + (b.toNat - 48)) 0
def isLeap (y : Nat) : Bool := y % 4 == 0 && (y % 100 != 0 || y % 400 == 0)
def monthLen (y m : Nat) : Nat := if m == 2 then (if isLeap y then 29 else 28) else if m == 4 || m == 6 || m == 9 || m == 11 then 30 else 31
/-- Eight digits of a day that there is. -/
def isDay (d : List UInt8) : Bool :=
  d.length == 8 && d.all isDigit &&
    (let y := num (d.take 4)
     let m := num ((d.drop 4).take 2)
     let e := num (d.drop 6)
     1 ≤ y && 1 ≤ m && m ≤ 12 && 1 ≤ e && e ≤ monthLen y m)
def dateDigits (r : List UInt8) : List UInt8 := (r.drop 2).take 4 ++ (r.drop 7).take 2 ++ (r.drop 10).take 2
def hasDate (r : List UInt8) : Bool := 13 ≤ r.length && r.take 2 == [123, 94] && r[6]? == some 45 && r[9]? == some 45 && r[12]? == some 125
/-- The date that stands here, and how many bytes it has. -/
def dateM (r : List UInt8) : Option (List UInt8 × Nat) :=
  if r.take 2 == [123, 125] then some ([], 2)
  else if hasDate r && isDay (dateDigits r) then some (dateDigits r, 13)
  else none

/-- What stands at a place. -/
inductive Step where
  | eol
  | skip (n : Nat)
  | bad (n : Nat)
  | tok (kind : Nat) (text : List UInt8) (n : Nat)

/-- A token of a source that goes on with b :: t. -/
def tokStep (b : UInt8) (t : List UInt8) : Step :=
  if isLetter b then
    (let w := (b :: t).takeWhile isWordy
     if 24 < w.length then .bad 0 else .tok 0 (caps w) w.length)
  else if isDigit b then
    (let w := (b :: t).takeWhile isDigit
     if 15 < w.length then .bad 0 else .tok 1 w w.length)
  else if b == 34 || b == 39 then
    (match (line t).findIdx? (· == b) with
     | none => .bad 0
     | some k => match firstWrong (t.take k) with
       | some i => .bad (1 + i)
       | none => .tok 2 (t.take k) (k + 2))
  else match dateM (b :: t) with
    | some (d, n) => .tok 3 d n
    | none => match signM (b :: t) with
      | some w => .tok 4 w w.length
      | none => .bad 0

/-- Whether a semicolon before t goes on. -/
def goes (t : List UInt8) : Bool :=
  match t.dropWhile isBlank with
  | [] => true
  | b :: u => b == 10 || (b == 38 && u.head? == some 38)

def isComment (b : UInt8) (t : List UInt8) (ln : Bool) : Bool := (b == 38 && t.head? == some 38) || (b == 42 && !ln)

def step (b : UInt8) (t : List UInt8) (ln : Bool) : Step :=
  if b == 10 then .eol
  else if isBlank b then .skip 1
  else if isComment b t ln then
    (match firstWrong (line (b :: t)) with
     | some i => .bad i
     | none => .skip (line (b :: t)).length)
  else if b == 59 && goes t then
    (match firstWrong (line t) with
     | some i => .bad (1 + i)
     | none => .skip (1 + (line t).length + (if (line t).length < t.length then 1 else 0)))
  else tokStep b t

/-- The end of a line, if there is something in it. -/
def ends (ln : Bool) (at_ : Nat) : List Tk := if ln then [⟨5, at_, []⟩] else []

/-- The tokens of what is left, and the place that is wrong, if there is one. -/
def lexF : Nat → List UInt8 → Nat → Bool → List Tk × Option Nat
  | 0, _, _, _ => ([], none)
  | _ + 1, [], at_, ln => (ends ln at_, none)
  | n + 1, b :: t, at_, ln =>
    match step b t ln with
    | .eol => (ends ln at_ ++ (lexF n t (at_ + 1) false).1, (lexF n t (at_ + 1) false).2)
    | .skip k => lexF n ((b :: t).drop k) (at_ + k) ln
    | .bad k => ([], some (at_ + k))
    | .tok kind text k => (⟨kind, at_, text⟩ :: (lexF n ((b :: t).drop k) (at_ + k) true).1, (lexF n ((b :: t).drop k) (at_ + k) true).2)

def lex (r : List UInt8) (at_ : Nat) (ln : Bool) : List Tk × Option Nat := lexF (r.length + 1) r at_ ln

/-- What Lex returns: the tokens, the second result, the error. -/
def lexRes (s : List UInt8) : List Tk × Int × Int :=
  if 4000 < s.length then ([], 0, 3)
  else match (lex s 0 false).2 with
    | some p => ([], p, 2)
    | none => if 1200 < (lex s 0 false).1.length then ([], 0, 3) else ((lex s 0 false).1, (lex s 0 false).1.length, 0)

/-! ### Each step goes on -/
theorem tw_le (p : UInt8 → Bool) (l : List UInt8) : (l.takeWhile p).length ≤ l.length := (List.takeWhile_prefix p).length_le
theorem line_le (l : List UInt8) : (line l).length ≤ l.length := tw_le _ _

theorem caps_length (l : List UInt8) : (caps l).length = l.length := by simp [caps]

theorem signM_some {r w : List UInt8} (h : signM r = some w) : w ∈ signs ∧ 1 ≤ w.length ∧ w.length ≤ r.length ∧ caps (r.take w.length) = w := by
  have h1 := List.mem_of_find?_eq_some h
  have h2 := List.find?_some h
  have h3 : caps (r.take w.length) = w := by simpa using h2
  have h4 : ∀ x ∈ signs, 1 ≤ x.length := by decide
  have h5 : (caps (r.take w.length)).length = w.length := by rw [h3]
  rw [caps_length, List.length_take] at h5
  exact ⟨h1, h4 w h1, by omega, h3⟩

theorem dateM_some {r d : List UInt8} {n : Nat} (h : dateM r = some (d, n)) : 1 ≤ n ∧ n ≤ r.length := by
  unfold dateM at h
  split at h
  · rename_i h1
    simp only [Option.some.injEq, Prod.mk.injEq] at h
    obtain ⟨_, rfl⟩ := h
    have h2 : (r.take 2).length = 2 := by rw [beq_iff_eq.1 h1]; rfl
    rw [List.length_take] at h2
    omega
  · split at h
    · rename_i h1
      simp only [Option.some.injEq, Prod.mk.injEq] at h
      obtain ⟨_, rfl⟩ := h
      simp only [hasDate, Bool.and_eq_true, decide_eq_true_eq] at h1
      omega
    · cases h

theorem tokStep_tok {b : UInt8} {t : List UInt8} {kind n : Nat} {text : List UInt8} (h : tokStep b t = .tok kind text n) : 1 ≤ n ∧ n ≤ t.length + 1 := by
  unfold tokStep at h
  split at h
  · rename_i h1
    have hw : isWordy b = true := by simp [isWordy, h1]
    simp only [List.takeWhile_cons, hw, if_true] at h
    split at h
    · cases h
    · cases h
      have := tw_le isWordy t
      simp
      omega
  · split at h
    · rename_i _ h1
      simp only [List.takeWhile_cons, h1, if_true] at h
      split at h
      · cases h
      · cases h
        have := tw_le isDigit t
        simp
        omega
    · split at h
      · split at h
        · cases h
        · rename_i k hk
          split at h
          · cases h
          · cases h
            have := List.findIdx?_eq_some_iff_findIdx_eq.1 hk
            have := line_le t
            omega
      · split at h
        · rename_i d m hd
          cases h
          have := dateM_some hd
          simpa using this
        · split at h
          · rename_i w hw
            cases h
            have := signM_some hw
            exact ⟨this.2.1, by simpa using this.2.2.1⟩
          · cases h

theorem step_tok {b : UInt8} {t : List UInt8} {ln : Bool} {kind n : Nat} {text : List UInt8} (h : step b t ln = .tok kind text n) : 1 ≤ n ∧ n ≤ t.length + 1 := by
  unfold step at h
  split at h
  · cases h
  · split at h
    · cases h
    · split at h
      · split at h <;> cases h
      · split at h
        · split at h <;> cases h
        · exact tokStep_tok h

theorem step_skip {b : UInt8} {t : List UInt8} {ln : Bool} {n : Nat} (h : step b t ln = .skip n) : 1 ≤ n ∧ n ≤ t.length + 1 := by
  unfold step at h
  split at h
  · cases h
  · rename_i h0
    split at h
    · cases h
      omega
    · split at h
      · split at h
        · cases h
        · cases h
          have hb : (b != 10) = true := by simpa using h0
          have := line_le t
          simp only [line, List.takeWhile_cons, hb, if_true, List.length_cons] at *
          omega
      · split at h
        · split at h
          · cases h
          · cases h
            have := line_le t
            split <;> omega
        · unfold tokStep at h
          split at h
          · dsimp only at h
            split at h <;> cases h
          · split at h
            · dsimp only at h
              split at h <;> cases h
            · split at h
              · split at h
                · cases h
                · split at h <;> cases h
              · split at h
                · cases h
                · split at h <;> cases h

theorem lexF_more : ∀ (n m : Nat) (r : List UInt8) (at_ : Nat) (ln : Bool), r.length < n → r.length < m → lexF n r at_ ln = lexF m r at_ ln := by
  intro n
  induction n with
  | zero => intro m r at_ ln h; omega
  | succ n ih =>
    intro m r at_ ln hn hm
    obtain ⟨m, rfl⟩ : ∃ k, m = k + 1 := ⟨m - 1, by omega⟩
    cases r with
    | nil => rfl
    | cons b t =>
      simp only [List.length_cons] at hn hm
      simp only [lexF]
      split
      · rw [ih m t _ _ (by omega) (by omega)]
      · rename_i k hk
        have := step_skip hk
        exact ih m _ _ _ (by simp; omega) (by simp; omega)
      · rfl
      · rename_i kind text k hk
        have := step_tok hk
        rw [ih m _ _ _ (by simp; omega) (by simp; omega)]

theorem lex_nil (at_ : Nat) (ln : Bool) : lex [] at_ ln = (ends ln at_, none) := rfl

theorem lex_cons (b : UInt8) (t : List UInt8) (at_ : Nat) (ln : Bool) : lex (b :: t) at_ ln =
    match step b t ln with
    | .eol => (ends ln at_ ++ (lex t (at_ + 1) false).1, (lex t (at_ + 1) false).2)
    | .skip k => lex ((b :: t).drop k) (at_ + k) ln
    | .bad k => ([], some (at_ + k))
    | .tok kind text k => (⟨kind, at_, text⟩ :: (lex ((b :: t).drop k) (at_ + k) true).1, (lex ((b :: t).drop k) (at_ + k) true).2) := by
  unfold lex
  simp only [List.length_cons, lexF]
  split
  · rfl
  · rename_i k hk
    have := step_skip hk
    exact lexF_more _ _ _ _ _ (by simp; omega) (by omega)
  · rfl
  · rename_i kind text k hk
    have := step_tok hk
    rw [lexF_more (t.length + 1) (((b :: t).drop k).length + 1) _ _ _ (by simp; omega) (by omega)]

theorem lex_eol {t : List UInt8} {at_ : Nat} {ln : Bool} : lex (10 :: t) at_ ln = (ends ln at_ ++ (lex t (at_ + 1) false).1, (lex t (at_ + 1) false).2) := by
  rw [lex_cons]; rfl
theorem lex_skip {b : UInt8} {t : List UInt8} {at_ k : Nat} {ln : Bool} (h : step b t ln = .skip k) : lex (b :: t) at_ ln = lex ((b :: t).drop k) (at_ + k) ln := by
  rw [lex_cons, h]
theorem lex_bad {b : UInt8} {t : List UInt8} {at_ k : Nat} {ln : Bool} (h : step b t ln = .bad k) : lex (b :: t) at_ ln = ([], some (at_ + k)) := by
  rw [lex_cons, h]
theorem lex_tok {b : UInt8} {t : List UInt8} {at_ k kind : Nat} {text : List UInt8} {ln : Bool} (h : step b t ln = .tok kind text k) :
    lex (b :: t) at_ ln = (⟨kind, at_, text⟩ :: (lex ((b :: t).drop k) (at_ + k) true).1, (lex ((b :: t).drop k) (at_ + k) true).2) := by
  rw [lex_cons, h]

theorem lex_blank {b : UInt8} {t : List UInt8} {at_ : Nat} {ln : Bool} (h : isBlank b = true) : lex (b :: t) at_ ln = lex t (at_ + 1) ln := by
  have h10 : (b == 10) = false := by
    simp only [isBlank, Bool.or_eq_true, beq_iff_eq] at h
    rcases h with rfl | rfl <;> rfl
  exact lex_skip (k := 1) (by unfold step; rw [if_neg (by simp [h10]), if_pos h])

/-- Blanks are gone over. -/
theorem lex_blanks (ln : Bool) : ∀ (r : List UInt8) (at_ : Nat), lex r at_ ln = lex (r.dropWhile isBlank) (at_ + (r.takeWhile isBlank).length) ln
  | [], at_ => rfl
  | b :: t, at_ => by
    by_cases h : isBlank b = true
    · rw [lex_blank h, lex_blanks ln t]
      simp only [List.dropWhile_cons, List.takeWhile_cons, h, if_true, List.length_cons]
      congr 1
      omega
    · simp [h]

end Go.Proofs.YtpnfcgmogjpliaaGreatDoor.LexM
