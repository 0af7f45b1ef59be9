/- The program's Val and Unstamp at eight bytes, as the lexer calls them. -/
import Derived.Test.YtpnfcgmogjpliaaGreatDoorVal
import Derived.Shelf.Strings.SlTrimAscii
namespace Go.Proofs.YtpnfcgmogjpliaaGreatDoor
open Go.RowKit
attribute [local go_sem ↓] Go.wp_at_zero Go.wp_at_succ

theorem isDigit_iff (b : UInt8) : LexM.isDigit b = true ↔ 48 ≤ b.toNat ∧ b.toNat ≤ 57 := by
  simp [LexM.isDigit, UInt8.le_iff_toNat_le]
theorem num_snoc (l : List UInt8) (b : UInt8) : LexM.num (l ++ [b]) = 10 * LexM.num l + (b.toNat - 48) := by
  simp [LexM.num, List.foldl_append]
theorem num_lt : ∀ (n : Nat) (l : List UInt8), l.length = n → (∀ b ∈ l, LexM.isDigit b = true) → LexM.num l < 10 ^ n := by
  intro n
  induction n with
  | zero =>
    intro l h _
    rw [List.eq_nil_of_length_eq_zero h]
    decide
  | succ n ih =>
    intro l h hd
    have hne : l ≠ [] := by intro e; rw [e] at h; cases h
    have e := List.dropLast_concat_getLast hne
    rw [← e, num_snoc]
    have h1 := ih l.dropLast (by simp [h]) (fun b hb => hd b (List.dropLast_subset l hb))
    have h2 := (isDigit_iff _).1 (hd _ (List.getLast_mem hne))
    rw [Nat.pow_succ]
    omega
theorem take_snoc (s : ByteArray) (k : Nat) (h : k < s.size) : (bs s).take (k + 1) = (bs s).take k ++ [s[k]] := by
  rw [List.take_succ_eq_append_getElem (by simpa using h)]; rfl

set_option maxHeartbeats 1000000 in
set_option maxRecDepth 100000 in
theorem val_calls (w : World) (s : ByteArray) (hs1 : 1 ≤ s.size) (hs : s.size ≤ 4) (hd : ∀ b ∈ bs s, LexM.isDigit b = true) :
    Calls Tryz.prog 111 #[.string s] w fun e w' => e = .returned (.int .i64 (LexM.num (bs s))) ∧ w = w' := by
  have hby : ∀ i (hi : i < s.size), 48 ≤ s[i].toNat ∧ s[i].toNat ≤ 57 := fun i hi => (isDigit_iff _).1 (hd _ (List.mem_of_getElem? (bs_get s i hi)))
  have hcon : ∀ wx, Calls Tryz.prog 126 #[.string s, .string ⟨#[32]⟩] wx fun e w' => e = .returned (.string s) ∧ wx = w' := fun wx => by
    have := Tryz.strings_TrimLeft_one s 32 (by decide) wx
    refine this.mono fun e w' h => ⟨?_, h.2.symm⟩
    rw [h.1]
    have e1 : Lib.trimLeftB (bs s) 32 = bs s := by
      unfold Lib.trimLeftB
      cases hl : bs s with
      | nil => rfl
      | cons b t =>
        have hb := (isDigit_iff b).1 (hd b (by rw [hl]; exact List.mem_cons_self))
        have : (b == 32) = false := by
          rw [beq_eq_false_iff_ne]
          intro e
          rw [e] at hb
          exact absurd hb.1 (by decide)
        simp [this]
    show Ending.returned (.string ⟨(Lib.trimLeftB (bs s) 32).toArray⟩) = _
    rw [e1]
  have HC := Lib.hid hcon
  have HB := Lib.hid hby
  have HD := Lib.hid hd
  have hne : s.toList.isEmpty = false := by
    rw [Lib.toList_data]
    cases hl : s.data.toList with
    | nil => have := bs_length s; rw [bs, hl] at this; simp at this; omega
    | cons b t => rfl
  have b0 := hby 0 (by omega)
  have h45 : ((s[0].toNat : Int) == 45) = false := by rw [beq_eq_false_iff_ne]; omega
  have h43 : ((s[0].toNat : Int) == 43) = false := by rw [beq_eq_false_iff_ne]; omega
  clear hcon hby hd b0
  go_enter Tryz.func111, Tryz.ntmps111
  go_wp2_with (go_at_call 126; refine (HC.out _).mono ?_; rintro e w' ⟨rfl, rfl⟩)
  go_loopg [4, 27] s.size (fun q v u wr => ∃ i : Nat, i ≤ s.size ∧ u = .int .i64 i ∧ v = .int .i64 (LexM.num ((bs s).take i) : Nat) ∧ q = s.size - i ∧ w = wr)
  case atStart => exact ⟨0, by omega, rfl, rfl, rfl, rfl⟩
  case round =>
    obtain ⟨i, hi, rfl, rfl, rfl, rfl⟩ := hrel
    by_cases hlt : i < s.size
    · have hb := HB.out i hlt
      have hnl := num_lt i ((bs s).take i) (by rw [List.length_take, bs_length]; omega) (fun b hb => HD.out b (List.mem_of_mem_take hb))
      have hsn := take_snoc s i hlt
      have hpw : 10 ^ i ≤ 10 ^ 3 := Nat.pow_le_pow_right (by omega) (by omega)
      obtain ⟨c, hc⟩ : ∃ c, s[i].toNat = c := ⟨_, rfl⟩
      have HS : Hid (LexM.num ((bs s).take (i + 1)) = 10 * LexM.num ((bs s).take i) + (s[i].toNat - 48)) := by rw [hsn]; exact num_snoc _ _
      have hb1 : (48 : Int) ≤ (s[i].toNat : Int) := by omega
      have hb2 : (s[i].toNat : Int) ≤ 57 := by omega
      have hN : LexM.num ((bs s).take i) ≤ 999 := by omega
      clear hsn hc hnl hpw hb
      generalize LexM.num ((bs s).take i) = N at HS hN
      go_wp2
      go_roundg (s.size - (i + 1))
      case measure => omega
      case rel => exact ⟨i + 1, by omega, by go_num, congrArg (Value.int .i64) (by rw [HS.out]; omega), rfl, rfl⟩
    · obtain rfl : i = s.size := by omega
      have e : (bs s).take s.size = bs s := List.take_of_length_le (by rw [bs_length]; omega)
      rw [e]
      have hN := num_lt s.size (bs s) (bs_length s) HD.out
      have hpw : 10 ^ s.size ≤ 10 ^ 4 := Nat.pow_le_pow_right (by omega) hs
      obtain ⟨N, hNN⟩ : ∃ N, LexM.num (bs s) = N := ⟨_, rfl⟩
      have HN := Lib.hid hNN
      rw [hNN] at hN ⊢
      have hN' : N ≤ 9999 := by omega
      clear hpw hN e hNN
      go_wp2
      go_ret
      exact ⟨congrArg (fun n => Ending.returned (.int .i64 n)) (by rw [HN.out]), rfl⟩

theorem dw_nil (p : UInt8 → Bool) : ∀ l : List UInt8, l.dropWhile p = [] ↔ ∀ b ∈ l, p b = true
  | [] => by simp
  | b :: t => by
    by_cases h : p b = true
    · simp [h, dw_nil p t]
    · simp [h]
theorem dw_head (p : UInt8 → Bool) : ∀ (l : List UInt8) (b : UInt8) (t : List UInt8), l.dropWhile p = b :: t → p b = false
  | [], b, t, h => by cases h
  | a :: l, b, t, h => by
    by_cases ha : p a = true
    · simp only [List.dropWhile_cons, ha, if_true] at h
      exact dw_head p l b t h
    · simp only [List.dropWhile_cons, ha] at h
      injection h with h1 h2
      rw [← h1]
      simpa using ha
theorem trimS_nil (l cs : List UInt8) : Lib.trimS l cs = [] ↔ ∀ b ∈ l, cs.contains b = true := by
  unfold Lib.trimS Lib.trimLeftS Lib.trimRightS
  rw [dw_nil]
  cases hx : l.reverse.dropWhile (cs.contains ·) with
  | nil =>
    rw [dw_nil] at hx
    constructor
    · intro _ b hb
      exact hx b (by simpa using hb)
    · intro _ b hb
      simp at hb
  | cons b t =>
    have hb := dw_head _ _ _ _ hx
    constructor
    · intro h
      have := h b (by simp)
      rw [this] at hb
      cases hb
    · intro h c hc
      have hm : c ∈ l.reverse.dropWhile (cs.contains ·) := by rw [hx]; simpa [or_comm] using hc
      exact h c (by simpa using (List.dropWhile_sublist _).mem hm)
def digs : List UInt8 := [48, 49, 50, 51, 52, 53, 54, 55, 56, 57]
theorem digs_iff (b : UInt8) : digs.contains b = LexM.isDigit b := by
  have := all_bytes (fun b => digs.contains b == LexM.isDigit b) (by decide +kernel) b
  simpa using this
theorem trim_calls (w : World) (s : ByteArray) (hs : s.size ≤ 20000) :
    Calls Tryz.prog 109 #[.string s, .string ⟨#[48, 49, 50, 51, 52, 53, 54, 55, 56, 57]⟩] w fun e w' => e = .returned (.string ⟨(Lib.trimS (bs s) digs).toArray⟩) ∧ Below w.heap.size w w' :=
  Any.strings_Trim_laid Tryz.lays160 (by kernel_rfl) s ⟨#[48, 49, 50, 51, 52, 53, 54, 55, 56, 57]⟩ w (by omega) (by decide) (by
    intro j b hb
    have : b ∈ digs := List.mem_of_getElem? hb
    have h2 : ∀ b ∈ digs, b.toNat < 128 := by decide
    exact h2 b this)
theorem slice_to (s : ByteArray) (j : Nat) (b : Int) (hb : b = j) (hj : j ≤ s.size) (wx : World) :
    (Instr.slice 9 (.string s) none (some (.int .i64 b)) none).run Tryz.prog wx = .ok (.string (s.extract 0 j)) wx := by
  subst hb
  have := run_slice_string_h (P := Tryz.prog) (w := wx) (s := s) (t := 9) Tryz.underlying9 .i64 j (by omega) (by omega)
  simpa using this

theorem below_drewN' {B : Nat} {a w : World} (h : Below B a w) (n : Nat) : Below B a (w.drewN n) := ⟨h.os, h.tape, h.output, h.size, h.block⟩

set_option maxRecDepth 100000 in
theorem unstamp_blank (w : World) : Calls Tryz.prog 97 #[.string ⟨#[32, 32, 32, 32, 32, 32, 32, 32]⟩] w fun e w' => e = .returned (.tuple #[.int .i64 0, .bool true]) ∧ Below w.heap.size w w' := by
  have h : (((⟨#[32, 32, 32, 32, 32, 32, 32, 32]⟩ : ByteArray)).toList == ([32, 32, 32, 32, 32, 32, 32, 32] : List UInt8)) = true := by rw [Lib.toList_data]; rfl
  go_enter Tryz.func97, Tryz.ntmps97
  go_wp2
  go_ret2
  exact ⟨rfl, Below.refl _ _⟩

set_option maxHeartbeats 1000000 in
set_option maxRecDepth 100000 in
theorem unstamp_no (w : World) (d : ByteArray) (h8 : d.size = 8) (hne : d.toList ≠ [32, 32, 32, 32, 32, 32, 32, 32]) (hd : ¬ ∀ b ∈ bs d, LexM.isDigit b = true) :
    Calls Tryz.prog 97 #[.string d] w fun e w' => e = .returned (.tuple #[.int .i64 0, .bool false]) ∧ Below w.heap.size w w' := by
  have hb : (d.toList == ([32, 32, 32, 32, 32, 32, 32, 32] : List UInt8)) = false := beq_eq_false_iff_ne.mpr hne
  have hT : ∃ y : ByteArray, y.toList.isEmpty = false ∧ ∀ wx, Calls Tryz.prog 109 #[.string d, .string ⟨#[48, 49, 50, 51, 52, 53, 54, 55, 56, 57]⟩] wx fun e w' => e = .returned (.string y) ∧ Below wx.heap.size wx w' := by
    refine ⟨⟨(Lib.trimS (bs d) digs).toArray⟩, ?_, fun wx => trim_calls wx d (by omega)⟩
    rw [Lib.toList_data]
    show (Lib.trimS (bs d) digs).isEmpty = false
    cases hx : Lib.trimS (bs d) digs with
    | nil =>
      rw [trimS_nil] at hx
      exact absurd (fun b hb => by rw [← digs_iff]; exact hx b hb) hd
    | cons b t => rfl
  obtain ⟨y, hy, hT⟩ := hT
  have HT := Lib.hid hT
  have h8' : ((d.size : Int) != 8) = false := by rw [bne_eq_false_iff_eq]; omega
  clear hT hd hne h8
  go_enter Tryz.func97, Tryz.ntmps97
  go_wp2_with (go_at_call 109; refine (HT.out _).mono ?_; rintro e w' ⟨rfl, hb1⟩)
  go_ret2
  exact ⟨rfl, hb1⟩

set_option maxHeartbeats 1000000 in
set_option maxRecDepth 100000 in
theorem unstamp_yes (w : World) (d : ByteArray) (h8 : d.size = 8) (hne : d.toList ≠ [32, 32, 32, 32, 32, 32, 32, 32]) (hd : ∀ b ∈ bs d, LexM.isDigit b = true) :
    Calls Tryz.prog 97 #[.string d] w fun e w' => (∃ n : Int, e = .returned (.tuple #[.int .i64 n, .bool (LexM.isDay (bs d))])) ∧ Below w.heap.size w w' := by
  have hb : (d.toList == ([32, 32, 32, 32, 32, 32, 32, 32] : List UInt8)) = false := beq_eq_false_iff_ne.mpr hne
  have hT : ∀ wx, Calls Tryz.prog 109 #[.string d, .string ⟨#[48, 49, 50, 51, 52, 53, 54, 55, 56, 57]⟩] wx fun e w' => e = .returned (.string ⟨#[]⟩) ∧ Below wx.heap.size wx w' := fun wx => by
    have := trim_calls wx d (by omega)
    rw [(trimS_nil (bs d) digs).2 (fun b hb => by rw [digs_iff]; exact hd b hb)] at this
    exact this
  have HT := Lib.hid hT
  have h8' : ((d.size : Int) != 8) = false := by rw [bne_eq_false_iff_eq]; omega
  have sl1 := slice_to d 4 4 rfl (by omega)
  have sl2 := slice_run d 4 6 4 6 rfl rfl (by omega) (by omega)
  have sl3 := slice_from d 6 6 rfl (by omega)
  have x1 : (d.extract 0 4).data.toList = (bs d).take 4 := by rw [Lib.extract_data]; rfl
  have x2 : (d.extract 4 6).data.toList = ((bs d).drop 4).take 2 := Lib.extract_data d 4 6
  have x3 : (d.extract 6 d.size).data.toList = (bs d).drop 6 := Lib.extract_to_end d 6
  have v1 := fun wx => val_calls wx (d.extract 0 4) (by simp; omega) (by simp; omega) (fun b hb => hd b (by rw [bs, x1] at hb; exact List.mem_of_mem_take hb))
  have v2 := fun wx => val_calls wx (d.extract 4 6) (by simp; omega) (by simp; omega) (fun b hb => hd b (by rw [bs, x2] at hb; exact List.mem_of_mem_drop (List.mem_of_mem_take hb)))
  have v3 := fun wx => val_calls wx (d.extract 6 d.size) (by simp; omega) (by simp; omega) (fun b hb => hd b (by rw [bs, x3] at hb; exact List.mem_of_mem_drop hb))
  simp only [bs, x1, x2, x3] at v1 v2 v3
  have V1 := Lib.hid v1
  have V2 := Lib.hid v2
  have V3 := Lib.hid v3
  have H8 := Lib.hid h8
  have n1 : LexM.num ((bs d).take 4) < 10 ^ 4 := num_lt 4 _ (by rw [List.length_take, bs_length]; omega) (fun b hb => hd b (List.mem_of_mem_take hb))
  have n2 : LexM.num (((bs d).drop 4).take 2) < 10 ^ 2 := num_lt 2 _ (by rw [List.length_take, List.length_drop, bs_length]; omega) (fun b hb => hd b (List.mem_of_mem_drop (List.mem_of_mem_take hb)))
  have n3 : LexM.num ((bs d).drop 6) < 10 ^ 2 := num_lt 2 _ (by rw [List.length_drop, bs_length]; omega) (fun b hb => hd b (List.mem_of_mem_drop hb))
  have hday : LexM.isDay (bs d) = (let y := LexM.num ((bs d).take 4); let m := LexM.num (((bs d).drop 4).take 2); let e := LexM.num ((bs d).drop 6); decide (1 ≤ y) && decide (1 ≤ m) && decide (m ≤ 12) && decide (1 ≤ e) && decide (e ≤ LexM.monthLen y m)) := by
    unfold LexM.isDay
    rw [bs_length, h8, List.all_eq_true.2 hd]
    rfl
  dsimp only at hday
  obtain ⟨Y, hY⟩ : ∃ Y, LexM.num ((bs d).take 4) = Y := ⟨_, rfl⟩
  obtain ⟨M, hM⟩ : ∃ M, LexM.num (((bs d).drop 4).take 2) = M := ⟨_, rfl⟩
  obtain ⟨D, hD⟩ : ∃ D, LexM.num ((bs d).drop 6) = D := ⟨_, rfl⟩
  simp only [bs] at hY hM hD n1 n2 n3 hday
  rw [hY] at v1 n1 hday
  rw [hM] at v2 n2 hday
  rw [hD] at v3 n3 hday
  have V1 := Lib.hid v1
  have V2 := Lib.hid v2
  have V3 := Lib.hid v3
  clear hT hd hne v1 v2 v3 x1 x2 x3 h8 hY hM hD
  cases hR : LexM.isDay (bs d) with
  | true =>
    rw [hday] at hR
    have hdays : ∀ wx, Calls Tryz.prog 110 #[.int .i64 Y, .int .i64 M, .int .i64 D] wx fun e w' => (∃ n : Int, e = .returned (.tuple #[.int .i64 n, .int .i64 0])) ∧ Below wx.heap.size wx w' := fun wx => by
      simp only [Bool.and_eq_true, decide_eq_true_eq] at hR
      exact days_yes wx Y M D (by omega) (by omega) (by omega) (by omega)
    have HD := Lib.hid hdays
    clear hdays hR hday n1 n2 n3
    go_enter Tryz.func97, Tryz.ntmps97
    go_wp2_with (go_at_call 109; refine (HT.out _).mono ?_; rintro e w1 ⟨rfl, hb1⟩)
    go_region_held3 (fun _ => True) (trivial) (first | (go_at_call 111; ((with_reducible refine (V1.out _).mono ?_); rintro e w2 ⟨rfl, rfl⟩)) | (go_at_call 111; ((with_reducible refine (V2.out _).mono ?_); rintro e w2 ⟨rfl, rfl⟩)) | (go_at_call 111; ((with_reducible refine (V3.out _).mono ?_); rintro e w2 ⟨rfl, rfl⟩)) | (go_at_call 110; refine (HD.out _).mono ?_; rintro e w3 ⟨⟨n, rfl⟩, hb3⟩))
    go_wp2
    go_ret2
    exact ⟨⟨n, rfl⟩, (below_drewN' hb1 _).trans (hb3.mono hb1.size)⟩
  | false =>
    rw [hday] at hR
    have hdays : ∀ wx, Calls Tryz.prog 110 #[.int .i64 Y, .int .i64 M, .int .i64 D] wx fun e w' => (∃ n : Int, e = .returned (.tuple #[.int .i64 n, .int .i64 1])) ∧ Below wx.heap.size wx w' := fun wx => by
      have hn : ¬ (1 ≤ Y ∧ 1 ≤ M ∧ M ≤ 12 ∧ 1 ≤ D ∧ D ≤ LexM.monthLen Y M) := by
        intro h
        simp [h] at hR
      exact (days_no wx Y M D (by omega) (by omega) (by omega) hn).mono fun e w' h => ⟨⟨0, h.1⟩, h.2⟩
    have HD := Lib.hid hdays
    clear hdays hR hday n1 n2 n3
    go_enter Tryz.func97, Tryz.ntmps97
    go_wp2_with (go_at_call 109; refine (HT.out _).mono ?_; rintro e w1 ⟨rfl, hb1⟩)
    go_region_held3 (fun _ => True) (trivial) (first | (go_at_call 111; ((with_reducible refine (V1.out _).mono ?_); rintro e w2 ⟨rfl, rfl⟩)) | (go_at_call 111; ((with_reducible refine (V2.out _).mono ?_); rintro e w2 ⟨rfl, rfl⟩)) | (go_at_call 111; ((with_reducible refine (V3.out _).mono ?_); rintro e w2 ⟨rfl, rfl⟩)) | (go_at_call 110; refine (HD.out _).mono ?_; rintro e w3 ⟨⟨n, rfl⟩, hb3⟩))
    go_wp2
    go_ret2
    exact ⟨⟨n, rfl⟩, (below_drewN' hb1 _).trans (hb3.mono hb1.size)⟩

end Go.Proofs.YtpnfcgmogjpliaaGreatDoor
