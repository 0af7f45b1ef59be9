/- The lines of tokens, in plain words; cuts of a slice of tokens, where the first end stands, equal lists of strings. -/
import Derived.Test.YtpnfcgmogjpliaaGreatDoorKnown
namespace Go.Proofs.YtpnfcgmogjpliaaGreatDoor
open Go.RowKit
attribute [local go_sem ↓] Go.wp_at_zero Go.wp_at_succ

theorem lexF_last : ∀ (n : Nat) (r : List UInt8) (k : Nat) (ln : Bool) (ts : List LexM.Tk), r.length < n → LexM.lexF n r k ln = (ts, none) → (ts = [] ∧ ln = false) ∨ ∃ p t, ts = p ++ [t] ∧ t.kind = 5
  | 0, _, _, _, _, h, _ => absurd h (Nat.not_lt_zero _)
  | n + 1, [], k, ln, ts, _, h => by
    unfold LexM.lexF LexM.ends at h
    cases ln with
    | false => exact .inl ⟨(congrArg Prod.fst h).symm, rfl⟩
    | true => exact .inr ⟨[], _, (congrArg Prod.fst h).symm, rfl⟩
  | n + 1, b :: t, k, ln, ts, hl, h => by
    unfold LexM.lexF at h
    rw [List.length_cons] at hl
    cases hs : LexM.step b t ln with
    | eol =>
      rw [hs] at h
      simp only [Prod.mk.injEq] at h
      obtain ⟨h1, h2⟩ := h
      rcases lexF_last n t (k + 1) false _ (by omega) (Prod.ext rfl h2) with ⟨e, _⟩ | ⟨p, u, e, hu⟩
      · replace e : (LexM.lexF n t (k + 1) false).fst = [] := e
        rw [e, List.append_nil] at h1
        unfold LexM.ends at h1
        cases ln with
        | false => exact .inl ⟨h1.symm, rfl⟩
        | true => exact .inr ⟨[], _, h1.symm, rfl⟩
      · replace e : (LexM.lexF n t (k + 1) false).fst = p ++ [u] := e
        exact .inr ⟨LexM.ends ln k ++ p, u, by rw [← h1, e, List.append_assoc], hu⟩
    | skip j =>
      rw [hs] at h
      have h1 := LexM.step_skip hs
      exact lexF_last n _ _ ln ts (by rw [List.length_drop, List.length_cons]; omega) h
    | bad j =>
      rw [hs] at h
      cases congrArg Prod.snd h
    | tok kind x j =>
      rw [hs] at h
      have h0 := LexM.step_tok hs
      simp only [Prod.mk.injEq] at h
      obtain ⟨h1, h2⟩ := h
      rcases lexF_last n _ _ true _ (by rw [List.length_drop, List.length_cons]; omega) (Prod.ext rfl h2) with ⟨_, e⟩ | ⟨p, u, e, hu⟩
      · cases e
      · replace e : (LexM.lexF n ((b :: t).drop j) (k + j) true).fst = p ++ [u] := e
        exact .inr ⟨⟨kind, k, x⟩ :: p, u, by rw [← h1, e]; rfl, hu⟩

/-- The last of them ends a line. -/
def LastEnd (l : List Tv) : Prop := l = [] ∨ ∃ p t, l = p ++ [t] ∧ t.kind = 5
theorem lex_lastEnd {s : List UInt8} {ts : List LexM.Tk} {m : Int} (h : LexM.lexRes s = (ts, m, 0)) : LastEnd (ts.map tvOf) := by
  unfold LexM.lexRes at h
  split at h
  · simp at h
  · split at h
    · simp at h
    · rename_i hnone
      split at h
      · simp at h
      · simp only [Prod.mk.injEq] at h
        have hl : LexM.lexF (s.length + 1) s 0 false = (ts, none) := by
          have : LexM.lex s 0 false = (ts, none) := Prod.ext h.1 hnone
          exact this
        rcases lexF_last _ s 0 false ts (by omega) hl with ⟨e, _⟩ | ⟨p, t, e, ht⟩
        · exact .inl (by rw [e]; rfl)
        · exact .inr ⟨p.map tvOf, tvOf t, by rw [e]; simp, by unfold tvOf; simp [ht]⟩

/-- The lines of tokens, without their ends; now: what stands in the line. -/
def rowsA : List Tv → List Tv → List (List Tv)
  | _, [] => []
  | now, t :: l => if t.kind = 5 then now :: rowsA [] l else rowsA (now ++ [t]) l
/-- The texts of the lines. -/
def rowTxt (r : List Tv) : ByteArray := ⟨(LexM.joinM (r.map Tv.kt) false).toArray⟩
theorem rowsA_cut : ∀ (r now : List Tv) (e : Tv) (l : List Tv), (∀ t ∈ r, t.kind ≠ 5) → e.kind = 5 → rowsA now (r ++ e :: l) = (now ++ r) :: rowsA [] l
  | [], now, e, l, _, he => by
    rw [List.nil_append, List.append_nil]
    show (if e.kind = 5 then _ else _) = _
    rw [if_pos he]
  | t :: r, now, e, l, h, he => by
    show (if t.kind = 5 then _ else rowsA (now ++ [t]) (r ++ e :: l)) = _
    rw [if_neg (h t (List.mem_cons_self ..)), rowsA_cut r _ e l (fun u hu => h u (List.mem_cons_of_mem _ hu)) he]
    simp
theorem joinM_prefix : ∀ (r : List Tv) (b : Bool) (q : List Tv), (LexM.joinM (r.map Tv.kt) b).length ≤ (LexM.joinM ((r ++ q).map Tv.kt) b).length
  | [], b, q => by simp [LexM.joinM]
  | t :: r, b, q => by
    have i1 := joinM_prefix r false q
    have i2 := joinM_prefix r true q
    rw [List.cons_append, List.map_cons, List.map_cons]
    unfold LexM.joinM
    split
    · rw [List.length_cons, List.length_cons]
      omega
    · rw [List.length_append, List.length_append, List.length_append, List.length_append]
      omega
theorem joinM_ends (r : List Tv) (b : Bool) (e : Tv) (l : List Tv) (he : e.kind = 5) : (LexM.joinM (l.map Tv.kt) false).length ≤ (LexM.joinM ((r ++ e :: l).map Tv.kt) b).length := by
  induction r generalizing b with
  | nil =>
    rw [List.nil_append, List.map_cons]
    conv => rhs; unfold LexM.joinM
    rw [if_pos (show e.kt.1 = 5 from he), List.length_cons]
    omega
  | cons t r ih =>
    have i1 := ih false
    have i2 := ih true
    rw [List.cons_append, List.map_cons]
    conv => rhs; unfold LexM.joinM
    split
    · rw [List.length_cons]
      omega
    · rw [List.length_append, List.length_append]
      omega
/-- Where the first end stands. -/
theorem lastEnd_cut {l : List Tv} (h : LastEnd l) (h0 : l ≠ []) : ∃ r e l', l = r ++ e :: l' ∧ (∀ t ∈ r, t.kind ≠ 5) ∧ e.kind = 5 ∧ LastEnd l' := by
  induction l with
  | nil => exact absurd rfl h0
  | cons t l ih =>
    by_cases h5 : t.kind = 5
    · refine ⟨[], t, l, rfl, fun u hu => (by cases hu), h5, ?_⟩
      rcases h with h | ⟨p, u, e, hu⟩
      · cases h
      · cases p with
        | nil =>
          simp at e
          exact .inl e.2
        | cons x p =>
          simp at e
          exact .inr ⟨p, u, e.2, hu⟩
    · have hl : LastEnd l ∧ l ≠ [] := by
        rcases h with h | ⟨p, u, e, hu⟩
        · cases h
        · cases p with
          | nil =>
            simp at e
            rw [e.1] at h5
            exact absurd hu h5
          | cons x p =>
            simp at e
            exact ⟨.inr ⟨p, u, e.2, hu⟩, by rw [e.2]; simp⟩
      obtain ⟨r, e, l', e1, e2, e3, e4⟩ := ih hl.1 hl.2
      exact ⟨t :: r, e, l', by rw [e1]; rfl, fun u hu => by
        rcases List.mem_cons.1 hu with rfl | hu
        · exact h5
        · exact e2 u hu, e3, e4⟩

/-- A slice of strings. -/
def StrsAt (w : World) (b off : Nat) (l : List ByteArray) : Prop := ∀ j x, l[j]? = some x → w.cell? ⟨b, off + j, none⟩ = some (.string x)
def StrS (w : World) (A : Option Addr) (l : List ByteArray) : Prop := 0 < l.length → ∃ b off, A = some ⟨b, off, none⟩ ∧ b < w.heap.size ∧ StrsAt w b off l
theorem StrsAt.below {w w' : World} {b off : Nat} {l : List ByteArray} (h : StrsAt w b off l) (hb : Below w.heap.size w w') (hlt : b < w.heap.size) : StrsAt w' b off l := fun j x hj => (hb.cell (p := ⟨b, off + j, none⟩) hlt).trans (h j x hj)
theorem StrS.below {w w' : World} {A : Option Addr} {l : List ByteArray} (h : StrS w A l) (hb : Below w.heap.size w w') : StrS w' A l := fun h0 => by
  obtain ⟨b, off, e, hlt, ht⟩ := h h0
  exact ⟨b, off, e, Nat.lt_of_lt_of_le hlt hb.size, ht.below hb hlt⟩
theorem StrS.nil (w : World) (A : Option Addr) : StrS w A [] := fun h => absurd h (by simp)

theorem strs_row {W : World} {base : Nat} {v : Value} {l : List ByteArray} (h : W.ownsRow base 9 1 v l.length (l.map Value.string)) : ∃ A cap, v = .slice A l.length cap ∧ StrS W A l := by
  rcases Nat.eq_zero_or_pos l.length with h0 | h0
  · obtain ⟨a, cap, hv⟩ := row_slice h
    refine ⟨a, cap, hv, fun hl => ?_⟩
    omega
  · obtain ⟨g, cap, hv, hb, hlt⟩ := h.form h0
    refine ⟨_, cap, hv, fun _ => ⟨g, 0, rfl, hlt, fun j x hx => ?_⟩⟩
    subst hv
    have hc := h.cells (g := g) rfl
    have hadd : ∀ j, (⟨g, 0, none⟩ : Addr).add j = ⟨g, 0 + j, none⟩ := fun j => by unfold Addr.add; split <;> simp_all
    have e := hc j (.string x) (by rw [List.getElem?_map, hx]; rfl)
    rw [hadd] at e
    exact e

set_option maxRecDepth 100000 in
/-- The first tokens of a slice. -/
theorem tok_init {w : World} {A : Option Addr} {l : List Tv} {n cap : Nat} (ha : TokS w A l) (hn : l.length = n) (hc : n ≤ cap) (j : Nat) (hj : j ≤ n) :
    ∃ A1, (∀ wx, (Instr.slice 23 (.slice A n cap) none (some (.int .i64 (j : Int))) none).run Tryz.prog wx = .ok (.slice A1 j cap) wx) ∧ TokS w A1 (l.take j) := by
  have hs : ∀ wx, (sizeOf (Tryz.prog.elem 23)).run Tryz.prog wx = .ok 3 wx := fun wx => by rfl
  refine ⟨if cap = 0 then A else A.map (·.add (0 * 3)), fun wx => ?_, fun h0 => ?_⟩
  · rw [run_slice_h (P := Tryz.prog) wx 23 A n cap Tryz.underlying23 .i64 j (by omega) (by omega), hs]
    unfold Result.andThen sliced
    simp only [Int.toNat_natCast, Nat.sub_zero]
  · rw [List.length_take] at h0
    obtain ⟨b, off, rfl, hlt, hT⟩ := ha (by omega)
    have hadd : (⟨b, off, none⟩ : Addr).add (0 * 3) = ⟨b, off, none⟩ := by unfold Addr.add; split <;> simp_all
    refine ⟨b, off, ?_, hlt, fun i t ht => ?_⟩
    · rw [if_neg (by omega), Option.map_some, hadd]
    · exact hT i t (by
        rw [List.getElem?_take] at ht
        split at ht
        · exact ht
        · cases ht)
set_option maxRecDepth 100000 in
/-- The tokens behind a place. -/
theorem tok_tail {w : World} {A : Option Addr} {l : List Tv} {n cap : Nat} (ha : TokS w A l) (hn : l.length = n) (hc : n ≤ cap) (j : Nat) (a : Int) (ha2 : a = j) (hj : j ≤ n) :
    ∃ A1, (∀ wx, (Instr.slice 23 (.slice A n cap) (some (.int .i64 a)) none none).run Tryz.prog wx = .ok (.slice A1 (n - j) (cap - j)) wx) ∧ TokS w A1 (l.drop j) := by
  subst ha2
  have hs : ∀ wx, (sizeOf (Tryz.prog.elem 23)).run Tryz.prog wx = .ok 3 wx := fun wx => by rfl
  refine ⟨if cap = j then A else A.map (·.add (j * 3)), fun wx => ?_, fun h0 => ?_⟩
  · rw [run_slice_l (P := Tryz.prog) wx 23 A n cap Tryz.underlying23 .i64 j (by omega) (by omega), hs]
    unfold Result.andThen sliced
    simp only [Int.toNat_natCast]
  · rw [List.length_drop] at h0
    obtain ⟨b, off, rfl, hlt, hT⟩ := ha (by omega)
    have hadd : (⟨b, off, none⟩ : Addr).add (j * 3) = ⟨b, off + j * 3, none⟩ := by unfold Addr.add; split <;> simp_all
    refine ⟨b, off + j * 3, ?_, hlt, fun i t ht => ?_⟩
    · rw [if_neg (by omega), Option.map_some, hadd]
    · rw [List.getElem?_drop] at ht
      have := hT (j + i) t ht
      rw [show off + (j + i) * 3 = off + j * 3 + i * 3 from by omega] at this
      exact this

set_option maxRecDepth 100000 in
theorem isEnd_calls (w : World) (t : Tv) (r : Bool) (hr : (t.kind == 5) = r) : Calls Tryz.prog 32 #[.agg #[.int .i64 t.kind, .int .i64 t.pos, .string t.text]] w fun e w' => e = .returned (.bool r) ∧ Below w.heap.size w w' := by
  obtain ⟨k, p, x⟩ := t
  simp only at hr ⊢
  have HR := Lib.hid hr
  clear hr
  go_enter Tryz.func32, Tryz.ntmps32
  go_wp2
  go_ret
  exact ⟨by (rw [← HR.out]; rfl), (Below.refl _ _).alloc (Nat.le_refl _) _⟩

set_option maxHeartbeats 1000000 in
set_option maxRecDepth 100000 in
theorem tindex_calls (w : World) (A : Option Addr) (r : List Tv) (e : Tv) (l : List Tv) (n ca : Nat) (ha : TokS w A (r ++ e :: l)) (hn : (r ++ e :: l).length = n) (hl : n ≤ 1200) (hr : ∀ t ∈ r, t.kind ≠ 5) (he : e.kind = 5) :
    Calls Tryz.prog 31 #[.slice A n ca, .func (.func 32) #[] #[]] w fun e w' => e = .returned (.int .i64 r.length) ∧ Below w.heap.size w w' := by
  have HA := Lib.hid ha
  have HN := Lib.hid hn
  have HR := Lib.hid hr
  have HE := Lib.hid he
  clear ha hn hr he
  go_enter Tryz.func31, Tryz.ntmps31
  go_wp2
  go_loopg [8] (r.length + 1) (fun q u wr => ∃ i : Nat, u = .int .i64 i ∧ i ≤ r.length ∧ q = r.length + 1 - i ∧ Aside (Below w.heap.size w wr))
  case atStart => exact ⟨0, rfl, by omega, by omega, Below.refl _ _⟩
  case round =>
    obtain ⟨i, rfl, hi, rfl, hB⟩ := hrel
    have hnn := HN.out
    rw [List.length_append, List.length_cons] at hnn
    have hltz : decide ((i : Int) < (n : Int)) = true := by simp; omega
    have hltz2 : (i : Int) < (n : Int) := by omega
    obtain ⟨b, off, rfl, hbl, hT⟩ := HA.out (by have := HN.out; omega)
    by_cases hlt : i < r.length
    · obtain ⟨x, hx⟩ : ∃ x, r[i]? = some x := ⟨_, List.getElem?_eq_getElem hlt⟩
      obtain ⟨c0, c1, c2⟩ := hT.below hB.out hbl i x (by rw [List.getElem?_append_left hlt]; exact hx)
      have hk : (x.kind == 5) = false := by
        have := HR.out x (List.mem_of_getElem? hx)
        simpa using this
      have HC := Lib.hid (fun wx => isEnd_calls wx x false hk)
      clear hT hx hk
      go_wp2_with fail
      refine (HC.out _).mono ?_
      rintro e w1 ⟨rfl, hb1⟩
      have HB1 := Lib.hid hb1
      clear hb1
      go_wp2_with fail
      go_roundg (r.length + 1 - (i + 1))
      case measure => omega
      case rel => exact ⟨i + 1, by go_num, by omega, rfl, hB.out.trans (HB1.out.mono hB.out.size)⟩
    · obtain rfl : i = r.length := by omega
      obtain ⟨c0, c1, c2⟩ := hT.below hB.out hbl r.length e (by rw [List.getElem?_append_right (Nat.le_refl _), Nat.sub_self]; rfl)
      have hk : (e.kind == 5) = true := by simpa using HE.out
      have HC := Lib.hid (fun wx => isEnd_calls wx e true hk)
      clear hT hk
      go_wp2_with fail
      refine (HC.out _).mono ?_
      rintro e w1 ⟨rfl, hb1⟩
      have HB1 := Lib.hid hb1
      clear hb1
      go_wp2_with fail
      go_ret
      exact ⟨rfl, hB.out.trans (HB1.out.mono hB.out.size)⟩

set_option maxHeartbeats 1000000 in
set_option maxRecDepth 100000 in
/-- The reference's SameTexts, of two slices that hold the same strings. -/
theorem sameTexts_calls (w : World) (A B : Option Addr) (l : List ByteArray) (n ca cb : Nat) (ha : StrS w A l) (hb : StrS w B l) (hn : l.length = n) (hl : n ≤ 9223372036854775807) :
    Calls Tryz.prog 17 #[.slice A n ca, .slice B n cb] w fun e w' => e = .returned (.bool true) ∧ ∃ q, w' = w.drewN q := by
  have HA := Lib.hid ha
  have HB := Lib.hid hb
  have HN := Lib.hid hn
  clear ha hb hn
  go_enter Tryz.func17, Tryz.ntmps17
  go_wp2
  go_loopg [5] n (fun q u wr => ∃ i : Nat, u = .int .i64 i ∧ i ≤ n ∧ q = n - i ∧ ∃ k, wr = w.drewN k)
  case atStart => exact ⟨0, rfl, by omega, by omega, 0, rfl⟩
  case round =>
    obtain ⟨i, rfl, hi, rfl, k, rfl⟩ := hrel
    by_cases hlt : i < n
    · have hltz : decide ((i : Int) < (n : Int)) = true := by simp; omega
      have hltz2 : (i : Int) < (n : Int) := by omega
      have hi0 : (0 : Int) ≤ (i : Int) := by omega
      obtain ⟨b, off, rfl, hbl, hT⟩ := HA.out (by have := HN.out; omega)
      obtain ⟨b2, off2, rfl, hbl2, hT2⟩ := HB.out (by have := HN.out; omega)
      obtain ⟨x, hx⟩ : ∃ x, l[i]? = some x := ⟨_, List.getElem?_eq_getElem (by have := HN.out; omega)⟩
      have c0 := hT i x hx
      have d0 := hT2 i x hx
      have p1 : (x.toList != x.toList) = false := by simp
      clear hx hT hT2
      go_wp2
      go_quiet (fail)
      go_wp2
      go_roundg (n - (i + 1))
      case measure => omega
      case rel => exact ⟨i + 1, by go_num, by omega, rfl, _, rfl⟩
    · obtain rfl : i = n := by omega
      go_wp2
      go_ret
      exact ⟨rfl, _, rfl⟩

end Go.Proofs.YtpnfcgmogjpliaaGreatDoor
