/- The program's Lines; the document's Rows. -/
import Derived.Test.YtpnfcgmogjpliaaGreatDoorLin1
import Derived.Test.YtpnfcgmogjpliaaGreatDoorRWri
import Derived.Maps.AppendAt
namespace Go.Proofs.YtpnfcgmogjpliaaGreatDoor
open Go.RowKit
attribute [local go_sem ↓] Go.wp_at_zero Go.wp_at_succ

/-- Lex, with its slice's room. -/
theorem lexC_calls (w0 w : World) (s : ByteArray) (hs : s.size ≤ 100000000) (hT : Tabs w0 w) (ts : List LexM.Tk) (m er : Int) (hr : LexM.lexRes (bs s) = (ts, m, er)) :
    Calls Tryz.prog 9 #[.string s] w fun e w' => ∃ A cap, e = .returned (.tuple #[.slice A ts.length cap, .int .i64 m, .int .i64 er]) ∧ (TokS w' A (ts.map tvOf) ∧ ts.length ≤ cap) ∧ Below w.heap.size w w' := by
  have h : Calls Tryz.prog 9 #[.string s] w (LexPost s w (LexM.lexRes (bs s))) := by
    by_cases h4 : 4000 < s.size
    · exact lex_big w s h4 hs
    · exact lex_calls w0 w s (by omega) hT
  rw [hr] at h
  refine h.mono ?_
  rintro e w' ⟨v, rfl, hv, hb⟩
  obtain ⟨A, cap, rfl, ht⟩ := toks_row hv
  exact ⟨A, cap, rfl, ⟨ht, row_cap hv⟩, hb⟩

theorem info_string : (Tryz.prog.info? 9).map (fun i => (i.zero, i.size, i.bytes)) = some (some (.string ⟨#[]⟩), 1, 16) := by kernel_rfl
theorem one_new (w : World) (a : Value) (t : TypeId) : ∀ (j : Nat) (u : Value), [a][j]? = some u → (w.alloc (.cells #[a] t)).cell? ((⟨w.heap.size, 0, none⟩ : Addr).add j) = some u := by
  intro j u h
  have e : (⟨w.heap.size, 0, none⟩ : Addr).add j = ⟨w.heap.size, j, none⟩ := by
    unfold Addr.add
    split <;> simp_all
  rw [e, blk_cell (blk_new w _ _) j]
  simpa using h
/-- What a row's growth leaves: below the row's base all is as it was. -/
theorem below_grown {B : Nat} {w w' : World} {row : Option Nat} (h : w.grownBy w' row) (hB : B ≤ w.heap.size) (hr : ∀ b, row = some b → B ≤ b) : Below B w w' :=
  ⟨h.os, h.tape, h.output, h.size, fun k hk => h.block k (by omega) (fun e => by have := hr k e.symm; omega)⟩
theorem own_base {w : World} {base e size n : Nat} {v : Value} {xs : List Value} (h : w.ownsRow base e size v n xs) : ∀ b, v.ownBlock = some b → base ≤ b := by
  rcases h.2 with ⟨rfl, _⟩ | ⟨b, cap, cur, rfl, hb, _⟩
  · intro b hb
    simp [Value.ownBlock] at hb
  · intro c hc
    simp only [Value.ownBlock, Option.some.injEq] at hc
    omega
theorem joinM_row {r : List Tv} {e : Tv} {l : List Tv} (h : (LexM.joinM ((r ++ e :: l).map Tv.kt) false).length ≤ 100000000) : (LexM.joinM (r.map Tv.kt) false).length ≤ 100000000 :=
  Nat.le_trans (joinM_prefix r false (e :: l)) h

/-- The lines of what Lex answers. -/
def linesOf (ts : List LexM.Tk) (er : Int) : List ByteArray := if er = 0 then (rowsA [] (ts.map tvOf)).map rowTxt else []

set_option maxHeartbeats 4000000 in
set_option maxRecDepth 100000 in
theorem lines_ok (w0 w : World) (s : ByteArray) (hs : s.size ≤ 100000000) (hT : Tabs w0 w) (ts : List LexM.Tk) (m : Int) (hr : LexM.lexRes (bs s) = (ts, m, 0)) (hj : (LexM.joinM ((ts.map tvOf).map Tv.kt) false).length ≤ 100000000)
    (lines : List ByteArray) (hL : (rowsA [] (ts.map tvOf)).map rowTxt = lines) :
    Calls Tryz.prog 15 #[.string s] w fun e w' => ∃ A cap, e = .returned (.tuple #[.slice A lines.length cap, .int .i64 0]) ∧ StrS w' A lines ∧ Below w.heap.size w w' := by
  have hlx := lexC_calls w0 w s hs hT ts m 0 hr
  have HLE := Lib.hid (lex_lastEnd hr)
  have HLN := Lib.hid (lexRes_len hr)
  obtain ⟨l0, hl0⟩ : ∃ l, ts.map tvOf = l := ⟨_, rfl⟩
  obtain ⟨n0, hn0⟩ : ∃ n, ts.length = n := ⟨_, rfl⟩
  have HN : Hid (l0.length = n0) := Lib.hid (by rw [← hl0, ← hn0]; simp)
  rw [hl0, hn0] at hlx
  rw [hl0] at HLE hL hj
  rw [hn0] at HLN
  have HLX := Lib.hid hlx
  have HL := Lib.hid hL
  have HJ := Lib.hid hj
  obtain ⟨i0, hi, hz0, hz1, hz2⟩ := info_parts info_string
  clear hlx hl0 hn0 hr hL hj hT hs
  go_enter Tryz.func15, Tryz.ntmps15
  go_wp2_with fail
  refine HLX.out.mono ?_
  rintro e w1 ⟨A, ca, rfl, ht1, hb1⟩
  have HT1 := Lib.hid ht1
  have HB1 := Lib.hid hb1
  clear ht1 hb1
  go_wp2
  go_loopg [4, 7] n0 (fun q u v wr => ∃ (A1 : Option Addr) (L : List Tv) (c1 : Nat) (vo : Value) (P : List ByteArray) (n : Nat), u = .slice A1 n c1 ∧ v = vo ∧ n = q ∧ n ≤ c1 ∧ P.length + n ≤ 1200 ∧ Aside (L.length = n) ∧ Aside (TokS w1 A1 L) ∧ Aside (LastEnd L) ∧ Aside ((LexM.joinM (L.map Tv.kt) false).length ≤ 100000000) ∧
    Aside (wr.ownsRow w1.heap.size 9 1 vo P.length (P.map Value.string)) ∧ Aside (P ++ (rowsA [] L).map rowTxt = lines) ∧ Aside (Below w1.heap.size w1 wr))
  case atStart => exact ⟨A, l0, ca, .slice none 0 0, [], n0, rfl, rfl, rfl, HT1.out.2, by have := HLN.out; simp; omega, HN.out, HT1.out.1, HLE.out, HJ.out, World.ownsRow_nil _ _ _ _, HL.out, Below.refl _ _⟩
  case round =>
    obtain ⟨A1, L, c1, vo, P, n, rfl, rfl, hq, hc1, hPn, hLn, ht, hle, hjm, hown, hlines, hbw⟩ := hrel
    subst hq
    by_cases hn : n = 0
    · have h0z : decide ((0 : Int) < (n : Int)) = false := by simp; omega
      have h0n : decide (0 < n) = false := by simp; omega
      have hP : P = lines := by
        have : L = [] := List.length_eq_zero_iff.1 (hLn.out.trans hn)
        rw [← hlines.out, this]
        simp [rowsA]
      subst hP
      clear hn
      obtain ⟨B, cb, rfl, hB⟩ := strs_row hown.out
      have HBS := Lib.hid hB
      clear hB
      go_wp2
      refine bodyPost_ret (v := .tuple #[.slice B P.length cb, .int .i64 0]) (by simp [results, Tryz.results15, go_sem]) rfl ?_
      exact ⟨B, cb, rfl, HBS.out, HB1.out.trans (hbw.out.mono HB1.out.size)⟩
    · have h0z : decide ((0 : Int) < (n : Int)) = true := by simp; omega
      have h0n : decide (0 < n) = true := by simp; omega
      obtain ⟨r, e, L', hLe, hr5, he5, hle'⟩ := lastEnd_cut hle.out (fun e => by rw [e] at hLn; exact hn hLn.out.symm)
      subst hLe
      have hlen := hLn.out
      rw [List.length_append, List.length_cons] at hlen
      obtain ⟨k, hk⟩ : ∃ k, r.length = k := ⟨_, rfl⟩
      rw [hk] at hlen
      obtain ⟨A2, hs1, ht2⟩ := tok_init ht.out hLn.out hc1 k (by omega)
      obtain ⟨A3, hs2, ht3⟩ := tok_tail ht.out hLn.out hc1 (k + 1) ((k : Int) + 1) (by omega) (by omega)
      rw [show (r ++ e :: L').take k = r from by rw [← hk, List.take_left]] at ht2
      rw [show (r ++ e :: L').drop (k + 1) = L' from by rw [← hk, List.drop_append]; simp] at ht3
      have hix := fun wx (hx : Below w1.heap.size w1 wx) => tindex_calls wx A1 r e L' n c1 (ht.out.below hx) hLn.out (by omega) hr5 he5
      rw [hk] at hix
      have hjr := joinM_row hjm.out
      have hjd := fun wx (hx : Below w1.heap.size w1 wx) => joined_calls wx A2 r k c1 (ht2.below hx) hk (by omega) _ rfl hjr
      obtain ⟨X, hX⟩ : ∃ X, rowTxt r = X := ⟨_, rfl⟩
      have hX2 : (⟨(LexM.joinM (r.map Tv.kt) false).toArray⟩ : ByteArray) = X := hX
      rw [hX2] at hjd
      have HP' : Hid ((P ++ [X]) ++ (rowsA [] L').map rowTxt = lines) := Lib.hid (by rw [← hlines.out, rowsA_cut r [] e L' hr5 he5, ← hX]; simp)
      have HJ' : Hid ((LexM.joinM (L'.map Tv.kt) false).length ≤ 100000000) := Lib.hid (Nat.le_trans (joinM_ends r false e L' he5) hjm.out)
      have HLE' := Lib.hid hle'
      have HT3 := Lib.hid ht3
      have HIX := Lib.hid hix
      have HJD := Lib.hid hjd
      have HLn' : Hid (L'.length = n - (k + 1)) := Lib.hid (by omega)
      clear hix hjd hjr hX hX2 hk ht2 ht3 hle' hr5 he5 hn hlines hle hjm
      go_wp2_with (first
        | (go_at_call 31; refine (HIX.out _ hbw.out).mono ?_; rintro e w2 ⟨rfl, hb2⟩; have HB2 := Lib.hid (hbw.out.trans (hb2.mono hbw.out.size)); have HO2 := Lib.hid (row_below hown.out hb2); clear hb2)
        | (go_at_call 28; refine (HJD.out _ HB2.out).mono ?_; rintro e w3 ⟨rfl, hb3⟩; have HB3 := Lib.hid (HB2.out.trans (hb3.mono HB2.out.size)); have HO3 := Lib.hid (row_below HO2.out hb3); have hz3 := HB3.out.size; clear hb3)
        | (at_builtin; refine wpList_append_own_at _ rfl _ _ 32 rfl w1.heap.size 9 i0 _ 1 16 Tryz.underlying32 hi hz0 hz1 hz2 rfl (by decide) _ _ _ rfl (HO3.out.alloc _) ⟨w3.heap.size, 0, none⟩ 1 1 [.string X] rfl rfl (one_new _ _ _) (by simp [Value.oneCell']) (by simp only [maxLen]; omega) (by omega) (by simp; omega) ?_; intro v4 w4 hown4 hgrow4 _ _; have HB4 := Lib.hid ((HB3.out.alloc hz3 _).trans (below_grown hgrow4 (by simp; omega) (own_base HO3.out))); have HO4 := Lib.hid hown4; clear hown4 hgrow4))
      go_roundg (n - (k + 1))
      case measure => omega
      case rel =>
        have hr4 : w4.ownsRow w1.heap.size 9 1 v4 (P ++ [X]).length ((P ++ [X]).map Value.string) := by simpa using HO4.out
        exact ⟨A3, L', c1 - (k + 1), v4, P ++ [X], n - (k + 1), rfl, rfl, rfl, by omega, by simp; omega, HLn'.out, HT3.out, HLE'.out, HJ'.out, hr4, HP'.out, HB4.out⟩

def tvCells (l : List Tv) : List Value := l.flatMap fun t => [.int .i64 t.kind, .int .i64 t.pos, .string t.text]
theorem tvCells_snoc (l : List Tv) (t : Tv) : tvCells (l ++ [t]) = tvCells l ++ [.int .i64 t.kind, .int .i64 t.pos, .string t.text] := by simp [tvCells]
theorem tvCells_get : ∀ {l : List Tv} {j : Nat} {t : Tv}, l[j]? = some t → (tvCells l)[j * 3]? = some (.int .i64 t.kind) ∧ (tvCells l)[j * 3 + 1]? = some (.int .i64 t.pos) ∧ (tvCells l)[j * 3 + 2]? = some (.string t.text)
  | [], j, t, h => by simp at h
  | x :: l, 0, t, h => by
    simp at h
    subst h
    exact ⟨rfl, rfl, rfl⟩
  | x :: l, j + 1, t, h => by
    rw [List.getElem?_cons_succ] at h
    obtain ⟨h0, h1, h2⟩ := tvCells_get h
    rw [show (j + 1) * 3 = j * 3 + 3 from by omega]
    exact ⟨h0, h1, h2⟩
theorem tvs_row {W : World} {base : Nat} {v : Value} {l : List Tv} (h : W.ownsRow base 49 3 v l.length (tvCells l)) (h0 : l ≠ []) :
    ∃ g cap, v = .slice (some ⟨g, 0, none⟩) l.length cap ∧ g < W.heap.size ∧ Toks W g 0 l := by
  obtain ⟨g, cap, hv, hb, hlt⟩ := h.form (List.length_pos_iff.2 h0)
  refine ⟨g, cap, hv, hlt, fun j t ht => ?_⟩
  subst hv
  have hc := h.cells (g := g) rfl
  have hadd : ∀ j, (⟨g, 0, none⟩ : Addr).add j = ⟨g, 0 + j, none⟩ := fun j => by unfold Addr.add; split <;> simp_all
  obtain ⟨h1, h2, h3⟩ := tvCells_get ht
  have e1 := hc _ _ h1
  have e2 := hc _ _ h2
  have e3 := hc _ _ h3
  rw [hadd] at e1 e2 e3
  exact ⟨e1, e2, e3⟩
theorem rowsA_end {t : Tv} (h : t.kind = 5) {now l : List Tv} : rowsA now (t :: l) = now :: rowsA [] l := by
  show (if t.kind = 5 then now :: rowsA [] l else rowsA (now ++ [t]) l) = _
  rw [if_pos h]
theorem rowsA_more {t : Tv} (h : ¬ t.kind = 5) {now l : List Tv} : rowsA now (t :: l) = rowsA (now ++ [t]) l := by
  show (if t.kind = 5 then now :: rowsA [] l else rowsA (now ++ [t]) l) = _
  rw [if_neg h]
theorem own_lt {w : World} {base e size n : Nat} {v : Value} {xs : List Value} (h : w.ownsRow base e size v n xs) : ∀ b, v.ownBlock = some b → b < w.heap.size := by
  rcases h.2 with ⟨rfl, _⟩ | ⟨b, cap, cur, rfl, _, hg, _⟩
  · intro b hb
    simp [Value.ownBlock] at hb
  · intro c hc
    simp only [Value.ownBlock, Option.some.injEq] at hc
    subst hc
    exact blk_lt hg
theorem info_toks : (Tryz.prog.info? 23).map (fun i => (i.zero, i.size, i.bytes)) = some (some (.slice none 0 0), 1, 24) := by kernel_rfl
theorem own_far {w w' : World} {base e size n : Nat} {v : Value} {xs : List Value} {row : Option Nat} (h : w.ownsRow base e size v n xs) (hg : w.grownBy w' row) (hne : ∀ b, v.ownBlock = some b → row ≠ some b) : w'.ownsRow base e size v n xs := by
  refine ⟨h.1, ?_⟩
  rcases h.2 with hn | ⟨b, cap, cur, rfl, hb, hgg, rest⟩
  · exact .inl hn
  · exact .inr ⟨b, cap, cur, rfl, hb, (hg.block b (blk_lt hgg) (fun e => hne b rfl e.symm)).trans hgg, rest⟩
theorem Toks.grown {w w' : World} {row : Option Nat} {b off : Nat} {l : List Tv} (h : Toks w b off l) (hg : w.grownBy w' row) (hlt : b < w.heap.size) (hne : row ≠ some b) : Toks w' b off l := fun j t hj => by
  have hb := hg.block b hlt (Ne.symm hne)
  have hc : ∀ o, w'.cell? ⟨b, o, none⟩ = w.cell? ⟨b, o, none⟩ := fun o => by simp [World.cell?, hb]
  obtain ⟨h0, h1, h2⟩ := h j t hj
  exact ⟨(hc _).trans h0, (hc _).trans h1, (hc _).trans h2⟩

/-- The lines that are done: each lies in a block that neither the list of lines nor the line under way uses. -/
def RowsFar (w : World) (vo vn : Value) (vs : List Value) (rows : List (List Tv)) : Prop :=
  ∀ (j : Nat) (r : List Tv), rows[j]? = some r → ∃ (A : Option Addr) (c : Nat), vs[j]? = some (Value.slice A r.length c) ∧ (r ≠ [] → ∃ b, A = some ⟨b, 0, none⟩ ∧ b < w.heap.size ∧ Toks w b 0 r ∧ vo.ownBlock ≠ some b ∧ vn.ownBlock ≠ some b)
theorem RowsFar.out {w w' : World} {vo vn vo' : Value} {vs : List Value} {rows : List (List Tv)} (h : RowsFar w vo vn vs rows) (hg : w.grownBy w' vo.ownBlock) (hb : vo'.ownBlock = vo.ownBlock ∨ vo'.ownBlock = some w.heap.size) : RowsFar w' vo' vn vs rows := fun j r hj => by
  obtain ⟨A, c, h1, h2⟩ := h j r hj
  refine ⟨A, c, h1, fun h0 => ?_⟩
  obtain ⟨b, rfl, hlt, ht, ho, hn⟩ := h2 h0
  refine ⟨b, rfl, Nat.lt_of_lt_of_le hlt hg.size, ht.grown hg hlt ho, ?_, hn⟩
  rcases hb with e | e <;> rw [e]
  · exact ho
  · intro e2
    simp at e2
    omega
theorem RowsFar.now {w w' : World} {vo vn vn' : Value} {vs : List Value} {rows : List (List Tv)} (h : RowsFar w vo vn vs rows) (hg : w.grownBy w' vn.ownBlock) (hb : vn'.ownBlock = vn.ownBlock ∨ vn'.ownBlock = some w.heap.size) : RowsFar w' vo vn' vs rows := fun j r hj => by
  obtain ⟨A, c, h1, h2⟩ := h j r hj
  refine ⟨A, c, h1, fun h0 => ?_⟩
  obtain ⟨b, rfl, hlt, ht, ho, hn⟩ := h2 h0
  refine ⟨b, rfl, Nat.lt_of_lt_of_le hlt hg.size, ht.grown hg hlt hn, ho, ?_⟩
  rcases hb with e | e <;> rw [e]
  · exact hn
  · intro e2
    simp at e2
    omega
theorem RowsFar.alloc {w : World} {vo vn : Value} {vs : List Value} {rows : List (List Tv)} (h : RowsFar w vo vn vs rows) (o : Obj) : RowsFar (w.alloc o) vo vn vs rows := fun j r hj => by
  obtain ⟨A, c, h1, h2⟩ := h j r hj
  refine ⟨A, c, h1, fun h0 => ?_⟩
  obtain ⟨b, rfl, hlt, ht, ho, hn⟩ := h2 h0
  exact ⟨b, rfl, by simp; omega, ht.below ((Below.refl _ w).alloc (Nat.le_refl _) o) hlt, ho, hn⟩
theorem RowsFar.push {w : World} {base : Nat} {vo vn : Value} {vs : List Value} {rows : List (List Tv)} {now : List Tv} (h : RowsFar w vo vn vs rows) (hl : vs.length = rows.length) (hn : w.ownsRow base 49 3 vn now.length (tvCells now)) (hne : ∀ b, vn.ownBlock = some b → vo.ownBlock ≠ some b) :
    RowsFar w vo (.slice none 0 0) (vs ++ [vn]) (rows ++ [now]) := fun j r hj => by
  rcases Nat.lt_or_ge j rows.length with hlt | hge
  · rw [List.getElem?_append_left hlt] at hj
    obtain ⟨A, c, h1, h2⟩ := h j r hj
    refine ⟨A, c, by rw [List.getElem?_append_left (by omega)]; exact h1, fun h0 => ?_⟩
    obtain ⟨b, e, hlt, ht, ho, _⟩ := h2 h0
    exact ⟨b, e, hlt, ht, ho, by simp [Value.ownBlock]⟩
  · rw [List.getElem?_append_right hge] at hj
    have hj0 : j - rows.length = 0 := by
      rcases Nat.eq_zero_or_pos (j - rows.length) with h0 | h0
      · exact h0
      · rw [List.getElem?_eq_none (by simp; omega)] at hj
        cases hj
    rw [hj0] at hj
    simp at hj
    subst hj
    rw [List.getElem?_append_right (by omega), hl, hj0]
    by_cases h0 : now = []
    · subst h0
      obtain ⟨a, cap, hv⟩ := row_slice hn
      exact ⟨a, cap, by rw [hv]; rfl, fun h => absurd rfl h⟩
    · obtain ⟨g, cap, rfl, hlt, ht⟩ := tvs_row hn h0
      exact ⟨_, cap, rfl, fun _ => ⟨g, rfl, hlt, ht, hne g rfl, by simp [Value.ownBlock]⟩⟩

/-- A list of rows of tokens. -/
def RowsAt (w : World) (vs : List Value) (rows : List (List Tv)) : Prop := ∀ (j : Nat) (r : List Tv), rows[j]? = some r → ∃ (A : Option Addr) (c : Nat), vs[j]? = some (Value.slice A r.length c) ∧ TokS w A r
theorem RowsFar.at {w : World} {vo vn : Value} {vs : List Value} {rows : List (List Tv)} (h : RowsFar w vo vn vs rows) : RowsAt w vs rows := fun j r hj => by
  obtain ⟨A, c, h1, h2⟩ := h j r hj
  refine ⟨A, c, h1, fun h0 => ?_⟩
  obtain ⟨b, e, hlt, ht, _⟩ := h2 (List.length_pos_iff.1 h0)
  exact ⟨b, 0, e, hlt, ht⟩

set_option maxHeartbeats 4000000 in
set_option maxRecDepth 100000 in
theorem rrows_calls (w : World) (A : Option Addr) (l : List Tv) (n ca : Nat) (ha : TokS w A l) (hn : l.length = n) (hl : n ≤ 1200) (rows : List (List Tv)) (hrows : rowsA [] l = rows) :
    Calls Tryz.prog 33 #[.slice A n ca] w fun e w' => ∃ v vs, e = .returned v ∧ w'.ownsRow w.heap.size 23 1 v rows.length vs ∧ RowsAt w' vs rows ∧ Below w.heap.size w w' := by
  have HA := Lib.hid ha
  have HN := Lib.hid hn
  have HR := Lib.hid hrows
  obtain ⟨i0, hi, hz0, hz1, hz2⟩ := info_parts info_toks
  obtain ⟨k0, gi, gz0, gz1, gz2⟩ := info_parts info_token
  clear ha hn hrows
  go_enter Tryz.func33, Tryz.ntmps33
  go_wp2
  go_loopg [3, 4, 5] n (fun q u3 u4 u5 wr => ∃ (i : Nat) (vo vn : Value) (vs : List Value) (now : List Tv) (done : List (List Tv)), vo = u3 ∧ vn = u4 ∧ u5 = .int .i64 i ∧ i ≤ n ∧ q = n - i ∧ done.length ≤ i ∧ now.length ≤ i ∧ vs.length = done.length ∧ Aside (done ++ rowsA now (l.drop i) = rows) ∧
    Aside (wr.ownsRow w.heap.size 23 1 vo done.length vs) ∧ Aside (wr.ownsRow w.heap.size 49 3 vn now.length (tvCells now)) ∧ Aside (RowsFar wr vo vn vs done) ∧ Aside (∀ b, vn.ownBlock = some b → vo.ownBlock ≠ some b) ∧ Aside (Below w.heap.size w wr))
  case atStart => exact ⟨0, .slice none 0 0, .slice none 0 0, [], [], [], rfl, rfl, rfl, Nat.zero_le _, rfl, Nat.le_refl _, Nat.le_refl _, rfl, HR.out, World.ownsRow_nil _ _ _ _, World.ownsRow_nil _ _ _ _, fun j r hj => (by simp at hj), fun b hb => (by simp [Value.ownBlock] at hb), Below.refl _ _⟩
  case round =>
    obtain ⟨i, vo, vn, vs, now, done, rfl, rfl, rfl, hin, rfl, hdi, hni, hvs, hrow, hvo, hvn, hfar, hne, hB⟩ := hrel
    have hzw := hB.out.size
    obtain ⟨an, cn, hvne⟩ := row_slice hvn.out
    subst hvne
    by_cases hlt : i < n
    · have hltz : decide ((i : Int) < (n : Int)) = true := by simp; omega
      have hltz2 : (i : Int) < (n : Int) := by omega
      obtain ⟨b, off, rfl, hbl, hT⟩ := HA.out (by have := HN.out; omega)
      obtain ⟨t, ht⟩ : ∃ t, l[i]? = some t := ⟨_, List.getElem?_eq_getElem (by have := HN.out; omega)⟩
      obtain ⟨c0, c1, c2⟩ := hT.below hB.out hbl i t ht
      have hcons : l.drop i = t :: l.drop (i + 1) := by
        obtain ⟨h1, e1⟩ := List.getElem?_eq_some_iff.1 ht
        rw [List.drop_eq_getElem_cons h1, e1]
      have hrr := hrow.out
      rw [hcons] at hrr
      by_cases h5 : t.kind = 5
      · have q5 : (t.kind == 5) = true := by simpa using h5
        have hr' : Hid ((done ++ [now]) ++ rowsA [] (l.drop (i + 1)) = rows) := Lib.hid (by
          rw [← hrr, rowsA_end h5]
          simp)
        have HPUSH := Lib.hid (hfar.out.push hvs hvn.out hne.out)
        clear hrr hcons ht hT h5 hrow
        go_wp2_with (first
          | (at_builtin; refine wpList_append_own_at _ rfl _ _ 59 rfl w.heap.size 23 i0 _ 1 24 Tryz.underlying59 hi hz0 hz1 hz2 rfl (by decide) _ _ _ rfl (hvo.out.alloc _) ⟨wr.heap.size, 0, none⟩ 1 1 [.slice an now.length cn] rfl rfl (one_new _ _ _) (by simp [Value.oneCell']) (by simp only [maxLen]; omega) (by omega) (by simp; omega) ?_; intro v4 w4 hown4 hgrow4 _ hblk4; have HB4 := Lib.hid ((hB.out.alloc hzw _).trans (below_grown hgrow4 (by simp; omega) (own_base hvo.out))); have HO4 := Lib.hid hown4; have HF4 := Lib.hid ((HPUSH.out.alloc _).out hgrow4 hblk4); clear hown4 hgrow4))
        go_roundg (n - (i + 1))
        case measure => omega
        case rel =>
          have hr4 : w4.ownsRow w.heap.size 23 1 v4 (done ++ [now]).length (vs ++ [.slice an now.length cn]) := by simpa using HO4.out
          exact ⟨i + 1, v4, .slice none 0 0, vs ++ [Value.slice an now.length cn], [], done ++ [now], rfl, rfl, by go_num, by omega, rfl, by simp; omega, Nat.zero_le _, by simp [hvs], hr'.out, hr4, World.ownsRow_nil _ _ _ _, HF4.out, fun b hb => (by simp [Value.ownBlock] at hb), HB4.out⟩
      · have q5 : (t.kind == 5) = false := by simpa using h5
        have hr' : Hid (done ++ rowsA (now ++ [t]) (l.drop (i + 1)) = rows) := Lib.hid (by
          rw [← hrr, rowsA_more h5])
        clear hrr hcons ht hT h5 hrow
        go_wp2_with (first
          | (at_builtin; refine wpList_append_own_at _ rfl _ _ 23 rfl w.heap.size 49 k0 _ 3 32 Tryz.underlying23 gi gz0 gz1 gz2 rfl (by decide) _ _ _ rfl (hvn.out.alloc _) ⟨wr.heap.size, 0, none⟩ 1 1 [.int .i64 t.kind, .int .i64 t.pos, .string t.text] rfl rfl (three_new _ _ _ _ _) (by simp [Value.oneCell']) (by simp only [maxLen]; omega) (by omega) (by simp; omega) ?_; intro v4 w4 hown4 hgrow4 _ hblk4; have HB4 := Lib.hid ((hB.out.alloc hzw _).trans (below_grown hgrow4 (by simp; omega) (own_base hvn.out))); have HO4 := Lib.hid hown4; have HF4 := Lib.hid ((hfar.out.alloc _).now hgrow4 hblk4); have HV4 := Lib.hid (own_far (hvo.out.alloc _) hgrow4 (fun b hb e => hne.out b e hb)); have HBL := Lib.hid hblk4; clear hown4 hgrow4 hblk4))
        go_roundg (n - (i + 1))
        case measure => omega
        case rel =>
          have hr4 : w4.ownsRow w.heap.size 49 3 v4 (now ++ [t]).length (tvCells (now ++ [t])) := by
            rw [tvCells_snoc, List.length_append]
            exact HO4.out
          have hne4 : ∀ b, v4.ownBlock = some b → vo.ownBlock ≠ some b := fun b hb e => by
            rcases HBL.out with e4 | e4
            · rw [e4] at hb
              exact hne.out b hb e
            · rw [e4] at hb
              have hlo := own_lt hvo.out b e
              simp at hb
              omega
          exact ⟨i + 1, vo, v4, vs, now ++ [t], done, rfl, rfl, by go_num, by omega, rfl, by omega, by simp; omega, hvs, hr'.out, HV4.out, hr4, HF4.out, hne4, HB4.out⟩
    · obtain rfl : i = n := by omega
      have hd : done = rows := by
        rw [← hrow.out, List.drop_of_length_le (by have := HN.out; omega)]
        simp [rowsA]
      subst hd
      go_wp2
      go_ret
      exact ⟨vo, vs, rfl, hvo.out, hfar.out.at, hB.out⟩

end Go.Proofs.YtpnfcgmogjpliaaGreatDoor
