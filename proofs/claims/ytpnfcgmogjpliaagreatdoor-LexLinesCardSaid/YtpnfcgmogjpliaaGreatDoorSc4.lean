/- The scanner's method text. The contract holds of every source of at most 20,000 bytes. -/
import Derived.Test.YtpnfcgmogjpliaaGreatDoorSc3
import Derived.BigRegion
import Derived.Deep.DrawnRows
namespace Go.Proofs.YtpnfcgmogjpliaaGreatDoor
open Go.RowKit
attribute [local go_sem ↓] Go.wp_at_zero Go.wp_at_succ

/-- Where the text that begins at k ends: how many bytes are between. -/
def quoteAt (s : ByteArray) (k : Nat) (q : UInt8) : Option Nat := (LexM.line ((bs s).drop (k + 1))).findIdx? (· == q)

theorem slice_run (s : ByteArray) (i j : Nat) (a b : Int) (ha : a = i) (hb : b = j) (hij : i ≤ j) (hj : j ≤ s.size) (wx : World) :
    (Instr.slice 9 (.string s) (some (.int .i64 a)) (some (.int .i64 b)) none).run Tryz.prog wx = .ok (.string (s.extract i j)) wx := by
  subst ha
  subst hb
  have := run_slice_string (P := Tryz.prog) (w := wx) 9 s .i64 .i64 i j Tryz.underlying9 (by omega) (by omega) (by omega)
  simpa using this
theorem slice_from (s : ByteArray) (i : Nat) (a : Int) (ha : a = i) (hi : i ≤ s.size) (wx : World) :
    (Instr.slice 9 (.string s) (some (.int .i64 a)) none none).run Tryz.prog wx = .ok (.string (s.extract i s.size)) wx := by
  subst ha
  have := run_slice_string_l (P := Tryz.prog) (w := wx) (s := s) (t := 9) Tryz.underlying9 .i64 i (by omega) (by omega)
  simpa using this

theorem line_here {s : ByteArray} {k : Nat} (hk : k < s.size) (h10 : (s[k] == 10) = false) : lineTo s (k + 1) = lineTo s k ∧ k + 1 ≤ lineTo s k := by
  have hd : (bs s).drop k = s[k] :: (bs s).drop (k + 1) := by
    rw [List.drop_eq_getElem_cons (by rw [bs_length]; exact hk)]
    rfl
  have h' : (s[k] != 10) = true := by simp [bne, h10]
  have h1 : k < lineTo s k := by
    unfold lineTo
    rw [hd]
    simp [LexM.line, h']
  obtain ⟨_, _, _, _, h2, _⟩ := line_step h1
  exact ⟨h2, h1⟩
theorem line_take (l : List UInt8) : l.take (LexM.line l).length = LexM.line l := by
  unfold LexM.line
  exact (List.prefix_iff_eq_take.1 (List.takeWhile_prefix _)).symm
theorem extract_line (s : ByteArray) (k : Nat) : (s.extract k (lineTo s k)).data.toList = LexM.line ((bs s).drop k) := by
  rw [Lib.extract_data]
  unfold lineTo
  rw [Nat.add_sub_cancel_left]
  exact line_take _
theorem quote_calls {s : ByteArray} {k E : Nat} (wx : World) (hk : k < s.size) (h10 : (s[k] == 10) = false) (hE : lineTo s k = E) :
    Calls Tryz.prog 93 #[.string (s.extract (k + 1) E), .int .u8 s[k].toNat] wx fun e w' => e = .returned (.int .i64 (match quoteAt s k s[k] with | some j => (j : Int) | none => -1)) ∧ wx = w' := by
  have := Tryz.strings_IndexByte (s.extract (k + 1) E) s[k].toNat wx
  rw [← hE, ← (line_here hk h10).1] at this ⊢
  rw [extract_line, indexByte_find] at this
  refine this.mono fun e w' h => ⟨?_, h.2.symm⟩
  rw [h.1]
  simp [quoteAt]
  rfl

set_option maxHeartbeats 1000000 in
set_option maxRecDepth 100000 in
theorem text_none (w : World) (g : Nat) (s : ByteArray) (k : Nat) (ln : Bool) (bad : Int) (h : ScSt w g s k ln bad) (hs : s.size ≤ 20000) (hk : k < s.size) (h10 : (s[k] == 10) = false) (hq : quoteAt s k s[k] = none) :
    Calls Tryz.prog 82 #[.pointer (some ⟨g, 0, none⟩), .agg #[.int .i64 0, .int .i64 k, .string ⟨#[]⟩]] w fun e w' => e = .returned (.tuple #[.agg #[.int .i64 0, .int .i64 k, .string ⟨#[]⟩], .bool false]) ∧ ScSt w' g s k ln k ∧ Ch g w w' := by
  have HS := Lib.hid h
  obtain ⟨c0, c1, c258, c259, c260⟩ := sc_cells h
  have f260 := sc_frozen h 260
  have hz := blk_lt h
  have hE1 := line_here hk h10
  obtain ⟨l1, l2⟩ := lineTo_le (s := s) (k := k) (by omega)
  obtain ⟨E, hE⟩ : ∃ E, lineTo s k = E := ⟨_, rfl⟩
  rw [hE] at l1 l2 hE1
  obtain ⟨hE2, l3⟩ := hE1
  have hcon : ∀ wx, Calls Tryz.prog 93 #[.string (s.extract (k + 1) E), .int .u8 s[k].toNat] wx fun e w' => e = .returned (.int .i64 (-1)) ∧ wx = w' := fun wx => by
    have := quote_calls wx hk h10 hE
    rw [hq] at this
    exact this
  have HC := Lib.hid hcon
  have hle := fun wx (hw : ScSt wx g s k ln bad) => lineEnd_calls wx g s k k ln bad hw hs (by omega)
  rw [hE] at hle
  have HL := Lib.hid hle
  have s1 : IntKind.i64.wrap ((k : Int) + 1) = (k : Int) + 1 := IntWalk.i64_in _ (by omega)
  have s2 : ((k : Int) + 1).toNat = k + 1 := by omega
  have s3 : (0 : Int) ≤ (k : Int) + 1 := by omega
  have hsl := slice_run s (k + 1) E ((k : Int) + 1) E (by omega) rfl l3 l2
  clear h hE hE2 hcon hle hq
  go_enter Tryz.func82, Tryz.ntmps82
  go_wp2_with (go_at_call 79; refine (HL.out _ ((HS.out.alloc _).alloc _)).mono ?_; rintro e w' ⟨rfl, rfl⟩)
  go_quiet ((go_at_call 93; refine (HC.out _).mono ?_; rintro e w' ⟨rfl, rfl⟩; exact ⟨rfl, _, rfl⟩))
  go_wp2
  refine bodyPost_ret (v := .tuple #[.agg #[.int .i64 0, .int .i64 k, .string ⟨#[]⟩], .bool false]) (by simp [results, Tryz.results82, go_sem]) rfl ⟨rfl, ?_, ?_⟩
  · (repeat (first | with_reducible exact HS.out | with_reducible apply ScSt.drewN | with_reducible apply ScSt.drew | with_reducible apply ScSt.alloc | with_reducible apply ScSt.setLine | ((with_reducible apply ScSt.setAtI); (case e => first | omega | rfl)) | with_reducible apply ScSt.setBad | with_reducible refine ScSt.other ?_ (by first | omega | (simp; done) | (simp; omega)) _))
  · (repeat (first | with_reducible exact Ch.refl _ _ | with_reducible exact HCH.out | with_reducible apply Ch.drewN | with_reducible apply Ch.drew | with_reducible apply Ch.alloc | with_reducible apply Ch.set | with_reducible refine Ch.setNew ?_ (by first | omega | (simp; done) | (simp; omega)) _))

theorem clsI_wrong (b : UInt8) : (((classOf b : Nat) : Int) == 4) = LexM.isWrong b := by
  rw [← class_wrong]
  exact cast_beq _ 4
theorem ext_get {s x : ByteArray} {a j : Nat} (hx : s.extract a (a + j) = x) (i : Nat) (hi : i < x.size) : (((bs s).drop a).take j)[i]? = some x[i] := by
  have := Lib.extract_data s a (a + j)
  rw [hx, Nat.add_sub_cancel_left] at this
  rw [← this]
  exact bs_get x i hi
/-- The first place in a text of j bytes that is wrong. -/
def wrongIn (s : ByteArray) (k j : Nat) : Option Nat := LexM.firstWrong (((bs s).drop (k + 1)).take j)

set_option maxHeartbeats 1000000 in
set_option maxRecDepth 100000 in
theorem text_bad (w : World) (g : Nat) (s : ByteArray) (k j p : Nat) (ln : Bool) (bad : Int) (h : ScSt w g s k ln bad) (hs : s.size ≤ 20000) (hk : k < s.size) (h10 : (s[k] == 10) = false) (hq : quoteAt s k s[k] = some j) (hw : wrongIn s k j = some p) :
    Calls Tryz.prog 82 #[.pointer (some ⟨g, 0, none⟩), .agg #[.int .i64 0, .int .i64 k, .string ⟨#[]⟩]] w fun e w' => e = .returned (.tuple #[.agg #[.int .i64 2, .int .i64 k, .string (s.extract (k + 1) (k + 1 + j))], .bool false]) ∧ ScSt w' g s k ln ((k : Int) + 1 + p) ∧ Ch g w w' := by
  have HS := Lib.hid h
  obtain ⟨c0, c1, c258, c259, c260⟩ := sc_cells h
  have f260 := sc_frozen h 260
  have hz := blk_lt h
  have hE1 := line_here hk h10
  obtain ⟨l1, l2⟩ := lineTo_le (s := s) (k := k) (by omega)
  obtain ⟨E, hE⟩ : ∃ E, lineTo s k = E := ⟨_, rfl⟩
  rw [hE] at l1 l2 hE1
  obtain ⟨hE2, l3⟩ := hE1
  have hcon : ∀ wx, Calls Tryz.prog 93 #[.string (s.extract (k + 1) E), .int .u8 s[k].toNat] wx fun e w' => e = .returned (.int .i64 j) ∧ wx = w' := fun wx => by
    have := quote_calls wx hk h10 hE
    rw [hq] at this
    exact this
  have HC := Lib.hid hcon
  have hle := fun wx (hw : ScSt wx g s k ln bad) => lineEnd_calls wx g s k k ln bad hw hs (by omega)
  rw [hE] at hle
  have HL := Lib.hid hle
  have hj : k + 1 + j < E := by
    have := (List.findIdx?_eq_some_iff_getElem.1 hq).1
    unfold lineTo at hE2
    omega
  have s1 : IntKind.i64.wrap ((k : Int) + 1) = (k : Int) + 1 := IntWalk.i64_in _ (by omega)
  have s2 : ((k : Int) + 1).toNat = k + 1 := by omega
  have s4 : IntKind.i64.wrap ((k : Int) + 1 + j) = (k : Int) + 1 + j := IntWalk.i64_in _ (by omega)
  have s3 : (0 : Int) ≤ (k : Int) + 1 := by omega
  have hsl := slice_run s (k + 1) E ((k : Int) + 1) E (by omega) rfl l3 l2
  have hsl2 := slice_run s (k + 1) (k + 1 + j) ((k : Int) + 1) ((k : Int) + 1 + j) (by omega) (by omega) (by omega) (by omega)
  obtain ⟨x, hx⟩ : ∃ x, s.extract (k + 1) (k + 1 + j) = x := ⟨_, rfl⟩
  rw [hx] at hsl2 ⊢
  have hxs : x.size = j := by
    rw [← hx, ByteArray.size_extract]
    omega
  have HX := Lib.hid hx
  have HXS := Lib.hid hxs
  obtain ⟨w1, w2, w3⟩ := List.findIdx?_eq_some_iff_getElem.1 hw
  have hpj : p < j := by
    have := List.length_take_le j ((bs s).drop (k + 1))
    omega
  have hwp : ∀ hp : p < x.size, LexM.isWrong x[p] = true := fun hp => by
    have := ext_get hx p hp
    rw [List.getElem?_eq_getElem w1] at this
    injection this with this
    rw [← this]
    exact w2
  have hwn : ∀ i (hi : i < x.size), i < p → LexM.isWrong x[i] = false := fun i hi hip => by
    have := ext_get hx i hi
    rw [List.getElem?_eq_getElem (by omega)] at this
    injection this with this
    rw [← this]
    simpa using w3 i hip
  have HWP := Lib.hid hwp
  have HWN := Lib.hid hwn
  have n0 := World.new_ne w ⟨g, 0, none⟩ c0
  have n1 := World.new_ne w ⟨g, 1, none⟩ c1
  clear h hE hE2 hcon hle hq hx hxs hw w1 w2 w3 hwp hwn
  go_enter Tryz.func82, Tryz.ntmps82
  go_wp2_with (go_at_call 79; refine (HL.out _ ((HS.out.alloc _).alloc _)).mono ?_; rintro e w' ⟨rfl, rfl⟩)
  go_quiet ((go_at_call 93; refine (HC.out _).mono ?_; rintro e w' ⟨rfl, rfl⟩; exact ⟨rfl, _, rfl⟩))
  go_wp2
  go_region_held3 (fun w' => w'.cell? ⟨g, 0, none⟩ = some (.string s) ∧ w'.cell? ⟨g, 1, none⟩ = some (.int .i64 k)) (go_keep) (fail)
  go_wp2
  go_loopg [68] j (fun n v wr => ∃ i : Nat, v = .int .i64 i ∧ i ≤ p ∧ n = j - i ∧ Aside (ScSt wr g s k ln bad) ∧ Aside (Ch g w wr) ∧ Aside (wr.heap[w.heap.size]? = some (.cells #[.int .i64 2, .int .i64 k, .string x] 49 (0, 0))) ∧ Aside (wr.heap[w.heap.size + 1]? = some (.cells #[.int .i64 0, .int .i64 0, .string ⟨#[]⟩] 49 (0, 0))))
  case atStart =>
    refine ⟨0, rfl, by omega, by omega, ?_, ?_, ?_, ?_⟩
    · show ScSt _ _ _ _ _ _
      (repeat (first | with_reducible exact HS.out | with_reducible apply ScSt.drewN | with_reducible apply ScSt.drew | with_reducible apply ScSt.alloc | with_reducible apply ScSt.setLine | ((with_reducible apply ScSt.setAtI); (case e => first | omega | rfl)) | with_reducible apply ScSt.setBad | with_reducible refine ScSt.other ?_ (by first | omega | (simp; done) | (simp; omega)) _))
    · show Ch _ _ _
      (repeat (first | with_reducible exact Ch.refl _ _ | with_reducible exact HCH.out | with_reducible apply Ch.drewN | with_reducible apply Ch.drew | with_reducible apply Ch.alloc | with_reducible apply Ch.set | with_reducible refine Ch.setNew ?_ (by first | omega | (simp; done) | (simp; omega)) _))
    · exact blk_set (blk_set (blk_alloc (blk_new w _ _) _) 0 _) 2 _
    · refine blk_far (blk_far ?_ (by simp) _) (by simp) _
      have := blk_new (w.alloc (.cells #[.int .i64 0, .int .i64 k, .string ⟨#[]⟩] 49)) #[.int .i64 0, .int .i64 0, .string ⟨#[]⟩] 49
      rw [World.size_alloc] at this
      exact this
  case round =>
    obtain ⟨i, rfl, hip, rfl, hst, hch, ha0, ha1⟩ := hrel
    clear c0 c1 c258 c259 c260 f260 n0 n1
    obtain ⟨c0, c1, c258, c259, c260⟩ := sc_cells hst.out
    have f260 := sc_frozen hst.out 260
    have t0 : wr.cell? ⟨w.heap.size, 0, none⟩ = some (.int .i64 2) := (blk_cell ha0.out 0).trans rfl
    have t1 : wr.cell? ⟨w.heap.size, 1, none⟩ = some (.int .i64 k) := (blk_cell ha0.out 1).trans rfl
    have t2 : wr.cell? ⟨w.heap.size, 2, none⟩ = some (.string x) := (blk_cell ha0.out 2).trans rfl
    have r0 : wr.cell? ⟨w.heap.size + 1, 0, none⟩ = some (.int .i64 0) := (blk_cell ha1.out 0).trans rfl
    have r1 : wr.cell? ⟨w.heap.size + 1, 1, none⟩ = some (.int .i64 0) := (blk_cell ha1.out 1).trans rfl
    have r2 : wr.cell? ⟨w.heap.size + 1, 2, none⟩ = some (.string ⟨#[]⟩) := (blk_cell ha1.out 2).trans rfl
    have q0 := blk_frozen ha1.out 0
    have q1 := blk_frozen ha1.out 1
    have q2 := blk_frozen ha1.out 2
    have hix : i < x.size := by rw [HXS.out]; omega
    have c2 := sc_class hst.out x[i]
    have hidx := fun w => idxCls g x[i].toNat x[i].toNat_lt w
    have b1 : decide ((0 : Int) ≤ (i : Int)) = true := by simp
    have b2 : decide ((i : Int) < (x.size : Int)) = true := by simp; omega
    by_cases hp : i = p
    · subst hp
      have hcl : (((classOf x[i] : Nat) : Int) == 4) = true := by rw [clsI_wrong]; exact HWP.out hix
      go_wp2
      go_quiet (fail)
      go_wp2
      have HS := hst
      have HCH := hch
      refine bodyPost_ret (v := .tuple #[.agg #[.int .i64 2, .int .i64 k, .string x], .bool false]) (by simp [results, Tryz.results82, go_sem, r0, r1, r2]) rfl ⟨rfl, ?_, ?_⟩
      · (repeat (first | with_reducible exact HS.out | with_reducible apply ScSt.drewN | with_reducible apply ScSt.drew | with_reducible apply ScSt.alloc | with_reducible apply ScSt.setLine | ((with_reducible apply ScSt.setAtI); (case e => first | omega | rfl)) | with_reducible apply ScSt.setBad | with_reducible refine ScSt.other ?_ (by first | omega | (simp; done) | (simp; omega)) _))
      · (repeat (first | with_reducible exact Ch.refl _ _ | with_reducible exact HCH.out | with_reducible apply Ch.drewN | with_reducible apply Ch.drew | with_reducible apply Ch.alloc | with_reducible apply Ch.set | with_reducible refine Ch.setNew ?_ (by first | omega | (simp; done) | (simp; omega)) _))
    · have hip2 : i < p := by omega
      have hcl : (((classOf x[i] : Nat) : Int) == 4) = false := by rw [clsI_wrong]; exact HWN.out i hix hip2
      clear hp
      go_wp2
      go_quiet (fail)
      go_wp2
      go_roundg (j - (i + 1))
      case measure => omega
      case rel => exact ⟨i + 1, by go_num, by omega, rfl, hst.out.drewN _, hch.out.drewN _, ha0.out, ha1.out⟩

set_option maxHeartbeats 1000000 in
set_option maxRecDepth 100000 in
theorem text_ok (w : World) (g : Nat) (s : ByteArray) (k j : Nat) (ln : Bool) (bad : Int) (h : ScSt w g s k ln bad) (hs : s.size ≤ 20000) (hk : k < s.size) (h10 : (s[k] == 10) = false) (hq : quoteAt s k s[k] = some j) (hw : wrongIn s k j = none) :
    Calls Tryz.prog 82 #[.pointer (some ⟨g, 0, none⟩), .agg #[.int .i64 0, .int .i64 k, .string ⟨#[]⟩]] w fun e w' => e = .returned (.tuple #[.agg #[.int .i64 2, .int .i64 k, .string (s.extract (k + 1) (k + 1 + j))], .bool true]) ∧ ScSt w' g s (k + (j + 2)) ln bad ∧ Ch g w w' := by
  have HS := Lib.hid h
  obtain ⟨c0, c1, c258, c259, c260⟩ := sc_cells h
  have f1 := sc_frozen h 1
  have hz := blk_lt h
  have hE1 := line_here hk h10
  obtain ⟨l1, l2⟩ := lineTo_le (s := s) (k := k) (by omega)
  obtain ⟨E, hE⟩ : ∃ E, lineTo s k = E := ⟨_, rfl⟩
  rw [hE] at l1 l2 hE1
  obtain ⟨hE2, l3⟩ := hE1
  have hcon : ∀ wx, Calls Tryz.prog 93 #[.string (s.extract (k + 1) E), .int .u8 s[k].toNat] wx fun e w' => e = .returned (.int .i64 j) ∧ wx = w' := fun wx => by
    have := quote_calls wx hk h10 hE
    rw [hq] at this
    exact this
  have HC := Lib.hid hcon
  have hle := fun wx (hw : ScSt wx g s k ln bad) => lineEnd_calls wx g s k k ln bad hw hs (by omega)
  rw [hE] at hle
  have HL := Lib.hid hle
  have hj : k + 1 + j < E := by
    have := (List.findIdx?_eq_some_iff_getElem.1 hq).1
    unfold lineTo at hE2
    omega
  have s1 : IntKind.i64.wrap ((k : Int) + 1) = (k : Int) + 1 := IntWalk.i64_in _ (by omega)
  have s2 : ((k : Int) + 1).toNat = k + 1 := by omega
  have s4 : IntKind.i64.wrap ((k : Int) + 1 + j) = (k : Int) + 1 + j := IntWalk.i64_in _ (by omega)
  have s3 : (0 : Int) ≤ (k : Int) + 1 := by omega
  have hsl := slice_run s (k + 1) E ((k : Int) + 1) E (by omega) rfl l3 l2
  have hsl2 := slice_run s (k + 1) (k + 1 + j) ((k : Int) + 1) ((k : Int) + 1 + j) (by omega) (by omega) (by omega) (by omega)
  obtain ⟨x, hx⟩ : ∃ x, s.extract (k + 1) (k + 1 + j) = x := ⟨_, rfl⟩
  rw [hx] at hsl2 ⊢
  have hxs : x.size = j := by
    rw [← hx, ByteArray.size_extract]
    omega
  have HX := Lib.hid hx
  have HXS := Lib.hid hxs
  have hwn : ∀ i (hi : i < x.size), LexM.isWrong x[i] = false := fun i hi => by
    have := ext_get hx i hi
    exact List.findIdx?_eq_none_iff.1 hw _ (List.mem_of_getElem? this)
  have HWN := Lib.hid hwn
  have n0 := World.new_ne w ⟨g, 0, none⟩ c0
  have n1 := World.new_ne w ⟨g, 1, none⟩ c1
  clear h hE hE2 hcon hle hq hx hxs hw hwn
  go_enter Tryz.func82, Tryz.ntmps82
  go_wp2_with (go_at_call 79; refine (HL.out _ ((HS.out.alloc _).alloc _)).mono ?_; rintro e w' ⟨rfl, rfl⟩)
  go_quiet ((go_at_call 93; refine (HC.out _).mono ?_; rintro e w' ⟨rfl, rfl⟩; exact ⟨rfl, _, rfl⟩))
  go_wp2
  go_region_held3 (fun w' => w'.cell? ⟨g, 0, none⟩ = some (.string s) ∧ w'.cell? ⟨g, 1, none⟩ = some (.int .i64 k)) (go_keep) (fail)
  go_wp2
  go_loopg [68] j (fun n v wr => ∃ i : Nat, v = .int .i64 i ∧ i ≤ j ∧ n = j - i ∧ Aside (ScSt wr g s k ln bad) ∧ Aside (Ch g w wr) ∧ Aside (wr.heap[w.heap.size]? = some (.cells #[.int .i64 2, .int .i64 k, .string x] 49 (0, 0))) ∧ Aside (wr.heap[w.heap.size + 1]? = some (.cells #[.int .i64 0, .int .i64 0, .string ⟨#[]⟩] 49 (0, 0))))
  case atStart =>
    refine ⟨0, rfl, by omega, by omega, ?_, ?_, ?_, ?_⟩
    · show ScSt _ _ _ _ _ _
      (repeat (first | with_reducible exact HS.out | with_reducible apply ScSt.drewN | with_reducible apply ScSt.drew | with_reducible apply ScSt.alloc | with_reducible apply ScSt.setLine | ((with_reducible apply ScSt.setAtI); (case e => first | omega | rfl)) | with_reducible apply ScSt.setBad | with_reducible refine ScSt.other ?_ (by first | omega | (simp; done) | (simp; omega)) _))
    · show Ch _ _ _
      (repeat (first | with_reducible exact Ch.refl _ _ | with_reducible exact HCH.out | with_reducible apply Ch.drewN | with_reducible apply Ch.drew | with_reducible apply Ch.alloc | with_reducible apply Ch.set | with_reducible refine Ch.setNew ?_ (by first | omega | (simp; done) | (simp; omega)) _))
    · exact blk_set (blk_set (blk_alloc (blk_new w _ _) _) 0 _) 2 _
    · refine blk_far (blk_far ?_ (by simp) _) (by simp) _
      have := blk_new (w.alloc (.cells #[.int .i64 0, .int .i64 k, .string ⟨#[]⟩] 49)) #[.int .i64 0, .int .i64 0, .string ⟨#[]⟩] 49
      rw [World.size_alloc] at this
      exact this
  case round =>
    obtain ⟨i, rfl, hip, rfl, hst, hch, ha0, ha1⟩ := hrel
    clear c0 c1 c258 c259 c260 f1 n0 n1
    obtain ⟨c0, c1, c258, c259, c260⟩ := sc_cells hst.out
    have f1 := sc_frozen hst.out 1
    have t0 : wr.cell? ⟨w.heap.size, 0, none⟩ = some (.int .i64 2) := (blk_cell ha0.out 0).trans rfl
    have t1 : wr.cell? ⟨w.heap.size, 1, none⟩ = some (.int .i64 k) := (blk_cell ha0.out 1).trans rfl
    have t2 : wr.cell? ⟨w.heap.size, 2, none⟩ = some (.string x) := (blk_cell ha0.out 2).trans rfl
    have r0 : wr.cell? ⟨w.heap.size + 1, 0, none⟩ = some (.int .i64 0) := (blk_cell ha1.out 0).trans rfl
    have r1 : wr.cell? ⟨w.heap.size + 1, 1, none⟩ = some (.int .i64 0) := (blk_cell ha1.out 1).trans rfl
    have r2 : wr.cell? ⟨w.heap.size + 1, 2, none⟩ = some (.string ⟨#[]⟩) := (blk_cell ha1.out 2).trans rfl
    have q0 := blk_frozen ha1.out 0
    have q1 := blk_frozen ha1.out 1
    have q2 := blk_frozen ha1.out 2
    by_cases hij : i < j
    · have hix : i < x.size := by rw [HXS.out]; omega
      have c2 := sc_class hst.out x[i]
      have hidx := fun w => idxCls g x[i].toNat x[i].toNat_lt w
      have b1 : decide ((0 : Int) ≤ (i : Int)) = true := by simp
      have b2 : decide ((i : Int) < (x.size : Int)) = true := by simp; omega
      have hcl : (((classOf x[i] : Nat) : Int) == 4) = false := by rw [clsI_wrong]; exact HWN.out i hix
      go_wp2
      go_quiet (fail)
      go_wp2
      go_roundg (j - (i + 1))
      case measure => omega
      case rel => exact ⟨i + 1, by go_num, by omega, rfl, hst.out.drewN _, hch.out.drewN _, ha0.out, ha1.out⟩
    · have b3 : x.size ≤ i := by rw [HXS.out]; omega
      go_wp2
      have HS := hst
      have HCH := hch
      refine bodyPost_ret (v := .tuple #[.agg #[.int .i64 2, .int .i64 k, .string x], .bool true]) (by simp [results, Tryz.results82, go_sem, r0, r1, r2]) rfl ⟨rfl, ?_, ?_⟩
      · (repeat (first | with_reducible exact HS.out | with_reducible apply ScSt.drewN | with_reducible apply ScSt.drew | with_reducible apply ScSt.alloc | with_reducible apply ScSt.setLine | ((with_reducible apply ScSt.setAtI); (case e => first | omega | rfl)) | with_reducible apply ScSt.setBad | with_reducible refine ScSt.other ?_ (by first | omega | (simp; done) | (simp; omega)) _))
      · (repeat (first | with_reducible exact Ch.refl _ _ | with_reducible exact HCH.out | with_reducible apply Ch.drewN | with_reducible apply Ch.drew | with_reducible apply Ch.alloc | with_reducible apply Ch.set | with_reducible refine Ch.setNew ?_ (by first | omega | (simp; done) | (simp; omega)) _))

end Go.Proofs.YtpnfcgmogjpliaaGreatDoor
