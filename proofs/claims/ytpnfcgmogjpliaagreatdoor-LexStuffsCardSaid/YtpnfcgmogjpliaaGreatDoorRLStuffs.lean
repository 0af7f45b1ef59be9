/- For every source, every text and every two places the program's Stuff answers what the document's Stuff answers, and the law's own example holds; the arguments read as they did. The library's tables lie as their texts lay them (the card ties that). -/
import Derived.Test.YtpnfcgmogjpliaaGreatDoorLStuffs
import Derived.Test.YtpnfcgmogjpliaaGreatDoorOpen
import Derived.Test.YtpnfcgmogjpliaaGreatDoorCards
import Derived.Test.YtpnfcgmogjpliaaGreatDoorTie
import Derived.SizedLaws
import Derived.ChangeMaps5
import Derived.WideKeyPair
namespace Go.Proofs.YtpnfcgmogjpliaaGreatDoor
open Go.RowKit Go.Lib Go.ChangeShapes Go.WideShapes Go.ChangeAt Go.Deep Go.ChangeMaps

theorem pairA : Go.WideMaps.ArrKey Tryz.prog 36 3 2 := ⟨Tryz.underlying36, by kernel_rfl, by kernel_rfl, by kernel_rfl⟩

theorem lexStuffs_pre (os : Os) {H : Type} (enc : TypeId × Value → H) : Rows.lexStuffsSpec.preB enc Tryz.prog Tryz.f6 [] false ((startW os).forCall (fun _ _ => 0) ⟨#[], #[.string ⟨#[]⟩, .string ⟨#[]⟩, .agg #[.int .i64 0, .int .i64 0]], []⟩).memory #[.string ⟨#[]⟩, .string ⟨#[]⟩, .agg #[.int .i64 0, .int .i64 0]] 8 = true := by kernel_rfl

set_option maxRecDepth 100000 in
theorem lexStuffs_lifted (os : Os) (started : os.Started) (H : Type) (enc : TypeId × Value → H) :
    ReturnsInHanded {} Tryz.checked os 6 .any (fun w args => (Rows.lexStuffsSpec.pre enc Tryz.prog Tryz.f6 [] false w args ∧ laidMetH Tryz.prog laidL w) ∧ sizedMet enc Tryz.prog Tryz.f6 (OpenSpec.ofChange Rows.lexStuffsSpec) false w args)
      (Rows.lexStuffsSpec.post enc Tryz.prog Tryz.f6 false true false false) := by
  refine returnsInHanded_of_change_and (C := Tryz.checked) (X := fun w _ => laidMetH Tryz.prog laidL w) (fun _ _ _ hh h => h.of_heap hh) own started (by kernel_rfl) Tryz.func6
    (ChangeSpec.witness_shaped (enc := enc) (C := Tryz.checked) (os := os) (X := fun w _ => laidMetH Tryz.prog laidL w) false (startW os) #[.string ⟨#[]⟩, .string ⟨#[]⟩, .agg #[.int .i64 0, .int .i64 0]] 8 (World.laidAll_os _ _ _)
      (start_shaped os _) (by kernel_rfl) (lexStuffs_pre os enc) (by kernel_rfl) (start_met os _)) ?_
  intro W base args ds gs before hval0 hW _ hsz hL _
  have hval : ∀ (j : Nat) t v, Tryz.f6.params[j]? = some t → args[j]? = some v → Value.okWide Tryz.prog W .any base t v := hval0
  have hW' := hW
  obtain ⟨p, q, hA0, hV, rfl, _, _⟩ := hW
  have hA : DataW.TrodAll enc Tryz.prog W 0 (fun _ => true) true Tryz.f6.params.toList args.toList ds p := hA0
  rw [Tryz.params6] at hA hval
  obtain ⟨v0, v1, v2, d0, d1, d2, p0, p1, p2, rfl, rfl, rfl, h0, h1, h2⟩ := trodAll_three hA
  obtain ⟨rfl, rfl⟩ := trodVars_none hV
  obtain ⟨s0, rfl, rfl, rfl, ws0⟩ := open_string Tryz.underlying9 (hval 0 9 v0 rfl rfl) h0
  obtain ⟨s1, rfl, rfl, rfl, ws1⟩ := open_string Tryz.underlying9 (hval 1 9 v1 rfl rfl) h1
  obtain ⟨x2, y2, rfl, rfl, rfl, wx2, wy2⟩ := Go.WideMaps.open_pair pairA Tryz.underlying3 (hval 2 36 v2 rfl rfl) h2
  simp only [List.append_nil] at hW'
  rw [laid_plain] at hL
  have hT := tabs_of hL
  have zs0 : s0.size ≤ 140737488355328 := by
    have h := sized_string hsz (j := 0) (t := 9) rfl rfl
    rw [Array.length_toList] at h
    unfold reachBytes at h
    exact Nat.le_trans h (by decide)
  have zs1 : s1.size ≤ 140737488355328 := by
    have h := sized_string hsz (j := 1) (t := 9) rfl rfl
    rw [Array.length_toList] at h
    unfold reachBytes at h
    exact Nat.le_trans h (by decide)
  refine (lexStuffs_calls W s0 s1 x2 y2 zs0 zs1 hT).mono fun e W' ⟨he, hb⟩ => ?_
  subst he
  exact ⟨_, rfl, _, _, _, [], _, [], hW', trodAll_mk1 (shut_bool Tryz.underlying4 _), trodAll_mk3 (shut_string Tryz.underlying9 ws0) (shut_string Tryz.underlying9 ws1) (Go.WideMaps.shut_pair pairA Tryz.underlying3 wx2 wy2), rfl, hb.frame _, fun h => by cases h⟩

theorem lexStuffs_said : Rows.LexStuffsSaid :=
  OpenClaim.holds_of_wide 6 Tryz.f6 rfl rfl rfl rfl rfl rfl rfl ⟨rfl, rfl, rfl, rfl, rfl⟩ rfl rfl rfl rfl rfl (by kernel_rfl) Tryz.func6 (by kernel_rfl)
    (of_decide_eq_true (by kernel_rfl)) (by unfold Func.isWrapper; first | (rw [if_pos (by decide +kernel)]; kernel_rfl) | (rw [if_neg (by decide +kernel)]; exact ⟨rfl, rfl⟩))
    (fun os started H enc _ => lexStuffs_lifted os started H enc)

theorem lexStuffs_plain (f : FuncId) (fn : Func) (hf : Tryz.pinned.checked.prog.funcNamed "cabinetry/cabinetrylaw05.LexStuffs" = some f) (hfn : Tryz.pinned.checked.prog.funcs[f]? = some fn) :
    false = Tryz.pinned.checked.prog.looks [] ∧ ∀ (j : Nat) t, fn.params[j]? = some t → Tryz.pinned.checked.prog.wantsStandIn t = false := by
  obtain rfl : f = 6 := Option.some.inj ((show Tryz.prog.funcNamed "cabinetry/cabinetrylaw05.LexStuffs" = some 6 by kernel_rfl).symm.trans hf) |>.symm
  obtain rfl : fn = Tryz.f6 := (Option.some.inj (Tryz.func6.symm.trans hfn)).symm
  refine ⟨by kernel_rfl, fun j t ht => ?_⟩
  rw [Tryz.params6] at ht
  have hm : t ∈ [9, 9, 36] := by simpa using Array.mem_of_getElem? ht
  have hall : ([9, 9, 36].all fun u => !Tryz.prog.wantsStandIn u) = true := by kernel_rfl
  exact (show Tryz.prog.wantsStandIn t = false by simpa using List.all_eq_true.1 hall t hm)

theorem lexStuffs_card : Rows.LexStuffsCardSaid :=
  Claim7.holds_tied_plain_at .later [] _ _ _ _ lexStuffs_said (fun _ h => by cases h) (by kernel_rfl) (fun _ h => by cases h) lexStuffs_row_tie rfl ⟨rfl, rfl⟩ (by kernel_rfl) rfl lexStuffs_plain (by kernel_rfl)

end Go.Proofs.YtpnfcgmogjpliaaGreatDoor
