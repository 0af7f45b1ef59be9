/- For every two slices of tokens the program's Same answers what the document's Same answers, and the law's own example holds; the arguments read as they did. The library's tables lie as their texts lay them (the card ties that). -/
import Derived.Test.YtpnfcgmogjpliaaDoorOver
import Derived.Test.YtpnfcgmogjpliaaDoorOpen
import Derived.Test.YtpnfcgmogjpliaaDoorCards
import Derived.Test.YtpnfcgmogjpliaaDoorTie
namespace Go.Proofs.YtpnfcgmogjpliaaDoor
open Go.RowKit Go.Lib Go.ChangeShapes Go.WideShapes Go.ChangeAt Go.Deep

set_option maxRecDepth 100000 in
theorem lexSames_calls (w : World) (A B : Option Addr) (l r : List Tv) (n m ca cb : Nat) (ha : TokS w A l) (hb : TokS w B r) (hn : l.length = n) (hm : r.length = m) (hl : n ≤ 9223372036854775807) (hl2 : m ≤ 9223372036854775807) (hT : Tabs w w) :
    Calls Tryd.prog 4 #[.slice A n ca, .slice B m cb] w fun e w' => e = .returned (.bool true) ∧ Below w.heap.size w w' := by
  have hk := fun wx (hb : Below w.heap.size w wx) => known_calls w wx (hT.belowN hb)
  have ho1 := over_calls w A l n ca ha hn hl _ rfl
  have ho2 := over_calls w B r m cb hb hm hl2 _ rfl
  obtain ⟨S, hS⟩ : ∃ S, sameTv l r = S := ⟨_, rfl⟩
  have hs1 := same_calls w A B l r n m ca cb ha hb hn hm hl S hS
  have hs2 := fun wx (hx : Below w.heap.size w wx) => rsame_calls wx A B l r n m ca cb (ha.below hx) (hb.below hx) hn hm hl S hS
  have HK := Lib.hid hk
  have HS1 := Lib.hid hs1
  have HS2 := Lib.hid hs2
  clear hk hs1 hs2 ha hb hn hm hS hT
  cases q1 : decide (20000 < ovSum l) with
  | true =>
    rw [q1] at ho1
    have HO1 := Lib.hid ho1
    clear ho1 ho2 q1
    go_enter Tryd.func4, Tryd.ntmps4
    go_wp2_with (first
      | (go_at_call 10; refine HO1.out.mono ?_; rintro e w' ⟨rfl, rfl⟩)
      | (go_at_call 6; refine (HK.out _ (Below.refl _ _)).mono ?_; rintro e w1 ⟨rfl, hb1⟩; have HB1 := Lib.hid hb1; clear hb1))
    go_ret
    exact ⟨rfl, HB1.out⟩
  | false =>
    rw [q1] at ho1
    have HO1 := Lib.hid ho1
    clear ho1 q1
    cases q2 : decide (20000 < ovSum r) with
    | true =>
      rw [q2] at ho2
      have HO2 := Lib.hid ho2
      clear ho2 q2
      go_enter Tryd.func4, Tryd.ntmps4
      go_wp2_with fail
      refine HO1.out.mono ?_
      rintro e w' ⟨rfl, rfl⟩
      go_wp2_with fail
      refine HO2.out.mono ?_
      rintro e w' ⟨rfl, rfl⟩
      go_wp2_with (first
        | (go_at_call 6; refine (HK.out _ (Below.refl _ _)).mono ?_; rintro e w1 ⟨rfl, hb1⟩; have HB1 := Lib.hid hb1; clear hb1))
      go_ret
      exact ⟨rfl, HB1.out⟩
    | false =>
      rw [q2] at ho2
      have HO2 := Lib.hid ho2
      clear ho2 q2
      go_enter Tryd.func4, Tryd.ntmps4
      go_wp2_with fail
      refine HO1.out.mono ?_
      rintro e w' ⟨rfl, rfl⟩
      go_wp2_with fail
      refine HO2.out.mono ?_
      rintro e w' ⟨rfl, rfl⟩
      cases S
      all_goals
        go_wp2_with (first
          | (go_at_call 9; refine HS1.out.mono ?_; rintro e w1 ⟨rfl, hb1⟩; have HB1 := Lib.hid hb1; clear hb1)
          | (go_at_call 11; refine (HS2.out _ HB1.out).mono ?_; rintro e w2 ⟨rfl, nq, rfl⟩)
          | (go_at_call 6; refine (HK.out _ (below_drewN' HB1.out _)).mono ?_; rintro e w3 ⟨rfl, hb3⟩; have HB3 := Lib.hid ((below_drewN' HB1.out _).trans (hb3.mono (below_drewN' HB1.out _).size)); clear hb3))
        go_ret
        exact ⟨rfl, HB3.out⟩

theorem lexSames_pre (os : Os) {H : Type} (enc : TypeId × Value → H) : Rows.lexSamesSpec.preB enc Tryd.prog Tryd.f4 [] false ((startW os).forCall (fun _ _ => 0) ⟨#[], #[.slice none 0 0, .slice none 0 0], []⟩).memory #[.slice none 0 0, .slice none 0 0] 8 = true := by kernel_rfl

set_option maxRecDepth 100000 in
theorem lexSames_lifted (os : Os) (started : os.Started) (H : Type) (enc : TypeId × Value → H) :
    ReturnsInHanded {} Tryd.checked os 4 .any (fun w args => (Rows.lexSamesSpec.pre enc Tryd.prog Tryd.f4 [] false w args ∧ laidMetH Tryd.prog laidL w) ∧ sizedMet enc Tryd.prog Tryd.f4 (OpenSpec.ofChange Rows.lexSamesSpec) false w args)
      (Rows.lexSamesSpec.post enc Tryd.prog Tryd.f4 false true false false) := by
  refine returnsInHanded_of_change_and (C := Tryd.checked) (X := fun w _ => laidMetH Tryd.prog laidL w) (fun _ _ _ hh h => h.of_heap hh) own started (by kernel_rfl) Tryd.func4
    (ChangeSpec.witness_shaped (enc := enc) (C := Tryd.checked) (os := os) (X := fun w _ => laidMetH Tryd.prog laidL w) false (startW os) #[.slice none 0 0, .slice none 0 0] 8 (World.laidAll_os _ _ _)
      (start_shaped os _) (by kernel_rfl) (lexSames_pre os enc) (by kernel_rfl) (start_met os _)) ?_
  intro W base args ds gs before hval0 hW _ _ hL _
  have hval : ∀ (j : Nat) t v, Tryd.f4.params[j]? = some t → args[j]? = some v → Value.okWide Tryd.prog W .any base t v := hval0
  have hW' := hW
  obtain ⟨p, q, hA0, hV, rfl, _, _⟩ := hW
  have hA : DataW.TrodAll enc Tryd.prog W 0 (fun _ => true) true Tryd.f4.params.toList args.toList ds p := hA0
  rw [Tryd.params4] at hA hval
  obtain ⟨v0, v1, d0, d1, p0, p1, rfl, rfl, rfl, h0, h1⟩ := trodAll_two hA
  obtain ⟨rfl, rfl⟩ := trodVars_none hV
  have k0 := h0
  have k1 := h1
  obtain ⟨a0, n0, c0, rfl⟩ := okWide_slice Tryd.underlying23 (hval 0 23 v0 rfl rfl)
  obtain ⟨a1, n1, c1, rfl⟩ := okWide_slice Tryd.underlying23 (hval 1 23 v1 rfl rfl)
  obtain ⟨f0, h0⟩ := h0
  obtain ⟨f1, h1⟩ := h1
  obtain ⟨A, l, ca, e0, hl, hA'⟩ := open_toks h0
  obtain ⟨B, r, cb, e1, hr, hB'⟩ := open_toks h1
  replace e0 : [Value.slice a0 n0 c0] = [Value.slice A l.length ca] := e0
  replace e1 : [Value.slice a1 n1 c1] = [Value.slice B r.length cb] := e1
  simp only [List.cons.injEq, Value.slice.injEq, and_true] at e0 e1
  obtain ⟨rfl, rfl, rfl⟩ := e0
  obtain ⟨rfl, rfl, rfl⟩ := e1
  simp only [List.append_nil] at hW'
  rw [laid_plain] at hL
  have hT := tabs_of hL
  unfold maxLen at hl hr
  refine (lexSames_calls W a0 a1 l r l.length r.length c0 c1 hA' hB' rfl rfl hl hr hT).mono fun e W' ⟨he, hb⟩ => ?_
  subst he
  have hlt : ∀ x ∈ p0 ++ p1, x.block < W.heap.size := fun x hx => hW'.lt x hx
  have t0 := Below.trod laid_out (by kernel_rfl) (by decide) k0 hb (fun x hx => hlt x (List.mem_append_left _ hx))
  have t1 := Below.trod laid_out (by kernel_rfl) (by decide) k1 hb (fun x hx => hlt x (List.mem_append_right _ hx))
  exact ⟨_, rfl, _, _, _, [], _, [], hW', trodAll_mk1 (shut_bool Tryd.underlying4 _), trodAll_mk2 t0 t1, rfl, hb.frame _, fun h => by cases h⟩

theorem lexSames_said : Rows.LexSamesSaid :=
  OpenClaim.holds_of_wide 4 Tryd.f4 rfl rfl rfl rfl rfl rfl rfl ⟨rfl, rfl, rfl, rfl, rfl⟩ rfl rfl rfl rfl rfl (by kernel_rfl) Tryd.func4 (by kernel_rfl)
    (of_decide_eq_true (by kernel_rfl)) (by unfold Func.isWrapper; first | (rw [if_pos (by decide +kernel)]; kernel_rfl) | (rw [if_neg (by decide +kernel)]; exact ⟨rfl, rfl⟩))
    (fun os started H enc _ => lexSames_lifted os started H enc)

theorem lexSames_plain (f : FuncId) (fn : Func) (hf : Tryd.pinned.checked.prog.funcNamed "cabinetry/cabinetrylaw05.LexSames" = some f) (hfn : Tryd.pinned.checked.prog.funcs[f]? = some fn) :
    false = Tryd.pinned.checked.prog.looks [] ∧ ∀ (j : Nat) t, fn.params[j]? = some t → Tryd.pinned.checked.prog.wantsStandIn t = false := by
  obtain rfl : f = 4 := Option.some.inj ((show Tryd.prog.funcNamed "cabinetry/cabinetrylaw05.LexSames" = some 4 by kernel_rfl).symm.trans hf) |>.symm
  obtain rfl : fn = Tryd.f4 := (Option.some.inj (Tryd.func4.symm.trans hfn)).symm
  refine ⟨by kernel_rfl, fun j t ht => ?_⟩
  rw [Tryd.params4] at ht
  have hm : t ∈ [23, 23] := by simpa using Array.mem_of_getElem? ht
  have hall : ([23, 23].all fun u => !Tryd.prog.wantsStandIn u) = true := by kernel_rfl
  exact (show Tryd.prog.wantsStandIn t = false by simpa using List.all_eq_true.1 hall t hm)

theorem lexSames_card : Rows.LexSamesCardSaid :=
  Claim7.holds_tied_plain_at .later [] _ _ _ _ lexSames_said (fun _ h => by cases h) (by kernel_rfl) (fun _ h => by cases h) lexSames_row_tie rfl ⟨rfl, rfl⟩ (by kernel_rfl) rfl lexSames_plain (by kernel_rfl)

end Go.Proofs.YtpnfcgmogjpliaaDoor
