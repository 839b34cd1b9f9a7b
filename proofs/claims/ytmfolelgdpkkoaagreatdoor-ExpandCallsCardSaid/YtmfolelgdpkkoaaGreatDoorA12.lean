/- For every world, every run and every four numbers the law ExpandCalls returns true and each argument reads behind the call as it read before. Conditions: the two listed package-level variables of the library are as the program text lays them (the card ties them); nothing else is asked. -/
import Derived.Test.YtmfolelgdpkkoaaGreatDoorA11
set_option linter.unusedVariables false
set_option linter.unusedSimpArgs false
set_option maxRecDepth 100000
namespace Go.Proofs.YtmfolelgdpkkoaaGreatDoor.expandCalls
open Go Go.Ab Go.ChangeShapes Go.WideShapes Go.ChangeAt Go.RowKit
theorem table {W : World} (h : laidMetH Tryz.prog Rows.expandCallsRow.laid W) : (spG gl_strings_Fields).holds W := by
  have h1 : laidMet Tryz.prog [("unicode.White_Space", Rows.laid_unicode_White_Space), ("strings.asciiSpace", Rows.laid_strings_asciiSpace)] W := h
  have h2 := h1.tail
  rw [tab_data] at h2
  exact spG_of gTab (Lib.tabIs_of_head (t := 215) (e := 5) (n := 256) gTab (by kernel_rfl) Tryz.underlying215 Tryz.underlying5 (by kernel_rfl) (by kernel_rfl) h2)
theorem contract (H : Type) (enc : TypeId × Value → H) (W : World) (base : Nat) (args : Array Value) (ds gs : List (DataW H)) (before : List MemPlace)
    (hval : ∀ (j : Nat) t v, Tryz.f3.params[j]? = some t → args[j]? = some v → Value.okWide Tryz.prog W .any base t v)
    (hW : DataW.Whole enc Tryz.prog Tryz.f3.params.toList Rows.expandCallsSpec.vars false W args.toList ds gs before) (hL : laidMetH Tryz.prog Rows.expandCallsRow.laid W) :
    Calls Tryz.prog 3 args W fun e W' => ∃ v, e = .returned v ∧ Rows.expandCallsSpec.post enc Tryz.prog Tryz.f3 false true false false W args v W' := by
  have hW' := hW
  obtain ⟨p, q, hA0, hV, rfl, hfz, hnd⟩ := hW
  have hA : DataW.TrodAll enc Tryz.prog W 0 (fun _ => true) true Tryz.f3.params.toList args.toList ds p := hA0
  rw [Tryz.params3] at hA hval
  obtain ⟨v0, vs0, d0, ds0, p0, q0, hargs, rfl, rfl, h0, r0⟩ := trodAll_cons hA
  obtain ⟨v1, vs1, d1, ds1, p1, q1, rfl, rfl, rfl, h1, r1⟩ := trodAll_cons r0
  obtain ⟨v2, vs2, d2, ds2, p2, q2, rfl, rfl, rfl, h2, r2⟩ := trodAll_cons r1
  obtain ⟨v3, vs3, d3, ds3, p3, q3, rfl, rfl, rfl, h3, r3⟩ := trodAll_cons r2
  obtain ⟨v4, vs4, d4, ds4, p4, q4, rfl, rfl, rfl, h4, r4⟩ := trodAll_cons r3
  obtain ⟨v5, vs5, d5, ds5, p5, q5, rfl, rfl, rfl, h5, r5⟩ := trodAll_cons r4
  obtain ⟨rfl, rfl, rfl⟩ := trodAll_nil r5
  obtain rfl : args = #[v0, v1, v2, v3, v4, v5] := by cases args; simp_all
  obtain ⟨rfl, rfl⟩ := trodVars_none hV
  have hB := Bulk.any H
  obtain ⟨x0, hx0, s0⟩ := (rdWld hB).agg h0 (Nat.zero_le _) (by obtain ⟨cs, e, _⟩ := okWide_struct Tryz.underlying31 (hval 0 31 v0 rfl rfl); exact ⟨cs, e⟩)
  obtain ⟨x1, hx1, s1⟩ := (rdRun hB).agg h1 (Nat.zero_le _) (by obtain ⟨cs, e, _⟩ := okWide_struct Tryz.underlying34 (hval 1 34 v1 rfl rfl); exact ⟨cs, e⟩)
  obtain ⟨x2, hx2, s2⟩ := (rdI hB).one h2 (Nat.zero_le _) (by obtain ⟨s, rfl⟩ := okWide_int Tryz.underlying3 (hval 2 3 v2 rfl rfl); rfl)
  obtain ⟨x3, hx3, s3⟩ := (rdI hB).one h3 (Nat.zero_le _) (by obtain ⟨s, rfl⟩ := okWide_int Tryz.underlying3 (hval 3 3 v3 rfl rfl); rfl)
  obtain ⟨x4, hx4, s4⟩ := (rdI hB).one h4 (Nat.zero_le _) (by obtain ⟨s, rfl⟩ := okWide_int Tryz.underlying3 (hval 4 3 v4 rfl rfl); rfl)
  obtain ⟨x5, hx5, s5⟩ := (rdI hB).one h5 (Nat.zero_le _) (by obtain ⟨s, rfl⟩ := okWide_int Tryz.underlying2 (hval 5 2 v5 rfl rfl); rfl)
  have hG := table hL
  have M := m_law10_ExpandCalls (spG gl_strings_Fields) (m_lex_Reserved _ (spG_spc _)) x0 x1 x2 x3 x4 x5 (strs_Wld s0) (int_le s3) (no_Run s1) (int_le s5)
  refine (M.run hG (spG_lt hG) (vs := [v0, v1, v2, v3, v4, v5]) ?_).mono fun e W' he => ?_
  · exact ⟨_, _, rfl, hx0 _, _, _, rfl, hx1 _, _, _, rfl, hx2 _, _, _, rfl, hx3 _, _, _, rfl, hx4 _, _, _, rfl, hx5 _, rfl⟩
  · obtain ⟨he, hb⟩ := he
    subst he
    refine ⟨_, rfl, post_still (by kernel_rfl) ?_ rfl rfl rfl hW' (fun _ _ _ => trodAll_cons_mk (shut_bool Tryz.underlying4 _) trodAll_mk0) hb (ok_one (by kernel_rfl) rfl (okWide_bool_mk Tryz.underlying4 _))⟩
    intro t ht
    rw [Tryz.params3] at ht
    simp only [List.mem_cons, List.not_mem_nil, or_false] at ht
    rcases ht with rfl | rfl | rfl | rfl | rfl | rfl
    all_goals exact ⟨by kernel_rfl, of_decide_eq_true (by kernel_rfl)⟩
/-! There is an input that fits. -/
def zArgs : Array Value := #[(.agg #[.int .i64 0, .slice none 0 0, .slice none 0 0, .slice none 0 0, .slice none 0 0, .slice none 0 0, .slice none 0 0, .slice none 0 0, .slice none 0 0, .slice none 0 0, .slice none 0 0, .slice none 0 0] : Value), (.agg #[.int .i64 0, .int .i64 0, .slice none 0 0, .slice none 0 0] : Value), (.int .i64 0 : Value), (.int .i64 0 : Value), (.int .i64 0 : Value), (.int .i64 0 : Value)]
theorem laid_met (os : Os) : laidMetH Tryz.prog Rows.expandCallsRow.laid ((World.laidAll Tryz.prog os Rows.expandCallsRow.laid).forCall (fun _ _ => 0) ⟨#[], zArgs, []⟩).memory :=
  show laidMet Tryz.prog Rows.expandCallsRow.laid _ from laidMet_laidAll _ (by kernel_rfl) (by kernel_rfl)
theorem reads (os : Os) {H : Type} (enc : TypeId × Value → H) : ∃ places, DataW.whole enc Tryz.prog ((World.laidAll Tryz.prog os Rows.expandCallsRow.laid).forCall (fun _ _ => 0) ⟨#[], zArgs, []⟩).memory Tryz.f3.params.toList Rows.expandCallsSpec.vars false zArgs.toList 8 = some ([.agg [.lit (.int .i64 0), .agg [.nil, .nil, .nil, .nil, .nil, .nil], .nil, .nil, .nil, .nil, .nil], .agg [.lit (.int .i64 0), .lit (.int .i64 0), .nil, .nil], .lit (.int .i64 0), .lit (.int .i64 0), .lit (.int .i64 0), .lit (.int .i64 0)], [], places) :=
  ⟨[], by kernel_rfl⟩
theorem lifted (os : Os) (started : os.Started) (H : Type) (enc : TypeId × Value → H) (F : Stop.Interp) :
    ReturnsInHanded {} Tryz.checked os 3 .any ((OpenSpec.ofChange Rows.expandCallsSpec).preRow enc Tryz.prog Tryz.f3 Rows.expandCallsRow.domain false Rows.expandCallsRow.laid) (((OpenSpec.ofChange Rows.expandCallsSpec).at F).post enc Tryz.prog Tryz.f3 false true false false) := by
  obtain ⟨places, hx⟩ := reads os enc
  refine returnsInHanded_of_row (C := Tryz.checked) (s := OpenSpec.ofChange Rows.expandCallsSpec) own started (by kernel_rfl) Tryz.func3
    (witness_row_atRef (enc := enc) (C := Tryz.checked) false (World.laidAll Tryz.prog os Rows.expandCallsRow.laid) zArgs (World.laidAll_os _ _ _) (by kernel_rfl) (by kernel_rfl) (by kernel_rfl)
      (OpenSpec.preRow_of_cond 8 hx (by kernel_rfl) (fun k hk => by cases hk) (by kernel_rfl) (laid_met os))) ?_
  intro W base args ds gs before hval hW _ _ _ hL _ _
  exact contract H enc W base args ds gs before hval hW hL
theorem said : Rows.ExpandCallsSaid :=
  OpenClaim.holds_of_cond 3 Tryz.f3 rfl rfl rfl rfl rfl rfl rfl ⟨rfl, rfl, rfl, rfl, rfl⟩ rfl rfl rfl rfl rfl (by kernel_rfl) Tryz.func3 (by kernel_rfl)
    (of_decide_eq_true (by kernel_rfl)) (by unfold Func.isWrapper; first | (rw [if_pos (by decide +kernel)]; kernel_rfl) | (rw [if_neg (by decide +kernel)]; exact ⟨rfl, rfl⟩))
    (fun os started H enc _ F => by rw [OpenClaim.pre_eq_preRow]; exact lifted os started H enc F)
theorem plain (f : FuncId) (fn : Func) (hf : Tryz.pinned.checked.prog.funcNamed "timetable/timetablelaw10.ExpandCalls" = some f) (hfn : Tryz.pinned.checked.prog.funcs[f]? = some fn) :
    false = Tryz.pinned.checked.prog.looks [] ∧ ∀ (j : Nat) t, fn.params[j]? = some t → Tryz.pinned.checked.prog.wantsStandIn t = false := by
  obtain rfl : f = 3 := Option.some.inj ((show Tryz.prog.funcNamed "timetable/timetablelaw10.ExpandCalls" = some 3 by kernel_rfl).symm.trans hf) |>.symm
  obtain rfl : fn = Tryz.f3 := (Option.some.inj (Tryz.func3.symm.trans hfn)).symm
  refine ⟨by kernel_rfl, fun j t ht => ?_⟩
  rw [Tryz.params3] at ht
  have h := Array.mem_of_getElem? ht
  simp only [List.mem_toArray, List.mem_cons, List.not_mem_nil, or_false] at h
  rcases h with rfl | rfl | rfl | rfl | rfl | rfl
  · exact (show Tryz.prog.wantsStandIn 31 = false by kernel_rfl)
  · exact (show Tryz.prog.wantsStandIn 34 = false by kernel_rfl)
  · exact (show Tryz.prog.wantsStandIn 3 = false by kernel_rfl)
  · exact (show Tryz.prog.wantsStandIn 3 = false by kernel_rfl)
  · exact (show Tryz.prog.wantsStandIn 3 = false by kernel_rfl)
  · exact (show Tryz.prog.wantsStandIn 2 = false by kernel_rfl)
/-- The card. -/
theorem card : Rows.ExpandCallsCardSaid :=
  Claim7.holds_tied_plain_at .later [] _ _ _ _ said (fun _ h => by cases h) (by kernel_rfl) (fun _ h => by cases h) expandCalls_row_tie rfl ⟨rfl, rfl⟩ (by kernel_rfl) rfl plain (by kernel_rfl)
end Go.Proofs.YtmfolelgdpkkoaaGreatDoor.expandCalls
