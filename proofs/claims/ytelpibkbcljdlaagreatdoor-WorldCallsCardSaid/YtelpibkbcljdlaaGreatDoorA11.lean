/- For every sheet, every two worlds and every name the law WorldCalls returns true and each argument reads behind the call as it read before. Conditions: the two listed package-level variables of the library are as the program text lays them (the card ties them); nothing else is asked. -/
import Derived.Deep.DeepHandedRow
import Derived.Deep.DeepWitnessRowRef
import Derived.Lay
import Derived.Lib.LaidTab
import Derived.OpenShut
import Derived.ProofKit
import Derived.Stop.LaidErr
import Derived.WalkKit
import Derived.Test.YtelpibkbcljdlaaGreatDoorA10
import Derived.Test.YtelpibkbcljdlaaGreatDoorCards
import Derived.Test.YtelpibkbcljdlaaGreatDoorTie
set_option linter.unusedVariables false
set_option linter.unusedSimpArgs false
set_option maxRecDepth 100000
namespace Go.Ab
def spZ : List Int := (List.range 256).map fun i => spI (UInt8.ofNat i)
theorem spZ_at {i : Nat} (h : i < 256) : spZ.getD i 0 = spI (UInt8.ofNat i) := by simp [spZ, List.getD, h]
/-- The table of spaces lies at this variable. -/
def spG (g : Nat) : GlP where
  ng := g + 1
  holds w := ∀ i, i < 256 → w.cell? ⟨g, i, none⟩ = some (.int .u8 (spI (UInt8.ofNat i)))
  stable w w' h hw i hi := by
    rw [← hw i hi]
    unfold World.cell?
    rw [h g (Nat.lt_succ_self g)]
theorem spG_spc (g : Nat) : Spc g (spG g) where
  lt := Nat.lt_succ_self g
  tab w O hw := CvC.of_get fun j av hj => by
    obtain ⟨hj', rfl⟩ := List.getElem?_eq_some_iff.1 hj
    have hj2 : j < 256 := by simpa [tabA] using hj'
    refine ⟨.int .u8 (spI (UInt8.ofNat j)), ?_, ?_, ?_⟩
    · have := hw j hj2
      simpa using this
    · simp [tabA, Cv]
    · simp [tabA, AV.one]
theorem spG_of {P : Program} {W : World} {g : Nat} (hg : P.globalNamed "strings.asciiSpace" = some g) (h : Lib.TabIs P W "strings.asciiSpace" .u8 spZ) : (spG g).holds W := fun i hi => by
  rw [← spZ_at hi]
  exact h.cell hg i (by simpa [spZ] using hi)
theorem spG_lt {W : World} {g : Nat} (h : (spG g).holds W) : (spG g).ng ≤ W.heap.size := by
  have := h 0 (by decide)
  unfold World.cell? at this
  split at this
  · rename_i hh
    exact (Array.getElem?_eq_some_iff.1 hh).1
  · cases this
/-! The strings of what was read. -/
theorem smR_str {B : Nat} {l : List Str} (h : smR B (l.map cS)) : ∀ s ∈ l, s.length ≤ B := fun s hs => by
  have := smR_get h (cS s) (List.mem_map_of_mem hs)
  simp only [cS, smL, sm] at this
  exact this.1
theorem strs_Sht {B : Nat} {x : Sht} (h : smL B (cSht x)) : ∀ s ∈ namesL x, s.length ≤ B := by
  simp only [cSht, smL, sm] at h
  obtain ⟨_, ⟨_, h1⟩, ⟨_, h2⟩, ⟨_, h3⟩, ⟨_, h4⟩, ⟨_, h5⟩, ⟨_, h6⟩, _⟩ := h
  intro s hs
  simp only [namesL, List.mem_append, List.mem_flatMap] at hs
  rcases hs with ((((hs | ⟨q, hq, hs⟩) | ⟨q, hq, hs⟩) | ⟨q, hq, hs⟩) | ⟨q, hq, hs⟩) | ⟨q, hq, hs⟩
  · exact smR_str h1 s hs
  · have := smR_get h2 (cPth q) (List.mem_map_of_mem hq)
    simp only [cPth, smL, sm] at this
    simp only [nmPth, List.mem_cons, List.not_mem_nil, or_false] at hs
    rcases hs with rfl | rfl | rfl
    · exact this.1
    · exact this.2.1
    · exact this.2.2.1
  · have := smR_get h3 (cDor q) (List.mem_map_of_mem hq)
    simp only [cDor, smL, sm] at this
    simp only [nmDor, List.mem_cons, List.not_mem_nil, or_false] at hs
    rcases hs with rfl | rfl | rfl
    · exact this.1
    · exact this.2.1
    · exact this.2.2.1
  · have := smR_get h4 (cRte q) (List.mem_map_of_mem hq)
    simp only [cRte, smL, sm] at this
    simp only [nmRte, List.mem_cons] at hs
    rcases hs with rfl | hs
    · exact this.1
    · exact smR_str this.2.1.2 s hs
  · have := smR_get h5 (cTrp q) (List.mem_map_of_mem hq)
    simp only [cTrp, smL, sm] at this
    simp only [nmTrp, List.mem_cons, List.not_mem_nil, or_false] at hs
    rcases hs with rfl | rfl
    · exact this.1
    · exact this.2.1
  · have := smR_get h6 (cHzd q) (List.mem_map_of_mem hq)
    simp only [cHzd, smL, sm] at this
    simp only [nmHzd, List.mem_cons, List.not_mem_nil, or_false] at hs
    rcases hs with rfl | rfl
    · exact this.1
    · exact this.2.1
theorem strs_Wld {B : Nat} {w : Wld} (h : smL B (cWld w)) : ∀ l ∈ nmK w.names, ∀ s ∈ l, s.length ≤ B := by
  simp only [cWld, smL, sm] at h
  obtain ⟨_, ⟨_, h1⟩, ⟨_, h2⟩, ⟨_, h3⟩, ⟨_, h4⟩, ⟨_, h5⟩, ⟨_, h6⟩, _⟩ := h
  intro l hl s hs
  simp only [nmK, List.mem_cons, List.not_mem_nil, or_false] at hl
  rcases hl with rfl | rfl | rfl | rfl | rfl | rfl
  · exact smR_str h1 s hs
  · exact smR_str h2 s hs
  · exact smR_str h3 s hs
  · exact smR_str h4 s hs
  · exact smR_str h5 s hs
  · exact smR_str h6 s hs
end Go.Ab
namespace Go.Proofs.YtelpibkbcljdlaaGreatDoor
open Go Go.Ab Go.ChangeShapes Go.WideShapes Go.ChangeAt Go.RowKit
theorem own : ownKnob Tryz.prog.godebug = none := by kernel_rfl
theorem gTab : Tryz.prog.globalNamed "strings.asciiSpace" = some gl_strings_Fields := by kernel_rfl
theorem tab_data : (Rows.laid_strings_asciiSpace : DataW Unit) = Lib.tabData .u8 spZ := by kernel_rfl
theorem table {W : World} (h : laidMetH Tryz.prog Rows.worldCallsRow.laid W) : (spG gl_strings_Fields).holds W := by
  have h1 : laidMet Tryz.prog [("unicode.White_Space", Rows.laid_unicode_White_Space), ("strings.asciiSpace", Rows.laid_strings_asciiSpace)] W := h
  have h2 := h1.tail
  rw [tab_data] at h2
  exact spG_of gTab (Lib.tabIs_of_head (t := 219) (e := 5) (n := 256) gTab (by kernel_rfl) Tryz.underlying219 Tryz.underlying5 (by kernel_rfl) (by kernel_rfl) h2)
theorem contract (H : Type) (enc : TypeId × Value → H) (W : World) (base : Nat) (args : Array Value) (ds gs : List (DataW H)) (before : List MemPlace)
    (hval : ∀ (j : Nat) t v, Tryz.f3.params[j]? = some t → args[j]? = some v → Value.okWide Tryz.prog W .any base t v)
    (hW : DataW.Whole enc Tryz.prog Tryz.f3.params.toList Rows.worldCallsSpec.vars false W args.toList ds gs before) (hL : laidMetH Tryz.prog Rows.worldCallsRow.laid W) :
    Calls Tryz.prog 3 args W fun e W' => ∃ v, e = .returned v ∧ Rows.worldCallsSpec.post enc Tryz.prog Tryz.f3 false true false false W args v W' := by
  have hW' := hW
  obtain ⟨p, q, hA0, hV, rfl, hfz, hnd⟩ := hW
  have hA : DataW.TrodAll enc Tryz.prog W 0 (fun _ => true) true Tryz.f3.params.toList args.toList ds p := hA0
  rw [Tryz.params3] at hA hval
  obtain ⟨v0, vs0, d0, ds0, p0, q0, hargs, rfl, rfl, h0, r0⟩ := trodAll_cons hA
  obtain ⟨v1, vs1, d1, ds1, p1, q1, rfl, rfl, rfl, h1, r1⟩ := trodAll_cons r0
  obtain ⟨v2, vs2, d2, ds2, p2, q2, rfl, rfl, rfl, h2, r2⟩ := trodAll_cons r1
  obtain ⟨v3, vs3, d3, ds3, p3, q3, rfl, rfl, rfl, h3, r3⟩ := trodAll_cons r2
  obtain ⟨rfl, rfl, rfl⟩ := trodAll_nil r3
  obtain rfl : args = #[v0, v1, v2, v3] := by cases args; simp_all
  obtain ⟨rfl, rfl⟩ := trodVars_none hV
  have hB := Bulk.any H
  obtain ⟨x, hx, sx⟩ := (rdSht hB).agg h0 (Nat.zero_le _) (by obtain ⟨cs, e, _⟩ := okWide_struct Tryz.underlying29 (hval 0 29 v0 rfl rfl); exact ⟨cs, e⟩)
  obtain ⟨w, hw, sw⟩ := (rdWld hB).agg h1 (Nat.zero_le _) (by obtain ⟨cs, e, _⟩ := okWide_struct Tryz.underlying38 (hval 1 38 v1 rfl rfl); exact ⟨cs, e⟩)
  obtain ⟨v, hv, sv⟩ := (rdWld hB).agg h2 (Nat.zero_le _) (by obtain ⟨cs, e, _⟩ := okWide_struct Tryz.underlying38 (hval 2 38 v2 rfl rfl); exact ⟨cs, e⟩)
  obtain ⟨s, hs, ss⟩ := (rdS hB).one h3 (Nat.zero_le _) (by obtain ⟨s, rfl⟩ := okWide_string Tryz.underlying9 (hval 3 9 v3 rfl rfl); rfl)
  have hG := table hL
  have M := m_law09_WorldCalls (spG gl_strings_Fields) (m_lex_Reserved _ (spG_spc _)) x w v s (strs_Sht sx) (strs_Wld sw) (strs_Wld sv)
  refine (M.run hG (spG_lt hG) (vs := [v0, v1, v2, v3]) ?_).mono fun e W' he => ?_
  · exact ⟨_, _, rfl, hx _, _, _, rfl, hw _, _, _, rfl, hv _, _, _, rfl, hs _, rfl⟩
  · obtain ⟨he, hb⟩ := he
    subst he
    refine ⟨_, rfl, post_still (by kernel_rfl) ?_ rfl rfl rfl hW' (fun _ _ _ => trodAll_cons_mk (shut_bool Tryz.underlying4 _) trodAll_mk0) hb (ok_one (by kernel_rfl) rfl (okWide_bool_mk Tryz.underlying4 _))⟩
    intro t ht
    rw [Tryz.params3] at ht
    simp only [List.mem_cons, List.not_mem_nil, or_false] at ht
    rcases ht with rfl | rfl | rfl | rfl
    all_goals exact ⟨by kernel_rfl, of_decide_eq_true (by kernel_rfl)⟩
/-! There is an input that fits. -/
def zS : Value := .agg #[.int .i64 0, .slice none 0 0, .slice none 0 0, .slice none 0 0, .slice none 0 0, .slice none 0 0, .slice none 0 0]
def zW : Value := .agg #[.int .i64 0, .slice none 0 0, .slice none 0 0, .slice none 0 0, .slice none 0 0, .slice none 0 0, .slice none 0 0, .slice none 0 0, .slice none 0 0, .slice none 0 0, .slice none 0 0, .slice none 0 0]
def dS {H : Type} : DataW H := .agg [.lit (.int .i64 0), .nil, .nil, .nil, .nil, .nil, .nil]
def dW {H : Type} : DataW H := .agg [.lit (.int .i64 0), .agg [.nil, .nil, .nil, .nil, .nil, .nil], .nil, .nil, .nil, .nil, .nil]
theorem laid_met (os : Os) : laidMetH Tryz.prog Rows.worldCallsRow.laid ((World.laidAll Tryz.prog os Rows.worldCallsRow.laid).forCall (fun _ _ => 0) ⟨#[], #[zS, zW, zW, .string ⟨#[]⟩], []⟩).memory :=
  show laidMet Tryz.prog Rows.worldCallsRow.laid _ from laidMet_laidAll _ (by kernel_rfl) (by kernel_rfl)
theorem reads (os : Os) {H : Type} (enc : TypeId × Value → H) : ∃ places, DataW.whole enc Tryz.prog ((World.laidAll Tryz.prog os Rows.worldCallsRow.laid).forCall (fun _ _ => 0) ⟨#[], #[zS, zW, zW, .string ⟨#[]⟩], []⟩).memory Tryz.f3.params.toList Rows.worldCallsSpec.vars false #[zS, zW, zW, .string ⟨#[]⟩].toList 8 = some ([dS, dW, dW, .lit (.string [])], [], places) :=
  ⟨[], by kernel_rfl⟩
theorem lifted (os : Os) (started : os.Started) (H : Type) (enc : TypeId × Value → H) (F : Stop.Interp) :
    ReturnsInHanded {} Tryz.checked os 3 .any ((OpenSpec.ofChange Rows.worldCallsSpec).preRow enc Tryz.prog Tryz.f3 Rows.worldCallsRow.domain false Rows.worldCallsRow.laid) (((OpenSpec.ofChange Rows.worldCallsSpec).at F).post enc Tryz.prog Tryz.f3 false true false false) := by
  obtain ⟨places, hx⟩ := reads os enc
  refine returnsInHanded_of_row (C := Tryz.checked) (s := OpenSpec.ofChange Rows.worldCallsSpec) own started (by kernel_rfl) Tryz.func3
    (witness_row_atRef (enc := enc) (C := Tryz.checked) false (World.laidAll Tryz.prog os Rows.worldCallsRow.laid) #[zS, zW, zW, .string ⟨#[]⟩] (World.laidAll_os _ _ _) (by kernel_rfl) (by kernel_rfl) (by kernel_rfl)
      (OpenSpec.preRow_of_cond 8 hx (by kernel_rfl) (fun k hk => by cases hk) (by kernel_rfl) (laid_met os))) ?_
  intro W base args ds gs before hval hW _ _ _ hL _ _
  exact contract H enc W base args ds gs before hval hW hL
theorem said : Rows.WorldCallsSaid :=
  OpenClaim.holds_of_cond 3 Tryz.f3 rfl rfl rfl rfl rfl rfl rfl ⟨rfl, rfl, rfl, rfl, rfl⟩ rfl rfl rfl rfl rfl (by kernel_rfl) Tryz.func3 (by kernel_rfl)
    (of_decide_eq_true (by kernel_rfl)) (by unfold Func.isWrapper; first | (rw [if_pos (by decide +kernel)]; kernel_rfl) | (rw [if_neg (by decide +kernel)]; exact ⟨rfl, rfl⟩))
    (fun os started H enc _ F => by rw [OpenClaim.pre_eq_preRow]; exact lifted os started H enc F)
theorem plain (f : FuncId) (fn : Func) (hf : Tryz.pinned.checked.prog.funcNamed "timetable/timetablelaw09.WorldCalls" = some f) (hfn : Tryz.pinned.checked.prog.funcs[f]? = some fn) :
    false = Tryz.pinned.checked.prog.looks [] ∧ ∀ (j : Nat) t, fn.params[j]? = some t → Tryz.pinned.checked.prog.wantsStandIn t = false := by
  obtain rfl : f = 3 := Option.some.inj ((show Tryz.prog.funcNamed "timetable/timetablelaw09.WorldCalls" = some 3 by kernel_rfl).symm.trans hf) |>.symm
  obtain rfl : fn = Tryz.f3 := (Option.some.inj (Tryz.func3.symm.trans hfn)).symm
  refine ⟨by kernel_rfl, fun j t ht => ?_⟩
  rw [Tryz.params3] at ht
  have h := Array.mem_of_getElem? ht
  simp only [List.mem_toArray, List.mem_cons, List.not_mem_nil, or_false] at h
  rcases h with rfl | rfl | rfl | rfl
  · exact (show Tryz.prog.wantsStandIn 29 = false by kernel_rfl)
  · exact (show Tryz.prog.wantsStandIn 38 = false by kernel_rfl)
  · exact (show Tryz.prog.wantsStandIn 38 = false by kernel_rfl)
  · exact (show Tryz.prog.wantsStandIn 9 = false by kernel_rfl)
/-- The card. -/
theorem worldCalls_card : Rows.WorldCallsCardSaid :=
  Claim7.holds_tied_plain_at .later [] _ _ _ _ said (fun _ h => by cases h) (by kernel_rfl) (fun _ h => by cases h) worldCalls_row_tie rfl ⟨rfl, rfl⟩ (by kernel_rfl) rfl plain (by kernel_rfl)
end Go.Proofs.YtelpibkbcljdlaaGreatDoor
