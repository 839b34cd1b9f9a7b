/- Worlds: whether one is whole, by the document. -/
import Derived.Test.YtmfolelgdpkkoaaGreatDoorA7
set_option linter.unusedVariables false
set_option linter.unusedSimpArgs false
set_option maxRecDepth 10000
namespace Go.Ab
theorem flag_step {α : Type} {o : Bool} {p : α → Bool} {xs : List α} {i : Nat} {b c : Bool} (hb : b = (o && !(xs.take i).any p)) (h : i < xs.length) (ht : b = true) (hc : c = !p xs[i]) : c = (o && !(xs.take (i + 1)).any p) := by
  rw [List.take_succ_eq_append_getElem h, List.any_append, List.any_cons, List.any_nil, hc]
  rw [ht] at hb
  cases o with
  | false => simp at hb
  | true =>
    cases hq : (xs.take i).any p with
    | true => rw [hq] at hb; simp at hb
    | false => cases p xs[i] <;> rfl
theorem flag_end {α : Type} {o : Bool} {p : α → Bool} {xs : List α} {i : Nat} {b : Bool} (hb : b = (o && !(xs.take i).any p)) (h : xs.length ≤ i) : b = (o && !xs.any p) := by
  rwa [List.take_of_length_le h] at hb
theorem flag_out {α : Type} {o : Bool} {p : α → Bool} {xs : List α} {i : Nat} {b : Bool} (hb : b = (o && !(xs.take i).any p)) (h : b = false) : b = (o && !xs.any p) := by
  rw [h] at hb ⊢
  cases o with
  | false => rfl
  | true =>
    cases hq : (xs.take i).any p with
    | false => rw [hq] at hb; simp at hb
    | true =>
      have : xs.any p = true := by
        rw [List.any_eq_true] at hq ⊢
        obtain ⟨x, hx, hp⟩ := hq
        exact ⟨x, List.mem_of_mem_take hx, hp⟩
      rw [this]; rfl
end Go.Ab
namespace Go.Proofs.YtmfolelgdpkkoaaGreatDoor
open Go Go.Ab
theorem m_ref09_in (G : GlP) (l : List Str) (i : Int) : Meets Pg G F_ref09_in [.int .i64 i, .lst 1 (l.map cS)] [] (.bool (inB i l.length)) [] := by
  have e1 : (l.map cS).length = l.length := List.length_map _
  refine meets_pure (F := fe_ref09_in) hTh hMx func_ref09_in rfl call_ref09_in rfl rfl rfl ?_
  conv => whnf
  refine cond_split (fun h => ?_) (fun h => ?_)
  · conv => whnf
    have e : inB i l.length = decide (i < ((l.map cS).length : Int)) := by simp only [inB, h, e1, Bool.true_and]
    exact Fin.one hTh rfl (by rw [e]; rfl) rfl
  · conv => whnf
    have e : inB i l.length = false := by simp only [inB, h, Bool.false_and]
    exact Fin.one hTh rfl (by rw [e]; rfl) rfl
theorem m_ref09_whole (G : GlP) (w : Wld) (hw : WldFits w) : Meets Pg G F_ref09_whole [.agg (cWld w)] [] (.bool (wholeS w)) [] := by
  have b1 := hw.paths
  have b2 := hw.doors
  have b3 := hw.routes
  have b4 := hw.trips
  have b5 := hw.hazards
  have e0 : (w.paths.map cPthO).length = w.paths.length := List.length_map _
  have d0 : (w.names.paths.map cS).length = w.names.paths.length := List.length_map _
  have e1 : (w.doors.map cDorO).length = w.doors.length := List.length_map _
  have d1 : (w.names.doors.map cS).length = w.names.doors.length := List.length_map _
  have e2 : (w.routes.map cRteO).length = w.routes.length := List.length_map _
  have d2 : (w.names.routes.map cS).length = w.names.routes.length := List.length_map _
  have e3 : (w.trips.map cTrpO).length = w.trips.length := List.length_map _
  have d3 : (w.names.trips.map cS).length = w.names.trips.length := List.length_map _
  have e4 : (w.hazards.map cHzdO).length = w.hazards.length := List.length_map _
  have d4 : (w.names.hazards.map cS).length = w.names.hazards.length := List.length_map _
  refine meets_pure (F := { fe_ref09_whole with stops := [2] }) hTh hMx func_ref09_whole rfl call_ref09_whole rfl rfl rfl ?_
  conv => whnf
  refine CodeTo.join (fun z T1 L1 => z = .normal ∧ Conv G { fe_ref09_whole with stops := [2] } [] T1 L1 [(1, .ref (F_ref09_whole, 1) 0), (3, .ref (F_ref09_whole, 3) 0), (4, .bool (!unlike w))] [((F_ref09_whole, 1), .cells T_api_World (cWld w)), ((F_ref09_whole, 3), .cells T_api_Names (cNms w.names))]) ?_ ?_
  · refine CodeTo.go hTh hMx ?_
    conv => whnf
    iterate 4
      refine cond_split (fun _ => ?_) (fun h => ?_)
      rotate_left
      · conv => whnf
        refine ⟨rfl, Conv.weak (Weak.mk' ⟨rfl, rfl, congrArg AV.bool ?_, trivial⟩ ⟨rfl, rfl, trivial⟩ rfl)⟩
        have : unlike w = true := by simp only [unlike, bne, Bool.or_eq_true]; simp only [d0, d1, d2, d3, d4, e0, e1, e2, e3, e4] at h; simp only [h, Bool.not_false, true_or, or_true]
        rw [this]; rfl
      conv => whnf
    refine ⟨rfl, Conv.weak (Weak.mk' ⟨rfl, rfl, congrArg AV.bool ?_, trivial⟩ ⟨rfl, rfl, trivial⟩ rfl)⟩
    simp only [d0, d1, d2, d3, d4, e0, e1, e2, e3, e4] at *
    simp_all only [unlike, bne, Bool.not_true, Bool.false_or, Bool.not_not]
  rintro z T1 L1 ⟨rfl, hcv⟩
  refine ⟨_, _, hcv, ?_⟩
  conv => whnf
  refine LoopOK.join (fun z T1 L1 => z = .exit 0 ∧ Conv G { fe_ref09_whole with stops := [2] } [] T1 L1 [(1, .ref (F_ref09_whole, 1) 0), (3, .ref (F_ref09_whole, 3) 0), (4, .bool ((!unlike w) && !w.paths.any (oddP w.names)))] [((F_ref09_whole, 1), .cells T_api_World (cWld w)), ((F_ref09_whole, 3), .cells T_api_Names (cNms w.names))]) ?_ ?_
  · refine LoopOK.weak _ _ ?_ ?_ ?_ (LoopOK.ind (ι := Nat × Bool) (fun s => w.paths.length - s.1) (fun s => [(1, .ref (F_ref09_whole, 1) 0), (3, .ref (F_ref09_whole, 3) 0), (4, .bool s.2), (5, .int .i64 s.1)]) (fun _ => [((F_ref09_whole, 1), .cells T_api_World (cWld w)), ((F_ref09_whole, 3), .cells T_api_Names (cNms w.names))]) (fun s => s.1 ≤ w.paths.length ∧ s.2 = ((!unlike w) && !(w.paths.take s.1).any (oddP w.names))) ?_ (0, (!unlike w)) ⟨by simp, by simp⟩)
    · exact ⟨rfl, rfl, rfl, rfl, trivial⟩
    · exact ⟨rfl, rfl, trivial⟩
    · rfl
    rintro ⟨i, f⟩ ⟨hi, hf⟩ IH
    simp only at hi hf IH
    refine LoopOK.round hTh hMx ?_
    conv => whnf
    refine cond_split (fun h => ?_) (fun h => ?_)
    rotate_left
    · conv => whnf
      exact ⟨rfl, Conv.weak (Weak.mk' ⟨rfl, rfl, congrArg AV.bool (flag_end hf (le_of_dec h)), trivial⟩ ⟨rfl, rfl, trivial⟩ rfl)⟩
    have hlt := lt_of_dec h
    conv => whnf
    refine cond_split (fun ht => ?_) (fun ht => ?_)
    rotate_left
    · conv => whnf
      exact ⟨rfl, Conv.weak (Weak.mk' ⟨rfl, rfl, congrArg AV.bool (flag_out hf ht), trivial⟩ ⟨rfl, rfl, trivial⟩ rfl)⟩
    conv => whnf
    refine IndexTo.at (map_at cPthO hlt) ?_
    conv => whnf
    refine CallTo.fn (m_ref09_in G w.names.stops (w.paths[i]).a) ?_
    conv => whnf
    refine cond_split (fun ha => ?_) (fun ha => ?_)
    · conv => whnf
      refine IndexTo.at (map_at cPthO hlt) ?_
      conv => whnf
      refine CallTo.fn (m_ref09_in G w.names.stops (w.paths[i]).b) ?_
      conv => whnf
      refine ⟨by kernel_rfl, ?_⟩
      conv => whnf
      refine WrapTo.i64 (by omega) ?_
      conv => whnf
      refine LoopOK.weak _ _ ?_ ?_ ?_ (IH (i + 1, inB (w.paths[i]).b w.names.stops.length) (by simp only; omega) ⟨by simp only; omega, flag_step hf hlt ht (by simp only [oddP, oddS, ha, Bool.not_true, Bool.false_or, Bool.not_not])⟩)
      · exact ⟨rfl, rfl, rfl, rfl, trivial⟩
      · exact ⟨rfl, rfl, trivial⟩
      · rfl
    · conv => whnf
      refine ⟨by kernel_rfl, ?_⟩
      conv => whnf
      refine WrapTo.i64 (by omega) ?_
      conv => whnf
      refine LoopOK.weak _ _ ?_ ?_ ?_ (IH (i + 1, false) (by simp only; omega) ⟨by simp only; omega, flag_step hf hlt ht (by simp only [oddP, oddS, ha, Bool.not_false, Bool.true_or, Bool.not_true])⟩)
      · exact ⟨rfl, rfl, rfl, rfl, trivial⟩
      · exact ⟨rfl, rfl, trivial⟩
      · rfl
  rintro z T1 L1 ⟨rfl, hcv0⟩
  refine ⟨_, _, hcv0, ?_⟩
  conv => whnf
  refine LoopOK.join (fun z T1 L1 => z = .exit 2 ∧ Conv G { fe_ref09_whole with stops := [2] } [] T1 L1 [(1, .ref (F_ref09_whole, 1) 0), (3, .ref (F_ref09_whole, 3) 0), (4, .bool (((!unlike w) && !w.paths.any (oddP w.names)) && !w.doors.any (oddD w.names)))] [((F_ref09_whole, 1), .cells T_api_World (cWld w)), ((F_ref09_whole, 3), .cells T_api_Names (cNms w.names))]) ?_ ?_
  · refine LoopOK.weak _ _ ?_ ?_ ?_ (LoopOK.ind (ι := Nat × Bool) (fun s => w.doors.length - s.1) (fun s => [(1, .ref (F_ref09_whole, 1) 0), (3, .ref (F_ref09_whole, 3) 0), (4, .bool s.2), (6, .int .i64 s.1)]) (fun _ => [((F_ref09_whole, 1), .cells T_api_World (cWld w)), ((F_ref09_whole, 3), .cells T_api_Names (cNms w.names))]) (fun s => s.1 ≤ w.doors.length ∧ s.2 = (((!unlike w) && !w.paths.any (oddP w.names)) && !(w.doors.take s.1).any (oddD w.names))) ?_ (0, ((!unlike w) && !w.paths.any (oddP w.names))) ⟨by simp, by simp⟩)
    · exact ⟨rfl, rfl, rfl, rfl, trivial⟩
    · exact ⟨rfl, rfl, trivial⟩
    · rfl
    rintro ⟨i, f⟩ ⟨hi, hf⟩ IH
    simp only at hi hf IH
    refine LoopOK.round hTh hMx ?_
    conv => whnf
    refine cond_split (fun h => ?_) (fun h => ?_)
    rotate_left
    · conv => whnf
      exact ⟨rfl, Conv.weak (Weak.mk' ⟨rfl, rfl, congrArg AV.bool (flag_end hf (le_of_dec h)), trivial⟩ ⟨rfl, rfl, trivial⟩ rfl)⟩
    have hlt := lt_of_dec h
    conv => whnf
    refine cond_split (fun ht => ?_) (fun ht => ?_)
    rotate_left
    · conv => whnf
      exact ⟨rfl, Conv.weak (Weak.mk' ⟨rfl, rfl, congrArg AV.bool (flag_out hf ht), trivial⟩ ⟨rfl, rfl, trivial⟩ rfl)⟩
    conv => whnf
    refine IndexTo.at (map_at cDorO hlt) ?_
    conv => whnf
    refine CallTo.fn (m_ref09_in G w.names.stops (w.doors[i]).a) ?_
    conv => whnf
    refine cond_split (fun ha => ?_) (fun ha => ?_)
    · conv => whnf
      refine IndexTo.at (map_at cDorO hlt) ?_
      conv => whnf
      refine CallTo.fn (m_ref09_in G w.names.stops (w.doors[i]).b) ?_
      conv => whnf
      refine ⟨by kernel_rfl, ?_⟩
      conv => whnf
      refine WrapTo.i64 (by omega) ?_
      conv => whnf
      refine LoopOK.weak _ _ ?_ ?_ ?_ (IH (i + 1, inB (w.doors[i]).b w.names.stops.length) (by simp only; omega) ⟨by simp only; omega, flag_step hf hlt ht (by simp only [oddD, oddS, ha, Bool.not_true, Bool.false_or, Bool.not_not])⟩)
      · exact ⟨rfl, rfl, rfl, rfl, trivial⟩
      · exact ⟨rfl, rfl, trivial⟩
      · rfl
    · conv => whnf
      refine ⟨by kernel_rfl, ?_⟩
      conv => whnf
      refine WrapTo.i64 (by omega) ?_
      conv => whnf
      refine LoopOK.weak _ _ ?_ ?_ ?_ (IH (i + 1, false) (by simp only; omega) ⟨by simp only; omega, flag_step hf hlt ht (by simp only [oddD, oddS, ha, Bool.not_false, Bool.true_or, Bool.not_true])⟩)
      · exact ⟨rfl, rfl, rfl, rfl, trivial⟩
      · exact ⟨rfl, rfl, trivial⟩
      · rfl
  rintro z T1 L1 ⟨rfl, hcv1⟩
  refine ⟨_, _, hcv1, ?_⟩
  conv => whnf
  refine LoopOK.join (fun z T1 L1 => z = .exit 4 ∧ Conv G { fe_ref09_whole with stops := [2] } [] T1 L1 [(1, .ref (F_ref09_whole, 1) 0), (3, .ref (F_ref09_whole, 3) 0), (4, .bool ((((!unlike w) && !w.paths.any (oddP w.names)) && !w.doors.any (oddD w.names)) && !w.routes.any (oddR w.names)))] [((F_ref09_whole, 1), .cells T_api_World (cWld w)), ((F_ref09_whole, 3), .cells T_api_Names (cNms w.names))]) ?_ ?_
  · refine LoopOK.weak _ _ ?_ ?_ ?_ (LoopOK.ind (ι := Nat × Bool) (fun s => w.routes.length - s.1) (fun s => [(1, .ref (F_ref09_whole, 1) 0), (3, .ref (F_ref09_whole, 3) 0), (4, .bool s.2), (7, .int .i64 s.1)]) (fun _ => [((F_ref09_whole, 1), .cells T_api_World (cWld w)), ((F_ref09_whole, 3), .cells T_api_Names (cNms w.names))]) (fun s => s.1 ≤ w.routes.length ∧ s.2 = ((((!unlike w) && !w.paths.any (oddP w.names)) && !w.doors.any (oddD w.names)) && !(w.routes.take s.1).any (oddR w.names))) ?_ (0, (((!unlike w) && !w.paths.any (oddP w.names)) && !w.doors.any (oddD w.names))) ⟨by simp, by simp⟩)
    · exact ⟨rfl, rfl, rfl, rfl, trivial⟩
    · exact ⟨rfl, rfl, trivial⟩
    · rfl
    rintro ⟨i, f⟩ ⟨hi, hf⟩ IH
    simp only at hi hf IH
    refine LoopOK.round hTh hMx ?_
    conv => whnf
    refine cond_split (fun h => ?_) (fun h => ?_)
    rotate_left
    · conv => whnf
      exact ⟨rfl, Conv.weak (Weak.mk' ⟨rfl, rfl, congrArg AV.bool (flag_end hf (le_of_dec h)), trivial⟩ ⟨rfl, rfl, trivial⟩ rfl)⟩
    have hlt := lt_of_dec h
    conv => whnf
    refine cond_split (fun ht => ?_) (fun ht => ?_)
    rotate_left
    · conv => whnf
      exact ⟨rfl, Conv.weak (Weak.mk' ⟨rfl, rfl, congrArg AV.bool (flag_out hf ht), trivial⟩ ⟨rfl, rfl, trivial⟩ rfl)⟩
    conv => whnf
    have hst := (hw.each _ (List.getElem_mem hlt)).stops
    refine LoopOK.join (fun z T1 L1 => z = .exit 6 ∧ Conv G { fe_ref09_whole with stops := [2] } [] T1 L1 [(1, .ref (F_ref09_whole, 1) 0), (3, .ref (F_ref09_whole, 3) 0), (4, .bool (true && !(w.routes[i]).stops.any (oddS w.names))), (7, .int .i64 i)] [((F_ref09_whole, 1), .cells T_api_World (cWld w)), ((F_ref09_whole, 3), .cells T_api_Names (cNms w.names))]) ?_ ?_
    · refine LoopOK.weak _ _ ?_ ?_ ?_ (LoopOK.ind (ι := Nat × Bool) (fun s => (w.routes[i]).stops.length - s.1) (fun s => [(1, .ref (F_ref09_whole, 1) 0), (3, .ref (F_ref09_whole, 3) 0), (4, .bool s.2), (7, .int .i64 i), (8, .int .i64 s.1)]) (fun _ => [((F_ref09_whole, 1), .cells T_api_World (cWld w)), ((F_ref09_whole, 3), .cells T_api_Names (cNms w.names))]) (fun s => s.1 ≤ (w.routes[i]).stops.length ∧ s.2 = (true && !((w.routes[i]).stops.take s.1).any (oddS w.names))) ?_ (0, true) ⟨by simp, by simp⟩)
      · exact ⟨rfl, rfl, congrArg AV.bool ht, rfl, rfl, trivial⟩
      · exact ⟨rfl, rfl, trivial⟩
      · rfl
      rintro ⟨j, g⟩ ⟨hj, hg⟩ IH2
      simp only at hj hg IH2
      refine LoopOK.round hTh hMx ?_
      conv => whnf
      refine IndexTo.at (map_at cRteO hlt) ?_
      conv => whnf
      refine cond_split (fun h2 => ?_) (fun h2 => ?_)
      rotate_left
      · conv => whnf
        exact ⟨rfl, Conv.weak (Weak.mk' ⟨rfl, rfl, congrArg AV.bool (flag_end hg (le_of_dec h2)), rfl, trivial⟩ ⟨rfl, rfl, trivial⟩ rfl)⟩
      have hlt2 := lt_of_dec h2
      conv => whnf
      refine cond_split (fun ht2 => ?_) (fun ht2 => ?_)
      rotate_left
      · conv => whnf
        exact ⟨rfl, Conv.weak (Weak.mk' ⟨rfl, rfl, congrArg AV.bool (flag_out hg ht2), rfl, trivial⟩ ⟨rfl, rfl, trivial⟩ rfl)⟩
      conv => whnf
      refine IndexTo.at (map_at cRteO hlt) ?_
      conv => whnf
      refine IndexTo.at (map_at cI hlt2) ?_
      conv => whnf
      refine CallTo.fn (m_ref09_in G w.names.stops ((w.routes[i]).stops[j])) ?_
      conv => whnf
      refine ⟨by kernel_rfl, ?_⟩
      conv => whnf
      refine WrapTo.i64 (by omega) ?_
      conv => whnf
      refine LoopOK.weak _ _ ?_ ?_ ?_ (IH2 (j + 1, inB ((w.routes[i]).stops[j]) w.names.stops.length) (Nat.sub_succ_lt_self _ _ hlt2) ⟨hlt2, flag_step hg hlt2 ht2 (by simp only [oddS, Bool.not_not])⟩)
      · exact ⟨rfl, rfl, rfl, rfl, rfl, trivial⟩
      · exact ⟨rfl, rfl, trivial⟩
      · rfl
    rintro z T1 L1 ⟨rfl, hcv2⟩
    refine ⟨_, _, hcv2, ?_⟩
    conv => whnf
    refine WrapTo.i64 (by omega) ?_
    conv => whnf
    refine LoopOK.weak _ _ ?_ ?_ ?_ (IH (i + 1, (true && !(w.routes[i]).stops.any (oddS w.names))) (by simp only; omega) ⟨by simp only; omega, flag_step hf hlt ht (by simp only [oddR, Bool.true_and])⟩)
    · exact ⟨rfl, rfl, rfl, rfl, trivial⟩
    · exact ⟨rfl, rfl, trivial⟩
    · rfl
  rintro z T1 L1 ⟨rfl, hcv3⟩
  refine ⟨_, _, hcv3, ?_⟩
  conv => whnf
  refine LoopOK.join (fun z T1 L1 => z = .exit 8 ∧ Conv G { fe_ref09_whole with stops := [2] } [] T1 L1 [(1, .ref (F_ref09_whole, 1) 0), (3, .ref (F_ref09_whole, 3) 0), (4, .bool (((((!unlike w) && !w.paths.any (oddP w.names)) && !w.doors.any (oddD w.names)) && !w.routes.any (oddR w.names)) && !w.trips.any (oddT w.names)))] [((F_ref09_whole, 1), .cells T_api_World (cWld w)), ((F_ref09_whole, 3), .cells T_api_Names (cNms w.names))]) ?_ ?_
  · refine LoopOK.weak _ _ ?_ ?_ ?_ (LoopOK.ind (ι := Nat × Bool) (fun s => w.trips.length - s.1) (fun s => [(1, .ref (F_ref09_whole, 1) 0), (3, .ref (F_ref09_whole, 3) 0), (4, .bool s.2), (9, .int .i64 s.1)]) (fun _ => [((F_ref09_whole, 1), .cells T_api_World (cWld w)), ((F_ref09_whole, 3), .cells T_api_Names (cNms w.names))]) (fun s => s.1 ≤ w.trips.length ∧ s.2 = (((((!unlike w) && !w.paths.any (oddP w.names)) && !w.doors.any (oddD w.names)) && !w.routes.any (oddR w.names)) && !(w.trips.take s.1).any (oddT w.names))) ?_ (0, ((((!unlike w) && !w.paths.any (oddP w.names)) && !w.doors.any (oddD w.names)) && !w.routes.any (oddR w.names))) ⟨by simp, by simp⟩)
    · exact ⟨rfl, rfl, rfl, rfl, trivial⟩
    · exact ⟨rfl, rfl, trivial⟩
    · rfl
    rintro ⟨i, f⟩ ⟨hi, hf⟩ IH
    simp only at hi hf IH
    refine LoopOK.round hTh hMx ?_
    conv => whnf
    refine cond_split (fun h => ?_) (fun h => ?_)
    rotate_left
    · conv => whnf
      exact ⟨rfl, Conv.weak (Weak.mk' ⟨rfl, rfl, congrArg AV.bool (flag_end hf (le_of_dec h)), trivial⟩ ⟨rfl, rfl, trivial⟩ rfl)⟩
    have hlt := lt_of_dec h
    conv => whnf
    refine cond_split (fun ht => ?_) (fun ht => ?_)
    rotate_left
    · conv => whnf
      exact ⟨rfl, Conv.weak (Weak.mk' ⟨rfl, rfl, congrArg AV.bool (flag_out hf ht), trivial⟩ ⟨rfl, rfl, trivial⟩ rfl)⟩
    conv => whnf
    refine IndexTo.at (map_at cTrpO hlt) ?_
    conv => whnf
    refine CallTo.fn (m_ref09_in G w.names.routes (w.trips[i]).route) ?_
    conv => whnf
    refine ⟨by kernel_rfl, ?_⟩
    conv => whnf
    refine WrapTo.i64 (by omega) ?_
    conv => whnf
    refine LoopOK.weak _ _ ?_ ?_ ?_ (IH (i + 1, inB (w.trips[i]).route w.names.routes.length) (by simp only; omega) ⟨by simp only; omega, flag_step hf hlt ht (by simp only [oddT, Bool.not_not])⟩)
    · exact ⟨rfl, rfl, rfl, rfl, trivial⟩
    · exact ⟨rfl, rfl, trivial⟩
    · rfl
  rintro z T1 L1 ⟨rfl, hcv4⟩
  refine ⟨_, _, hcv4, ?_⟩
  conv => whnf
  refine LoopOK.join (fun z T1 L1 => z = .exit 10 ∧ Conv G { fe_ref09_whole with stops := [2] } [] T1 L1 [(1, .ref (F_ref09_whole, 1) 0), (3, .ref (F_ref09_whole, 3) 0), (4, .bool ((((((!unlike w) && !w.paths.any (oddP w.names)) && !w.doors.any (oddD w.names)) && !w.routes.any (oddR w.names)) && !w.trips.any (oddT w.names)) && !w.hazards.any (oddH w.names)))] [((F_ref09_whole, 1), .cells T_api_World (cWld w)), ((F_ref09_whole, 3), .cells T_api_Names (cNms w.names))]) ?_ ?_
  · refine LoopOK.weak _ _ ?_ ?_ ?_ (LoopOK.ind (ι := Nat × Bool) (fun s => w.hazards.length - s.1) (fun s => [(1, .ref (F_ref09_whole, 1) 0), (3, .ref (F_ref09_whole, 3) 0), (4, .bool s.2), (10, .int .i64 s.1)]) (fun _ => [((F_ref09_whole, 1), .cells T_api_World (cWld w)), ((F_ref09_whole, 3), .cells T_api_Names (cNms w.names))]) (fun s => s.1 ≤ w.hazards.length ∧ s.2 = ((((((!unlike w) && !w.paths.any (oddP w.names)) && !w.doors.any (oddD w.names)) && !w.routes.any (oddR w.names)) && !w.trips.any (oddT w.names)) && !(w.hazards.take s.1).any (oddH w.names))) ?_ (0, (((((!unlike w) && !w.paths.any (oddP w.names)) && !w.doors.any (oddD w.names)) && !w.routes.any (oddR w.names)) && !w.trips.any (oddT w.names))) ⟨by simp, by simp⟩)
    · exact ⟨rfl, rfl, rfl, rfl, trivial⟩
    · exact ⟨rfl, rfl, trivial⟩
    · rfl
    rintro ⟨i, f⟩ ⟨hi, hf⟩ IH
    simp only at hi hf IH
    refine LoopOK.round hTh hMx ?_
    conv => whnf
    refine cond_split (fun h => ?_) (fun h => ?_)
    rotate_left
    · conv => whnf
      exact ⟨rfl, Conv.weak (Weak.mk' ⟨rfl, rfl, congrArg AV.bool (flag_end hf (le_of_dec h)), trivial⟩ ⟨rfl, rfl, trivial⟩ rfl)⟩
    have hlt := lt_of_dec h
    conv => whnf
    refine cond_split (fun ht => ?_) (fun ht => ?_)
    rotate_left
    · conv => whnf
      exact ⟨rfl, Conv.weak (Weak.mk' ⟨rfl, rfl, congrArg AV.bool (flag_out hf ht), trivial⟩ ⟨rfl, rfl, trivial⟩ rfl)⟩
    conv => whnf
    refine IndexTo.at (map_at cHzdO hlt) ?_
    conv => whnf
    refine cond_split (fun hs => ?_) (fun hs => ?_)
    · conv => whnf
      refine IndexTo.at (map_at cHzdO hlt) ?_
      conv => whnf
      refine CallTo.fn (m_ref09_in G w.names.stops (w.hazards[i]).on) ?_
      conv => whnf
      refine WrapTo.i64 (by omega) ?_
      conv => whnf
      refine LoopOK.weak _ _ ?_ ?_ ?_ (IH (i + 1, inB (w.hazards[i]).on w.names.stops.length) (by simp only; omega) ⟨by simp only; omega, flag_step hf hlt ht (by unfold oddH; rw [if_pos hs]; simp only [oddS, Bool.not_not])⟩)
      · exact ⟨rfl, rfl, rfl, rfl, trivial⟩
      · exact ⟨rfl, rfl, trivial⟩
      · rfl
    · conv => whnf
      refine IndexTo.at (map_at cHzdO hlt) ?_
      conv => whnf
      refine CallTo.fn (m_ref09_in G w.names.paths (w.hazards[i]).on) ?_
      conv => whnf
      refine WrapTo.i64 (by omega) ?_
      conv => whnf
      refine LoopOK.weak _ _ ?_ ?_ ?_ (IH (i + 1, inB (w.hazards[i]).on w.names.paths.length) (by simp only; omega) ⟨by simp only; omega, flag_step hf hlt ht (by unfold oddH; rw [hs]; simp)⟩)
      · exact ⟨rfl, rfl, rfl, rfl, trivial⟩
      · exact ⟨rfl, rfl, trivial⟩
      · rfl
  rintro z T1 L1 ⟨rfl, hcv5⟩
  refine ⟨_, _, hcv5, ?_⟩
  conv => whnf
  exact Fin.one hTh rfl (rfl) rfl
end Go.Proofs.YtmfolelgdpkkoaaGreatDoor
/- Worlds: the sheet that a whole world tells. -/
set_option linter.unusedVariables false
set_option linter.unusedSimpArgs false
set_option maxRecDepth 10000
namespace Go.Ab
def nil0 : Tms := ⟨0, 0, 0⟩
def tPth (w : Wld) (i : Nat) : Pth := let p := w.paths.getD i ⟨0, 0, 0⟩; ⟨w.names.paths.getD i [], w.names.stops.getD p.a.toNat [], w.names.stops.getD p.b.toNat [], p.ln⟩
def tDor (w : Wld) (i : Nat) : Dor := let p := w.doors.getD i ⟨0, 0, 0, nil0⟩; ⟨w.names.doors.getD i [], w.names.stops.getD p.a.toNat [], w.names.stops.getD p.b.toNat [], p.ln, p.tm⟩
def tRte (w : Wld) (i : Nat) : Rte := let r := w.routes.getD i ⟨[], [], []⟩; ⟨w.names.routes.getD i [], r.stops.map fun s => w.names.stops.getD s.toNat [], r.rides, r.stays⟩
def tTrp (w : Wld) (i : Nat) : Trp := let t := w.trips.getD i ⟨0, 0, 0, 0⟩; ⟨w.names.trips.getD i [], w.names.routes.getD t.route.toNat [], t.fr, t.ev, t.un⟩
def tHzd (w : Wld) (i : Nat) : Hzd := let h := w.hazards.getD i ⟨false, 0, nil0⟩; ⟨w.names.hazards.getD i [], if h.stop then w.names.stops.getD h.on.toNat [] else w.names.paths.getD h.on.toNat [], h.tm⟩
def toldS (w : Wld) : Sht := ⟨w.hor, w.names.stops, (List.range w.paths.length).map (tPth w), (List.range w.doors.length).map (tDor w), (List.range w.routes.length).map (tRte w), (List.range w.trips.length).map (tTrp w), (List.range w.hazards.length).map (tHzd w)⟩
theorem inB_spec {n : Int} {l : Nat} (h : inB n l = true) : 0 ≤ n ∧ n < (l : Int) := by
  simpa [inB] using h
/-- What being whole gives. -/
structure Sound (w : Wld) : Prop where
  paths : w.names.paths.length = w.paths.length
  doors : w.names.doors.length = w.doors.length
  routes : w.names.routes.length = w.routes.length
  trips : w.names.trips.length = w.trips.length
  hazards : w.names.hazards.length = w.hazards.length
  pathA : ∀ p ∈ w.paths, inB p.a w.names.stops.length = true ∧ inB p.b w.names.stops.length = true
  doorA : ∀ p ∈ w.doors, inB p.a w.names.stops.length = true ∧ inB p.b w.names.stops.length = true
  routeA : ∀ r ∈ w.routes, ∀ s ∈ r.stops, inB s w.names.stops.length = true
  tripA : ∀ t ∈ w.trips, inB t.route w.names.routes.length = true
  hazardA : ∀ h ∈ w.hazards, inB h.on (if h.stop then w.names.stops.length else w.names.paths.length) = true
theorem none_of {α : Type} {p : α → Bool} {xs : List α} (h : (!xs.any p) = true) : ∀ x ∈ xs, p x = false := by
  intro x hx
  rw [Bool.not_eq_true', List.any_eq_false] at h
  simpa using h x hx
theorem sound_of {w : Wld} (h : wholeS w = true) : Sound w := by
  simp only [wholeS, Bool.and_eq_true] at h
  obtain ⟨⟨⟨⟨⟨h0, h1⟩, h2⟩, h3⟩, h4⟩, h5⟩ := h
  simp only [unlike, Bool.not_eq_true', Bool.or_eq_false_iff, bne_eq_false_iff_eq] at h0
  obtain ⟨⟨⟨⟨a1, a2⟩, a3⟩, a4⟩, a5⟩ := h0
  refine ⟨by omega, by omega, by omega, by omega, by omega, fun p hp => ?_, fun p hp => ?_, fun r hr s hs => ?_, fun t ht => ?_, fun q hq => ?_⟩
  · have := none_of h1 p hp
    simpa [oddP, oddS] using this
  · have := none_of h2 p hp
    simpa [oddD, oddS] using this
  · have := none_of h3 r hr
    unfold oddR at this
    rw [List.any_eq_false] at this
    simpa [oddS] using this s hs
  · have := none_of h4 t ht
    simpa [oddT] using this
  · have := none_of h5 q hq
    unfold oddH at this
    split at this
    · rename_i e; rw [if_pos e]; simpa [oddS] using this
    · rename_i e; rw [if_neg e]; simpa using this
end Go.Ab
namespace Go.Proofs.YtmfolelgdpkkoaaGreatDoor
open Go Go.Ab
theorem m_told_1 (G : GlP) (n : Nms) (i : Int) (h : inB i n.stops.length = true) : Meets Pg G F_world_told_1 [.int .i64 i, .pp (cNms n)] [] (.str (n.stops.getD i.toNat [])) [] := by
  have h0 := inB_spec h
  refine meets_pure (F := fe_world_told_1) hTh hMx func_world_told_1 rfl call_world_told_1 rfl rfl rfl ?_
  conv => whnf
  refine IndexTo.atD cS [] h0.1 h0.2 ?_
  conv => whnf
  exact Fin.one hTh rfl (rfl) rfl
theorem m_world_told (G : GlP) (w : Wld) (hw : WldFits w) (hs : Sound w) : Meets Pg G F_world_told [.agg (cWld w)] [] (.agg (cSht (toldS w))) [] := by
  have n0 := hw.names.stops
  have b1 := hw.paths
  have b2 := hw.doors
  have b3 := hw.routes
  have b4 := hw.trips
  have b5 := hw.hazards
  refine meets_pure (F := { fe_world_told with stops := [2, 31] }) hTh hMx func_world_told rfl call_world_told rfl rfl rfl ?_
  conv => whnf
  refine CodeTo.less [((F_world_told, 1), .cells T_api_World (cWld w)), ((F_world_told, 3), .cells T_api_Names (cNms w.names))] [(1, .pp (cWld w)), (2, .ref (F_world_told, 2) 0), (3, .pp (cNms w.names))] [((F_world_told, 2), .cells T_api_Sheet (zcells ty_api_Sheet))] ⟨.ref List.mem_cons_self, .refl _, .ref (List.mem_cons_of_mem _ List.mem_cons_self), trivial⟩ ⟨⟨_, rfl, .refl _⟩, trivial⟩ ⟨rfl, rfl, rfl, rfl, rfl, rfl, trivial⟩ rfl ?_
  refine CodeTo.go hTh hMx ?_
  conv => whnf
  refine CallTo.fn (m_slices_Clone_string_string G w.names.stops (by omega)) ?_
  conv => whnf
  refine ⟨by kernel_rfl, ?_⟩
  conv => whnf
  refine LoopOK.conv (Conv.empOwnBox (F_world_told, 4) 2 rfl rfl (F_world_told, 55) rfl T_api_Path 4) ?_
  refine LoopOK.weak _ _ ?_ ?_ ?_ (LoopOK.ind (fun i : Nat => w.paths.length - i) (fun i => [(1, .pp (cWld w)), (2, .ref (F_world_told, 2) 0), (3, .pp (cNms w.names)), (4, .ref (F_world_told, 4) 0), (25, .lst 3 (w.paths.map cPthO)), (26, .int .i64 (w.paths.map cPthO).length), (27, .int .i64 i)]) (fun i => [((F_world_told, 2), .cells T_api_Sheet (zcells ty_api_Sheet)), ((F_world_told, 4), .cells T_api_Sheet [.int .i64 w.hor, .lst 1 (w.names.stops.map cS), (.own (F_world_told, 55) i), .emp, .emp, .emp, .emp]), ((F_world_told, 55), .row T_api_Path 4 (((List.range i).map (tPth w)).map cPth))]) (fun i => i ≤ w.paths.length) ?_ 0 (by omega))
  · exact ⟨rfl, rfl, rfl, rfl, rfl, rfl, rfl, trivial⟩
  · exact ⟨rfl, rfl, rfl, trivial⟩
  · exact chk_mk ⟨rfl, rfl, rfl, rfl, rfl, rfl, rfl, trivial⟩ ⟨rfl, rfl, cloX_row (l := (0, 0)) (e := 0) (sz := 0) (by rw [List.map_map]; exact Clo.map (fun y_ => fPth ((tPth w) y_)) _), trivial⟩ rfl
  intro i1 hi1 IH
  refine LoopOK.round hTh hMx ?_
  conv => whnf
  refine cond_split (fun h => ?_) (fun hz1 => ?_)
  · have hlt := lt_of_dec h
    have hA : inB (w.paths.getD i1 ⟨0, 0, 0⟩).a w.names.stops.length = true ∧ inB (w.paths.getD i1 ⟨0, 0, 0⟩).b w.names.stops.length = true := by have := hs.pathA _ (List.getElem_mem hlt); simpa [hlt] using this
    conv => whnf
    refine IndexTo.at (map_atD cPthO ⟨0, 0, 0⟩ hlt) ?_
    conv => whnf
    refine IndexTo.at (map_atD cS [] (show i1 < w.names.paths.length by have := hs.paths; omega)) ?_
    conv => whnf
    refine IndexTo.atD cS [] (inB_spec hA.1).1 (inB_spec hA.1).2 ?_
    conv => whnf
    refine IndexTo.atD cS [] (inB_spec hA.2).1 (inB_spec hA.2).2 ?_
    conv => whnf
    refine ⟨by simp only [List.length_map, List.length_range], by simp only [List.length_cons, List.length_nil]; omega, ?_⟩
    conv => whnf
    refine ⟨by kernel_rfl, ?_⟩
    conv => whnf
    refine WrapTo.i64 (by omega) ?_
    conv => whnf
    refine LoopOK.weak _ _ ?_ ?_ ?_ (IH (i1 + 1) (by omega) (by omega))
    · exact ⟨rfl, rfl, rfl, rfl, rfl, rfl, rfl, trivial⟩
    · exact ⟨rfl, rfl, congrArg (fun z => some (ABox.row T_api_Path 4 z)) (map_range_succ), trivial⟩
    · exact chk_mk ⟨rfl, rfl, rfl, rfl, rfl, rfl, rfl, trivial⟩ ⟨rfl, rfl, cloX_row (l := (0, 0)) (e := 0) (sz := 0) (by rw [List.map_map]; exact Clo.map (fun y_ => fPth ((tPth w) y_)) _), trivial⟩ rfl
  have hge1 := le_of_dec hz1
  conv => whnf
  obtain rfl : i1 = w.paths.length := by omega
  refine LoopOK.less [((F_world_told, 55), .row T_api_Path 4 (((List.range w.paths.length).map (tPth w)).map cPth))] [(1, .pp (cWld w)), (2, .ref (F_world_told, 2) 0), (3, .pp (cNms w.names)), (4, .ref (F_world_told, 4) 0), (59, .lst 6 (w.doors.map cDorO)), (60, .int .i64 (w.doors.map cDorO).length), (61, .int .i64 0)] [((F_world_told, 2), .cells T_api_Sheet (zcells ty_api_Sheet)), ((F_world_told, 4), .cells T_api_Sheet [.int .i64 w.hor, .lst 1 (w.names.stops.map cS), (.lst 4 (((List.range w.paths.length).map (tPth w)).map cPth)), .emp, .emp, .emp, .emp])] ⟨.refl _, .refl _, .refl _, .refl _, .refl _, .refl _, .refl _, trivial⟩ ⟨⟨_, rfl, .refl _⟩, ⟨_, rfl, .cells (.cons (.refl _) (.cons (.refl _) (.cons (.own List.mem_cons_self (by simp only [List.length_map, List.length_range])) (.refl _))))⟩, trivial⟩ ⟨rfl, (by rw [List.map_map]; exact Clo.map (fun y_ => fPth ((tPth w) y_)) _), rfl, trivial⟩ (rfl) ?_
  refine LoopOK.conv (Conv.empOwnBox (F_world_told, 4) 3 rfl rfl (F_world_told, 91) rfl T_api_Door 7) ?_
  refine LoopOK.weak _ _ ?_ ?_ ?_ (LoopOK.ind (fun i : Nat => w.doors.length - i) (fun i => [(1, .pp (cWld w)), (2, .ref (F_world_told, 2) 0), (3, .pp (cNms w.names)), (4, .ref (F_world_told, 4) 0), (59, .lst 6 (w.doors.map cDorO)), (60, .int .i64 (w.doors.map cDorO).length), (61, .int .i64 i)]) (fun i => [((F_world_told, 2), .cells T_api_Sheet (zcells ty_api_Sheet)), ((F_world_told, 4), .cells T_api_Sheet [.int .i64 w.hor, .lst 1 (w.names.stops.map cS), .lst 4 (((List.range w.paths.length).map (tPth w)).map cPth), (.own (F_world_told, 91) i), .emp, .emp, .emp]), ((F_world_told, 91), .row T_api_Door 7 (((List.range i).map (tDor w)).map cDor))]) (fun i => i ≤ w.doors.length) ?_ 0 (by omega))
  · exact ⟨rfl, rfl, rfl, rfl, rfl, rfl, rfl, trivial⟩
  · exact ⟨rfl, rfl, rfl, trivial⟩
  · exact chk_mk ⟨rfl, rfl, rfl, rfl, rfl, rfl, rfl, trivial⟩ ⟨rfl, rfl, cloX_row (l := (0, 0)) (e := 0) (sz := 0) (by rw [List.map_map]; exact Clo.map (fun y_ => fDor ((tDor w) y_)) _), trivial⟩ rfl
  intro i2 hi2 IH
  refine LoopOK.round hTh hMx ?_
  conv => whnf
  refine cond_split (fun h => ?_) (fun hz2 => ?_)
  · have hlt := lt_of_dec h
    have hA : inB (w.doors.getD i2 ⟨0, 0, 0, nil0⟩).a w.names.stops.length = true ∧ inB (w.doors.getD i2 ⟨0, 0, 0, nil0⟩).b w.names.stops.length = true := by have := hs.doorA _ (List.getElem_mem hlt); simpa [hlt] using this
    conv => whnf
    refine IndexTo.at (map_atD cDorO ⟨0, 0, 0, nil0⟩ hlt) ?_
    conv => whnf
    refine IndexTo.at (map_atD cS [] (show i2 < w.names.doors.length by have := hs.doors; omega)) ?_
    conv => whnf
    refine IndexTo.atD cS [] (inB_spec hA.1).1 (inB_spec hA.1).2 ?_
    conv => whnf
    refine IndexTo.atD cS [] (inB_spec hA.2).1 (inB_spec hA.2).2 ?_
    conv => whnf
    refine ⟨by simp only [List.length_map, List.length_range], by simp only [List.length_cons, List.length_nil]; omega, ?_⟩
    conv => whnf
    refine ⟨by kernel_rfl, ?_⟩
    conv => whnf
    refine WrapTo.i64 (by omega) ?_
    conv => whnf
    refine LoopOK.weak _ _ ?_ ?_ ?_ (IH (i2 + 1) (by omega) (by omega))
    · exact ⟨rfl, rfl, rfl, rfl, rfl, rfl, rfl, trivial⟩
    · exact ⟨rfl, rfl, congrArg (fun z => some (ABox.row T_api_Door 7 z)) (map_range_succ), trivial⟩
    · exact chk_mk ⟨rfl, rfl, rfl, rfl, rfl, rfl, rfl, trivial⟩ ⟨rfl, rfl, cloX_row (l := (0, 0)) (e := 0) (sz := 0) (by rw [List.map_map]; exact Clo.map (fun y_ => fDor ((tDor w) y_)) _), trivial⟩ rfl
  have hge2 := le_of_dec hz2
  conv => whnf
  obtain rfl : i2 = w.doors.length := by omega
  refine LoopOK.less [((F_world_told, 91), .row T_api_Door 7 (((List.range w.doors.length).map (tDor w)).map cDor))] [(1, .pp (cWld w)), (2, .ref (F_world_told, 2) 0), (3, .pp (cNms w.names)), (4, .ref (F_world_told, 4) 0), (95, .lst 3 (w.routes.map cRteO)), (96, .int .i64 (w.routes.map cRteO).length), (97, .int .i64 0)] [((F_world_told, 2), .cells T_api_Sheet (zcells ty_api_Sheet)), ((F_world_told, 4), .cells T_api_Sheet [.int .i64 w.hor, .lst 1 (w.names.stops.map cS), .lst 4 (((List.range w.paths.length).map (tPth w)).map cPth), (.lst 7 (((List.range w.doors.length).map (tDor w)).map cDor)), .emp, .emp, .emp])] ⟨.refl _, .refl _, .refl _, .refl _, .refl _, .refl _, .refl _, trivial⟩ ⟨⟨_, rfl, .refl _⟩, ⟨_, rfl, .cells (.cons (.refl _) (.cons (.refl _) (.cons (.refl _) (.cons (.own List.mem_cons_self (by simp only [List.length_map, List.length_range])) (.refl _)))))⟩, trivial⟩ ⟨rfl, (by rw [List.map_map]; exact Clo.map (fun y_ => fDor ((tDor w) y_)) _), rfl, trivial⟩ (rfl) ?_
  refine LoopOK.conv (Conv.empOwnBox (F_world_told, 4) 4 rfl rfl (F_world_told, 121) rfl T_api_Route 4) ?_
  refine LoopOK.weak _ _ ?_ ?_ ?_ (LoopOK.ind (fun i : Nat => w.routes.length - i) (fun i => [(1, .pp (cWld w)), (2, .ref (F_world_told, 2) 0), (3, .pp (cNms w.names)), (4, .ref (F_world_told, 4) 0), (95, .lst 3 (w.routes.map cRteO)), (96, .int .i64 (w.routes.map cRteO).length), (97, .int .i64 i)]) (fun i => [((F_world_told, 2), .cells T_api_Sheet (zcells ty_api_Sheet)), ((F_world_told, 4), .cells T_api_Sheet [.int .i64 w.hor, .lst 1 (w.names.stops.map cS), .lst 4 (((List.range w.paths.length).map (tPth w)).map cPth), .lst 7 (((List.range w.doors.length).map (tDor w)).map cDor), (.own (F_world_told, 121) i), .emp, .emp]), ((F_world_told, 121), .row T_api_Route 4 (((List.range i).map (tRte w)).map cRte))]) (fun i => i ≤ w.routes.length) ?_ 0 (by omega))
  · exact ⟨rfl, rfl, rfl, rfl, rfl, rfl, rfl, trivial⟩
  · exact ⟨rfl, rfl, rfl, trivial⟩
  · exact chk_mk ⟨rfl, rfl, rfl, rfl, rfl, rfl, rfl, trivial⟩ ⟨rfl, rfl, cloX_row (l := (0, 0)) (e := 0) (sz := 0) (by rw [List.map_map]; exact Clo.map (fun y_ => fRte ((tRte w) y_)) _), trivial⟩ rfl
  intro i3 hi3 IH
  refine LoopOK.round hTh hMx ?_
  conv => whnf
  refine cond_split (fun h => ?_) (fun hz3 => ?_)
  · have hlt := lt_of_dec h
    have hA : ∀ s ∈ (w.routes.getD i3 ⟨[], [], []⟩).stops, inB s w.names.stops.length = true := by have := hs.routeA _ (List.getElem_mem hlt); simpa [hlt] using this
    have r0 : RteOFits (w.routes.getD i3 ⟨[], [], []⟩) := by have := hw.each _ (List.getElem_mem hlt); simpa [hlt] using this
    have r1 := r0.stops
    have r2 := r0.rides
    have r3 := r0.stays
    conv => whnf
    refine IndexTo.at (map_atD cRteO ⟨[], [], []⟩ hlt) ?_
    conv => whnf
    refine IndexTo.at (map_atD cS [] (show i3 < w.names.routes.length by have := hs.routes; omega)) ?_
    conv => whnf
    refine CallTo.fn (m_world_all_int_string G _ _ (fun s => w.names.stops.getD s.toNat []) (fun s hs2 => MeetsV.of (m_told_1 G w.names s (hA s hs2))) rfl (by omega)) ?_
    conv => whnf
    refine CallTo.fn (m_slices_Clone_int64_int64 G _ (by omega)) ?_
    conv => whnf
    refine CallTo.fn (m_slices_Clone_int64_int64 G _ (by omega)) ?_
    conv => whnf
    refine ⟨by simp only [List.length_map, List.length_range], by simp only [List.length_cons, List.length_nil]; omega, ?_⟩
    conv => whnf
    refine ⟨by kernel_rfl, ?_⟩
    conv => whnf
    refine WrapTo.i64 (by omega) ?_
    conv => whnf
    refine LoopOK.weak _ _ ?_ ?_ ?_ (IH (i3 + 1) (by omega) (by omega))
    · exact ⟨rfl, rfl, rfl, rfl, rfl, rfl, rfl, trivial⟩
    · exact ⟨rfl, rfl, congrArg (fun z => some (ABox.row T_api_Route 4 z)) (map_range_succ), trivial⟩
    · exact chk_mk ⟨rfl, rfl, rfl, rfl, rfl, rfl, rfl, trivial⟩ ⟨rfl, rfl, cloX_row (l := (0, 0)) (e := 0) (sz := 0) (by rw [List.map_map]; exact Clo.map (fun y_ => fRte ((tRte w) y_)) _), trivial⟩ rfl
  have hge3 := le_of_dec hz3
  conv => whnf
  obtain rfl : i3 = w.routes.length := by omega
  refine LoopOK.less [((F_world_told, 121), .row T_api_Route 4 (((List.range w.routes.length).map (tRte w)).map cRte))] [(1, .pp (cWld w)), (2, .ref (F_world_told, 2) 0), (3, .pp (cNms w.names)), (4, .ref (F_world_told, 4) 0), (125, .lst 4 (w.trips.map cTrpO)), (126, .int .i64 (w.trips.map cTrpO).length), (127, .int .i64 0)] [((F_world_told, 2), .cells T_api_Sheet (zcells ty_api_Sheet)), ((F_world_told, 4), .cells T_api_Sheet [.int .i64 w.hor, .lst 1 (w.names.stops.map cS), .lst 4 (((List.range w.paths.length).map (tPth w)).map cPth), .lst 7 (((List.range w.doors.length).map (tDor w)).map cDor), (.lst 4 (((List.range w.routes.length).map (tRte w)).map cRte)), .emp, .emp])] ⟨.refl _, .refl _, .refl _, .refl _, .refl _, .refl _, .refl _, trivial⟩ ⟨⟨_, rfl, .refl _⟩, ⟨_, rfl, .cells (.cons (.refl _) (.cons (.refl _) (.cons (.refl _) (.cons (.refl _) (.cons (.own List.mem_cons_self (by simp only [List.length_map, List.length_range])) (.refl _))))))⟩, trivial⟩ ⟨rfl, (by rw [List.map_map]; exact Clo.map (fun y_ => fRte ((tRte w) y_)) _), rfl, trivial⟩ (rfl) ?_
  refine LoopOK.conv (Conv.empOwnBox (F_world_told, 4) 5 rfl rfl (F_world_told, 153) rfl T_api_Trip 5) ?_
  refine LoopOK.weak _ _ ?_ ?_ ?_ (LoopOK.ind (fun i : Nat => w.trips.length - i) (fun i => [(1, .pp (cWld w)), (2, .ref (F_world_told, 2) 0), (3, .pp (cNms w.names)), (4, .ref (F_world_told, 4) 0), (125, .lst 4 (w.trips.map cTrpO)), (126, .int .i64 (w.trips.map cTrpO).length), (127, .int .i64 i)]) (fun i => [((F_world_told, 2), .cells T_api_Sheet (zcells ty_api_Sheet)), ((F_world_told, 4), .cells T_api_Sheet [.int .i64 w.hor, .lst 1 (w.names.stops.map cS), .lst 4 (((List.range w.paths.length).map (tPth w)).map cPth), .lst 7 (((List.range w.doors.length).map (tDor w)).map cDor), .lst 4 (((List.range w.routes.length).map (tRte w)).map cRte), (.own (F_world_told, 153) i), .emp]), ((F_world_told, 153), .row T_api_Trip 5 (((List.range i).map (tTrp w)).map cTrp))]) (fun i => i ≤ w.trips.length) ?_ 0 (by omega))
  · exact ⟨rfl, rfl, rfl, rfl, rfl, rfl, rfl, trivial⟩
  · exact ⟨rfl, rfl, rfl, trivial⟩
  · exact chk_mk ⟨rfl, rfl, rfl, rfl, rfl, rfl, rfl, trivial⟩ ⟨rfl, rfl, cloX_row (l := (0, 0)) (e := 0) (sz := 0) (by rw [List.map_map]; exact Clo.map (fun y_ => fTrp ((tTrp w) y_)) _), trivial⟩ rfl
  intro i4 hi4 IH
  refine LoopOK.round hTh hMx ?_
  conv => whnf
  refine cond_split (fun h => ?_) (fun hz4 => ?_)
  · have hlt := lt_of_dec h
    have hA : inB (w.trips.getD i4 ⟨0, 0, 0, 0⟩).route w.names.routes.length = true := by have := hs.tripA _ (List.getElem_mem hlt); simpa [hlt] using this
    conv => whnf
    refine IndexTo.at (map_atD cTrpO ⟨0, 0, 0, 0⟩ hlt) ?_
    conv => whnf
    refine IndexTo.at (map_atD cS [] (show i4 < w.names.trips.length by have := hs.trips; omega)) ?_
    conv => whnf
    refine IndexTo.atD cS [] (inB_spec hA).1 (inB_spec hA).2 ?_
    conv => whnf
    refine ⟨by simp only [List.length_map, List.length_range], by simp only [List.length_cons, List.length_nil]; omega, ?_⟩
    conv => whnf
    refine ⟨by kernel_rfl, ?_⟩
    conv => whnf
    refine WrapTo.i64 (by omega) ?_
    conv => whnf
    refine LoopOK.weak _ _ ?_ ?_ ?_ (IH (i4 + 1) (by omega) (by omega))
    · exact ⟨rfl, rfl, rfl, rfl, rfl, rfl, rfl, trivial⟩
    · exact ⟨rfl, rfl, congrArg (fun z => some (ABox.row T_api_Trip 5 z)) (map_range_succ), trivial⟩
    · exact chk_mk ⟨rfl, rfl, rfl, rfl, rfl, rfl, rfl, trivial⟩ ⟨rfl, rfl, cloX_row (l := (0, 0)) (e := 0) (sz := 0) (by rw [List.map_map]; exact Clo.map (fun y_ => fTrp ((tTrp w) y_)) _), trivial⟩ rfl
  have hge4 := le_of_dec hz4
  conv => whnf
  obtain rfl : i4 = w.trips.length := by omega
  refine LoopOK.less [((F_world_told, 153), .row T_api_Trip 5 (((List.range w.trips.length).map (tTrp w)).map cTrp))] [(1, .pp (cWld w)), (2, .ref (F_world_told, 2) 0), (3, .pp (cNms w.names)), (4, .ref (F_world_told, 4) 0), (157, .lst 5 (w.hazards.map cHzdO)), (158, .int .i64 (w.hazards.map cHzdO).length), (159, .int .i64 0)] [((F_world_told, 2), .cells T_api_Sheet (zcells ty_api_Sheet)), ((F_world_told, 4), .cells T_api_Sheet [.int .i64 w.hor, .lst 1 (w.names.stops.map cS), .lst 4 (((List.range w.paths.length).map (tPth w)).map cPth), .lst 7 (((List.range w.doors.length).map (tDor w)).map cDor), .lst 4 (((List.range w.routes.length).map (tRte w)).map cRte), (.lst 5 (((List.range w.trips.length).map (tTrp w)).map cTrp)), .emp])] ⟨.refl _, .refl _, .refl _, .refl _, .refl _, .refl _, .refl _, trivial⟩ ⟨⟨_, rfl, .refl _⟩, ⟨_, rfl, .cells (.cons (.refl _) (.cons (.refl _) (.cons (.refl _) (.cons (.refl _) (.cons (.refl _) (.cons (.own List.mem_cons_self (by simp only [List.length_map, List.length_range])) (.refl _)))))))⟩, trivial⟩ ⟨rfl, (by rw [List.map_map]; exact Clo.map (fun y_ => fTrp ((tTrp w) y_)) _), rfl, trivial⟩ (rfl) ?_
  refine LoopOK.conv (Conv.empOwnBox (F_world_told, 4) 6 rfl rfl (F_world_told, 186) rfl T_api_Hazard 5) ?_
  refine LoopOK.weak _ _ ?_ ?_ ?_ (LoopOK.ind (fun i : Nat => w.hazards.length - i) (fun i => [(1, .pp (cWld w)), (2, .ref (F_world_told, 2) 0), (3, .pp (cNms w.names)), (4, .ref (F_world_told, 4) 0), (157, .lst 5 (w.hazards.map cHzdO)), (158, .int .i64 (w.hazards.map cHzdO).length), (159, .int .i64 i)]) (fun i => [((F_world_told, 2), .cells T_api_Sheet (zcells ty_api_Sheet)), ((F_world_told, 4), .cells T_api_Sheet [.int .i64 w.hor, .lst 1 (w.names.stops.map cS), .lst 4 (((List.range w.paths.length).map (tPth w)).map cPth), .lst 7 (((List.range w.doors.length).map (tDor w)).map cDor), .lst 4 (((List.range w.routes.length).map (tRte w)).map cRte), .lst 5 (((List.range w.trips.length).map (tTrp w)).map cTrp), (.own (F_world_told, 186) i)]), ((F_world_told, 186), .row T_api_Hazard 5 (((List.range i).map (tHzd w)).map cHzd))]) (fun i => i ≤ w.hazards.length) ?_ 0 (by omega))
  · exact ⟨rfl, rfl, rfl, rfl, rfl, rfl, rfl, trivial⟩
  · exact ⟨rfl, rfl, rfl, trivial⟩
  · exact chk_mk ⟨rfl, rfl, rfl, rfl, rfl, rfl, rfl, trivial⟩ ⟨rfl, rfl, cloX_row (l := (0, 0)) (e := 0) (sz := 0) (by rw [List.map_map]; exact Clo.map (fun y_ => fHzd ((tHzd w) y_)) _), trivial⟩ rfl
  intro i5 hi5 IH
  refine LoopOK.round hTh hMx ?_
  conv => whnf
  refine cond_split (fun h => ?_) (fun hz5 => ?_)
  · have hlt := lt_of_dec h
    have hA : inB (w.hazards.getD i5 ⟨false, 0, nil0⟩).on (if (w.hazards.getD i5 ⟨false, 0, nil0⟩).stop then w.names.stops.length else w.names.paths.length) = true := by have := hs.hazardA _ (List.getElem_mem hlt); simpa [hlt] using this
    conv => whnf
    refine IndexTo.at (map_atD cHzdO ⟨false, 0, nil0⟩ hlt) ?_
    conv => whnf
    refine cond_split (fun hc => ?_) (fun hc => ?_)
    · have e1 : tHzd w i5 = ⟨w.names.hazards.getD i5 [], w.names.stops.getD (w.hazards.getD i5 ⟨false, 0, nil0⟩).on.toNat [], (w.hazards.getD i5 ⟨false, 0, nil0⟩).tm⟩ := by unfold tHzd; simp only; rw [if_pos hc]
      have hB : inB (w.hazards.getD i5 ⟨false, 0, nil0⟩).on w.names.stops.length = true := by rw [if_pos hc] at hA; exact hA
      conv => whnf
      refine IndexTo.at (map_atD cS [] (show i5 < w.names.hazards.length by have := hs.hazards; omega)) ?_
      conv => whnf
      refine IndexTo.atD cS [] (inB_spec hB).1 (inB_spec hB).2 ?_
      conv => whnf
      refine ⟨by simp only [List.length_map, List.length_range], by simp only [List.length_cons, List.length_nil]; omega, ?_⟩
      conv => whnf
      refine ⟨by kernel_rfl, ?_⟩
      conv => whnf
      refine WrapTo.i64 (by omega) ?_
      conv => whnf
      refine LoopOK.weak _ _ ?_ ?_ ?_ (IH (i5 + 1) (by omega) (by omega))
      · exact ⟨rfl, rfl, rfl, rfl, rfl, rfl, rfl, trivial⟩
      · exact ⟨rfl, rfl, congrArg (fun z => some (ABox.row T_api_Hazard 5 z)) (by rw [← map_range_succ, e1]; rfl), trivial⟩
      · exact chk_mk ⟨rfl, rfl, rfl, rfl, rfl, rfl, rfl, trivial⟩ ⟨rfl, rfl, cloX_row (l := (0, 0)) (e := 0) (sz := 0) (by rw [List.map_map]; exact Clo.map (fun y_ => fHzd ((tHzd w) y_)) _), trivial⟩ rfl
    · have e1 : tHzd w i5 = ⟨w.names.hazards.getD i5 [], w.names.paths.getD (w.hazards.getD i5 ⟨false, 0, nil0⟩).on.toNat [], (w.hazards.getD i5 ⟨false, 0, nil0⟩).tm⟩ := by unfold tHzd; simp only; rw [if_neg (by rw [hc]; exact Bool.false_ne_true)]
      have hB : inB (w.hazards.getD i5 ⟨false, 0, nil0⟩).on w.names.paths.length = true := by rw [if_neg (by rw [hc]; exact Bool.false_ne_true)] at hA; exact hA
      conv => whnf
      refine IndexTo.at (map_atD cS [] (show i5 < w.names.hazards.length by have := hs.hazards; omega)) ?_
      conv => whnf
      refine IndexTo.atD cS [] (inB_spec hB).1 (inB_spec hB).2 ?_
      conv => whnf
      refine ⟨by simp only [List.length_map, List.length_range], by simp only [List.length_cons, List.length_nil]; omega, ?_⟩
      conv => whnf
      refine ⟨by kernel_rfl, ?_⟩
      conv => whnf
      refine WrapTo.i64 (by omega) ?_
      conv => whnf
      refine LoopOK.weak _ _ ?_ ?_ ?_ (IH (i5 + 1) (by omega) (by omega))
      · exact ⟨rfl, rfl, rfl, rfl, rfl, rfl, rfl, trivial⟩
      · exact ⟨rfl, rfl, congrArg (fun z => some (ABox.row T_api_Hazard 5 z)) (by rw [← map_range_succ, e1]; rfl), trivial⟩
      · exact chk_mk ⟨rfl, rfl, rfl, rfl, rfl, rfl, rfl, trivial⟩ ⟨rfl, rfl, cloX_row (l := (0, 0)) (e := 0) (sz := 0) (by rw [List.map_map]; exact Clo.map (fun y_ => fHzd ((tHzd w) y_)) _), trivial⟩ rfl
  have hge5 := le_of_dec hz5
  conv => whnf
  obtain rfl : i5 = w.hazards.length := by omega
  refine CodeTo.less [((F_world_told, 186), .row T_api_Hazard 5 (((List.range w.hazards.length).map (tHzd w)).map cHzd))] [(1, .pp (cWld w)), (2, .ref (F_world_told, 2) 0), (3, .pp (cNms w.names)), (4, .ref (F_world_told, 4) 0)] [((F_world_told, 2), .cells T_api_Sheet (zcells ty_api_Sheet)), ((F_world_told, 4), .cells T_api_Sheet [.int .i64 w.hor, .lst 1 (w.names.stops.map cS), .lst 4 (((List.range w.paths.length).map (tPth w)).map cPth), .lst 7 (((List.range w.doors.length).map (tDor w)).map cDor), .lst 4 (((List.range w.routes.length).map (tRte w)).map cRte), .lst 5 (((List.range w.trips.length).map (tTrp w)).map cTrp), (.lst 5 (((List.range w.hazards.length).map (tHzd w)).map cHzd))])] ⟨.refl _, .refl _, .refl _, .refl _, trivial⟩ ⟨⟨_, rfl, .refl _⟩, ⟨_, rfl, .cells (.cons (.refl _) (.cons (.refl _) (.cons (.refl _) (.cons (.refl _) (.cons (.refl _) (.cons (.refl _) (.cons (.own List.mem_cons_self (by simp only [List.length_map, List.length_range])) (.refl _))))))))⟩, trivial⟩ ⟨rfl, (by rw [List.map_map]; exact Clo.map (fun y_ => fHzd ((tHzd w) y_)) _), rfl, trivial⟩ (rfl) ?_
  refine CodeTo.go hTh hMx ?_
  conv => whnf
  exact Fin.pure hTh [.agg (cSht (toldS w))] rfl rfl rfl
end Go.Proofs.YtmfolelgdpkkoaaGreatDoor
/- Windows: the iterator of windows, windows joined, the windows of times. -/
set_option linter.unusedVariables false
set_option linter.unusedSimpArgs false
set_option maxRecDepth 10000
namespace Go.Ab
def winA (t : Tms) (i : Nat) : Wn := ⟨t.fr + i * t.ev, t.fr + i * t.ev + t.ln⟩
def tmsOK (t : Tms) : Bool := tickOK t.fr && decide (1 ≤ t.ln) && decide (t.ln ≤ 1099511627776) && (t.ev == 0 || (decide (t.ln ≤ t.ev) && decide (t.ev ≤ 1099511627776)))
theorem tmsOK_spec {t : Tms} (h : tmsOK t = true) : 0 ≤ t.fr ∧ t.fr ≤ 1099511627776 ∧ 1 ≤ t.ln ∧ t.ln ≤ 1099511627776 ∧ 0 ≤ t.ev ∧ t.ev ≤ 1099511627776 := by
  simp [tmsOK, tickOK] at h
  omega
theorem mul_bd {a b : Int} {A B : Int} (h0 : 0 ≤ a) (h1 : a ≤ A) (h2 : 0 ≤ b) (h3 : b ≤ B) : 0 ≤ a * b ∧ a * b ≤ A * B :=
  ⟨Int.mul_nonneg h0 h2, Int.mul_le_mul h1 h3 h2 (by omega)⟩
def joinStep (out : List Wn) (w : Wn) : List Wn := if 0 < out.length ∧ w.fr ≤ (out.getD (out.length - 1) ⟨0, 0⟩).to then out.set (out.length - 1) ⟨(out.getD (out.length - 1) ⟨0, 0⟩).fr, max (out.getD (out.length - 1) ⟨0, 0⟩).to w.to⟩ else out ++ [w]
def joinN (w : Nat → Wn) : Nat → List Wn
  | 0 => []
  | i + 1 => joinStep (joinN w i) (w i)
theorem joinStep_le (out : List Wn) (w : Wn) : (joinStep out w).length ≤ out.length + 1 := by
  unfold joinStep
  split <;> simp
theorem joinN_le (w : Nat → Wn) : ∀ n, (joinN w n).length ≤ n
  | 0 => Nat.le_refl _
  | n + 1 => Nat.le_trans (joinStep_le _ _) (Nat.succ_le_succ (joinN_le w n))
end Go.Ab
namespace Go.Proofs.YtmfolelgdpkkoaaGreatDoor
open Go Go.Ab
theorem m_window_each (G : GlP) (t : Tms) (n : Int) : Meets Pg G F_window_each [.agg (cTms t), .int .i64 n] [] (.fn (.func F_window_each_1) [] [.pp [.int .i64 n], .pp (cTms t)]) [] := by
  refine meets_pure (F := fe_window_each) hTh hMx func_window_each rfl call_window_each rfl rfl rfl ?_
  conv => whnf
  refine Fin.less [((F_window_each, 2), .cells T_api_Times (cTms t)), ((F_window_each, 3), .cells T_i64 [.int .i64 n])] [(4, .fn (.func F_window_each_1) [] [.pp [.int .i64 n], .pp (cTms t)])] [] ⟨.fn (.refl _) (.cons (.ref (List.mem_cons_of_mem _ List.mem_cons_self)) (.cons (.ref List.mem_cons_self) (.refl _))), trivial⟩ trivial ⟨rfl, rfl, rfl, rfl, rfl, rfl, trivial⟩ rfl ?_
  exact Fin.one hTh rfl (rfl) rfl
theorem m_window_each_1 (G : GlP) (t : Tms) (n : Nat) (ht : tmsOK t = true) (hn : n ≤ 256) : Iter Pg G F_window_each_1 [] [.pp [.int .i64 n], .pp (cTms t)] n (fun i => [.agg (cWn (winA t i))]) := by
  intro lr S k fin hk hS hT hE
  have hb := tmsOK_spec ht
  refine meets_iter (F := fe_window_each_1) hTh hMx func_window_each_1 rfl call_window_each_1 rfl hS (hE.elim (fun h => ⟨_, h.2⟩) fun h => ⟨_, h.2.1⟩) (by simp [cloL, cloB, hS.here]) ?_
  conv => whnf
  refine LoopOK.forget [(0, .yv lr), (1, .pp [.int .i64 n]), (2, .pp (cTms t)), (6, .int .i64 n), (7, .int .i64 (0 : Nat))] ⟨rfl, rfl, rfl, rfl, rfl, trivial⟩ ?_
  refine LoopOK.ind (fun i : Nat => n - i) (fun i => [(0, .yv lr), (1, .pp [.int .i64 n]), (2, .pp (cTms t)), (6, .int .i64 n), (7, .int .i64 i)]) S (fun i => i ≤ k) ?_ 0 (by omega)
  intro i hi IH
  refine LoopOK.round hTh hMx ?_
  conv => whnf
  refine cond_split (fun h => ?_) (fun hz => ?_)
  · have hlt : i < n := by simpa using h
    have hmb := mul_bd (a := (i : Int)) (A := 256) (by omega) (by omega) hb.2.2.2.2.1 hb.2.2.2.2.2
    conv => whnf
    refine WrapTo.i64 (by omega) ?_
    conv => whnf
    refine WrapTo.i64 (by omega) ?_
    conv => whnf
    refine WrapTo.i64 (by omega) ?_
    conv => whnf
    rcases Nat.lt_or_ge i k with hik | hik
    · refine CallTo.yield (hT i hik) (hS.sup _ _) ?_
      simp only [consL_eq]
      conv => whnf
      refine WrapTo.i64 (by omega) ?_
      conv => whnf
      refine LoopOK.conv (Conv.sup (hS.sup _ _)) ?_
      refine LoopOK.forget _ ?_ (IH (i + 1) (by omega) (by omega))
      exact ⟨rfl, rfl, rfl, rfl, rfl, trivial⟩
    · have hik : i = k := by omega
      subst hik
      rcases hE with ⟨h1, h2⟩ | ⟨h1, h2, h3⟩
      · omega
      · subst h2
        refine CallTo.yield h3 (hS.sup _ _) ?_
        simp only [consL_eq]
        conv => whnf
        refine Fin.conv (Conv.sup (hS.sup _ _)) ?_
        exact Fin.all hTh rfl (hS.sup _ _) (hS.clo _)
  · have hge : n ≤ i := by simpa using hz
    conv => whnf
    rcases hE with ⟨h1, h2⟩ | ⟨h1, h2, h3⟩
    · subst h2
      have : i = n := by omega
      subst this
      exact Fin.all hTh rfl (hS.sup _ _) (hS.clo _)
    · omega
def jLr : Lbl := (F_window_joined, 1000)
def jB (xs : List Wn) : BL := [((F_window_joined, 2), .cells T_S_api_Win [.own (F_window_joined, 37) xs.length]), ((F_window_joined, 37), .row T_api_Win 2 (xs.map cWn))]
noncomputable def jS (st : LoopState) (j : Option Code) (xs : List Wn) : BL := (jLr, .lrec st j (ld_window_joined 0) [(2, .ref (F_window_joined, 2) 0)]) :: jB xs
theorem jClo (st : LoopState) (j : Option Code) (xs : List Wn) : AllL (keyB (jS st j xs)) (jS st j xs) := ⟨rfl, rfl, cloX_row (l := jLr) (e := 0) (sz := 2) (Clo.map fWn _), trivial⟩
theorem y_window_joined (G : GlP) (xs : List Wn) (w : Wn) (hl : xs.length ≤ 4096) : MeetsV Pg G (.yv jLr) [.agg (cWn w)] (jS .ready none xs) (.bool true) (jS .ready none (joinStep xs w)) := by
  refine MeetsV.yield (F := fe_window_joined) (jump := none) hTh hMx rfl rfl rfl rfl (jClo _ _ _) rfl (jClo _ _ _) rfl rfl fun b => ?_
  conv => whnf
  refine ⟨rfl, ?_⟩
  conv => whnf
  refine WrapTo.i64 (by omega) ?_
  conv => whnf
  have hlw : (xs.map cWn).length = xs.length := List.length_map _
  have hall : ∀ x ∈ xs.map cWn, x.length = 2 := fun x hx => by
    obtain ⟨y, _, rfl⟩ := List.mem_map.1 hx
    rfl
  refine cond_split (fun h => ?_) (fun h => ?_)
  · have hn : 0 < xs.length := by simp at h; omega
    have hat : (xs.map cWn)[xs.length - 1]? = some (cWn (xs.getD (xs.length - 1) ⟨0, 0⟩)) := map_atD cWn _ (by omega)
    conv => whnf
    refine OpTo.rowAt hTh rfl rfl rfl rfl rfl rfl rfl hlw rfl (by omega) (by omega) ?_
    conv => whnf
    refine OpTo.rowField hTh rfl rfl rfl rfl hlw ?_
    conv => whnf
    refine OpTo.rowLoad hTh (xs.length - 1) 1 rfl rfl rfl rfl hlw hall hat (by dsimp only; omega) (by decide) (by decide) rfl ?_
    conv => whnf
    refine ⟨by kernel_rfl, ?_⟩
    conv => whnf
    refine cond_split (fun h2 => ?_) (fun h2 => ?_)
    · have hj : joinStep xs w = xs.set (xs.length - 1) ⟨(xs.getD (xs.length - 1) ⟨0, 0⟩).fr, max (xs.getD (xs.length - 1) ⟨0, 0⟩).to w.to⟩ := by
        unfold joinStep
        rw [if_pos ⟨hn, by simpa using h2⟩]
      conv => whnf
      refine OpTo.rowAt hTh rfl rfl rfl rfl rfl rfl rfl hlw rfl (by omega) (by omega) ?_
      conv => whnf
      refine OpTo.rowField hTh rfl rfl rfl rfl hlw ?_
      conv => whnf
      refine OpTo.rowLoad hTh (xs.length - 1) 1 rfl rfl rfl rfl hlw hall hat (by dsimp only; omega) (by decide) (by decide) rfl ?_
      conv => whnf
      refine OpTo.max rfl rfl rfl ?_
      conv => whnf
      refine OpTo.rowAt hTh rfl rfl rfl rfl rfl rfl rfl hlw rfl (by omega) (by omega) ?_
      conv => whnf
      refine OpTo.rowField hTh rfl rfl rfl rfl hlw ?_
      conv => whnf
      refine OpTo.rowStore hTh (xs.length - 1) 1 ((joinStep xs w).map cWn) rfl rfl rfl rfl hlw rfl rfl hall hat (by dsimp only; omega) (by decide) (by rw [hj, List.map_set]; rfl) ?_
      conv => whnf
      refine ⟨by kernel_rfl, ?_⟩
      conv => whnf
      exact ⟨rfl, rfl, congrArg (fun k => some (ABox.cells T_S_api_Win [.own (F_window_joined, 37) k])) (by rw [hj, List.length_set]), rfl, trivial⟩
    · have hj : joinStep xs w = xs ++ [w] := by
        unfold joinStep
        rw [if_neg fun hh => of_decide_eq_false h2 hh.2]
      conv => whnf
      refine ⟨hlw, by simp; omega, ?_⟩
      conv => whnf
      exact ⟨rfl, rfl, congrArg (fun k => some (ABox.cells T_S_api_Win [.own (F_window_joined, 37) k])) (by rw [hj, List.length_append]; rfl), congrArg (fun z => some (ABox.row T_api_Win 2 z)) (by rw [hj, List.map_append]; rfl), trivial⟩
  · have hj : joinStep xs w = xs ++ [w] := by
      unfold joinStep
      rw [if_neg (by simp at h; omega)]
    conv => whnf
    refine ⟨by kernel_rfl, ?_⟩
    conv => whnf
    refine ⟨hlw, by simp; omega, ?_⟩
    conv => whnf
    exact ⟨rfl, rfl, congrArg (fun k => some (ABox.cells T_S_api_Win [.own (F_window_joined, 37) k])) (by rw [hj, List.length_append]; rfl), congrArg (fun z => some (ABox.row T_api_Win 2 z)) (by rw [hj, List.map_append]; rfl), trivial⟩
theorem m_window_joined (G : GlP) (f : FuncId) (first cap : List AV) (n : Nat) (w : Nat → Wn) (hI : Iter Pg G f first cap n (fun i => [.agg (cWn (w i))])) (hf : Nat.beq F_window_joined f = false) (hc : cloB (fun _ => false) (.fn (.func f) first cap) = true) (hn : n ≤ 4096) :
    Meets Pg G F_window_joined [.fn (.func f) first cap] [] (.lst 2 ((joinN w n).map cWn)) [] := by
  refine meets_pure (F := fe_window_joined) hTh hMx func_window_joined rfl call_window_joined rfl (by simp only [cloL, cloB_free hc, Bool.and_true]) rfl ?_
  conv => whnf
  refine CodeTo.conv (Conv.empOwnBox (F_window_joined, 2) 0 rfl rfl (F_window_joined, 37) rfl T_api_Win 2) ?_
  refine CodeTo.range rfl rfl jLr rfl [(2, .ref (F_window_joined, 2) 0)] ⟨rfl, trivial⟩ (st := .ready) (jump := none) (fp' := jB []) (gp' := jB (joinN w n)) (r := .tup [])
    (hI jLr (fun i => jS .ready none (joinN w i)) n (jS .ready none (joinN w n)) (Nat.le_refl _) ⟨fun i => jClo _ _ _, fun i l => by simp only [jS, jB, keyB_cons], rfl, fun d => ?_⟩ (fun i hi => y_window_joined G _ _ (Nat.le_trans (joinN_le w i) (by omega))) (.inl ⟨rfl, rfl⟩))
    ⟨rfl, rfl, trivial⟩ rfl (by simp) [(2, .ref (F_window_joined, 2) 0)] (jB (joinN w n)) ⟨rfl, trivial⟩ ⟨rfl, rfl, trivial⟩ (chk_mk ⟨rfl, trivial⟩ ⟨rfl, cloX_row (l := jLr) (e := 0) (sz := 2) (Clo.map fWn _), trivial⟩ rfl) ?_
  · simp [jS, jB, jLr, getL, lbeq, hf]
  conv => whnf
  refine Fin.less [((F_window_joined, 37), .row T_api_Win 2 ((joinN w n).map cWn))] [(2, .ref (F_window_joined, 2) 0)] [((F_window_joined, 2), .cells T_S_api_Win [.lst 2 ((joinN w n).map cWn)])] ⟨.refl _, trivial⟩ ⟨⟨_, rfl, .cells (.cons (.own List.mem_cons_self (by simp)) (.refl _))⟩, trivial⟩ ⟨rfl, Clo.map fWn _, rfl, trivial⟩ rfl ?_
  exact Fin.pure hTh [.lst 2 ((joinN w n).map cWn)] rfl rfl rfl
end Go.Proofs.YtmfolelgdpkkoaaGreatDoor
/- Windows of times, by the program and by the document. -/
set_option linter.unusedVariables false
set_option linter.unusedSimpArgs false
set_option maxRecDepth 10000
namespace Go.Ab
def countS (fr ev un : Int) : Int := if tickOK fr && tickOK ev && tickOK un && decide (fr ≤ un) then (if ev = 0 then 1 else (un - fr).tdiv ev + 1) else 0
theorem countS_bd (fr ev un : Int) : 0 ≤ countS fr ev un ∧ countS fr ev un ≤ 1099511627777 := by
  unfold countS
  split
  · rename_i h
    simp [tickOK] at h
    split
    · omega
    · have h1 : (un - fr).tdiv ev ≤ un - fr := by
        rw [Int.tdiv_eq_ediv_of_nonneg (by omega)]
        exact Int.ediv_le_self _ (by omega)
      have h2 : 0 ≤ (un - fr).tdiv ev := Int.tdiv_nonneg (by omega) (by omega)
      omega
  · omega
def winsErr (t : Tms) (h : Int) : Int := if !tmsOK t then 2 else if !tickOK h then 9 else if 256 < countS t.fr t.ev h then 3 else 0
def winsS (t : Tms) (h : Int) : List Wn := if winsErr t h = 0 then joinN (winA t) (countS t.fr t.ev h).toNat else []
theorem joinN_congr {w v : Nat → Wn} : ∀ (n : Nat), (∀ i, i < n → w i = v i) → joinN w n = joinN v n
  | 0, _ => rfl
  | n + 1, h => by simp only [joinN, joinN_congr n fun i hi => h i (by omega), h n (by omega)]
theorem joinStep_set {xs : List Wn} {w : Wn} (hn : 0 < xs.length) (h : w.fr ≤ (xs.getD (xs.length - 1) ⟨0, 0⟩).to) :
    joinStep xs w = xs.set (xs.length - 1) ⟨(xs.getD (xs.length - 1) ⟨0, 0⟩).fr, max (xs.getD (xs.length - 1) ⟨0, 0⟩).to w.to⟩ := by
  unfold joinStep
  rw [if_pos ⟨hn, h⟩]
theorem joinStep_add {xs : List Wn} {w : Wn} (h : ¬ (0 < xs.length ∧ w.fr ≤ (xs.getD (xs.length - 1) ⟨0, 0⟩).to)) : joinStep xs w = xs ++ [w] := by
  unfold joinStep
  rw [if_neg h]
theorem wn_two (xs : List Wn) : ∀ x ∈ xs.map cWn, x.length = 2 := fun x hx => by
  obtain ⟨y, _, rfl⟩ := List.mem_map.1 hx
  rfl
end Go.Ab
namespace Go.Proofs.YtmfolelgdpkkoaaGreatDoor
open Go Go.Ab
theorem m_tick_Count (G : GlP) (a b c : Int) : Meets Pg G F_tick_Count [.int .i64 a, .int .i64 b, .int .i64 c] [] (.int .i64 (countS a b c)) [] := by
  refine meets_pure (F := fe_tick_Count) hTh hMx func_tick_Count rfl call_tick_Count rfl rfl rfl ?_
  conv => whnf
  refine CallTo.fn (m_tick_Check G _) ?_
  conv => whnf
  cases ha : tickOK a
  · conv => whnf
    exact Fin.one hTh rfl (by simp [getT, ofValue, countS, ha]) rfl
  conv => whnf
  refine CallTo.fn (m_tick_Check G _) ?_
  conv => whnf
  cases hb : tickOK b
  · conv => whnf
    exact Fin.one hTh rfl (by simp [getT, ofValue, countS, hb]) rfl
  conv => whnf
  refine CallTo.fn (m_tick_Check G _) ?_
  conv => whnf
  cases hc : tickOK c
  · conv => whnf
    exact Fin.one hTh rfl (by simp [getT, ofValue, countS, hc]) rfl
  conv => whnf
  refine cond_split (fun h1 => ?_) (fun h1 => ?_)
  · conv => whnf
    exact Fin.one hTh rfl (by simp at h1; simp [getT, ofValue, countS, ha, hb, hc]; intro h; omega) rfl
  conv => whnf
  have h1' : a ≤ c := by simpa using h1
  have ea := ha
  have eb := hb
  have ec := hc
  simp [tickOK] at ea eb ec
  refine cond_split (fun h2 => ?_) (fun h2 => ?_)
  · conv => whnf
    exact Fin.one hTh rfl (by simp at h2; subst h2; simp [getT, ofValue, countS, ha, hb, hc, h1']) rfl
  conv => whnf
  have h2' : b ≠ 0 := by simpa using h2
  have hd : 0 ≤ (c - a).tdiv b ∧ (c - a).tdiv b ≤ c - a := ⟨Int.tdiv_nonneg (by omega) (by omega), by
    rw [Int.tdiv_eq_ediv_of_nonneg (by omega)]
    exact Int.ediv_le_self _ (by omega)⟩
  refine WrapTo.i64 (by omega) ?_
  conv => whnf
  refine OpTo.quo rfl rfl rfl h2' (IntWalk.i64_in _ (by omega)) ?_
  conv => whnf
  refine WrapTo.i64 (by omega) ?_
  conv => whnf
  exact Fin.one hTh rfl (by simp [getT, countS, ha, hb, hc, h1', h2']) rfl
theorem m_ref01_Count (G : GlP) (a b c : Int) : Meets Pg G F_ref01_Count [.int .i64 a, .int .i64 b, .int .i64 c] [] (.int .i64 (countS a b c)) [] := by
  refine meets_pure (F := fe_ref01_Count) hTh hMx func_ref01_Count rfl call_ref01_Count rfl rfl rfl ?_
  conv => whnf
  refine CallTo.fn (m_ref01_Check G _) ?_
  conv => whnf
  cases ha : tickOK a
  · conv => whnf
    exact Fin.one hTh rfl (by simp [getT, ofValue, countS, ha]) rfl
  conv => whnf
  refine CallTo.fn (m_ref01_Check G _) ?_
  conv => whnf
  cases hb : tickOK b
  · conv => whnf
    exact Fin.one hTh rfl (by simp [getT, ofValue, countS, hb]) rfl
  conv => whnf
  refine CallTo.fn (m_ref01_Check G _) ?_
  conv => whnf
  cases hc : tickOK c
  · conv => whnf
    exact Fin.one hTh rfl (by simp [getT, ofValue, countS, hc]) rfl
  conv => whnf
  refine cond_split (fun h1 => ?_) (fun h1 => ?_)
  · conv => whnf
    exact Fin.one hTh rfl (by simp at h1; simp [getT, ofValue, countS, ha, hb, hc]; intro h; omega) rfl
  conv => whnf
  have h1' : a ≤ c := by simpa using h1
  have ea := ha
  have eb := hb
  have ec := hc
  simp [tickOK] at ea eb ec
  refine cond_split (fun h2 => ?_) (fun h2 => ?_)
  · conv => whnf
    exact Fin.one hTh rfl (by simp at h2; subst h2; simp [getT, ofValue, countS, ha, hb, hc, h1']) rfl
  conv => whnf
  have h2' : b ≠ 0 := by simpa using h2
  have hd : 0 ≤ (c - a).tdiv b ∧ (c - a).tdiv b ≤ c - a := ⟨Int.tdiv_nonneg (by omega) (by omega), by
    rw [Int.tdiv_eq_ediv_of_nonneg (by omega)]
    exact Int.ediv_le_self _ (by omega)⟩
  refine WrapTo.i64 (by omega) ?_
  conv => whnf
  refine OpTo.quo rfl rfl rfl h2' (IntWalk.i64_in _ (by omega)) ?_
  conv => whnf
  refine WrapTo.i64 (by omega) ?_
  conv => whnf
  exact Fin.one hTh rfl (by simp [getT, countS, ha, hb, hc, h1', h2']) rfl
theorem m_window_Check (G : GlP) (t : Tms) : Meets Pg G F_window_Check [.agg (cTms t)] [] (.int .i64 (if tmsOK t then 0 else 2)) [] := by
  refine meets_pure (F := fe_window_Check) hTh hMx func_window_Check rfl call_window_Check rfl rfl rfl ?_
  conv => whnf
  refine CallTo.fn (m_tick_Check G _) ?_
  conv => whnf
  cases ha : tickOK t.fr
  · conv => whnf
    exact Fin.one hTh rfl (by simp [getT, ofValue, tmsOK, ha]) rfl
  conv => whnf
  iterate 8 (all_goals (try (refine cond_split (fun _ => ?_) (fun _ => ?_) <;> (conv => whnf))))
  all_goals (refine Fin.one hTh rfl ?_ rfl)
  all_goals (simp_all [getT, ofValue, tmsOK] <;> omega)
theorem m_ref08_Check (G : GlP) (t : Tms) : Meets Pg G F_ref08_Check [.agg (cTms t)] [] (.int .i64 (if tmsOK t then 0 else 2)) [] := by
  refine meets_pure (F := fe_ref08_Check) hTh hMx func_ref08_Check rfl call_ref08_Check rfl rfl rfl ?_
  conv => whnf
  refine CallTo.fn (m_ref01_Check G _) ?_
  conv => whnf
  cases ha : tickOK t.fr
  · conv => whnf
    exact Fin.one hTh rfl (by simp [getT, ofValue, tmsOK, ha]) rfl
  conv => whnf
  iterate 8 (all_goals (try (refine cond_split (fun _ => ?_) (fun _ => ?_) <;> (conv => whnf))))
  all_goals (refine Fin.one hTh rfl ?_ rfl)
  all_goals (simp_all [getT, ofValue, tmsOK] <;> omega)
theorem m_ref08_joined (G : GlP) (ws : List Wn) (hl : ws.length ≤ 4096) : Meets Pg G F_ref08_joined [.lst 2 (ws.map cWn)] [] (.lst 2 ((joinN (fun i => ws.getD i ⟨0, 0⟩) ws.length).map cWn)) [] := by
  refine meets_pure (F := fe_ref08_joined) hTh hMx func_ref08_joined rfl call_ref08_joined rfl rfl rfl ?_
  conv => whnf
  refine LoopOK.conv (Conv.empOwn 3 rfl (F_ref08_joined, 53) rfl T_api_Win 2) ?_
  refine LoopOK.weak _ _ ?_ ?_ ?_ (LoopOK.ind (fun i : Nat => ws.length - i) (fun i => [(0, .lst 2 (ws.map cWn)), (3, .own (F_ref08_joined, 53) (joinN (fun i => ws.getD i ⟨0, 0⟩) i).length), (4, .int .i64 i)])
    (fun i => [((F_ref08_joined, 53), .row T_api_Win 2 ((joinN (fun i => ws.getD i ⟨0, 0⟩) i).map cWn))]) (fun i => i ≤ ws.length) ?_ 0 (by omega))
  · exact ⟨rfl, rfl, rfl, trivial⟩
  · exact ⟨rfl, trivial⟩
  · rfl
  intro i hi IH
  generalize hxs : joinN (fun i => ws.getD i ⟨0, 0⟩) i = xs
  have hxl : xs.length ≤ i := by rw [← hxs]; exact joinN_le _ i
  have hnext : joinN (fun i => ws.getD i ⟨0, 0⟩) (i + 1) = joinStep xs (ws.getD i ⟨0, 0⟩) := by rw [← hxs]; rfl
  have hlw : (xs.map cWn).length = xs.length := List.length_map _
  have hall := wn_two xs
  refine LoopOK.round hTh hMx ?_
  conv => whnf
  refine cond_split (fun h => ?_) (fun hz => ?_)
  · have hlt := lt_of_dec h
    conv => whnf
    refine cond_split (fun h1 => ?_) (fun h1 => ?_)
    · have hn : 0 < xs.length := by simpa using h1
      have hat : (xs.map cWn)[xs.length - 1]? = some (cWn (xs.getD (xs.length - 1) ⟨0, 0⟩)) := map_atD cWn _ (by omega)
      conv => whnf
      refine IndexTo.atD cWn ⟨0, 0⟩ (by omega) (by omega) ?_
      conv => whnf
      refine WrapTo.i64 (by omega) ?_
      conv => whnf
      refine OpTo.rowAt hTh rfl rfl rfl rfl rfl rfl rfl hlw rfl (by omega) (by omega) ?_
      conv => whnf
      refine OpTo.rowField hTh rfl rfl rfl rfl hlw ?_
      conv => whnf
      refine OpTo.rowLoad hTh (xs.length - 1) 1 rfl rfl rfl rfl hlw hall hat (by dsimp only; omega) (by decide) (by decide) rfl ?_
      conv => whnf
      refine ⟨by kernel_rfl, ?_⟩
      conv => whnf
      refine cond_split (fun h2 => ?_) (fun h2 => ?_)
      · have hj := joinStep_set (w := ws.getD i ⟨0, 0⟩) hn (of_decide_eq_true h2)
        conv => whnf
        refine WrapTo.i64 (by omega) ?_
        conv => whnf
        refine WrapTo.i64 (by omega) ?_
        conv => whnf
        refine OpTo.rowAt hTh rfl rfl rfl rfl rfl rfl rfl hlw rfl (by omega) (by omega) ?_
        conv => whnf
        refine OpTo.rowField hTh rfl rfl rfl rfl hlw ?_
        conv => whnf
        refine OpTo.rowLoad hTh (xs.length - 1) 1 rfl rfl rfl rfl hlw hall hat (by dsimp only; omega) (by decide) (by decide) rfl ?_
        conv => whnf
        refine IndexTo.atD cWn ⟨0, 0⟩ (by omega) (by omega) ?_
        conv => whnf
        refine OpTo.max rfl rfl rfl ?_
        conv => whnf
        refine OpTo.rowAt hTh rfl rfl rfl rfl rfl rfl rfl hlw rfl (by omega) (by omega) ?_
        conv => whnf
        refine OpTo.rowField hTh rfl rfl rfl rfl hlw ?_
        conv => whnf
        refine OpTo.rowStore hTh (xs.length - 1) 1 ((joinStep xs (ws.getD i ⟨0, 0⟩)).map cWn) rfl rfl rfl rfl hlw rfl rfl hall hat (by dsimp only; omega) (by decide) (by rw [hj, List.map_set]; rfl) ?_
        conv => whnf
        refine ⟨by kernel_rfl, ?_⟩
        conv => whnf
        refine WrapTo.i64 (by omega) ?_
        conv => whnf
        refine LoopOK.weak _ _ ?_ ?_ ?_ (IH (i + 1) (by omega) (by omega))
        · exact ⟨rfl, own_len (by rw [hnext, hj, List.length_set]), rfl, trivial⟩
        · exact ⟨row_to hnext.symm rfl, trivial⟩
        · exact chk_mk ⟨rfl, rfl, rfl, trivial⟩ ⟨cloX_row (l := jLr) (e := 0) (sz := 2) (Clo.map fWn _), trivial⟩ rfl
      · have hj := joinStep_add (xs := xs) (w := ws.getD i ⟨0, 0⟩) (fun hh => of_decide_eq_false h2 hh.2)
        conv => whnf
        refine IndexTo.atD cWn ⟨0, 0⟩ (by omega) (by omega) ?_
        conv => whnf
        refine ⟨hlw, by simp; omega, ?_⟩
        conv => whnf
        refine WrapTo.i64 (by omega) ?_
        conv => whnf
        refine LoopOK.weak _ _ ?_ ?_ ?_ (IH (i + 1) (by omega) (by omega))
        · exact ⟨rfl, own_len (by rw [hnext, hj, List.length_append]; rfl), rfl, trivial⟩
        · exact ⟨congrArg (fun z => some (ABox.row T_api_Win 2 z)) (by rw [hnext, hj, List.map_append]; rfl), trivial⟩
        · exact chk_mk ⟨rfl, rfl, rfl, trivial⟩ ⟨cloX_row (l := jLr) (e := 0) (sz := 2) (Clo.map fWn _), trivial⟩ rfl
    · have hn : ¬ 0 < xs.length := by simpa using h1
      have hj := joinStep_add (xs := xs) (w := ws.getD i ⟨0, 0⟩) (fun hh => hn hh.1)
      conv => whnf
      refine ⟨by kernel_rfl, ?_⟩
      conv => whnf
      refine IndexTo.atD cWn ⟨0, 0⟩ (by omega) (by omega) ?_
      conv => whnf
      refine ⟨hlw, by simp; omega, ?_⟩
      conv => whnf
      refine WrapTo.i64 (by omega) ?_
      conv => whnf
      refine LoopOK.weak _ _ ?_ ?_ ?_ (IH (i + 1) (by omega) (by omega))
      · exact ⟨rfl, own_len (by rw [hnext, hj, List.length_append]; rfl), rfl, trivial⟩
      · exact ⟨congrArg (fun z => some (ABox.row T_api_Win 2 z)) (by rw [hnext, hj, List.map_append]; rfl), trivial⟩
      · exact chk_mk ⟨rfl, rfl, rfl, trivial⟩ ⟨cloX_row (l := jLr) (e := 0) (sz := 2) (Clo.map fWn _), trivial⟩ rfl
  · have hge := le_of_dec hz
    have : i = ws.length := by omega
    subst this
    subst hxs
    conv => whnf
    exact Fin.own hTh rfl rfl rfl hlw (Clo.map fWn _)
theorem fin_wins {G : GlP} {F : FE} {fn : Func} {T : TL} {L : BL} (t : Tms) (h : Int) (hTh' : TTok Pg F.Θ) (e : Int) (he : winsErr t h = e) (h0 : e ≠ 0) (hres : fn.results.toList = [.tmp 4, .tmp 5]) (h4 : getT T 4 = .emp) (h5 : getT T 5 = .int .i64 e) :
    Fin Pg G F [] fn (.tup [.lst 2 ((winsS t h).map cWn), .int .i64 (winsErr t h)]) [] T L := by
  have e2 : winsS t h = [] := by unfold winsS; rw [he, if_neg h0]
  rw [he, e2]
  refine Fin.less [] [(4, .lst 2 []), (5, .int .i64 e)] [] ⟨by rw [h4]; exact .emp 2, by rw [h5]; exact .refl _, trivial⟩ trivial trivial rfl ?_
  exact Fin.pure hTh' [.lst 2 [], .int .i64 e] (by rw [hres]; rfl) rfl rfl
theorem m_window_Wins (G : GlP) (t : Tms) (h : Int) : Meets Pg G F_window_Wins [.agg (cTms t), .int .i64 h] [] (.tup [.lst 2 ((winsS t h).map cWn), .int .i64 (winsErr t h)]) [] := by
  obtain ⟨n, hn⟩ : ∃ n : Nat, countS t.fr t.ev h = n := ⟨_, (Int.toNat_of_nonneg (countS_bd _ _ _).1).symm⟩
  have hc := m_tick_Count G t.fr t.ev h
  rw [hn] at hc
  refine meets_pure (F := fe_window_Wins) hTh hMx func_window_Wins rfl call_window_Wins rfl rfl rfl ?_
  conv => whnf
  refine CallTo.fn (m_window_Check G t) ?_
  conv => whnf
  cases ht : tmsOK t
  · conv => whnf
    exact fin_wins t h hTh 2 (by simp [winsErr, ht]) (by decide) rfl rfl rfl
  conv => whnf
  refine CallTo.fn (m_tick_Check G h) ?_
  conv => whnf
  cases hh : tickOK h
  · conv => whnf
    exact fin_wins t h hTh 9 (by simp [winsErr, ht, hh]) (by decide) rfl rfl rfl
  conv => whnf
  refine CallTo.fn (hc) ?_
  conv => whnf
  refine cond_split (fun h1 => ?_) (fun h1 => ?_)
  · conv => whnf
    exact fin_wins t h hTh 3 (by simp at h1; simp [winsErr, ht, hh, hn]; omega) (by decide) rfl rfl rfl
  have h1' : n ≤ 256 := by simp at h1; omega
  conv => whnf
  refine CallTo.fn (m_window_each G t n) ?_
  conv => whnf
  refine CallTo.fn (m_window_joined G F_window_each_1 [] _ n (winA t) (m_window_each_1 G t n ht h1') rfl rfl (by omega)) ?_
  conv => whnf
  have e : winsErr t h = 0 := by simp [winsErr, ht, hh, hn]; omega
  have e2 : winsS t h = joinN (winA t) n := by simp [winsS, e, hn]
  rw [e, e2]
  exact Fin.pure hTh [.lst 2 ((joinN (winA t) n).map cWn), .int .i64 0] rfl rfl rfl
theorem m_ref08_Wins (G : GlP) (t : Tms) (h : Int) : Meets Pg G F_ref08_Wins [.agg (cTms t), .int .i64 h] [] (.tup [.lst 2 ((winsS t h).map cWn), .int .i64 (winsErr t h)]) [] := by
  obtain ⟨n, hn⟩ : ∃ n : Nat, countS t.fr t.ev h = n := ⟨_, (Int.toNat_of_nonneg (countS_bd _ _ _).1).symm⟩
  have hc := m_ref01_Count G t.fr t.ev h
  rw [hn] at hc
  refine meets_pure (F := { fe_ref08_Wins with stops := [15] }) hTh hMx func_ref08_Wins rfl call_ref08_Wins rfl rfl rfl ?_
  conv => whnf
  refine CallTo.fn (m_ref08_Check G t) ?_
  conv => whnf
  cases ht : tmsOK t
  · conv => whnf
    exact fin_wins t h hTh 2 (by simp [winsErr, ht]) (by decide) rfl rfl rfl
  conv => whnf
  refine CallTo.fn (m_ref01_Check G h) ?_
  conv => whnf
  cases hh : tickOK h
  · conv => whnf
    exact fin_wins t h hTh 9 (by simp [winsErr, ht, hh]) (by decide) rfl rfl rfl
  conv => whnf
  refine CallTo.fn (hc) ?_
  conv => whnf
  refine cond_split (fun h1 => ?_) (fun h1 => ?_)
  · conv => whnf
    exact fin_wins t h hTh 3 (by simp at h1; simp [winsErr, ht, hh, hn]; omega) (by decide) rfl rfl rfl
  have h1' : n ≤ 256 := by simp at h1; omega
  have hb := tmsOK_spec ht
  conv => whnf
  refine LoopOK.conv (Conv.empOwn 8 rfl (F_ref08_Wins, 48) rfl T_api_Win 2) ?_
  refine LoopOK.weak _ _ ?_ ?_ ?_ (LoopOK.ind (fun i : Nat => n - i) (fun i => [(2, .ref (F_ref08_Wins, 2) 0), (7, .int .i64 n), (8, .own (F_ref08_Wins, 48) i), (9, .int .i64 i)])
    (fun i => [((F_ref08_Wins, 2), .cells T_api_Times (cTms t)), ((F_ref08_Wins, 48), .row T_api_Win 2 (((List.range i).map (winA t)).map cWn))]) (fun i => i ≤ n) ?_ 0 (by omega))
  · exact ⟨rfl, rfl, rfl, rfl, trivial⟩
  · exact ⟨rfl, rfl, trivial⟩
  · rfl
  intro i hi IH
  refine LoopOK.round hTh hMx ?_
  conv => whnf
  refine cond_split (fun h2 => ?_) (fun hz => ?_)
  · have hlt : i < n := by simpa using h2
    have hmb := mul_bd (a := (i : Int)) (A := 256) (by omega) (by omega) hb.2.2.2.2.1 hb.2.2.2.2.2
    conv => whnf
    refine WrapTo.i64 (by omega) ?_
    conv => whnf
    refine WrapTo.i64 (by omega) ?_
    conv => whnf
    refine WrapTo.i64 (by omega) ?_
    conv => whnf
    refine ⟨by simp only [List.length_map, List.length_range], by simp only [List.length_cons, List.length_nil]; omega, ?_⟩
    conv => whnf
    refine WrapTo.i64 (by omega) ?_
    conv => whnf
    refine LoopOK.weak _ _ ?_ ?_ ?_ (IH (i + 1) (by omega) (by omega))
    · exact ⟨rfl, rfl, rfl, rfl, trivial⟩
    · exact ⟨rfl, congrArg (fun z => some (ABox.row T_api_Win 2 z)) map_range_succ, trivial⟩
    · exact chk_mk ⟨rfl, rfl, rfl, rfl, trivial⟩ ⟨rfl, cloX_row (l := jLr) (e := 0) (sz := 2) (Clo.map fWn _), trivial⟩ rfl
  · have : i = n := by simp at hz; omega
    subst this
    have hlen : ((List.range i).map (winA t)).length = i := by simp
    have e : winsErr t h = 0 := by simp [winsErr, ht, hh, hn]; omega
    have e2 : winsS t h = joinN (fun k => ((List.range i).map (winA t)).getD k ⟨0, 0⟩) ((List.range i).map (winA t)).length := by
      simp only [winsS, e, hn, if_true, hlen]
      refine joinN_congr _ fun k hk => ?_
      simp at hk
      simp [List.getD, hk]
    rw [e, e2]
    conv => whnf
    refine CodeTo.less [((F_ref08_Wins, 48), .row T_api_Win 2 (((List.range i).map (winA t)).map cWn))] [(8, .lst 2 (((List.range i).map (winA t)).map cWn))] [] ⟨.own List.mem_cons_self (by simp), trivial⟩ trivial ⟨rfl, Clo.map fWn _, rfl, trivial⟩ rfl ?_
    refine CodeTo.go hTh hMx ?_
    conv => whnf
    refine CallTo.fn (m_ref08_joined G _ (by simp; omega)) ?_
    conv => whnf
    exact Fin.pure hTh [.lst 2 ((joinN (fun k => ((List.range i).map (winA t)).getD k ⟨0, 0⟩) ((List.range i).map (winA t)).length).map cWn), .int .i64 0] rfl rfl rfl
end Go.Proofs.YtmfolelgdpkkoaaGreatDoor
/- Tables of names: a new one; a name added. -/
set_option linter.unusedVariables false
set_option linter.unusedSimpArgs false
set_option maxRecDepth 10000
namespace Go.Ab
def entA (xs : List Str) : List (AV × AV) := xs.zipIdx.map fun p => (AV.str p.1, AV.int .i64 p.2)
theorem keyIdx_ent (s : Str) : ∀ (xs : List Str) (j k : Nat), keyIdx s ((xs.zipIdx j).map fun p => (AV.str p.1, AV.int .i64 p.2)) k = some ((xs.findIdx? fun t => s == t).map (· + k))
  | [], j, k => rfl
  | x :: xs, j, k => by
    simp only [List.zipIdx_cons, List.map_cons, keyIdx, keyIdx_ent s xs (j + 1) (k + 1), List.findIdx?_cons]
    cases h : (s == x) with
    | true => simp
    | false =>
      simp only [cond_false]
      cases List.findIdx? (fun t => s == t) xs with
      | none => rfl
      | some i => simp; omega
theorem keyIdx_no {s : Str} {xs : List Str} (h : s ∉ xs) : keyIdx s (entA xs) 0 = some none := by
  unfold entA
  rw [keyIdx_ent s xs 0 0, List.findIdx?_eq_none_iff.2 (fun x hx => by simp; intro e; subst e; exact h hx)]
  rfl
theorem keyIdx_yes {s : Str} {xs : List Str} (h : s ∈ xs) : ∃ i, i < xs.length ∧ keyIdx s (entA xs) 0 = some (some i) := by
  unfold entA
  rw [keyIdx_ent s xs 0 0]
  cases hf : xs.findIdx? (fun t => s == t) with
  | none =>
    rw [List.findIdx?_eq_none_iff] at hf
    simpa using hf s h
  | some i =>
    rw [List.findIdx?_eq_some_iff_getElem] at hf
    exact ⟨i, hf.1, by simp⟩
theorem entA_len (xs : List Str) : (entA xs).length = xs.length := by simp [entA]
theorem entA_get {xs : List Str} {i : Nat} (h : i < xs.length) : (entA xs)[i]? = some (AV.str xs[i], AV.int .i64 i) := by
  simp [entA, h]
theorem entA_snoc (xs : List Str) (s : Str) : entA (xs ++ [s]) = entA xs ++ [(AV.str s, AV.int .i64 xs.length)] := by
  simp [entA, List.zipIdx_append]
theorem entA_put (xs : List Str) (s : Str) (z : AV) : (entA xs ++ [(AV.str s, z)]).set xs.length (AV.str s, AV.int .i64 xs.length) = entA (xs ++ [s]) := by
  rw [entA_snoc, ← entA_len xs]
  simp [List.set_append]
theorem entA_clo (xs : List Str) : cloX (fun _ => false) (.dmap (entA xs)) = true := by
  simp only [cloX, Bool.and_eq_true, entA, List.map_map]
  constructor
  · induction xs.zipIdx with
    | nil => rfl
    | cons p l ih => simpa [cloL, cloB] using ih
  · induction xs.zipIdx with
    | nil => rfl
    | cons p l ih => simpa [cloL, cloB] using ih
theorem entA_cloD {D : Lbl → Bool} (xs : List Str) : cloX D (.dmap (entA xs)) = true := by
  have := entA_clo xs
  simp only [cloX, Bool.and_eq_true] at this ⊢
  exact ⟨cloL_mono (fun _ h => by cases h) _ this.1, cloL_mono (fun _ h => by cases h) _ this.2⟩
theorem CallTo.fnNew {P : Program} {G : GlP} {f : FuncId} {args : List AV} {L gp : BL} {K : AV → BL → Nat → Prop} {r : AV} (h : Meets P G f args [] r gp) (hn : NoneAll L gp) (hK : K r gp 2) : CallTo P G (.fn (.func f) [] []) args L K :=
  ⟨r, [], gp, 2, MeetsV.of (first := []) (cap := []) (by simpa using h), fun l b hb => by simp [getL] at hb, fun l b hb => .inr (by
    have : ∀ {gp : BL}, NoneAll L gp → ∀ l b, getL gp l = some b → getL L l = none := by
      intro gp
      induction gp with
      | nil => intro _ l b hb; simp [getL] at hb
      | cons p q ih =>
        obtain ⟨k, o⟩ := p
        rintro ⟨h1, h2⟩ l b hb
        simp only [getL] at hb
        cases hk : lbeq k l with
        | true => rw [← lbeq_iff.1 hk]; exact h1
        | false => rw [hk] at hb; exact ih h2 l b hb
    exact this hn l b hb), Cls.news, hK⟩
/-- A call that gives its boxes back, under the same labels. -/
theorem meets_upd {P : Program} {G : GlP} {F : FE} (hΘ : TTok P F.Θ) (hm : P.follows .mixedOrders = true) {f : FuncId} {fn : Func} {c : Code} {args : List AV} {R : BL} {r : AV} {gp : BL}
    (hf : P.funcs[f]? = some fn) (hb : fn.body = some c) (hcall : ∀ (a : Array Value) (w : World), (callFunc f a).run P w = .ok (.enter f a) w) (hN : F.N = args.length + (fn.ntmps - args.length))
    (hk : ∀ l, keyB R l = keyB gp l) (hca : cloL (keyB R) args = true) (hcR : AllL (keyB R) R) (hcr : cloB (keyB gp) r = true) (hcg : AllL (keyB gp) gp)
    (h : acode P G F R c (argT 0 args) R (EndK P G F R fn r gp)) (hro : F.ro = none := by rfl) : Meets P G f args R r gp := by
  have hg := getL_sup (gp := gp) (L := R) fun l h => by rw [← hk l]; exact h
  have e : keyB (gp ++ R) = keyB gp := funext fun l => by simp only [keyB, hg]
  exact meets_intro hΘ hm hf hb hcall hN hca (fun l o h => List.all_eq_true.1 hcR.spec _ (getL_mem h)) (by rw [e]; exact hcr) (fun l o h => by rw [hg] at h; rw [e]; exact List.all_eq_true.1 hcg.spec _ (getL_mem h)) h hro
theorem Fin.upd {P : Program} {G : GlP} {F : FE} (hΘ : TTok P F.Θ) {R : BL} {fn : Func} {r : AV} {gp : BL} {T : TL} {L : BL} (l : List AV) (hr : resA F.Θ T L fn.results.toList = some l) (hv : resV l = r) (hk : ∀ l, keyB R l = keyB gp l)
    (hl : SubL gp L) (hc : cloB (keyB gp) r = true) (hx : AllL (keyB gp) gp) : Fin P G F R fn r gp T L := by
  have hg := getL_sup (gp := gp) (L := R) fun l h => by rw [← hk l]; exact h
  have e : keyB (gp ++ R) = keyB gp := funext fun l => by simp only [keyB, hg]
  exact Fin.done hΘ l hr hv (fun l o h => by rw [hg] at h; exact hl.spec l o h) (by rw [e]; exact hc) (fun l o h => by rw [hg] at h; rw [e]; exact List.all_eq_true.1 hx.spec _ (getL_mem h))
end Go.Ab
namespace Go.Proofs.YtmfolelgdpkkoaaGreatDoor
open Go Go.Ab
def tbB (xs : List Str) : BL := [((F_intern_New, 12), .cells T_intern_Table [.own (F_intern_New, 1000) xs.length, .mp (F_intern_New, 9)]), ((F_intern_New, 1000), .row T_string 1 (xs.map cS)), ((F_intern_New, 9), .dmap (entA xs))]
theorem tbClo (xs : List Str) : AllL (keyB (tbB xs)) (tbB xs) := ⟨rfl, cloX_row (l := jLr) (e := 0) (sz := 1) (Clo.map fS _), entA_cloD _, trivial⟩
theorem m_intern_New (G : GlP) : Meets Pg G F_intern_New [.emp] [] (.tup [.ref (F_intern_New, 12) 0, .int .i64 0]) [((F_intern_New, 12), .cells T_intern_Table [.emp, .mp (F_intern_New, 9)]), ((F_intern_New, 9), .dmap [])] := by
  refine meets_mk (F := fe_intern_New) hTh hMx func_intern_New rfl call_intern_New rfl rfl rfl rfl rfl ?_
  conv => whnf
  refine OpTo.mkMap (F_intern_New, 9) rfl rfl ?_
  conv => whnf
  refine LoopOK.round hTh hMx ?_
  conv => whnf
  exact Fin.give hTh [.ref (F_intern_New, 12) 0, .int .i64 0] rfl rfl ⟨rfl, rfl, trivial⟩ rfl rfl
def addErr (xs : List Str) (s : Str) : Int := if !nameOK s then 7 else if s ∈ xs then 6 else if 4096 ≤ xs.length then 3 else 0
def addNext (xs : List Str) (s : Str) : List Str := if addErr xs s = 0 then xs ++ [s] else xs
def addNum (xs : List Str) (s : Str) : Int := if addErr xs s = 0 then xs.length else 0
theorem tbKey (xs ys : List Str) (l : Lbl) : keyB (tbB xs) l = keyB (tbB ys) l := by simp only [tbB, keyB_cons]
theorem add_fails {G : GlP} {F : FE} {fn : Func} {T : TL} {L : BL} (hΘ : TTok Pg F.Θ) (xs : List Str) (s : Str) (e : Int) (hres : fn.results.toList = [.tmp 4, .tmp 5]) (he : addErr xs s = e) (h0 : e ≠ 0) (hL : SubL (tbB xs) L) (h4 : getT T 4 = .int .i64 0) (h5 : getT T 5 = .int .i64 e) :
    Fin Pg G F (tbB xs) fn (.tup [.int .i64 (addNum xs s), .int .i64 (addErr xs s)]) (tbB (addNext xs s)) T L := by
  have e1 : addNum xs s = 0 := by unfold addNum; rw [he, if_neg h0]
  have e2 : addNext xs s = xs := by unfold addNext; rw [he, if_neg h0]
  rw [e1, e2, he]
  exact Fin.upd hΘ [.int .i64 0, .int .i64 e] (by rw [hres, ← h4, ← h5]; rfl) rfl (fun _ => rfl) hL rfl (tbClo xs)
theorem m_intern_Add (G : GlP) (hR : Res G) (xs : List Str) (s : Str) (hl : s.length ≤ 9223372036854775807) (hx : xs.length ≤ 4096) :
    Meets Pg G F_intern_Table_Add [.ref (F_intern_New, 12) 0, .str s] (tbB xs) (.tup [.int .i64 (addNum xs s), .int .i64 (addErr xs s)]) (tbB (addNext xs s)) := by
  refine meets_upd (F := fe_intern_Table_Add) hTh hMx func_intern_Table_Add rfl call_intern_Table_Add rfl (tbKey _ _) rfl (tbClo xs) rfl (tbClo _) ?_
  have hlw : (xs.map cS).length = xs.length := List.length_map _
  conv => whnf
  refine OpTo.eqP hTh rfl rfl rfl rfl rfl ?_
  conv => whnf
  by_cases hm : s ∈ xs
  · obtain ⟨i, hi, hk⟩ := keyIdx_yes hm
    refine OpTo.look hTh rfl rfl rfl rfl rfl rfl rfl rfl rfl hk ⟨_, entA_get hi, rfl⟩ ?_
    conv => whnf
    refine CallTo.fn (m_lex_Name G hR s hl) ?_
    conv => whnf
    cases hn : nameOK s
    · conv => whnf
      exact add_fails hTh xs s 7 rfl (by simp [addErr, hn]) (by decide) ⟨rfl, rfl, rfl, trivial⟩ rfl rfl
    conv => whnf
    exact add_fails hTh xs s 6 rfl (by simp [addErr, hn, hm]) (by decide) ⟨rfl, rfl, rfl, trivial⟩ rfl rfl
  · have hk := keyIdx_no hm
    refine OpTo.look hTh rfl rfl rfl rfl rfl rfl rfl rfl rfl hk rfl ?_
    conv => whnf
    refine CallTo.fn (m_lex_Name G hR s hl) ?_
    conv => whnf
    cases hn : nameOK s
    · conv => whnf
      exact add_fails hTh xs s 7 rfl (by simp [addErr, hn]) (by decide) ⟨rfl, rfl, rfl, trivial⟩ rfl rfl
    conv => whnf
    refine cond_split (fun h => ?_) (fun h => ?_)
    · conv => whnf
      exact add_fails hTh xs s 3 rfl (by simp at h; simp [addErr, hn, hm]; omega) (by decide) ⟨rfl, rfl, rfl, trivial⟩ rfl rfl
    have he : addErr xs s = 0 := by simp at h; simp [addErr, hn, hm]; omega
    have e1 : addNum xs s = xs.length := by unfold addNum; rw [he, if_pos rfl]
    have e2 : addNext xs s = xs ++ [s] := by unfold addNext; rw [he, if_pos rfl]
    rw [e1, e2, he]
    conv => whnf
    refine ⟨hlw, by simp; omega, ?_⟩
    conv => whnf
    refine OpTo.entry hTh rfl rfl rfl rfl rfl rfl rfl rfl rfl hk ?_
    conv => whnf
    refine OpTo.putE (i := xs.length) rfl rfl rfl (by rw [entA_len]; rfl) rfl (p := (AV.str s, AV.int .i64 0)) ?_ (entA_put xs s _).symm ?_
    · rw [← entA_len xs, List.getElem?_append_right (Nat.le_refl _), Nat.sub_self]
      rfl
    conv => whnf
    refine ⟨by kernel_rfl, ?_⟩
    conv => whnf
    refine WrapTo.i64 (by simp; omega) ?_
    conv => whnf
    exact Fin.upd hTh [.int .i64 xs.length, .int .i64 0] (by simp; rfl) rfl (tbKey _ _) ⟨congrArg (fun k => some (ABox.cells T_intern_Table [.own (F_intern_New, 1000) k, .mp (F_intern_New, 9)])) (by simp), congrArg (fun z => some (ABox.row T_string 1 z)) (by simp [cS]), rfl, trivial⟩ rfl (tbClo _)
end Go.Proofs.YtmfolelgdpkkoaaGreatDoor
/- Worlds: what is wrong with a thing, by the program and by the document. -/
set_option linter.unusedVariables false
set_option linter.unusedSimpArgs false
set_option maxRecDepth 10000
namespace Go.Ab
def wayE (a b n : Int) : Int := if a < 0 ∨ b < 0 then 5 else if a = b ∨ n < 1 then 2 else 0
def pathE (p : PthO) : Int := wayE p.a p.b p.ln
def doorE (h : Int) (d : DorO) : Int := if wayE d.a d.b d.ln = 0 then winsErr d.tm h else wayE d.a d.b d.ln
def rideOdd (r : RteO) (k : Nat) : Bool := decide (r.rides.getD k 0 < 1) || (r.stops.getD k 0 == r.stops.getD (k + 1) 0)
def routeE (r : RteO) : Int := if r.stops.any (fun s => -1 == s) then 5 else if (List.range r.rides.length).any (rideOdd r) then 2 else 0
def tripE (t : TrpO) : Int := if t.route < 0 then 5 else if t.un < t.fr then 2 else 0
def hazE (h : Int) (x : HzdO) : Int := if x.on < 0 then 5 else winsErr x.tm h
/-- What is known of a route whose numbers may be -1. -/
structure RteNum (r : RteO) : Prop where
  low : ∀ s ∈ r.stops, -1 ≤ s
  len : r.rides.length + 1 = r.stops.length
  few : r.stops.length ≤ 65536
theorem any_range {p : Nat → Bool} {n i : Nat} (hi : i < n) (hp : p i = true) : (List.range n).any p = true := List.any_eq_true.2 ⟨i, List.mem_range.2 hi, hp⟩
theorem none_range {p : Nat → Bool} {n : Nat} (h : ∀ i, i < n → p i = false) : (List.range n).any p = false := List.any_eq_false.2 fun i hi => by simp [h i (List.mem_range.1 hi)]
end Go.Ab
namespace Go.Proofs.YtmfolelgdpkkoaaGreatDoor
open Go Go.Ab
theorem m_world_way (G : GlP) (a b n : Int) : Meets Pg G F_world_way [.int .i64 a, .int .i64 b, .int .i64 n] [] (.int .i64 (wayE a b n)) [] := by
  refine meets_pure (F := fe_world_way) hTh hMx func_world_way rfl call_world_way rfl rfl rfl ?_
  conv => whnf
  refine OpTo.min rfl rfl rfl ?_
  conv => whnf
  refine cond_split (fun h => ?_) (fun h => ?_)
  · conv => whnf
    exact Fin.one hTh rfl (by simp at h; simp [getT, ofValue, wayE]; intro h'; omega) rfl
  conv => whnf
  have h1 : ¬ (a < 0 ∨ b < 0) := by simp at h; omega
  refine cond_split (fun h2 => ?_) (fun h2 => ?_)
  · conv => whnf
    exact Fin.one hTh rfl (by simp at h2; simp [getT, ofValue, wayE, h1, h2]; omega) rfl
  conv => whnf
  have h2' : ¬ a = b := by simpa using h2
  refine cond_split (fun h3 => ?_) (fun h3 => ?_)
  · conv => whnf
    exact Fin.one hTh rfl (by simp at h3; simp [getT, ofValue, wayE, h1, h2']; omega) rfl
  conv => whnf
  exact Fin.one hTh rfl (by simp at h3; simp [getT, ofValue, wayE, h1, h2']; omega) rfl
theorem m_ref09_way (G : GlP) (a b n : Int) : Meets Pg G F_ref09_way [.int .i64 a, .int .i64 b, .int .i64 n] [] (.int .i64 (wayE a b n)) [] := by
  refine meets_pure (F := fe_ref09_way) hTh hMx func_ref09_way rfl call_ref09_way rfl rfl rfl ?_
  conv => whnf
  iterate 8 (all_goals (try (refine cond_split (fun _ => ?_) (fun _ => ?_) <;> (conv => whnf))))
  all_goals (refine Fin.one hTh rfl ?_ rfl)
  all_goals (simp_all [getT, ofValue, wayE] <;> omega)
def lcB : Lbl := (F_world_wrong, 17)
def cbx (w : Wld) (xs : List Str) : BL := (lcB, .cells T_world_checker [.ref (F_intern_New, 12) 0, .pp (cWld w)]) :: tbB xs
theorem cbClo (w : Wld) (xs : List Str) : AllL (keyB (cbx w xs)) (cbx w xs) := ⟨rfl, rfl, cloX_row (l := jLr) (e := 0) (sz := 1) (Clo.map fS _), entA_cloD _, trivial⟩
theorem m_checker_fine (G : GlP) (w : Wld) (xs : List Str) (i : Int) : Meets Pg G F_world_checker_fine [.ref lcB 0, .int .i64 i] (cbx w xs) (.int .i64 0) [] := by
  refine meets_sees (F := fe_world_checker_fine) hTh hMx func_world_checker_fine rfl call_world_checker_fine rfl rfl (cbClo w xs) rfl ?_
  conv => whnf
  exact Fin.sees hTh [.int .i64 0] rfl rfl ⟨rfl, rfl, rfl, rfl, trivial⟩ rfl (cbClo w xs)
theorem m_checker_path (G : GlP) (w : Wld) (xs : List Str) (i : Nat) (hi : i < w.paths.length) : Meets Pg G F_world_checker_path [.ref lcB 0, .int .i64 i] (cbx w xs) (.int .i64 (pathE w.paths[i])) [] := by
  refine meets_sees (F := fe_world_checker_path) hTh hMx func_world_checker_path rfl call_world_checker_path rfl rfl (cbClo w xs) rfl ?_
  conv => whnf
  refine IndexTo.at (map_at cPthO hi) ?_
  conv => whnf
  refine CallTo.fn (m_world_way G _ _ _) ?_
  conv => whnf
  exact Fin.sees hTh [.int .i64 (pathE w.paths[i])] rfl rfl ⟨rfl, rfl, rfl, rfl, trivial⟩ rfl (cbClo w xs)
theorem m_checker_times (G : GlP) (w : Wld) (xs : List Str) (t : Tms) : Meets Pg G F_world_checker_times [.ref lcB 0, .agg (cTms t)] (cbx w xs) (.int .i64 (winsErr t w.hor)) [] := by
  refine meets_sees (F := fe_world_checker_times) hTh hMx func_world_checker_times rfl call_world_checker_times rfl rfl (cbClo w xs) rfl ?_
  conv => whnf
  refine CallTo.fn (m_window_Wins G t w.hor) ?_
  conv => whnf
  refine ⟨by kernel_rfl, ?_⟩
  conv => whnf
  exact Fin.sees hTh [.int .i64 (winsErr t w.hor)] rfl rfl ⟨rfl, rfl, rfl, rfl, trivial⟩ rfl (cbClo w xs)
theorem m_checker_door (G : GlP) (w : Wld) (xs : List Str) (i : Nat) (hi : i < w.doors.length) : Meets Pg G F_world_checker_door [.ref lcB 0, .int .i64 i] (cbx w xs) (.int .i64 (doorE w.hor w.doors[i])) [] := by
  refine meets_sees (F := fe_world_checker_door) hTh hMx func_world_checker_door rfl call_world_checker_door rfl rfl (cbClo w xs) rfl ?_
  conv => whnf
  refine IndexTo.at (map_at cDorO hi) ?_
  conv => whnf
  refine CallTo.fn (m_world_way G _ _ _) ?_
  conv => whnf
  refine cond_split (fun h => ?_) (fun h => ?_)
  · have e : doorE w.hor w.doors[i] = wayE w.doors[i].a w.doors[i].b w.doors[i].ln := by unfold doorE; rw [if_neg (by simpa using h)]
    rw [e]
    conv => whnf
    exact Fin.sees hTh [.int .i64 _] rfl rfl ⟨rfl, rfl, rfl, rfl, trivial⟩ rfl (cbClo w xs)
  · have e : doorE w.hor w.doors[i] = winsErr w.doors[i].tm w.hor := by unfold doorE; rw [if_pos (by simpa using h)]
    rw [e]
    conv => whnf
    refine CallTo.fnSees (m_checker_times G w xs w.doors[i].tm) ⟨rfl, rfl, rfl, rfl, trivial⟩ ?_
    conv => whnf
    exact Fin.sees hTh [.int .i64 _] rfl rfl ⟨rfl, rfl, rfl, rfl, trivial⟩ rfl (cbClo w xs)
theorem m_checker_trip (G : GlP) (w : Wld) (xs : List Str) (i : Nat) (hi : i < w.trips.length) : Meets Pg G F_world_checker_trip [.ref lcB 0, .int .i64 i] (cbx w xs) (.int .i64 (tripE w.trips[i])) [] := by
  refine meets_sees (F := fe_world_checker_trip) hTh hMx func_world_checker_trip rfl call_world_checker_trip rfl rfl (cbClo w xs) rfl ?_
  conv => whnf
  refine IndexTo.at (map_at cTrpO hi) ?_
  conv => whnf
  refine cond_split (fun h => ?_) (fun h => ?_)
  · have e : tripE w.trips[i] = 5 := by simp at h; simp [tripE, h]
    rw [e]
    conv => whnf
    exact Fin.sees hTh [.int .i64 5] rfl rfl ⟨rfl, rfl, rfl, rfl, trivial⟩ rfl (cbClo w xs)
  conv => whnf
  refine cond_split (fun h2 => ?_) (fun h2 => ?_)
  · have e : tripE w.trips[i] = 2 := by simp at h h2; simp [tripE, h2]; omega
    rw [e]
    conv => whnf
    exact Fin.sees hTh [.int .i64 2] rfl rfl ⟨rfl, rfl, rfl, rfl, trivial⟩ rfl (cbClo w xs)
  have e : tripE w.trips[i] = 0 := by simp at h h2; simp [tripE]; omega
  rw [e]
  conv => whnf
  exact Fin.sees hTh [.int .i64 0] rfl rfl ⟨rfl, rfl, rfl, rfl, trivial⟩ rfl (cbClo w xs)
theorem m_checker_hazard (G : GlP) (w : Wld) (xs : List Str) (i : Nat) (hi : i < w.hazards.length) : Meets Pg G F_world_checker_hazard [.ref lcB 0, .int .i64 i] (cbx w xs) (.int .i64 (hazE w.hor w.hazards[i])) [] := by
  refine meets_sees (F := fe_world_checker_hazard) hTh hMx func_world_checker_hazard rfl call_world_checker_hazard rfl rfl (cbClo w xs) rfl ?_
  conv => whnf
  refine IndexTo.at (map_at cHzdO hi) ?_
  conv => whnf
  refine cond_split (fun h => ?_) (fun h => ?_)
  · have e : hazE w.hor w.hazards[i] = 5 := by simp at h; simp [hazE, h]
    rw [e]
    conv => whnf
    exact Fin.sees hTh [.int .i64 5] rfl rfl ⟨rfl, rfl, rfl, rfl, trivial⟩ rfl (cbClo w xs)
  have e : hazE w.hor w.hazards[i] = winsErr w.hazards[i].tm w.hor := by simp at h; simp [hazE]; omega
  rw [e]
  conv => whnf
  refine CallTo.fnSees (m_checker_times G w xs w.hazards[i].tm) ⟨rfl, rfl, rfl, rfl, trivial⟩ ?_
  conv => whnf
  exact Fin.sees hTh [.int .i64 _] rfl rfl ⟨rfl, rfl, rfl, rfl, trivial⟩ rfl (cbClo w xs)
theorem m_checker_route (G : GlP) (w : Wld) (xs : List Str) (i : Nat) (hi : i < w.routes.length) (hr : RteNum w.routes[i]) : Meets Pg G F_world_checker_route [.ref lcB 0, .int .i64 i] (cbx w xs) (.int .i64 (routeE w.routes[i])) [] := by
  have b1 := hr.len
  have b2 := hr.few
  refine meets_sees (F := fe_world_checker_route) hTh hMx func_world_checker_route rfl call_world_checker_route rfl rfl (cbClo w xs) rfl ?_
  conv => whnf
  refine IndexTo.at (map_at cRteO hi) ?_
  conv => whnf
  refine CallTo.fn (m_slices_Contains_int_int G w.routes[i].stops (-1) (by omega)) ?_
  conv => whnf
  refine cond_split (fun h => ?_) (fun h => ?_)
  · have e : routeE w.routes[i] = 5 := by unfold routeE; rw [if_pos h]
    rw [e]
    conv => whnf
    exact Fin.sees hTh [.int .i64 5] rfl rfl ⟨rfl, rfl, rfl, rfl, trivial⟩ rfl (cbClo w xs)
  conv => whnf
  refine LoopOK.weak _ _ ?_ ?_ ?_ (LoopOK.ind (fun k : Nat => w.routes[i].rides.length - k) (fun k => [(5, .ref (F_world_checker_route, 5) 0), (22, .lst 1 (w.routes[i].rides.map cI)), (23, .int .i64 (w.routes[i].rides.map cI).length), (24, .int .i64 k)])
    (fun k => ((F_world_checker_route, 5), .cells T_api_RouteOf (cRteO w.routes[i])) :: cbx w xs) (fun k => k ≤ w.routes[i].rides.length ∧ ∀ j, j < k → rideOdd w.routes[i] j = false) ?_ 0 ⟨by omega, fun j hj => by omega⟩)
  · exact ⟨rfl, rfl, rfl, rfl, trivial⟩
  · exact ⟨rfl, rfl, rfl, rfl, rfl, trivial⟩
  · exact chk_mk ⟨rfl, rfl, rfl, rfl, trivial⟩ ⟨rfl, rfl, rfl, cloX_row (l := jLr) (e := 0) (sz := 1) (Clo.map fS _), entA_cloD _, trivial⟩ rfl
  rintro k ⟨hk, hb⟩ IH
  refine LoopOK.round hTh hMx ?_
  conv => whnf
  refine cond_split (fun h1 => ?_) (fun hz => ?_)
  · have hlt := lt_of_dec h1
    have g1 : w.routes[i].rides[k] = w.routes[i].rides.getD k 0 := by simp [List.getD, hlt]
    have hodd : ∀ b, rideOdd w.routes[i] k = b → b = true → routeE w.routes[i] = 2 := fun b e1 e2 => by
      unfold routeE
      rw [if_neg (by simp [h]), if_pos (any_range hlt (e1.trans e2))]
    conv => whnf
    refine IndexTo.atD cI 0 (by omega) (by omega) ?_
    conv => whnf
    refine cond_split (fun h2 => ?_) (fun h2 => ?_)
    · have e : routeE w.routes[i] = 2 := hodd _ rfl (by simp only [rideOdd, Int.toNat_natCast] at h2 ⊢; rw [h2]; rfl)
      rw [e]
      conv => whnf
      refine ⟨by kernel_rfl, ?_⟩
      conv => whnf
      exact Fin.sees hTh [.int .i64 2] rfl rfl ⟨rfl, rfl, rfl, rfl, trivial⟩ rfl (cbClo w xs)
    conv => whnf
    refine IndexTo.atD cI 0 (by omega) (by omega) ?_
    conv => whnf
    refine WrapTo.i64 (by omega) ?_
    conv => whnf
    refine IndexTo.atD cI 0 (by omega) (by omega) ?_
    conv => whnf
    refine ⟨by kernel_rfl, ?_⟩
    conv => whnf
    refine cond_split (fun h3 => ?_) (fun h3 => ?_)
    · have e : routeE w.routes[i] = 2 := hodd _ rfl (by
        have e1 : ((k : Int) + 1).toNat = k + 1 := by omega
        simp only [rideOdd, Int.toNat_natCast, e1] at h3 ⊢; rw [h3]; simp)
      rw [e]
      conv => whnf
      exact Fin.sees hTh [.int .i64 2] rfl rfl ⟨rfl, rfl, rfl, rfl, trivial⟩ rfl (cbClo w xs)
    have hno : rideOdd w.routes[i] k = false := by
      have e1 : ((k : Int) + 1).toNat = k + 1 := by omega
      simp only [rideOdd, Int.toNat_natCast, e1] at h2 h3 ⊢
      rw [h2, h3]; rfl
    conv => whnf
    refine WrapTo.i64 (by omega) ?_
    conv => whnf
    refine LoopOK.weak _ _ ?_ ?_ ?_ (IH (k + 1) (by omega) ⟨by omega, fun j hj => by
      rcases Nat.lt_succ_iff_lt_or_eq.1 hj with h | rfl
      · exact hb j h
      · exact hno⟩)
    · exact ⟨rfl, rfl, rfl, rfl, trivial⟩
    · exact ⟨rfl, rfl, rfl, rfl, rfl, trivial⟩
    · exact chk_mk ⟨rfl, rfl, rfl, rfl, trivial⟩ ⟨rfl, rfl, rfl, cloX_row (l := jLr) (e := 0) (sz := 1) (Clo.map fS _), entA_cloD _, trivial⟩ rfl
  · have hge := le_of_dec hz
    have e : routeE w.routes[i] = 0 := by
      unfold routeE
      rw [if_neg (by simp [h]), if_neg (by rw [none_range fun j hj => hb j (by omega)]; decide)]
    rw [e]
    conv => whnf
    exact Fin.sees hTh [.int .i64 0] rfl rfl ⟨rfl, rfl, rfl, rfl, trivial⟩ rfl (cbClo w xs)
end Go.Proofs.YtmfolelgdpkkoaaGreatDoor
/- Worlds: what is wrong with a world that was numbered, by the program. -/
set_option linter.unusedVariables false
set_option linter.unusedSimpArgs false
set_option maxRecDepth 10000
namespace Go.Ab
def nmK (n : Nms) : List (List Str) := [n.stops, n.paths, n.doors, n.routes, n.trips, n.hazards]
/-- The first of a list that has been there before. -/
def dup1 (seen l : List Str) : Option Nat := (List.range l.length).find? fun i => (seen ++ l.take i).contains (l.getD i [])
def dupK (seen : List Str) : Nat → List (List Str) → Option (Nat × Nat)
  | _, [] => none
  | k, l :: r => match dup1 seen l with
    | some i => some (k, i)
    | none => dupK (seen ++ l) (k + 1) r
def dupS (n : Nms) : Option (Nat × Nat) := dupK [] 1 (nmK n)
theorem find_range_hit {p : Nat → Bool} {n i : Nat} (hi : i < n) (hp : p i = true) (hb : ∀ j, j < i → p j = false) : (List.range n).find? p = some i := by
  rw [List.find?_range_eq_some]
  exact ⟨hp, List.mem_range.2 hi, fun j hj => by simp [hb j hj]⟩
theorem find_range_miss {p : Nat → Bool} {n : Nat} (hb : ∀ j, j < n → p j = false) : (List.range n).find? p = none := by
  rw [List.find?_range_eq_none]
  intro j hj
  simp [hb j hj]
theorem getD_at {α : Type} {l : List α} {i : Nat} (d : α) (h : i < l.length) : l.getD i d = l[i] := by simp [List.getD, h]
def errAll (w : Wld) : List (List Int) := [[], List.replicate w.names.stops.length 0, w.paths.map pathE, w.doors.map (doorE w.hor), w.routes.map routeE, w.trips.map tripE, w.hazards.map (hazE w.hor)]
def errKs : Nat → List (List Int) → Option (Int × Nat × Nat)
  | _, [] => none
  | k, es :: r => match es.findIdx? (fun e => e != 0) with
    | some i => some (es.getD i 0, k, i)
    | none => errKs (k + 1) r
def firstS (w : Wld) : Option (Int × Nat × Nat) := errKs 0 (errAll w)
def wrongS (w : Wld) : Wrg := match dupS w.names with
  | some (k, i) => ⟨6, k, i⟩
  | none => match firstS w with
    | some (e, k, i) => ⟨e, k, i⟩
    | none => ⟨0, 0, 0⟩
/-- What is known of a world that was numbered out of a sheet that may be. -/
structure Numb (w : Wld) : Prop where
  fits : WldFits w
  names : ∀ l ∈ nmK w.names, ∀ s ∈ l, nameOK s = true ∧ s.length ≤ 9223372036854775807
  few : (nmK w.names).flatten.length ≤ 4096
  paths : w.names.paths.length = w.paths.length
  doors : w.names.doors.length = w.doors.length
  routes : w.names.routes.length = w.routes.length
  trips : w.names.trips.length = w.trips.length
  hazards : w.names.hazards.length = w.hazards.length
  nums : ∀ r ∈ w.routes, RteNum r
end Go.Ab
namespace Go.Proofs.YtmfolelgdpkkoaaGreatDoor
open Go Go.Ab
def wrB (w : Wld) (xs : List Str) : BL := ((F_world_wrong, 2), .cells T_api_Wrong [.int .i64 0, .int .i64 0, .int .i64 0]) :: ((F_world_wrong, 4), .cells T_A7_P_S_string (kindsP (cWld1 w))) :: cbx w xs
theorem wrClo (w : Wld) (xs : List Str) : AllL (keyB (wrB w xs)) (wrB w xs) := ⟨rfl, rfl, rfl, rfl, cloX_row (l := jLr) (e := 0) (sz := 1) (Clo.map fS _), entA_cloD _, trivial⟩
def wrT (w : Wld) (j : Int) : TL := [(2, .ref (F_world_wrong, 2) 0), (3, .ref lcB 0), (4, .ref (F_world_wrong, 4) 0), (30, .agg (kindsP (cWld1 w))), (31, .int .i64 j)]
def wrT1 (w : Wld) (j : Int) (l : List Str) (i : Int) : TL := [(2, .ref (F_world_wrong, 2) 0), (3, .ref lcB 0), (4, .ref (F_world_wrong, 4) 0), (30, .agg (kindsP (cWld1 w))), (31, .int .i64 j), (5, .int .i64 j), (37, .lst 1 (l.map cS)), (38, .int .i64 (l.map cS).length), (39, .int .i64 i)]
theorem sub_wrB (w : Wld) {xs ys : List Str} (h : xs = ys) : SubL (wrB w ys) (wrB w xs) := by subst h; exact ⟨rfl, rfl, rfl, rfl, rfl, rfl, trivial⟩
theorem wrong_in1 (G : GlP) (hR : Res G) (w : Wld) (pre l : List Str) (j : Nat) (hn : ∀ s ∈ l, nameOK s = true ∧ s.length ≤ 9223372036854775807) (hf : (pre ++ l).length ≤ 4096) {K : AE → TL → BL → Prop}
    (h1 : dup1 pre l = none → K (.exit 2) ((40, .bool (decide ((l.length : Int) < (l.map cS).length))) :: wrT1 w j l l.length) (wrB w (pre ++ l)))
    (h2 : ∀ (i : Nat) (T : TL) (L : BL), dup1 pre l = some i → getT T 2 = .ref (F_world_wrong, 2) 0 → getL L (F_world_wrong, 2) = some (.cells T_api_Wrong [.int .i64 6, .int .i64 j, .int .i64 i]) → K .ret T L) :
    LoopOK Pg G fe_world_wrong [] (loopOf fn_world_wrong 1) (wrT1 w j l 0) (wrB w pre) K := by
  have hlw : (l.map cS).length = l.length := List.length_map _
  have hf' : l.length ≤ 4096 := by simp at hf; omega
  refine LoopOK.weak _ _ ?_ ?_ ?_ (LoopOK.ind (fun i : Nat => l.length - i) (fun i => wrT1 w j l i) (fun i => wrB w (pre ++ l.take i)) (fun i => i ≤ l.length ∧ ∀ k, k < i → (pre ++ l.take k).contains (l.getD k []) = false) ?_ 0 ⟨by omega, fun k hk => by omega⟩)
  · exact ⟨rfl, rfl, rfl, rfl, rfl, rfl, rfl, rfl, rfl, trivial⟩
  · exact sub_wrB w (by simp)
  · exact chk_mk ⟨rfl, rfl, rfl, rfl, rfl, rfl, rfl, rfl, rfl, trivial⟩ (wrClo _ _) rfl
  rintro i ⟨hi, hb⟩ IH
  refine LoopOK.round hTh hMx ?_
  conv => whnf
  refine cond_split (fun h => ?_) (fun hz => ?_)
  · have hlt := lt_of_dec h
    have hs := hn _ (List.getElem_mem hlt)
    have hlen : (pre ++ l.take i).length < 4096 := by simp at hf ⊢; omega
    conv => whnf
    refine IndexTo.at (map_at cS hlt) ?_
    conv => whnf
    refine CallTo.fnUpd (m_intern_Add G hR (pre ++ l.take i) l[i] hs.2 (by omega)) ⟨rfl, rfl, rfl, trivial⟩ rfl ?_
    by_cases hm : l[i] ∈ pre ++ l.take i
    · have he : addErr (pre ++ l.take i) l[i] = 6 := by simp only [addErr, hs.1, Bool.not_true, Bool.false_eq_true, if_false, if_pos hm]
      have hd : dup1 pre l = some i := find_range_hit hlt (by rw [getD_at [] hlt]; exact List.contains_iff_mem.2 hm) hb
      rw [he]
      conv => whnf
      exact h2 i _ _ hd rfl rfl
    · have he : addErr (pre ++ l.take i) l[i] = 0 := by
        simp only [addErr, hs.1, Bool.not_true, Bool.false_eq_true, if_false, if_neg hm]
        rw [if_neg (by omega)]
      have hx : addNext (pre ++ l.take i) l[i] = pre ++ l.take (i + 1) := by
        unfold addNext
        rw [he, if_pos rfl, List.take_succ_eq_append_getElem hlt, List.append_assoc]
      rw [he, hx]
      conv => whnf
      refine WrapTo.i64 (by omega) ?_
      conv => whnf
      refine LoopOK.weak _ _ ?_ ?_ ?_ (IH (i + 1) (by omega) ⟨by omega, fun k hk => by
        rcases Nat.lt_succ_iff_lt_or_eq.1 hk with h | rfl
        · exact hb k h
        · rw [getD_at [] hlt]; simpa using hm⟩)
      · exact ⟨rfl, rfl, rfl, rfl, rfl, rfl, rfl, rfl, rfl, trivial⟩
      · exact ⟨rfl, rfl, rfl, rfl, rfl, rfl, trivial⟩
      · exact chk_mk ⟨rfl, rfl, rfl, rfl, rfl, rfl, rfl, rfl, rfl, trivial⟩ (wrClo _ _) rfl
  · have hge := le_of_dec hz
    have : i = l.length := by omega
    subst this
    have hd : dup1 pre l = none := find_range_miss fun k hk => hb k hk
    have := h1 hd
    conv => whnf
    rw [List.take_length]
    exact this
def wrF : List AV := [.fn (.func F_world_checker_fine) [.ref lcB 0] [], .fn (.func F_world_checker_fine) [.ref lcB 0] [], .fn (.func F_world_checker_path) [.ref lcB 0] [], .fn (.func F_world_checker_door) [.ref lcB 0] [], .fn (.func F_world_checker_route) [.ref lcB 0] [], .fn (.func F_world_checker_trip) [.ref lcB 0] [], .fn (.func F_world_checker_hazard) [.ref lcB 0] []]
def wrT2 (j : Int) : TL := [(2, .ref (F_world_wrong, 2) 0), (4, .ref (F_world_wrong, 4) 0), (76, .agg wrF), (77, .int .i64 j)]
def wrT3 (j : Int) (fv : AV) (l : List Str) (i : Int) : TL := [(2, .ref (F_world_wrong, 2) 0), (4, .ref (F_world_wrong, 4) 0), (76, .agg wrF), (77, .int .i64 j), (11, .int .i64 j), (12, fv), (86, .int .i64 (l.map cS).length), (87, .int .i64 i)]
theorem wrong_in2 (G : GlP) (w : Wld) (xs l : List Str) (es : List Int) (fv : AV) (j : Nat) (hl : es.length = l.length) (hf : l.length ≤ 65536) (hD : cloB (keyB (wrB w xs)) fv = true)
    (hc : ∀ i, i < es.length → MeetsV Pg G fv [.int .i64 i] (cbx w xs) (.int .i64 (es.getD i 0)) []) {K : AE → TL → BL → Prop}
    (h1 : es.findIdx? (fun e => e != 0) = none → K (.exit 6) ((88, .bool (decide ((l.length : Int) < (l.map cS).length))) :: wrT3 j fv l l.length) (wrB w xs))
    (h2 : ∀ (i : Nat) (T : TL) (L : BL), es.findIdx? (fun e => e != 0) = some i → getT T 2 = .ref (F_world_wrong, 2) 0 → getL L (F_world_wrong, 2) = some (.cells T_api_Wrong [.int .i64 (es.getD i 0), .int .i64 j, .int .i64 i]) → K .ret T L) :
    LoopOK Pg G fe_world_wrong [] (loopOf fn_world_wrong 3) (wrT3 j fv l 0) (wrB w xs) K := by
  have hlw : (l.map cS).length = l.length := List.length_map _
  have hclo : ∀ i, cloChk [] (wrT3 j fv l i) (wrB w xs) = true := fun i => chk_mk ⟨rfl, rfl, rfl, rfl, rfl, hD, rfl, rfl, trivial⟩ (wrClo _ _) rfl
  refine LoopOK.weak _ _ ?_ ?_ (hclo _) (LoopOK.ind (fun i : Nat => l.length - i) (fun i => wrT3 j fv l i) (fun i => wrB w xs) (fun i => i ≤ l.length ∧ ∀ k, k < i → (es.getD k 0 != 0) = false) ?_ 0 ⟨by omega, fun k hk => by omega⟩)
  · exact ⟨rfl, rfl, rfl, rfl, rfl, rfl, rfl, rfl, trivial⟩
  · exact sub_wrB w rfl
  rintro i ⟨hi, hb⟩ IH
  refine LoopOK.round hTh hMx ?_
  conv => whnf
  refine cond_split (fun h => ?_) (fun hz => ?_)
  · have hlt := lt_of_dec h
    have hlt' : i < es.length := by omega
    conv => whnf
    refine CallTo.sees (hc i hlt') ⟨rfl, rfl, rfl, rfl, trivial⟩ ?_
    conv => whnf
    refine cond_split (fun h3 => ?_) (fun h3 => ?_)
    · have hd : es.findIdx? (fun e => e != 0) = some i := by
        rw [List.findIdx?_eq_some_iff_getElem]
        refine ⟨hlt', by rw [← getD_at 0 hlt']; exact h3, fun k hk => ?_⟩
        have := hb k hk
        rw [getD_at 0 (by omega)] at this
        simp [this]
      conv => whnf
      exact h2 i _ _ hd rfl rfl
    · conv => whnf
      refine WrapTo.i64 (by omega) ?_
      conv => whnf
      refine LoopOK.weak _ _ ?_ ?_ (hclo _) (IH (i + 1) (by omega) ⟨by omega, fun k hk => by
        rcases Nat.lt_succ_iff_lt_or_eq.1 hk with h | rfl
        · exact hb k h
        · exact h3⟩)
      · exact ⟨rfl, rfl, rfl, rfl, rfl, rfl, rfl, rfl, trivial⟩
      · exact sub_wrB w rfl
  · have hge := le_of_dec hz
    have : i = l.length := by omega
    subst this
    have hd : es.findIdx? (fun e => e != 0) = none := by
      rw [List.findIdx?_eq_none_iff]
      intro e he
      obtain ⟨k, hk, rfl⟩ := List.getElem_of_mem he
      have := hb k (by omega)
      rw [getD_at 0 hk] at this
      exact this
    have := h1 hd
    conv => whnf
    exact this
theorem fin_wrong {G : GlP} {F : FE} {fn : Func} {T : TL} {L : BL} (hΘ : TTok Pg F.Θ) (h44 : F.Θ T_api_Wrong = some ty_api_Wrong) (cs : Wrg) (hres : fn.results.toList = [.cell 2 T_api_Wrong]) {l : Lbl} (hT : getT T 2 = .ref l 0) (hL : getL L l = some (.cells T_api_Wrong (cWrg cs))) : Fin Pg G F [] fn (.agg (cWrg cs)) [] T L := by
  refine Fin.pure hΘ [.agg (cWrg cs)] ?_ rfl rfl
  rw [hres]
  simp only [resA, h44, hT, hL]
  rfl
theorem m_world_wrong (G : GlP) (hR : Res G) (w : Wld) (hN : Numb w) : Meets Pg G F_world_wrong [.pp (cWld w)] [] (.agg (cWrg (wrongS w))) [] := by
  have hfew := hN.few
  simp only [nmK, List.flatten_cons, List.flatten_nil, List.append_nil, List.length_append] at hfew
  have n1 := hN.names w.names.stops (by simp [nmK])
  have n2 := hN.names w.names.paths (by simp [nmK])
  have n3 := hN.names w.names.doors (by simp [nmK])
  have n4 := hN.names w.names.routes (by simp [nmK])
  have n5 := hN.names w.names.trips (by simp [nmK])
  have n6 := hN.names w.names.hazards (by simp [nmK])
  refine meets_pure (F := fe_world_wrong) hTh hMx func_world_wrong rfl call_world_wrong rfl rfl rfl ?_
  conv => whnf
  refine CallTo.fnNew (m_intern_New G) ⟨rfl, rfl, trivial⟩ ?_
  conv => whnf
  refine CallTo.fn (m_kinds G w) ?_
  conv => whnf
  refine LoopOK.conv (Conv.empOwnBox (F_intern_New, 12) 0 rfl rfl (F_intern_New, 1000) rfl T_string 1) ?_
  refine LoopOK.weak (wrT w 0) (wrB w []) ⟨rfl, rfl, rfl, rfl, rfl, trivial⟩ ⟨rfl, rfl, rfl, rfl, rfl, rfl, trivial⟩ (chk_mk ⟨rfl, rfl, rfl, rfl, rfl, trivial⟩ (wrClo _ _) rfl) ?_
  refine LoopOK.round hTh hMx ?_
  conv => whnf
  refine OpTo.at hTh rfl rfl rfl rfl rfl rfl rfl rfl (show 0 < 7 by omega) rfl ?_
  conv => whnf
  refine LoopOK.round hTh hMx ?_
  conv => whnf
  refine WrapTo.i64 (by omega) ?_
  conv => whnf
  refine LoopOK.weak (wrT w 1) (wrB w []) ⟨rfl, rfl, rfl, rfl, rfl, trivial⟩ ⟨rfl, rfl, rfl, rfl, rfl, rfl, trivial⟩ (chk_mk ⟨rfl, rfl, rfl, rfl, rfl, trivial⟩ (wrClo _ _) rfl) ?_
  refine LoopOK.round hTh hMx ?_
  conv => whnf
  refine OpTo.at hTh rfl rfl rfl rfl rfl rfl rfl rfl (show 1 < 7 by omega) rfl ?_
  conv => whnf
  refine LoopOK.weak (wrT1 w 1 w.names.stops 0) (wrB w []) ⟨rfl, rfl, rfl, rfl, rfl, rfl, rfl, rfl, rfl, trivial⟩ ⟨rfl, rfl, rfl, rfl, rfl, rfl, trivial⟩ (chk_mk ⟨rfl, rfl, rfl, rfl, rfl, rfl, rfl, rfl, rfl, trivial⟩ (wrClo _ _) rfl) ?_
  refine wrong_in1 G hR w [] w.names.stops 1 n1 (by simp only [List.length_append, List.length_nil]; omega) (fun hd1 => ?_) (fun i T L hi hT hL => ?_)
  rotate_left
  · have e : wrongS w = ⟨6, 1, i⟩ := by simp only [wrongS, dupS, nmK, dupK, hi]; rfl
    rw [e]
    exact fin_wrong hTh rfl _ rfl hT hL
  conv => whnf
  refine WrapTo.i64 (by omega) ?_
  conv => whnf
  refine LoopOK.weak (wrT w 2) (wrB w ([] ++ w.names.stops)) ⟨rfl, rfl, rfl, rfl, rfl, trivial⟩ ⟨rfl, rfl, rfl, rfl, rfl, rfl, trivial⟩ (chk_mk ⟨rfl, rfl, rfl, rfl, rfl, trivial⟩ (wrClo _ _) rfl) ?_
  refine LoopOK.round hTh hMx ?_
  conv => whnf
  refine OpTo.at hTh rfl rfl rfl rfl rfl rfl rfl rfl (show 2 < 7 by omega) rfl ?_
  conv => whnf
  refine LoopOK.weak (wrT1 w 2 w.names.paths 0) (wrB w ([] ++ w.names.stops)) ⟨rfl, rfl, rfl, rfl, rfl, rfl, rfl, rfl, rfl, trivial⟩ ⟨rfl, rfl, rfl, rfl, rfl, rfl, trivial⟩ (chk_mk ⟨rfl, rfl, rfl, rfl, rfl, rfl, rfl, rfl, rfl, trivial⟩ (wrClo _ _) rfl) ?_
  refine wrong_in1 G hR w ([] ++ w.names.stops) w.names.paths 2 n2 (by simp only [List.length_append, List.length_nil]; omega) (fun hd2 => ?_) (fun i T L hi hT hL => ?_)
  rotate_left
  · have e : wrongS w = ⟨6, 2, i⟩ := by simp only [wrongS, dupS, nmK, dupK, hd1, hi]; rfl
    rw [e]
    exact fin_wrong hTh rfl _ rfl hT hL
  conv => whnf
  refine WrapTo.i64 (by omega) ?_
  conv => whnf
  refine LoopOK.weak (wrT w 3) (wrB w (([] ++ w.names.stops) ++ w.names.paths)) ⟨rfl, rfl, rfl, rfl, rfl, trivial⟩ ⟨rfl, rfl, rfl, rfl, rfl, rfl, trivial⟩ (chk_mk ⟨rfl, rfl, rfl, rfl, rfl, trivial⟩ (wrClo _ _) rfl) ?_
  refine LoopOK.round hTh hMx ?_
  conv => whnf
  refine OpTo.at hTh rfl rfl rfl rfl rfl rfl rfl rfl (show 3 < 7 by omega) rfl ?_
  conv => whnf
  refine LoopOK.weak (wrT1 w 3 w.names.doors 0) (wrB w (([] ++ w.names.stops) ++ w.names.paths)) ⟨rfl, rfl, rfl, rfl, rfl, rfl, rfl, rfl, rfl, trivial⟩ ⟨rfl, rfl, rfl, rfl, rfl, rfl, trivial⟩ (chk_mk ⟨rfl, rfl, rfl, rfl, rfl, rfl, rfl, rfl, rfl, trivial⟩ (wrClo _ _) rfl) ?_
  refine wrong_in1 G hR w (([] ++ w.names.stops) ++ w.names.paths) w.names.doors 3 n3 (by simp only [List.length_append, List.length_nil]; omega) (fun hd3 => ?_) (fun i T L hi hT hL => ?_)
  rotate_left
  · have e : wrongS w = ⟨6, 3, i⟩ := by simp only [wrongS, dupS, nmK, dupK, hd1, hd2, hi]; rfl
    rw [e]
    exact fin_wrong hTh rfl _ rfl hT hL
  conv => whnf
  refine WrapTo.i64 (by omega) ?_
  conv => whnf
  refine LoopOK.weak (wrT w 4) (wrB w ((([] ++ w.names.stops) ++ w.names.paths) ++ w.names.doors)) ⟨rfl, rfl, rfl, rfl, rfl, trivial⟩ ⟨rfl, rfl, rfl, rfl, rfl, rfl, trivial⟩ (chk_mk ⟨rfl, rfl, rfl, rfl, rfl, trivial⟩ (wrClo _ _) rfl) ?_
  refine LoopOK.round hTh hMx ?_
  conv => whnf
  refine OpTo.at hTh rfl rfl rfl rfl rfl rfl rfl rfl (show 4 < 7 by omega) rfl ?_
  conv => whnf
  refine LoopOK.weak (wrT1 w 4 w.names.routes 0) (wrB w ((([] ++ w.names.stops) ++ w.names.paths) ++ w.names.doors)) ⟨rfl, rfl, rfl, rfl, rfl, rfl, rfl, rfl, rfl, trivial⟩ ⟨rfl, rfl, rfl, rfl, rfl, rfl, trivial⟩ (chk_mk ⟨rfl, rfl, rfl, rfl, rfl, rfl, rfl, rfl, rfl, trivial⟩ (wrClo _ _) rfl) ?_
  refine wrong_in1 G hR w ((([] ++ w.names.stops) ++ w.names.paths) ++ w.names.doors) w.names.routes 4 n4 (by simp only [List.length_append, List.length_nil]; omega) (fun hd4 => ?_) (fun i T L hi hT hL => ?_)
  rotate_left
  · have e : wrongS w = ⟨6, 4, i⟩ := by simp only [wrongS, dupS, nmK, dupK, hd1, hd2, hd3, hi]; rfl
    rw [e]
    exact fin_wrong hTh rfl _ rfl hT hL
  conv => whnf
  refine WrapTo.i64 (by omega) ?_
  conv => whnf
  refine LoopOK.weak (wrT w 5) (wrB w (((([] ++ w.names.stops) ++ w.names.paths) ++ w.names.doors) ++ w.names.routes)) ⟨rfl, rfl, rfl, rfl, rfl, trivial⟩ ⟨rfl, rfl, rfl, rfl, rfl, rfl, trivial⟩ (chk_mk ⟨rfl, rfl, rfl, rfl, rfl, trivial⟩ (wrClo _ _) rfl) ?_
  refine LoopOK.round hTh hMx ?_
  conv => whnf
  refine OpTo.at hTh rfl rfl rfl rfl rfl rfl rfl rfl (show 5 < 7 by omega) rfl ?_
  conv => whnf
  refine LoopOK.weak (wrT1 w 5 w.names.trips 0) (wrB w (((([] ++ w.names.stops) ++ w.names.paths) ++ w.names.doors) ++ w.names.routes)) ⟨rfl, rfl, rfl, rfl, rfl, rfl, rfl, rfl, rfl, trivial⟩ ⟨rfl, rfl, rfl, rfl, rfl, rfl, trivial⟩ (chk_mk ⟨rfl, rfl, rfl, rfl, rfl, rfl, rfl, rfl, rfl, trivial⟩ (wrClo _ _) rfl) ?_
  refine wrong_in1 G hR w (((([] ++ w.names.stops) ++ w.names.paths) ++ w.names.doors) ++ w.names.routes) w.names.trips 5 n5 (by simp only [List.length_append, List.length_nil]; omega) (fun hd5 => ?_) (fun i T L hi hT hL => ?_)
  rotate_left
  · have e : wrongS w = ⟨6, 5, i⟩ := by simp only [wrongS, dupS, nmK, dupK, hd1, hd2, hd3, hd4, hi]; rfl
    rw [e]
    exact fin_wrong hTh rfl _ rfl hT hL
  conv => whnf
  refine WrapTo.i64 (by omega) ?_
  conv => whnf
  refine LoopOK.weak (wrT w 6) (wrB w ((((([] ++ w.names.stops) ++ w.names.paths) ++ w.names.doors) ++ w.names.routes) ++ w.names.trips)) ⟨rfl, rfl, rfl, rfl, rfl, trivial⟩ ⟨rfl, rfl, rfl, rfl, rfl, rfl, trivial⟩ (chk_mk ⟨rfl, rfl, rfl, rfl, rfl, trivial⟩ (wrClo _ _) rfl) ?_
  refine LoopOK.round hTh hMx ?_
  conv => whnf
  refine OpTo.at hTh rfl rfl rfl rfl rfl rfl rfl rfl (show 6 < 7 by omega) rfl ?_
  conv => whnf
  refine LoopOK.weak (wrT1 w 6 w.names.hazards 0) (wrB w ((((([] ++ w.names.stops) ++ w.names.paths) ++ w.names.doors) ++ w.names.routes) ++ w.names.trips)) ⟨rfl, rfl, rfl, rfl, rfl, rfl, rfl, rfl, rfl, trivial⟩ ⟨rfl, rfl, rfl, rfl, rfl, rfl, trivial⟩ (chk_mk ⟨rfl, rfl, rfl, rfl, rfl, rfl, rfl, rfl, rfl, trivial⟩ (wrClo _ _) rfl) ?_
  refine wrong_in1 G hR w ((((([] ++ w.names.stops) ++ w.names.paths) ++ w.names.doors) ++ w.names.routes) ++ w.names.trips) w.names.hazards 6 n6 (by simp only [List.length_append, List.length_nil]; omega) (fun hd6 => ?_) (fun i T L hi hT hL => ?_)
  rotate_left
  · have e : wrongS w = ⟨6, 6, i⟩ := by simp only [wrongS, dupS, nmK, dupK, hd1, hd2, hd3, hd4, hd5, hi]; rfl
    rw [e]
    exact fin_wrong hTh rfl _ rfl hT hL
  conv => whnf
  refine WrapTo.i64 (by omega) ?_
  conv => whnf
  have hdup : dupS w.names = none := by simp only [dupS, nmK, dupK, hd1, hd2, hd3, hd4, hd5, hd6]
  refine LoopOK.weak (wrT w 7) (wrB w (((((([] ++ w.names.stops) ++ w.names.paths) ++ w.names.doors) ++ w.names.routes) ++ w.names.trips) ++ w.names.hazards)) ⟨rfl, rfl, rfl, rfl, rfl, trivial⟩ ⟨rfl, rfl, rfl, rfl, rfl, rfl, trivial⟩ (chk_mk ⟨rfl, rfl, rfl, rfl, rfl, trivial⟩ (wrClo _ _) rfl) ?_
  refine LoopOK.round hTh hMx ?_
  conv => whnf
  generalize (((((([] ++ w.names.stops) ++ w.names.paths) ++ w.names.doors) ++ w.names.routes) ++ w.names.trips) ++ w.names.hazards) = xs
  refine LoopOK.weak (wrT2 0) (wrB w xs) ⟨rfl, rfl, rfl, rfl, trivial⟩ ⟨rfl, rfl, rfl, rfl, rfl, rfl, trivial⟩ (chk_mk ⟨rfl, rfl, rfl, rfl, trivial⟩ (wrClo _ _) rfl) ?_
  refine LoopOK.round hTh hMx ?_
  conv => whnf
  refine OpTo.at hTh rfl rfl rfl rfl rfl rfl rfl rfl (show 0 < 7 by omega) rfl ?_
  conv => whnf
  refine OpTo.arrAt hTh rfl rfl rfl rfl rfl rfl (show 0 < 7 by omega) ?_
  conv => whnf
  refine LoopOK.round hTh hMx ?_
  conv => whnf
  refine WrapTo.i64 (by omega) ?_
  conv => whnf
  refine LoopOK.weak (wrT2 1) (wrB w xs) ⟨rfl, rfl, rfl, rfl, trivial⟩ ⟨rfl, rfl, rfl, rfl, rfl, rfl, trivial⟩ (chk_mk ⟨rfl, rfl, rfl, rfl, trivial⟩ (wrClo _ _) rfl) ?_
  refine LoopOK.round hTh hMx ?_
  conv => whnf
  refine OpTo.at hTh rfl rfl rfl rfl rfl rfl rfl rfl (show 1 < 7 by omega) rfl ?_
  conv => whnf
  refine OpTo.arrAt hTh rfl rfl rfl rfl rfl rfl (show 1 < 7 by omega) ?_
  conv => whnf
  refine LoopOK.weak (wrT3 1 (wrF.getD 1 .dead) w.names.stops 0) (wrB w xs) ⟨rfl, rfl, rfl, rfl, rfl, rfl, rfl, rfl, trivial⟩ ⟨rfl, rfl, rfl, rfl, rfl, rfl, trivial⟩ (chk_mk ⟨rfl, rfl, rfl, rfl, rfl, rfl, rfl, rfl, trivial⟩ (wrClo _ _) rfl) ?_
  refine wrong_in2 G w xs w.names.stops (List.replicate w.names.stops.length 0) _ 1 (by simp) (by omega) rfl (fun i hi => by
                 rw [show (List.replicate w.names.stops.length (0 : Int)).getD i 0 = 0 from by simp at hi; simp [List.getD, hi]]
                 exact MeetsV.of (m_checker_fine G w xs i)) (fun hf1 => ?_) (fun i T L hi hT hL => ?_)
  rotate_left
  · rw [List.findIdx?_eq_some_iff_getElem] at hi
    obtain ⟨h1, h2, _⟩ := hi
    simp at h2
  conv => whnf
  refine WrapTo.i64 (by omega) ?_
  conv => whnf
  refine LoopOK.weak (wrT2 2) (wrB w xs) ⟨rfl, rfl, rfl, rfl, trivial⟩ ⟨rfl, rfl, rfl, rfl, rfl, rfl, trivial⟩ (chk_mk ⟨rfl, rfl, rfl, rfl, trivial⟩ (wrClo _ _) rfl) ?_
  refine LoopOK.round hTh hMx ?_
  conv => whnf
  refine OpTo.at hTh rfl rfl rfl rfl rfl rfl rfl rfl (show 2 < 7 by omega) rfl ?_
  conv => whnf
  refine OpTo.arrAt hTh rfl rfl rfl rfl rfl rfl (show 2 < 7 by omega) ?_
  conv => whnf
  refine LoopOK.weak (wrT3 2 (wrF.getD 2 .dead) w.names.paths 0) (wrB w xs) ⟨rfl, rfl, rfl, rfl, rfl, rfl, rfl, rfl, trivial⟩ ⟨rfl, rfl, rfl, rfl, rfl, rfl, trivial⟩ (chk_mk ⟨rfl, rfl, rfl, rfl, rfl, rfl, rfl, rfl, trivial⟩ (wrClo _ _) rfl) ?_
  refine wrong_in2 G w xs w.names.paths (w.paths.map pathE) _ 2 (by simp [hN.paths]) (by omega) rfl (fun i hi => by
                 have hi' : i < w.paths.length := by simpa using hi
                 rw [show (w.paths.map pathE).getD i 0 = pathE w.paths[i] from by simp [List.getD, hi']]
                 exact MeetsV.of (m_checker_path G w xs i hi')) (fun hf2 => ?_) (fun i T L hi hT hL => ?_)
  rotate_left
  · have e : wrongS w = ⟨(w.paths.map pathE).getD i 0, 2, i⟩ := by simp only [wrongS, hdup, firstS, errAll, errKs, List.findIdx?_nil, hf1, hi]; rfl
    rw [e]
    exact fin_wrong hTh rfl _ rfl hT hL
  conv => whnf
  refine WrapTo.i64 (by omega) ?_
  conv => whnf
  refine LoopOK.weak (wrT2 3) (wrB w xs) ⟨rfl, rfl, rfl, rfl, trivial⟩ ⟨rfl, rfl, rfl, rfl, rfl, rfl, trivial⟩ (chk_mk ⟨rfl, rfl, rfl, rfl, trivial⟩ (wrClo _ _) rfl) ?_
  refine LoopOK.round hTh hMx ?_
  conv => whnf
  refine OpTo.at hTh rfl rfl rfl rfl rfl rfl rfl rfl (show 3 < 7 by omega) rfl ?_
  conv => whnf
  refine OpTo.arrAt hTh rfl rfl rfl rfl rfl rfl (show 3 < 7 by omega) ?_
  conv => whnf
  refine LoopOK.weak (wrT3 3 (wrF.getD 3 .dead) w.names.doors 0) (wrB w xs) ⟨rfl, rfl, rfl, rfl, rfl, rfl, rfl, rfl, trivial⟩ ⟨rfl, rfl, rfl, rfl, rfl, rfl, trivial⟩ (chk_mk ⟨rfl, rfl, rfl, rfl, rfl, rfl, rfl, rfl, trivial⟩ (wrClo _ _) rfl) ?_
  refine wrong_in2 G w xs w.names.doors (w.doors.map (doorE w.hor)) _ 3 (by simp [hN.doors]) (by omega) rfl (fun i hi => by
                 have hi' : i < w.doors.length := by simpa using hi
                 rw [show (w.doors.map (doorE w.hor)).getD i 0 = doorE w.hor w.doors[i] from by simp [List.getD, hi']]
                 exact MeetsV.of (m_checker_door G w xs i hi')) (fun hf3 => ?_) (fun i T L hi hT hL => ?_)
  rotate_left
  · have e : wrongS w = ⟨(w.doors.map (doorE w.hor)).getD i 0, 3, i⟩ := by simp only [wrongS, hdup, firstS, errAll, errKs, List.findIdx?_nil, hf1, hf2, hi]; rfl
    rw [e]
    exact fin_wrong hTh rfl _ rfl hT hL
  conv => whnf
  refine WrapTo.i64 (by omega) ?_
  conv => whnf
  refine LoopOK.weak (wrT2 4) (wrB w xs) ⟨rfl, rfl, rfl, rfl, trivial⟩ ⟨rfl, rfl, rfl, rfl, rfl, rfl, trivial⟩ (chk_mk ⟨rfl, rfl, rfl, rfl, trivial⟩ (wrClo _ _) rfl) ?_
  refine LoopOK.round hTh hMx ?_
  conv => whnf
  refine OpTo.at hTh rfl rfl rfl rfl rfl rfl rfl rfl (show 4 < 7 by omega) rfl ?_
  conv => whnf
  refine OpTo.arrAt hTh rfl rfl rfl rfl rfl rfl (show 4 < 7 by omega) ?_
  conv => whnf
  refine LoopOK.weak (wrT3 4 (wrF.getD 4 .dead) w.names.routes 0) (wrB w xs) ⟨rfl, rfl, rfl, rfl, rfl, rfl, rfl, rfl, trivial⟩ ⟨rfl, rfl, rfl, rfl, rfl, rfl, trivial⟩ (chk_mk ⟨rfl, rfl, rfl, rfl, rfl, rfl, rfl, rfl, trivial⟩ (wrClo _ _) rfl) ?_
  refine wrong_in2 G w xs w.names.routes (w.routes.map routeE) _ 4 (by simp [hN.routes]) (by omega) rfl (fun i hi => by
                 have hi' : i < w.routes.length := by simpa using hi
                 rw [show (w.routes.map routeE).getD i 0 = routeE w.routes[i] from by simp [List.getD, hi']]
                 exact MeetsV.of (m_checker_route G w xs i hi' (hN.nums _ (List.getElem_mem hi')))) (fun hf4 => ?_) (fun i T L hi hT hL => ?_)
  rotate_left
  · have e : wrongS w = ⟨(w.routes.map routeE).getD i 0, 4, i⟩ := by simp only [wrongS, hdup, firstS, errAll, errKs, List.findIdx?_nil, hf1, hf2, hf3, hi]; rfl
    rw [e]
    exact fin_wrong hTh rfl _ rfl hT hL
  conv => whnf
  refine WrapTo.i64 (by omega) ?_
  conv => whnf
  refine LoopOK.weak (wrT2 5) (wrB w xs) ⟨rfl, rfl, rfl, rfl, trivial⟩ ⟨rfl, rfl, rfl, rfl, rfl, rfl, trivial⟩ (chk_mk ⟨rfl, rfl, rfl, rfl, trivial⟩ (wrClo _ _) rfl) ?_
  refine LoopOK.round hTh hMx ?_
  conv => whnf
  refine OpTo.at hTh rfl rfl rfl rfl rfl rfl rfl rfl (show 5 < 7 by omega) rfl ?_
  conv => whnf
  refine OpTo.arrAt hTh rfl rfl rfl rfl rfl rfl (show 5 < 7 by omega) ?_
  conv => whnf
  refine LoopOK.weak (wrT3 5 (wrF.getD 5 .dead) w.names.trips 0) (wrB w xs) ⟨rfl, rfl, rfl, rfl, rfl, rfl, rfl, rfl, trivial⟩ ⟨rfl, rfl, rfl, rfl, rfl, rfl, trivial⟩ (chk_mk ⟨rfl, rfl, rfl, rfl, rfl, rfl, rfl, rfl, trivial⟩ (wrClo _ _) rfl) ?_
  refine wrong_in2 G w xs w.names.trips (w.trips.map tripE) _ 5 (by simp [hN.trips]) (by omega) rfl (fun i hi => by
                 have hi' : i < w.trips.length := by simpa using hi
                 rw [show (w.trips.map tripE).getD i 0 = tripE w.trips[i] from by simp [List.getD, hi']]
                 exact MeetsV.of (m_checker_trip G w xs i hi')) (fun hf5 => ?_) (fun i T L hi hT hL => ?_)
  rotate_left
  · have e : wrongS w = ⟨(w.trips.map tripE).getD i 0, 5, i⟩ := by simp only [wrongS, hdup, firstS, errAll, errKs, List.findIdx?_nil, hf1, hf2, hf3, hf4, hi]; rfl
    rw [e]
    exact fin_wrong hTh rfl _ rfl hT hL
  conv => whnf
  refine WrapTo.i64 (by omega) ?_
  conv => whnf
  refine LoopOK.weak (wrT2 6) (wrB w xs) ⟨rfl, rfl, rfl, rfl, trivial⟩ ⟨rfl, rfl, rfl, rfl, rfl, rfl, trivial⟩ (chk_mk ⟨rfl, rfl, rfl, rfl, trivial⟩ (wrClo _ _) rfl) ?_
  refine LoopOK.round hTh hMx ?_
  conv => whnf
  refine OpTo.at hTh rfl rfl rfl rfl rfl rfl rfl rfl (show 6 < 7 by omega) rfl ?_
  conv => whnf
  refine OpTo.arrAt hTh rfl rfl rfl rfl rfl rfl (show 6 < 7 by omega) ?_
  conv => whnf
  refine LoopOK.weak (wrT3 6 (wrF.getD 6 .dead) w.names.hazards 0) (wrB w xs) ⟨rfl, rfl, rfl, rfl, rfl, rfl, rfl, rfl, trivial⟩ ⟨rfl, rfl, rfl, rfl, rfl, rfl, trivial⟩ (chk_mk ⟨rfl, rfl, rfl, rfl, rfl, rfl, rfl, rfl, trivial⟩ (wrClo _ _) rfl) ?_
  refine wrong_in2 G w xs w.names.hazards (w.hazards.map (hazE w.hor)) _ 6 (by simp [hN.hazards]) (by omega) rfl (fun i hi => by
                 have hi' : i < w.hazards.length := by simpa using hi
                 rw [show (w.hazards.map (hazE w.hor)).getD i 0 = hazE w.hor w.hazards[i] from by simp [List.getD, hi']]
                 exact MeetsV.of (m_checker_hazard G w xs i hi')) (fun hf6 => ?_) (fun i T L hi hT hL => ?_)
  rotate_left
  · have e : wrongS w = ⟨(w.hazards.map (hazE w.hor)).getD i 0, 6, i⟩ := by simp only [wrongS, hdup, firstS, errAll, errKs, List.findIdx?_nil, hf1, hf2, hf3, hf4, hf5, hi]; rfl
    rw [e]
    exact fin_wrong hTh rfl _ rfl hT hL
  conv => whnf
  refine WrapTo.i64 (by omega) ?_
  conv => whnf
  refine LoopOK.weak (wrT2 7) (wrB w xs) ⟨rfl, rfl, rfl, rfl, trivial⟩ ⟨rfl, rfl, rfl, rfl, rfl, rfl, trivial⟩ (chk_mk ⟨rfl, rfl, rfl, rfl, trivial⟩ (wrClo _ _) rfl) ?_
  refine LoopOK.round hTh hMx ?_
  conv => whnf
  have e : wrongS w = ⟨0, 0, 0⟩ := by simp only [wrongS, hdup, firstS, errAll, errKs, List.findIdx?_nil, hf1, hf2, hf3, hf4, hf5, hf6]
  rw [e]
  exact fin_wrong hTh rfl _ rfl rfl rfl
end Go.Proofs.YtmfolelgdpkkoaaGreatDoor
/- Worlds: made out of a sheet, by the program. -/
set_option linter.unusedVariables false
set_option linter.unusedSimpArgs false
set_option maxRecDepth 10000
namespace Go.Ab
def nms0 : Nms := ⟨[], [], [], [], [], []⟩
def wld0 : Wld := ⟨0, nms0, [], [], [], [], []⟩
def makeW (x : Sht) : Wld := if shtErr x = 0 ∧ (wrongS (numW x)).err = 0 then numW x else wld0
def makeE (x : Sht) : Wrg := if shtErr x = 0 then (if (wrongS (numW x)).err = 0 then ⟨0, 0, 0⟩ else wrongS (numW x)) else ⟨shtErr x, 0, 0⟩
/-- The cells of a world that is nothing, as they are laid. -/
abbrev zWld : List AV := [.int .i64 0, .emp, .emp, .emp, .emp, .emp, .emp, .emp, .emp, .emp, .emp, .emp]
theorem le_zWld {Z : ZL} : LeL Z zWld (cWld wld0) := .cons (.refl _) (.cons (.emp 1) (.cons (.emp 1) (.cons (.emp 1) (.cons (.emp 1) (.cons (.emp 1) (.cons (.emp 1) (.cons (.emp 3) (.cons (.emp 6) (.cons (.emp 3) (.cons (.emp 4) (.cons (.emp 5) (.refl _))))))))))))
theorem not_any {α : Type} {p : α → Bool} {xs : List α} (h : ¬ xs.any p = true) : ∀ x ∈ xs, p x = false := by
  intro x hx
  simp only [Bool.not_eq_true] at h
  rw [List.any_eq_false] at h
  simpa using h x hx
structure ShtOK (x : Sht) : Prop where
  few : tooLong x = false
  names : ∀ s ∈ namesL x, nameOK s = true
  numbers : ∀ n ∈ numbersL x, tickOK n = true
  routes : ∀ r ∈ x.routes, rteOK r = true
theorem shtOK_of {x : Sht} (h : shtErr x = 0) : ShtOK x := by
  unfold shtErr at h
  split at h
  · cases h
  · rename_i h1
    split at h
    · cases h
    · rename_i h2
      split at h
      · cases h
      · rename_i h3
        split at h
        · cases h
        · rename_i h4
          refine ⟨by simpa using h1, fun s hs => ?_, fun n hn => ?_, fun r hr => ?_⟩
          · simpa using not_any h2 s hs
          · simpa using not_any h3 n hn
          · simpa using not_any h4 r hr
theorem shtErr_zero {x : Sht} (h : ShtOK x) : shtErr x = 0 := by
  unfold shtErr
  rw [if_neg (by simp [h.few]), if_neg, if_neg, if_neg]
  · rw [List.any_eq_true]; rintro ⟨r, hr, h1⟩; simp [h.routes r hr] at h1
  · rw [List.any_eq_true]; rintro ⟨r, hr, h1⟩; simp [h.numbers r hr] at h1
  · rw [List.any_eq_true]; rintro ⟨r, hr, h1⟩; simp [h.names r hr] at h1
theorem placeS_low (l : List Str) (s : Str) : -1 ≤ placeS l s := by
  unfold placeS fidx
  split <;> omega
theorem nameOK_len {s : Str} (h : nameOK s = true) : s.length ≤ 9223372036854775807 := by
  unfold nameOK at h
  simp only [Bool.and_eq_true] at h
  have h := h.1
  unfold wordOK at h
  split at h
  · cases h
  · simp only [Bool.and_eq_true, decide_eq_true_eq] at h
    have := h.1.1
    simp
    omega
theorem numb_of {x : Sht} (hx : ShtFits x) (h : ShtOK x) : Numb (numW x) := by
  have hf := h.few
  simp only [tooLong, Bool.or_eq_false_iff, decide_eq_false_iff_not, Nat.not_lt] at hf
  obtain ⟨⟨⟨⟨⟨a1, a2⟩, a3⟩, a4⟩, a5⟩, a6⟩ := hf
  have key : ∀ s ∈ namesL x, nameOK s = true ∧ s.length ≤ 9223372036854775807 := fun s hs => ⟨h.names s hs, nameOK_len (h.names s hs)⟩
  have hrt : ∀ r ∈ x.routes, 2 ≤ r.stops.length ∧ r.stops.length ≤ 32 ∧ r.rides.length + 1 = r.stops.length ∧ r.stays.length + 2 = r.stops.length := fun r hr => by
    have := h.routes r hr
    simp only [rteOK, Bool.and_eq_true, decide_eq_true_eq, beq_iff_eq] at this
    omega
  refine ⟨⟨⟨?_, ?_, ?_, ?_, ?_, ?_⟩, ?_, ?_, ?_, ?_, ?_, ?_⟩, ?_, ?_, ?_, ?_, ?_, ?_, ?_, ?_⟩
  · simp only [numW, nmsOf]; omega
  · simp only [numW, nmsOf, List.length_map]; omega
  · simp only [numW, nmsOf, List.length_map]; omega
  · simp only [numW, nmsOf, List.length_map]; omega
  · simp only [numW, nmsOf, List.length_map]; omega
  · simp only [numW, nmsOf, List.length_map]; omega
  · simp only [numW, List.length_map]; omega
  · simp only [numW, List.length_map]; omega
  · simp only [numW, List.length_map]; omega
  · simp only [numW, List.length_map]; omega
  · simp only [numW, List.length_map]; omega
  · intro r hr
    simp only [numW, List.mem_map] at hr
    obtain ⟨q, hq, rfl⟩ := hr
    have := hrt q hq
    exact ⟨by simp only [rteO, List.length_map]; omega, by simp only [rteO]; omega, by simp only [rteO]; omega⟩
  · intro l hl s hs
    refine key s ?_
    simp only [numW, nmsOf, nmK, List.mem_cons, List.not_mem_nil, or_false] at hl
    simp only [namesL, List.mem_append, List.mem_flatMap]
    rcases hl with rfl | rfl | rfl | rfl | rfl | rfl
    · exact .inl (.inl (.inl (.inl (.inl hs))))
    all_goals
      rw [List.mem_map] at hs
      obtain ⟨q, hq, rfl⟩ := hs
    · exact .inl (.inl (.inl (.inl (.inr ⟨q, hq, by simp [nmPth]⟩))))
    · exact .inl (.inl (.inl (.inr ⟨q, hq, by simp [nmDor]⟩)))
    · exact .inl (.inl (.inr ⟨q, hq, by simp [nmRte]⟩))
    · exact .inl (.inr ⟨q, hq, by simp [nmTrp]⟩)
    · exact .inr ⟨q, hq, by simp [nmHzd]⟩
  · simp only [numW, nmsOf, nmK, List.flatten_cons, List.flatten_nil, List.append_nil, List.length_append, List.length_map]; omega
  · simp [numW, nmsOf]
  · simp [numW, nmsOf]
  · simp [numW, nmsOf]
  · simp [numW, nmsOf]
  · simp [numW, nmsOf]
  · intro r hr
    simp only [numW, List.mem_map] at hr
    obtain ⟨q, hq, rfl⟩ := hr
    have := hrt q hq
    refine ⟨fun s hs => ?_, by simp only [rteO, List.length_map]; omega, by simp only [rteO, List.length_map]; omega⟩
    simp only [rteO, List.mem_map] at hs
    obtain ⟨n, _, rfl⟩ := hs
    exact placeS_low _ _
end Go.Ab
namespace Go.Proofs.YtmfolelgdpkkoaaGreatDoor
open Go Go.Ab
theorem fin_make {G : GlP} {F : FE} {fn : Func} {T : TL} {L : BL} (hΘ : TTok Pg F.Θ) (hw : F.Θ T_api_World = some ty_api_World) (he : F.Θ T_api_Wrong = some ty_api_Wrong) (w : Wld) (e : Wrg) (cs : List AV) (hres : fn.results.toList = [.cell 2 T_api_World, .cell 3 T_api_Wrong]) {l l' : Lbl}
    (hT : getT T 2 = .ref l 0) (hT' : getT T 3 = .ref l' 0) (hL : getL L l = some (.cells T_api_World cs)) (hL' : getL L l' = some (.cells T_api_Wrong (cWrg e))) (hne : lbeq l l' = false) (hc : LeL [] cs (cWld w)) :
    Fin Pg G F [] fn (.tup [.agg (cWld w), .agg (cWrg e)]) [] T L := by
  have hne' : lbeq l' l = false := lbeq_false.2 fun h => lbeq_false.1 hne h.symm
  refine Fin.less [] [(2, .ref l 0), (3, .ref l' 0)] [(l, .cells T_api_World (cWld w)), (l', .cells T_api_Wrong (cWrg e))] ⟨by rw [hT]; exact .refl _, by rw [hT']; exact .refl _, trivial⟩ ⟨⟨_, hL, .cells hc⟩, ⟨_, hL', .refl _⟩, trivial⟩ trivial
    (chk_mk ⟨by simp [cloB, keyB, getL, lbeq_iff.2 rfl], by simp [cloB, keyB, getL, lbeq_iff.2 rfl, hne], trivial⟩ ⟨rfl, rfl, trivial⟩ rfl) ?_
  refine Fin.pure hΘ [.agg (cWld w), .agg (cWrg e)] ?_ rfl rfl
  have L2 : getL [(l, .cells T_api_World (cWld w)), (l', .cells T_api_Wrong (cWrg e))] l = some (.cells T_api_World (cWld w)) := by simp [getL, lbeq_iff.2 rfl]
  have L3 : getL [(l, .cells T_api_World (cWld w)), (l', .cells T_api_Wrong (cWrg e))] l' = some (.cells T_api_Wrong (cWrg e)) := by simp [getL, hne, lbeq_iff.2 rfl]
  have g2 : getT [(2, .ref l 0), (3, .ref l' 0)] 2 = .ref l 0 := rfl
  have g3 : getT [(2, .ref l 0), (3, .ref l' 0)] 3 = .ref l' 0 := rfl
  have t1 : takeV ty_api_Wrong ((cWrg e).drop 0) = some (.agg (cWrg e)) := rfl
  have t2 : takeV ty_api_World ((cWld w).drop 0) = some (.agg (cWld w)) := rfl
  rw [hres]
  simp only [resA, hw, he, g2, g3, L3, t1]
  simp only [L2, t2]
theorem m_world_Make (G : GlP) (hR : Res G) (x : Sht) (hx : ShtFits x) : Meets Pg G F_world_Make [.agg (cSht x)] [] (.tup [.agg (cWld (makeW x)), .agg (cWrg (makeE x))]) [] := by
  refine meets_pure (F := { fe_world_Make with stops := [5] }) hTh hMx func_world_Make rfl call_world_Make rfl rfl rfl ?_
  conv => whnf
  refine CallTo.fn (m_sheet_Check G hR x hx) ?_
  conv => whnf
  refine cond_split (fun h => ?_) (fun h => ?_)
  · have h' : shtErr x ≠ 0 := by simpa using h
    have e1 : makeW x = wld0 := by simp [makeW, h']
    have e2 : makeE x = ⟨shtErr x, 0, 0⟩ := by simp [makeE, h']
    rw [e1, e2]
    conv => whnf
    exact fin_make hTh rfl rfl wld0 ⟨shtErr x, 0, 0⟩ zWld rfl rfl rfl rfl rfl rfl le_zWld
  have h' : shtErr x = 0 := by simpa using h
  have hN := numb_of hx (shtOK_of h')
  conv => whnf
  refine CallTo.fn (m_numbered G x hx) ?_
  conv => whnf
  refine CodeTo.less [((F_world_Make, 5), .cells T_api_World (cWld (numW x)))] [(2, .ref (F_world_Make, 2) 0), (3, .ref (F_world_Make, 3) 0), (5, .pp (cWld (numW x)))] [((F_world_Make, 2), .cells T_api_World zWld), ((F_world_Make, 3), .cells T_api_Wrong (cWrg ⟨0, 0, 0⟩))]
    ⟨.refl _, .refl _, .ref List.mem_cons_self, trivial⟩ ⟨⟨_, rfl, .refl _⟩, ⟨_, rfl, .refl _⟩, trivial⟩ ⟨rfl, rfl, rfl, trivial⟩ rfl ?_
  refine CodeTo.go hTh hMx ?_
  conv => whnf
  refine CallTo.fn (m_world_wrong G hR (numW x) hN) ?_
  conv => whnf
  refine cond_split (fun h2 => ?_) (fun h2 => ?_)
  · have h2' : (wrongS (numW x)).err ≠ 0 := by simpa using h2
    have e1 : makeW x = wld0 := by simp [makeW, h2']
    have e2 : makeE x = wrongS (numW x) := by simp [makeE, h', h2']
    rw [e1, e2]
    conv => whnf
    refine ⟨by kernel_rfl, ?_⟩
    conv => whnf
    exact fin_make hTh rfl rfl wld0 (wrongS (numW x)) zWld rfl rfl rfl rfl rfl rfl le_zWld
  have h2' : (wrongS (numW x)).err = 0 := by simpa using h2
  have e1 : makeW x = numW x := by simp [makeW, h', h2']
  have e2 : makeE x = ⟨0, 0, 0⟩ := by simp [makeE, h', h2']
  rw [e1, e2]
  conv => whnf
  exact fin_make hTh rfl rfl (numW x) ⟨0, 0, 0⟩ (cWld (numW x)) rfl rfl rfl rfl rfl rfl (.refl _)
end Go.Proofs.YtmfolelgdpkkoaaGreatDoor
