/- Worlds: the sheet that a whole world tells, by the document. -/
import Derived.Carry
import Derived.ChangeSame
import Derived.Deep.DeepHandedRow
import Derived.Deep.Slices
import Derived.Laws.Entries
import Derived.Laws.MakeOwn
import Derived.Lib.LaidTab
import Derived.Test.YtelpibkbcljdlaaGreatDoorA9
set_option linter.unusedVariables false
set_option linter.unusedSimpArgs false
set_option maxRecDepth 10000
namespace Go.Proofs.YtelpibkbcljdlaaGreatDoor
open Go Go.Ab
theorem m_ref09_told (G : GlP) (w : Wld) (hw : WldFits w) (hs : Sound w) : Meets Pg G F_ref09_told [.agg (cWld w)] [] (.agg (cSht (toldS w))) [] := by
  have n0 := hw.names.stops
  have b1 := hw.paths
  have b2 := hw.doors
  have b3 := hw.routes
  have b4 := hw.trips
  have b5 := hw.hazards
  refine meets_pure (F := { fe_ref09_told with stops := [19, 31] }) hTh hMx func_ref09_told rfl call_ref09_told rfl rfl rfl ?_
  conv => whnf
  refine ⟨by simp only [List.length_map]; omega, ?_⟩
  conv => whnf
  refine ⟨by kernel_rfl, ?_⟩
  conv => whnf
  refine LoopOK.less [((F_ref09_told, 20), .row T_string 1 (w.names.stops.map cS))] [(1, .ref (F_ref09_told, 1) 0), (2, .ref (F_ref09_told, 2) 0), (3, .ref (F_ref09_told, 3) 0), (4, .ref (F_ref09_told, 4) 0), (5, .int .i64 0)] [((F_ref09_told, 1), .cells T_api_World (cWld w)), ((F_ref09_told, 2), .cells T_api_Sheet (zcells ty_api_Sheet)), ((F_ref09_told, 3), .cells T_api_Names (cNms w.names)), ((F_ref09_told, 4), .cells T_api_Sheet [(.int .i64 w.hor), (.lst 1 (w.names.stops.map cS)), .emp, .emp, .emp, .emp, .emp])]
    ⟨.refl _, .refl _, .refl _, .refl _, .refl _, trivial⟩ ⟨⟨_, rfl, .refl _⟩, ⟨_, rfl, .refl _⟩, ⟨_, rfl, .refl _⟩, ⟨_, rfl, .cells (.cons (.refl _) (.cons (.own List.mem_cons_self rfl) (.refl _)))⟩, trivial⟩ ⟨rfl, Clo.map fS _, rfl, trivial⟩ rfl ?_
  refine LoopOK.conv (Conv.empOwnBox (F_ref09_told, 4) 2 rfl rfl (F_ref09_told, 64) rfl T_api_Path 4) ?_
  refine LoopOK.weak _ _ ?_ ?_ ?_ (LoopOK.ind (fun i : Nat => w.paths.length - i) (fun i => [(1, .ref (F_ref09_told, 1) 0), (2, .ref (F_ref09_told, 2) 0), (3, .ref (F_ref09_told, 3) 0), (4, .ref (F_ref09_told, 4) 0), (5, .int .i64 i)]) (fun i => [((F_ref09_told, 1), .cells T_api_World (cWld w)), ((F_ref09_told, 2), .cells T_api_Sheet (zcells ty_api_Sheet)), ((F_ref09_told, 3), .cells T_api_Names (cNms w.names)), ((F_ref09_told, 4), .cells T_api_Sheet [(.int .i64 w.hor), (.lst 1 (w.names.stops.map cS)), (.own (F_ref09_told, 64) i), .emp, .emp, .emp, .emp]), ((F_ref09_told, 64), .row T_api_Path 4 (((List.range i).map (tPth w)).map cPth))]) (fun i => i ≤ w.paths.length) ?_ 0 (by omega))
  · exact ⟨rfl, rfl, rfl, rfl, rfl, trivial⟩
  · exact ⟨rfl, rfl, rfl, rfl, rfl, trivial⟩
  · exact chk_mk ⟨rfl, rfl, rfl, rfl, rfl, trivial⟩ ⟨rfl, rfl, rfl, rfl, cloX_row (l := (0, 0)) (e := 0) (sz := 0) (by rw [List.map_map]; exact Clo.map (fun y_ => fPth ((tPth w) y_)) _), trivial⟩ rfl
  intro i1 hi1 IH
  refine LoopOK.round hTh hMx ?_
  conv => whnf
  refine cond_split (fun h => ?_) (fun hz1 => ?_)
  · have hlt := lt_of_dec h
    have hA : inB (w.paths.getD i1 ⟨0, 0, 0⟩).a w.names.stops.length = true ∧ inB (w.paths.getD i1 ⟨0, 0, 0⟩).b w.names.stops.length = true := by have := hs.pathA _ (List.getElem_mem hlt); simpa [hlt] using this
    conv => whnf
    refine IndexTo.at (map_atD cS [] (show i1 < w.names.paths.length by have := hs.paths; omega)) ?_
    conv => whnf
    refine IndexTo.at (map_atD cPthO ⟨0, 0, 0⟩ hlt) ?_
    conv => whnf
    refine IndexTo.atD cS [] (inB_spec hA.1).1 (inB_spec hA.1).2 ?_
    conv => whnf
    refine IndexTo.at (map_atD cPthO ⟨0, 0, 0⟩ hlt) ?_
    conv => whnf
    refine IndexTo.atD cS [] (inB_spec hA.2).1 (inB_spec hA.2).2 ?_
    conv => whnf
    refine IndexTo.at (map_atD cPthO ⟨0, 0, 0⟩ hlt) ?_
    conv => whnf
    refine ⟨by simp only [List.length_map, List.length_range], by simp only [List.length_cons, List.length_nil]; omega, ?_⟩
    conv => whnf
    refine ⟨by kernel_rfl, ?_⟩
    conv => whnf
    refine WrapTo.i64 (by omega) ?_
    conv => whnf
    refine LoopOK.weak _ _ ?_ ?_ ?_ (IH (i1 + 1) (by omega) (by omega))
    · exact ⟨rfl, rfl, rfl, rfl, rfl, trivial⟩
    · exact ⟨rfl, rfl, rfl, rfl, congrArg (fun z => some (ABox.row T_api_Path 4 z)) (map_range_succ), trivial⟩
    · exact chk_mk ⟨rfl, rfl, rfl, rfl, rfl, trivial⟩ ⟨rfl, rfl, rfl, rfl, cloX_row (l := (0, 0)) (e := 0) (sz := 0) (by rw [List.map_map]; exact Clo.map (fun y_ => fPth ((tPth w) y_)) _), trivial⟩ rfl
  have hge1 := le_of_dec hz1
  conv => whnf
  obtain rfl : i1 = w.paths.length := by omega
  refine LoopOK.less [((F_ref09_told, 64), .row T_api_Path 4 (((List.range w.paths.length).map (tPth w)).map cPth))] [(1, .ref (F_ref09_told, 1) 0), (2, .ref (F_ref09_told, 2) 0), (3, .ref (F_ref09_told, 3) 0), (4, .ref (F_ref09_told, 4) 0), (6, .int .i64 0)] [((F_ref09_told, 1), .cells T_api_World (cWld w)), ((F_ref09_told, 2), .cells T_api_Sheet (zcells ty_api_Sheet)), ((F_ref09_told, 3), .cells T_api_Names (cNms w.names)), ((F_ref09_told, 4), .cells T_api_Sheet [(.int .i64 w.hor), (.lst 1 (w.names.stops.map cS)), (.lst 4 (((List.range w.paths.length).map (tPth w)).map cPth)), .emp, .emp, .emp, .emp])] ⟨.refl _, .refl _, .refl _, .refl _, .refl _, trivial⟩ ⟨⟨_, rfl, .refl _⟩, ⟨_, rfl, .refl _⟩, ⟨_, rfl, .refl _⟩, ⟨_, rfl, .cells (.cons (.refl _) (.cons (.refl _) (.cons (.own List.mem_cons_self (by simp only [List.length_map, List.length_range])) (.refl _))))⟩, trivial⟩ ⟨rfl, (by rw [List.map_map]; exact Clo.map (fun y_ => fPth ((tPth w) y_)) _), rfl, trivial⟩ (rfl) ?_
  refine LoopOK.conv (Conv.empOwnBox (F_ref09_told, 4) 3 rfl rfl (F_ref09_told, 114) rfl T_api_Door 7) ?_
  refine LoopOK.weak _ _ ?_ ?_ ?_ (LoopOK.ind (fun i : Nat => w.doors.length - i) (fun i => [(1, .ref (F_ref09_told, 1) 0), (2, .ref (F_ref09_told, 2) 0), (3, .ref (F_ref09_told, 3) 0), (4, .ref (F_ref09_told, 4) 0), (6, .int .i64 i)]) (fun i => [((F_ref09_told, 1), .cells T_api_World (cWld w)), ((F_ref09_told, 2), .cells T_api_Sheet (zcells ty_api_Sheet)), ((F_ref09_told, 3), .cells T_api_Names (cNms w.names)), ((F_ref09_told, 4), .cells T_api_Sheet [(.int .i64 w.hor), (.lst 1 (w.names.stops.map cS)), (.lst 4 (((List.range w.paths.length).map (tPth w)).map cPth)), (.own (F_ref09_told, 114) i), .emp, .emp, .emp]), ((F_ref09_told, 114), .row T_api_Door 7 (((List.range i).map (tDor w)).map cDor))]) (fun i => i ≤ w.doors.length) ?_ 0 (by omega))
  · exact ⟨rfl, rfl, rfl, rfl, rfl, trivial⟩
  · exact ⟨rfl, rfl, rfl, rfl, rfl, trivial⟩
  · exact chk_mk ⟨rfl, rfl, rfl, rfl, rfl, trivial⟩ ⟨rfl, rfl, rfl, rfl, cloX_row (l := (0, 0)) (e := 0) (sz := 0) (by rw [List.map_map]; exact Clo.map (fun y_ => fDor ((tDor w) y_)) _), trivial⟩ rfl
  intro i2 hi2 IH
  refine LoopOK.round hTh hMx ?_
  conv => whnf
  refine cond_split (fun h => ?_) (fun hz2 => ?_)
  · have hlt := lt_of_dec h
    have hA : inB (w.doors.getD i2 ⟨0, 0, 0, nil0⟩).a w.names.stops.length = true ∧ inB (w.doors.getD i2 ⟨0, 0, 0, nil0⟩).b w.names.stops.length = true := by have := hs.doorA _ (List.getElem_mem hlt); simpa [hlt] using this
    conv => whnf
    refine IndexTo.at (map_atD cS [] (show i2 < w.names.doors.length by have := hs.doors; omega)) ?_
    conv => whnf
    refine IndexTo.at (map_atD cDorO ⟨0, 0, 0, nil0⟩ hlt) ?_
    conv => whnf
    refine IndexTo.atD cS [] (inB_spec hA.1).1 (inB_spec hA.1).2 ?_
    conv => whnf
    refine IndexTo.at (map_atD cDorO ⟨0, 0, 0, nil0⟩ hlt) ?_
    conv => whnf
    refine IndexTo.atD cS [] (inB_spec hA.2).1 (inB_spec hA.2).2 ?_
    conv => whnf
    refine IndexTo.at (map_atD cDorO ⟨0, 0, 0, nil0⟩ hlt) ?_
    conv => whnf
    refine IndexTo.at (map_atD cDorO ⟨0, 0, 0, nil0⟩ hlt) ?_
    conv => whnf
    refine ⟨by simp only [List.length_map, List.length_range], by simp only [List.length_cons, List.length_nil]; omega, ?_⟩
    conv => whnf
    refine ⟨by kernel_rfl, ?_⟩
    conv => whnf
    refine WrapTo.i64 (by omega) ?_
    conv => whnf
    refine LoopOK.weak _ _ ?_ ?_ ?_ (IH (i2 + 1) (by omega) (by omega))
    · exact ⟨rfl, rfl, rfl, rfl, rfl, trivial⟩
    · exact ⟨rfl, rfl, rfl, rfl, congrArg (fun z => some (ABox.row T_api_Door 7 z)) (map_range_succ), trivial⟩
    · exact chk_mk ⟨rfl, rfl, rfl, rfl, rfl, trivial⟩ ⟨rfl, rfl, rfl, rfl, cloX_row (l := (0, 0)) (e := 0) (sz := 0) (by rw [List.map_map]; exact Clo.map (fun y_ => fDor ((tDor w) y_)) _), trivial⟩ rfl
  have hge2 := le_of_dec hz2
  conv => whnf
  obtain rfl : i2 = w.doors.length := by omega
  refine LoopOK.less [((F_ref09_told, 114), .row T_api_Door 7 (((List.range w.doors.length).map (tDor w)).map cDor))] [(1, .ref (F_ref09_told, 1) 0), (2, .ref (F_ref09_told, 2) 0), (3, .ref (F_ref09_told, 3) 0), (4, .ref (F_ref09_told, 4) 0), (7, .int .i64 0)] [((F_ref09_told, 1), .cells T_api_World (cWld w)), ((F_ref09_told, 2), .cells T_api_Sheet (zcells ty_api_Sheet)), ((F_ref09_told, 3), .cells T_api_Names (cNms w.names)), ((F_ref09_told, 4), .cells T_api_Sheet [(.int .i64 w.hor), (.lst 1 (w.names.stops.map cS)), (.lst 4 (((List.range w.paths.length).map (tPth w)).map cPth)), (.lst 7 (((List.range w.doors.length).map (tDor w)).map cDor)), .emp, .emp, .emp])] ⟨.refl _, .refl _, .refl _, .refl _, .refl _, trivial⟩ ⟨⟨_, rfl, .refl _⟩, ⟨_, rfl, .refl _⟩, ⟨_, rfl, .refl _⟩, ⟨_, rfl, .cells (.cons (.refl _) (.cons (.refl _) (.cons (.refl _) (.cons (.own List.mem_cons_self (by simp only [List.length_map, List.length_range])) (.refl _)))))⟩, trivial⟩ ⟨rfl, (by rw [List.map_map]; exact Clo.map (fun y_ => fDor ((tDor w) y_)) _), rfl, trivial⟩ (rfl) ?_
  refine LoopOK.conv (Conv.empOwnBox (F_ref09_told, 4) 4 rfl rfl (F_ref09_told, 178) rfl T_api_Route 4) ?_
  refine LoopOK.weak _ _ ?_ ?_ ?_ (LoopOK.ind (fun i : Nat => w.routes.length - i) (fun i => [(1, .ref (F_ref09_told, 1) 0), (2, .ref (F_ref09_told, 2) 0), (3, .ref (F_ref09_told, 3) 0), (4, .ref (F_ref09_told, 4) 0), (7, .int .i64 i)]) (fun i => [((F_ref09_told, 1), .cells T_api_World (cWld w)), ((F_ref09_told, 2), .cells T_api_Sheet (zcells ty_api_Sheet)), ((F_ref09_told, 3), .cells T_api_Names (cNms w.names)), ((F_ref09_told, 4), .cells T_api_Sheet [(.int .i64 w.hor), (.lst 1 (w.names.stops.map cS)), (.lst 4 (((List.range w.paths.length).map (tPth w)).map cPth)), (.lst 7 (((List.range w.doors.length).map (tDor w)).map cDor)), (.own (F_ref09_told, 178) i), .emp, .emp]), ((F_ref09_told, 178), .row T_api_Route 4 (((List.range i).map (tRte w)).map cRte))]) (fun i => i ≤ w.routes.length) ?_ 0 (by omega))
  · exact ⟨rfl, rfl, rfl, rfl, rfl, trivial⟩
  · exact ⟨rfl, rfl, rfl, rfl, rfl, trivial⟩
  · exact chk_mk ⟨rfl, rfl, rfl, rfl, rfl, trivial⟩ ⟨rfl, rfl, rfl, rfl, cloX_row (l := (0, 0)) (e := 0) (sz := 0) (by rw [List.map_map]; exact Clo.map (fun y => fRte (tRte w y)) _), trivial⟩ rfl
  intro i3 hi3 IH3
  refine LoopOK.round hTh hMx ?_
  conv => whnf
  refine cond_split (fun h => ?_) (fun hz3 => ?_)
  · have hlt3 := lt_of_dec h
    have hA : ∀ s ∈ (w.routes.getD i3 ⟨[], [], []⟩).stops, inB s w.names.stops.length = true := by have := hs.routeA _ (List.getElem_mem hlt3); simpa [hlt3] using this
    have hr : RteOFits (w.routes.getD i3 ⟨[], [], []⟩) := by have := hw.each _ (List.getElem_mem hlt3); simpa [hlt3] using this
    have r0 := hr.stops
    have r1 := hr.rides
    have r2 := hr.stays
    conv => whnf
    refine IndexTo.at (map_atD cS [] (show i3 < w.names.routes.length by have := hs.routes; omega)) ?_
    conv => whnf
    refine IndexTo.at (map_atD cRteO ⟨[], [], []⟩ hlt3) ?_
    conv => whnf
    refine ⟨by simp only [List.length_map]; omega, ?_⟩
    conv => whnf
    refine IndexTo.at (map_atD cRteO ⟨[], [], []⟩ hlt3) ?_
    conv => whnf
    refine ⟨by simp only [List.length_map]; omega, ?_⟩
    conv => whnf
    refine ⟨by kernel_rfl, ?_⟩
    conv => whnf
    refine LoopOK.less [((F_ref09_told, 135), .row T_i64 1 ((w.routes.getD i3 ⟨[], [], []⟩).rides.map cI)), ((F_ref09_told, 143), .row T_i64 1 ((w.routes.getD i3 ⟨[], [], []⟩).stays.map cI))] [(1, .ref (F_ref09_told, 1) 0), (2, .ref (F_ref09_told, 2) 0), (3, .ref (F_ref09_told, 3) 0), (4, .ref (F_ref09_told, 4) 0), (7, .int .i64 i3), (8, .ref (F_ref09_told, 8) 0), (9, .int .i64 0)]
      [((F_ref09_told, 1), .cells T_api_World (cWld w)), ((F_ref09_told, 2), .cells T_api_Sheet (zcells ty_api_Sheet)), ((F_ref09_told, 3), .cells T_api_Names (cNms w.names)), ((F_ref09_told, 4), .cells T_api_Sheet [(.int .i64 w.hor), (.lst 1 (w.names.stops.map cS)), (.lst 4 (((List.range w.paths.length).map (tPth w)).map cPth)), (.lst 7 (((List.range w.doors.length).map (tDor w)).map cDor)), (.own (F_ref09_told, 178) i3), .emp, .emp]), ((F_ref09_told, 178), .row T_api_Route 4 (((List.range i3).map (tRte w)).map cRte)), ((F_ref09_told, 8), .cells T_api_Route [.str (w.names.routes.getD i3 []), .emp, .lst 1 ((w.routes.getD i3 ⟨[], [], []⟩).rides.map cI), .lst 1 ((w.routes.getD i3 ⟨[], [], []⟩).stays.map cI)])]
      ⟨.refl _, .refl _, .refl _, .refl _, .refl _, .refl _, .refl _, trivial⟩ ⟨⟨_, rfl, .refl _⟩, ⟨_, rfl, .refl _⟩, ⟨_, rfl, .refl _⟩, ⟨_, rfl, .refl _⟩, ⟨_, rfl, .refl _⟩, ⟨_, rfl, .cells (.cons (.refl _) (.cons (.refl _) (.cons (.own List.mem_cons_self rfl) (.cons (.own (List.mem_cons_of_mem _ List.mem_cons_self) rfl) (.refl _)))))⟩, trivial⟩
      ⟨rfl, Clo.map fI _, rfl, rfl, Clo.map fI _, rfl, trivial⟩ (chk_mk ⟨rfl, rfl, rfl, rfl, rfl, rfl, rfl, trivial⟩ ⟨rfl, rfl, rfl, rfl, cloX_row (l := (0, 0)) (e := 0) (sz := 0) (by rw [List.map_map]; exact Clo.map (fun y => fRte (tRte w y)) _), rfl, trivial⟩ rfl) ?_
    refine LoopOK.conv (Conv.empOwnBox (F_ref09_told, 8) 1 rfl rfl (F_ref09_told, 172) rfl T_string 1) ?_
    refine LoopOK.weak _ _ ?_ ?_ ?_ (LoopOK.ind (fun i : Nat => (w.routes.getD i3 ⟨[], [], []⟩).stops.length - i) (fun i => [(1, .ref (F_ref09_told, 1) 0), (2, .ref (F_ref09_told, 2) 0), (3, .ref (F_ref09_told, 3) 0), (4, .ref (F_ref09_told, 4) 0), (7, .int .i64 i3), (8, .ref (F_ref09_told, 8) 0), (9, .int .i64 i)]) (fun i => [((F_ref09_told, 1), .cells T_api_World (cWld w)), ((F_ref09_told, 2), .cells T_api_Sheet (zcells ty_api_Sheet)), ((F_ref09_told, 3), .cells T_api_Names (cNms w.names)), ((F_ref09_told, 4), .cells T_api_Sheet [(.int .i64 w.hor), (.lst 1 (w.names.stops.map cS)), (.lst 4 (((List.range w.paths.length).map (tPth w)).map cPth)), (.lst 7 (((List.range w.doors.length).map (tDor w)).map cDor)), (.own (F_ref09_told, 178) i3), .emp, .emp]), ((F_ref09_told, 178), .row T_api_Route 4 (((List.range i3).map (tRte w)).map cRte)), ((F_ref09_told, 8), .cells T_api_Route [.str (w.names.routes.getD i3 []), (.own (F_ref09_told, 172) i), .lst 1 ((w.routes.getD i3 ⟨[], [], []⟩).rides.map cI), .lst 1 ((w.routes.getD i3 ⟨[], [], []⟩).stays.map cI)]), ((F_ref09_told, 172), .row T_string 1 ((((w.routes.getD i3 ⟨[], [], []⟩).stops.take i).map (fun s : Int => w.names.stops.getD s.toNat [])).map cS))]) (fun i => i ≤ (w.routes.getD i3 ⟨[], [], []⟩).stops.length) ?_ 0 (by omega))
    · exact ⟨rfl, rfl, rfl, rfl, rfl, rfl, rfl, trivial⟩
    · exact ⟨rfl, rfl, rfl, rfl, rfl, rfl, rfl, trivial⟩
    · exact chk_mk ⟨rfl, rfl, rfl, rfl, rfl, rfl, rfl, trivial⟩ ⟨rfl, rfl, rfl, rfl, cloX_row (l := (0, 0)) (e := 0) (sz := 0) (by rw [List.map_map]; exact Clo.map (fun y => fRte (tRte w y)) _), rfl, cloX_row (l := (0, 0)) (e := 0) (sz := 0) (by rw [List.map_map]; exact Clo.map (fun y_ => fS ((fun s : Int => w.names.stops.getD s.toNat []) y_)) _), trivial⟩ rfl
    intro i4 hi4 IH
    refine LoopOK.round hTh hMx ?_
    conv => whnf
    refine IndexTo.at (map_atD cRteO ⟨[], [], []⟩ hlt3) ?_
    conv => whnf
    refine cond_split (fun h => ?_) (fun hz4 => ?_)
    · have hlt := lt_of_dec h
      have hB := inB_spec (hA _ (List.getElem_mem hlt))
      conv => whnf
      refine IndexTo.at (map_atD cRteO ⟨[], [], []⟩ hlt3) ?_
      conv => whnf
      refine IndexTo.at (map_at cI hlt) ?_
      conv => whnf
      refine IndexTo.atD cS [] hB.1 hB.2 ?_
      conv => whnf
      refine ⟨by simp only [List.length_map, List.length_take]; omega, by simp only [List.length_cons, List.length_nil]; omega, ?_⟩
      conv => whnf
      refine ⟨by kernel_rfl, ?_⟩
      conv => whnf
      refine WrapTo.i64 (by omega) ?_
      conv => whnf
      refine LoopOK.weak _ _ ?_ ?_ ?_ (IH (i4 + 1) (by omega) (by omega))
      · exact ⟨rfl, rfl, rfl, rfl, rfl, rfl, rfl, trivial⟩
      · exact ⟨rfl, rfl, rfl, rfl, rfl, rfl, congrArg (fun z => some (ABox.row T_string 1 z)) (map_succ2 hlt), trivial⟩
      · exact chk_mk ⟨rfl, rfl, rfl, rfl, rfl, rfl, rfl, trivial⟩ ⟨rfl, rfl, rfl, rfl, cloX_row (l := (0, 0)) (e := 0) (sz := 0) (by rw [List.map_map]; exact Clo.map (fun y => fRte (tRte w y)) _), rfl, cloX_row (l := (0, 0)) (e := 0) (sz := 0) (by rw [List.map_map]; exact Clo.map (fun y_ => fS ((fun s : Int => w.names.stops.getD s.toNat []) y_)) _), trivial⟩ rfl
    have hge4 := le_of_dec hz4
    conv => whnf
    rw [List.take_of_length_le hge4]
    refine CodeTo.less [((F_ref09_told, 172), .row T_string 1 (((w.routes.getD i3 ⟨[], [], []⟩).stops.map (fun s : Int => w.names.stops.getD s.toNat [])).map cS))] [(1, .ref (F_ref09_told, 1) 0), (2, .ref (F_ref09_told, 2) 0), (3, .ref (F_ref09_told, 3) 0), (4, .ref (F_ref09_told, 4) 0), (7, .int .i64 i3), (8, .ref (F_ref09_told, 8) 0)] [((F_ref09_told, 1), .cells T_api_World (cWld w)), ((F_ref09_told, 2), .cells T_api_Sheet (zcells ty_api_Sheet)), ((F_ref09_told, 3), .cells T_api_Names (cNms w.names)), ((F_ref09_told, 4), .cells T_api_Sheet [(.int .i64 w.hor), (.lst 1 (w.names.stops.map cS)), (.lst 4 (((List.range w.paths.length).map (tPth w)).map cPth)), (.lst 7 (((List.range w.doors.length).map (tDor w)).map cDor)), (.own (F_ref09_told, 178) i3), .emp, .emp]), ((F_ref09_told, 178), .row T_api_Route 4 (((List.range i3).map (tRte w)).map cRte)), ((F_ref09_told, 8), .cells T_api_Route [.str (w.names.routes.getD i3 []), (.lst 1 (((w.routes.getD i3 ⟨[], [], []⟩).stops.map (fun s : Int => w.names.stops.getD s.toNat [])).map cS)), .lst 1 ((w.routes.getD i3 ⟨[], [], []⟩).rides.map cI), .lst 1 ((w.routes.getD i3 ⟨[], [], []⟩).stays.map cI)])] ⟨.refl _, .refl _, .refl _, .refl _, .refl _, .refl _, trivial⟩ ⟨⟨_, rfl, .refl _⟩, ⟨_, rfl, .refl _⟩, ⟨_, rfl, .refl _⟩, ⟨_, rfl, .refl _⟩, ⟨_, rfl, .refl _⟩, ⟨_, rfl, .cells (.cons (.refl _) (.cons (.own List.mem_cons_self (by simp only [List.length_map]; omega)) (.refl _)))⟩, trivial⟩ ⟨rfl, (by rw [List.map_map]; exact Clo.map (fun y_ => fS ((fun s : Int => w.names.stops.getD s.toNat []) y_)) _), rfl, trivial⟩ (chk_mk ⟨rfl, rfl, rfl, rfl, rfl, rfl, trivial⟩ ⟨rfl, rfl, rfl, rfl, cloX_row (l := (0, 0)) (e := 0) (sz := 0) (by rw [List.map_map]; exact Clo.map (fun y => fRte (tRte w y)) _), rfl, trivial⟩ rfl) ?_
    refine CodeTo.go hTh hMx ?_
    conv => whnf
    refine ⟨by simp only [List.length_map, List.length_range], by simp only [List.length_cons, List.length_nil]; omega, ?_⟩
    conv => whnf
    refine WrapTo.i64 (by omega) ?_
    conv => whnf
    refine LoopOK.weak _ _ ?_ ?_ ?_ (IH3 (i3 + 1) (by omega) (by omega))
    · exact ⟨rfl, rfl, rfl, rfl, rfl, trivial⟩
    · exact ⟨rfl, rfl, rfl, rfl, congrArg (fun z => some (ABox.row T_api_Route 4 z)) (map_range_succ), trivial⟩
    · exact chk_mk ⟨rfl, rfl, rfl, rfl, rfl, trivial⟩ ⟨rfl, rfl, rfl, rfl, cloX_row (l := (0, 0)) (e := 0) (sz := 0) (by rw [List.map_map]; exact Clo.map (fun y => fRte (tRte w y)) _), trivial⟩ rfl
  have hge3 := le_of_dec hz3
  conv => whnf
  obtain rfl : i3 = w.routes.length := by omega
  refine LoopOK.less [((F_ref09_told, 178), .row T_api_Route 4 (((List.range w.routes.length).map (tRte w)).map cRte))] [(1, .ref (F_ref09_told, 1) 0), (2, .ref (F_ref09_told, 2) 0), (3, .ref (F_ref09_told, 3) 0), (4, .ref (F_ref09_told, 4) 0), (10, .int .i64 0)] [((F_ref09_told, 1), .cells T_api_World (cWld w)), ((F_ref09_told, 2), .cells T_api_Sheet (zcells ty_api_Sheet)), ((F_ref09_told, 3), .cells T_api_Names (cNms w.names)), ((F_ref09_told, 4), .cells T_api_Sheet [(.int .i64 w.hor), (.lst 1 (w.names.stops.map cS)), (.lst 4 (((List.range w.paths.length).map (tPth w)).map cPth)), (.lst 7 (((List.range w.doors.length).map (tDor w)).map cDor)), (.lst 4 (((List.range w.routes.length).map (tRte w)).map cRte)), .emp, .emp])] ⟨.refl _, .refl _, .refl _, .refl _, .refl _, trivial⟩ ⟨⟨_, rfl, .refl _⟩, ⟨_, rfl, .refl _⟩, ⟨_, rfl, .refl _⟩, ⟨_, rfl, .cells (.cons (.refl _) (.cons (.refl _) (.cons (.refl _) (.cons (.refl _) (.cons (.own List.mem_cons_self (by simp only [List.length_map, List.length_range])) (.refl _))))))⟩, trivial⟩ ⟨rfl, (by rw [List.map_map]; exact Clo.map (fun y => fRte (tRte w y)) _), rfl, trivial⟩ rfl ?_
  refine LoopOK.conv (Conv.empOwnBox (F_ref09_told, 4) 5 rfl rfl (F_ref09_told, 224) rfl T_api_Trip 5) ?_
  refine LoopOK.weak _ _ ?_ ?_ ?_ (LoopOK.ind (fun i : Nat => w.trips.length - i) (fun i => [(1, .ref (F_ref09_told, 1) 0), (2, .ref (F_ref09_told, 2) 0), (3, .ref (F_ref09_told, 3) 0), (4, .ref (F_ref09_told, 4) 0), (10, .int .i64 i)]) (fun i => [((F_ref09_told, 1), .cells T_api_World (cWld w)), ((F_ref09_told, 2), .cells T_api_Sheet (zcells ty_api_Sheet)), ((F_ref09_told, 3), .cells T_api_Names (cNms w.names)), ((F_ref09_told, 4), .cells T_api_Sheet [(.int .i64 w.hor), (.lst 1 (w.names.stops.map cS)), (.lst 4 (((List.range w.paths.length).map (tPth w)).map cPth)), (.lst 7 (((List.range w.doors.length).map (tDor w)).map cDor)), (.lst 4 (((List.range w.routes.length).map (tRte w)).map cRte)), (.own (F_ref09_told, 224) i), .emp]), ((F_ref09_told, 224), .row T_api_Trip 5 (((List.range i).map (tTrp w)).map cTrp))]) (fun i => i ≤ w.trips.length) ?_ 0 (by omega))
  · exact ⟨rfl, rfl, rfl, rfl, rfl, trivial⟩
  · exact ⟨rfl, rfl, rfl, rfl, rfl, trivial⟩
  · exact chk_mk ⟨rfl, rfl, rfl, rfl, rfl, trivial⟩ ⟨rfl, rfl, rfl, rfl, cloX_row (l := (0, 0)) (e := 0) (sz := 0) (by rw [List.map_map]; exact Clo.map (fun y_ => fTrp ((tTrp w) y_)) _), trivial⟩ rfl
  intro i5 hi5 IH
  refine LoopOK.round hTh hMx ?_
  conv => whnf
  refine cond_split (fun h => ?_) (fun hz5 => ?_)
  · have hlt := lt_of_dec h
    have hA : inB (w.trips.getD i5 ⟨0, 0, 0, 0⟩).route w.names.routes.length = true := by have := hs.tripA _ (List.getElem_mem hlt); simpa [hlt] using this
    conv => whnf
    refine IndexTo.at (map_atD cS [] (show i5 < w.names.trips.length by have := hs.trips; omega)) ?_
    conv => whnf
    refine IndexTo.at (map_atD cTrpO ⟨0, 0, 0, 0⟩ hlt) ?_
    conv => whnf
    refine IndexTo.atD cS [] (inB_spec hA).1 (inB_spec hA).2 ?_
    conv => whnf
    refine IndexTo.at (map_atD cTrpO ⟨0, 0, 0, 0⟩ hlt) ?_
    conv => whnf
    refine IndexTo.at (map_atD cTrpO ⟨0, 0, 0, 0⟩ hlt) ?_
    conv => whnf
    refine IndexTo.at (map_atD cTrpO ⟨0, 0, 0, 0⟩ hlt) ?_
    conv => whnf
    refine ⟨by simp only [List.length_map, List.length_range], by simp only [List.length_cons, List.length_nil]; omega, ?_⟩
    conv => whnf
    refine ⟨by kernel_rfl, ?_⟩
    conv => whnf
    refine WrapTo.i64 (by omega) ?_
    conv => whnf
    refine LoopOK.weak _ _ ?_ ?_ ?_ (IH (i5 + 1) (by omega) (by omega))
    · exact ⟨rfl, rfl, rfl, rfl, rfl, trivial⟩
    · exact ⟨rfl, rfl, rfl, rfl, congrArg (fun z => some (ABox.row T_api_Trip 5 z)) (map_range_succ), trivial⟩
    · exact chk_mk ⟨rfl, rfl, rfl, rfl, rfl, trivial⟩ ⟨rfl, rfl, rfl, rfl, cloX_row (l := (0, 0)) (e := 0) (sz := 0) (by rw [List.map_map]; exact Clo.map (fun y_ => fTrp ((tTrp w) y_)) _), trivial⟩ rfl
  have hge5 := le_of_dec hz5
  conv => whnf
  obtain rfl : i5 = w.trips.length := by omega
  refine LoopOK.less [((F_ref09_told, 224), .row T_api_Trip 5 (((List.range w.trips.length).map (tTrp w)).map cTrp))] [(1, .ref (F_ref09_told, 1) 0), (2, .ref (F_ref09_told, 2) 0), (3, .ref (F_ref09_told, 3) 0), (4, .ref (F_ref09_told, 4) 0), (11, .int .i64 0)] [((F_ref09_told, 1), .cells T_api_World (cWld w)), ((F_ref09_told, 2), .cells T_api_Sheet (zcells ty_api_Sheet)), ((F_ref09_told, 3), .cells T_api_Names (cNms w.names)), ((F_ref09_told, 4), .cells T_api_Sheet [(.int .i64 w.hor), (.lst 1 (w.names.stops.map cS)), (.lst 4 (((List.range w.paths.length).map (tPth w)).map cPth)), (.lst 7 (((List.range w.doors.length).map (tDor w)).map cDor)), (.lst 4 (((List.range w.routes.length).map (tRte w)).map cRte)), (.lst 5 (((List.range w.trips.length).map (tTrp w)).map cTrp)), .emp])] ⟨.refl _, .refl _, .refl _, .refl _, .refl _, trivial⟩ ⟨⟨_, rfl, .refl _⟩, ⟨_, rfl, .refl _⟩, ⟨_, rfl, .refl _⟩, ⟨_, rfl, .cells (.cons (.refl _) (.cons (.refl _) (.cons (.refl _) (.cons (.refl _) (.cons (.refl _) (.cons (.own List.mem_cons_self (by simp only [List.length_map, List.length_range])) (.refl _)))))))⟩, trivial⟩ ⟨rfl, (by rw [List.map_map]; exact Clo.map (fun y_ => fTrp ((tTrp w) y_)) _), rfl, trivial⟩ (rfl) ?_
  refine LoopOK.conv (Conv.empOwnBox (F_ref09_told, 4) 6 rfl rfl (F_ref09_told, 267) rfl T_api_Hazard 5) ?_
  refine LoopOK.weak _ _ ?_ ?_ ?_ (LoopOK.ind (fun i : Nat => w.hazards.length - i) (fun i => [(1, .ref (F_ref09_told, 1) 0), (2, .ref (F_ref09_told, 2) 0), (3, .ref (F_ref09_told, 3) 0), (4, .ref (F_ref09_told, 4) 0), (11, .int .i64 i)]) (fun i => [((F_ref09_told, 1), .cells T_api_World (cWld w)), ((F_ref09_told, 2), .cells T_api_Sheet (zcells ty_api_Sheet)), ((F_ref09_told, 3), .cells T_api_Names (cNms w.names)), ((F_ref09_told, 4), .cells T_api_Sheet [(.int .i64 w.hor), (.lst 1 (w.names.stops.map cS)), (.lst 4 (((List.range w.paths.length).map (tPth w)).map cPth)), (.lst 7 (((List.range w.doors.length).map (tDor w)).map cDor)), (.lst 4 (((List.range w.routes.length).map (tRte w)).map cRte)), (.lst 5 (((List.range w.trips.length).map (tTrp w)).map cTrp)), (.own (F_ref09_told, 267) i)]), ((F_ref09_told, 267), .row T_api_Hazard 5 (((List.range i).map (tHzd w)).map cHzd))]) (fun i => i ≤ w.hazards.length) ?_ 0 (by omega))
  · exact ⟨rfl, rfl, rfl, rfl, rfl, trivial⟩
  · exact ⟨rfl, rfl, rfl, rfl, rfl, trivial⟩
  · exact chk_mk ⟨rfl, rfl, rfl, rfl, rfl, trivial⟩ ⟨rfl, rfl, rfl, rfl, cloX_row (l := (0, 0)) (e := 0) (sz := 0) (by rw [List.map_map]; exact Clo.map (fun y_ => fHzd ((tHzd w) y_)) _), trivial⟩ rfl
  intro i6 hi6 IH
  refine LoopOK.round hTh hMx ?_
  conv => whnf
  refine cond_split (fun h => ?_) (fun hz6 => ?_)
  · have hlt := lt_of_dec h
    have hA : inB (w.hazards.getD i6 ⟨false, 0, nil0⟩).on (if (w.hazards.getD i6 ⟨false, 0, nil0⟩).stop then w.names.stops.length else w.names.paths.length) = true := by have := hs.hazardA _ (List.getElem_mem hlt); simpa [hlt] using this
    conv => whnf
    refine IndexTo.at (map_atD cHzdO ⟨false, 0, nil0⟩ hlt) ?_
    conv => whnf
    refine cond_split (fun hc => ?_) (fun hc => ?_)
    · have e1 : tHzd w i6 = ⟨w.names.hazards.getD i6 [], w.names.stops.getD (w.hazards.getD i6 ⟨false, 0, nil0⟩).on.toNat [], (w.hazards.getD i6 ⟨false, 0, nil0⟩).tm⟩ := by unfold tHzd; simp only; rw [if_pos hc]
      have hB : inB (w.hazards.getD i6 ⟨false, 0, nil0⟩).on w.names.stops.length = true := by rw [if_pos hc] at hA; exact hA
      conv => whnf
      refine IndexTo.at (map_atD cS [] (show i6 < w.names.hazards.length by have := hs.hazards; omega)) ?_
      conv => whnf
      refine IndexTo.at (map_atD cHzdO ⟨false, 0, nil0⟩ hlt) ?_
      conv => whnf
      refine IndexTo.atD cS [] (inB_spec hB).1 (inB_spec hB).2 ?_
      conv => whnf
      refine IndexTo.at (map_atD cHzdO ⟨false, 0, nil0⟩ hlt) ?_
      conv => whnf
      refine ⟨by simp only [List.length_map, List.length_range], by simp only [List.length_cons, List.length_nil]; omega, ?_⟩
      conv => whnf
      refine ⟨by kernel_rfl, ?_⟩
      conv => whnf
      refine WrapTo.i64 (by omega) ?_
      conv => whnf
      refine LoopOK.weak _ _ ?_ ?_ ?_ (IH (i6 + 1) (by omega) (by omega))
      · exact ⟨rfl, rfl, rfl, rfl, rfl, trivial⟩
      · exact ⟨rfl, rfl, rfl, rfl, congrArg (fun z => some (ABox.row T_api_Hazard 5 z)) (by rw [← map_range_succ, e1]; rfl), trivial⟩
      · exact chk_mk ⟨rfl, rfl, rfl, rfl, rfl, trivial⟩ ⟨rfl, rfl, rfl, rfl, cloX_row (l := (0, 0)) (e := 0) (sz := 0) (by rw [List.map_map]; exact Clo.map (fun y_ => fHzd ((tHzd w) y_)) _), trivial⟩ rfl
    · have e1 : tHzd w i6 = ⟨w.names.hazards.getD i6 [], w.names.paths.getD (w.hazards.getD i6 ⟨false, 0, nil0⟩).on.toNat [], (w.hazards.getD i6 ⟨false, 0, nil0⟩).tm⟩ := by unfold tHzd; simp only; rw [if_neg (by rw [hc]; exact Bool.false_ne_true)]
      have hB : inB (w.hazards.getD i6 ⟨false, 0, nil0⟩).on w.names.paths.length = true := by rw [if_neg (by rw [hc]; exact Bool.false_ne_true)] at hA; exact hA
      conv => whnf
      refine IndexTo.at (map_atD cS [] (show i6 < w.names.hazards.length by have := hs.hazards; omega)) ?_
      conv => whnf
      refine IndexTo.at (map_atD cHzdO ⟨false, 0, nil0⟩ hlt) ?_
      conv => whnf
      refine IndexTo.atD cS [] (inB_spec hB).1 (inB_spec hB).2 ?_
      conv => whnf
      refine IndexTo.at (map_atD cHzdO ⟨false, 0, nil0⟩ hlt) ?_
      conv => whnf
      refine ⟨by simp only [List.length_map, List.length_range], by simp only [List.length_cons, List.length_nil]; omega, ?_⟩
      conv => whnf
      refine ⟨by kernel_rfl, ?_⟩
      conv => whnf
      refine WrapTo.i64 (by omega) ?_
      conv => whnf
      refine LoopOK.weak _ _ ?_ ?_ ?_ (IH (i6 + 1) (by omega) (by omega))
      · exact ⟨rfl, rfl, rfl, rfl, rfl, trivial⟩
      · exact ⟨rfl, rfl, rfl, rfl, congrArg (fun z => some (ABox.row T_api_Hazard 5 z)) (by rw [← map_range_succ, e1]; rfl), trivial⟩
      · exact chk_mk ⟨rfl, rfl, rfl, rfl, rfl, trivial⟩ ⟨rfl, rfl, rfl, rfl, cloX_row (l := (0, 0)) (e := 0) (sz := 0) (by rw [List.map_map]; exact Clo.map (fun y_ => fHzd ((tHzd w) y_)) _), trivial⟩ rfl
  have hge6 := le_of_dec hz6
  conv => whnf
  obtain rfl : i6 = w.hazards.length := by omega
  refine CodeTo.less [((F_ref09_told, 267), .row T_api_Hazard 5 (((List.range w.hazards.length).map (tHzd w)).map cHzd))] [(1, .ref (F_ref09_told, 1) 0), (2, .ref (F_ref09_told, 2) 0), (3, .ref (F_ref09_told, 3) 0), (4, .ref (F_ref09_told, 4) 0)] [((F_ref09_told, 1), .cells T_api_World (cWld w)), ((F_ref09_told, 2), .cells T_api_Sheet (zcells ty_api_Sheet)), ((F_ref09_told, 3), .cells T_api_Names (cNms w.names)), ((F_ref09_told, 4), .cells T_api_Sheet [(.int .i64 w.hor), (.lst 1 (w.names.stops.map cS)), (.lst 4 (((List.range w.paths.length).map (tPth w)).map cPth)), (.lst 7 (((List.range w.doors.length).map (tDor w)).map cDor)), (.lst 4 (((List.range w.routes.length).map (tRte w)).map cRte)), (.lst 5 (((List.range w.trips.length).map (tTrp w)).map cTrp)), (.lst 5 (((List.range w.hazards.length).map (tHzd w)).map cHzd))])] ⟨.refl _, .refl _, .refl _, .refl _, trivial⟩ ⟨⟨_, rfl, .refl _⟩, ⟨_, rfl, .refl _⟩, ⟨_, rfl, .refl _⟩, ⟨_, rfl, .cells (.cons (.refl _) (.cons (.refl _) (.cons (.refl _) (.cons (.refl _) (.cons (.refl _) (.cons (.refl _) (.cons (.own List.mem_cons_self (by simp only [List.length_map, List.length_range])) (.refl _))))))))⟩, trivial⟩ ⟨rfl, (by rw [List.map_map]; exact Clo.map (fun y_ => fHzd ((tHzd w) y_)) _), rfl, trivial⟩ (rfl) ?_
  refine CodeTo.go hTh hMx ?_
  conv => whnf
  exact Fin.pure hTh [.agg (cSht (toldS w))] rfl rfl rfl
end Go.Proofs.YtelpibkbcljdlaaGreatDoor
/- Worlds: checked and told, by the program and by the document. -/
set_option linter.unusedVariables false
set_option linter.unusedSimpArgs false
set_option maxRecDepth 10000
namespace Go.Ab
def checkS (w : Wld) : Wrg := if wholeS w then makeE (toldS w) else ⟨2, 0, 0⟩
def sht0 : Sht := ⟨0, [], [], [], [], [], []⟩
def sheetS (w : Wld) : Sht := if (checkS w).err = 0 then toldS w else sht0
structure ShtSmall (x : Sht) : Prop where
  stops : x.stops.length ≤ 60
  paths : x.paths.length ≤ 60
  doors : x.doors.length ≤ 60
  routes : x.routes.length ≤ 60
  trips : x.trips.length ≤ 60
  hazards : x.hazards.length ≤ 60
  each : ∀ r ∈ x.routes, r.stops.length ≤ 60 ∧ r.rides.length ≤ 60 ∧ r.stays.length ≤ 60
  strs : ∀ s ∈ namesL x, s.length ≤ 9223372036854775807
structure WldSmall (w : Wld) : Prop where
  stops : w.names.stops.length ≤ 60
  npaths : w.names.paths.length ≤ 60
  ndoors : w.names.doors.length ≤ 60
  nroutes : w.names.routes.length ≤ 60
  ntrips : w.names.trips.length ≤ 60
  nhazards : w.names.hazards.length ≤ 60
  paths : w.paths.length ≤ 60
  doors : w.doors.length ≤ 60
  routes : w.routes.length ≤ 60
  trips : w.trips.length ≤ 60
  hazards : w.hazards.length ≤ 60
  each : ∀ r ∈ w.routes, r.stops.length ≤ 60 ∧ r.rides.length ≤ 60 ∧ r.stays.length ≤ 60
  strs : ∀ l ∈ nmK w.names, ∀ s ∈ l, s.length ≤ 9223372036854775807
theorem flat_le {α β : Type} {f : α → List β} {k : Nat} : ∀ {l : List α}, (∀ a ∈ l, (f a).length ≤ k) → (l.flatMap f).length ≤ l.length * k
  | [], _ => by simp
  | a :: l, h => by
    have h1 := h a List.mem_cons_self
    have h2 := flat_le (l := l) fun b hb => h b (List.mem_cons_of_mem _ hb)
    rw [List.flatMap_cons, List.length_append, List.length_cons, Nat.succ_mul]
    omega
theorem ShtSmall.fits {x : Sht} (h : ShtSmall x) : ShtFits x := by
  have a1 := h.stops
  have a2 := h.paths
  have a3 := h.doors
  have a4 := h.routes
  have a5 := h.trips
  have a6 := h.hazards
  have p1 : (x.paths.flatMap nmPth).length ≤ x.paths.length * 3 := flat_le fun _ _ => Nat.le_refl _
  have p2 : (x.doors.flatMap nmDor).length ≤ x.doors.length * 3 := flat_le fun _ _ => Nat.le_refl _
  have p3 : (x.routes.flatMap nmRte).length ≤ x.routes.length * 61 := flat_le fun r hr => by have := h.each r hr; simp only [nmRte, List.length_cons]; omega
  have p4 : (x.trips.flatMap nmTrp).length ≤ x.trips.length * 2 := flat_le fun _ _ => Nat.le_refl _
  have p5 : (x.hazards.flatMap nmHzd).length ≤ x.hazards.length * 2 := flat_le fun _ _ => Nat.le_refl _
  have q1 : (x.paths.flatMap nuPth).length ≤ x.paths.length * 1 := flat_le fun _ _ => Nat.le_refl _
  have q2 : (x.doors.flatMap nuDor).length ≤ x.doors.length * 4 := flat_le fun _ _ => Nat.le_refl _
  have q3 : (x.routes.flatMap nuRte).length ≤ x.routes.length * 120 := flat_le fun r hr => by have := h.each r hr; simp only [nuRte, List.length_append]; omega
  have q4 : (x.trips.flatMap nuTrp).length ≤ x.trips.length * 3 := flat_le fun _ _ => Nat.le_refl _
  have q5 : (x.hazards.flatMap nuHzd).length ≤ x.hazards.length * 3 := flat_le fun _ _ => Nat.le_refl _
  refine ⟨by omega, by omega, by omega, by omega, by omega, by omega, fun r hr => ?_, h.strs, ?_, ?_⟩
  · have := h.each r hr
    exact ⟨by omega, by omega, by omega⟩
  · simp only [namesL, List.length_append]; omega
  · simp only [numbersL, List.length_append, List.length_cons, List.length_nil]; omega
theorem WldSmall.fits {w : Wld} (h : WldSmall w) : WldFits w := by
  have a1 := h.stops
  have a2 := h.npaths
  have a3 := h.ndoors
  have a4 := h.nroutes
  have a5 := h.ntrips
  have a6 := h.nhazards
  have b2 := h.paths
  have b3 := h.doors
  have b4 := h.routes
  have b5 := h.trips
  have b6 := h.hazards
  refine ⟨⟨by omega, by omega, by omega, by omega, by omega, by omega⟩, by omega, by omega, by omega, by omega, by omega, fun r hr => ?_⟩
  have := h.each r hr
  exact ⟨by omega, by omega, by omega⟩
theorem getD_small {l : List Str} (h : ∀ s ∈ l, s.length ≤ 9223372036854775807) (i : Nat) : (l.getD i []).length ≤ 9223372036854775807 := by
  by_cases hi : i < l.length
  · rw [getD_at [] hi]; exact h _ (List.getElem_mem hi)
  · simp [List.getD, Nat.le_of_not_lt hi]
theorem told_small {w : Wld} (h : WldSmall w) : ShtSmall (toldS w) := by
  have n1 := h.strs w.names.stops (by simp [nmK])
  have n2 := h.strs w.names.paths (by simp [nmK])
  have n3 := h.strs w.names.doors (by simp [nmK])
  have n4 := h.strs w.names.routes (by simp [nmK])
  have n5 := h.strs w.names.trips (by simp [nmK])
  have n6 := h.strs w.names.hazards (by simp [nmK])
  refine ⟨h.stops, ?_, ?_, ?_, ?_, ?_, fun r hr => ?_, fun s hs => ?_⟩
  · simpa [toldS] using h.paths
  · simpa [toldS] using h.doors
  · simpa [toldS] using h.routes
  · simpa [toldS] using h.trips
  · simpa [toldS] using h.hazards
  · simp only [toldS, List.mem_map, List.mem_range] at hr
    obtain ⟨i, hi, rfl⟩ := hr
    have := h.each _ (List.getElem_mem hi)
    simpa [tRte, hi] using this
  · simp only [namesL, List.mem_append, List.mem_flatMap, toldS, List.mem_map, List.mem_range] at hs
    rcases hs with ((((hs | ⟨q, ⟨i, hi, rfl⟩, hs⟩) | ⟨q, ⟨i, hi, rfl⟩, hs⟩) | ⟨q, ⟨i, hi, rfl⟩, hs⟩) | ⟨q, ⟨i, hi, rfl⟩, hs⟩) | ⟨q, ⟨i, hi, rfl⟩, hs⟩
    · exact n1 s hs
    · simp only [nmPth, tPth, List.mem_cons, List.not_mem_nil, or_false] at hs
      rcases hs with rfl | rfl | rfl
      · exact getD_small n2 _
      · exact getD_small n1 _
      · exact getD_small n1 _
    · simp only [nmDor, tDor, List.mem_cons, List.not_mem_nil, or_false] at hs
      rcases hs with rfl | rfl | rfl
      · exact getD_small n3 _
      · exact getD_small n1 _
      · exact getD_small n1 _
    · simp only [nmRte, tRte, List.mem_cons, List.mem_map] at hs
      rcases hs with rfl | ⟨a, _, rfl⟩
      · exact getD_small n4 _
      · exact getD_small n1 _
    · simp only [nmTrp, tTrp, List.mem_cons, List.not_mem_nil, or_false] at hs
      rcases hs with rfl | rfl
      · exact getD_small n5 _
      · exact getD_small n4 _
    · simp only [nmHzd, tHzd, List.mem_cons, List.not_mem_nil, or_false] at hs
      rcases hs with rfl | rfl
      · exact getD_small n6 _
      · split
        · exact getD_small n1 _
        · exact getD_small n2 _
theorem light_small {x : Sht} (h : lightS x 60 = true) (hs : ∀ s ∈ namesL x, s.length ≤ 9223372036854775807) : ShtSmall x := by
  simp only [lightS, Bool.and_eq_true, Bool.not_eq_true', manyS, Bool.or_eq_false_iff, decide_eq_false_iff_not] at h
  obtain ⟨⟨⟨⟨⟨⟨a1, a2⟩, a3⟩, a4⟩, a5⟩, a6⟩, a7⟩ := h
  refine ⟨by omega, by omega, by omega, by omega, by omega, by omega, fun r hr => ?_, hs⟩
  have := List.any_eq_false.1 a7 r hr
  simp [lightR] at this
  omega
theorem light_smallW {w : Wld} (h : lightW w 60 = true) (hs : ∀ l ∈ nmK w.names, ∀ s ∈ l, s.length ≤ 9223372036854775807) : WldSmall w := by
  simp only [lightW, Bool.and_eq_true, Bool.not_eq_true', manyN, manyW, Bool.or_eq_false_iff, decide_eq_false_iff_not] at h
  obtain ⟨⟨⟨⟨⟨⟨⟨a1, a2⟩, a3⟩, a4⟩, a5⟩, a6⟩, ⟨⟨⟨b1, b2⟩, b3⟩, b4⟩, b5⟩, c⟩ := h
  refine ⟨by omega, by omega, by omega, by omega, by omega, by omega, by omega, by omega, by omega, by omega, by omega, fun r hr => ?_, hs⟩
  have := List.any_eq_false.1 c r hr
  simp [heavyR] at this
  omega
abbrev zSht : List AV := [.int .i64 0, .emp, .emp, .emp, .emp, .emp, .emp]
theorem le_zSht {Z : ZL} : LeL Z zSht (cSht sht0) := .cons (.refl _) (.cons (.emp 1) (.cons (.emp 4) (.cons (.emp 7) (.cons (.emp 4) (.cons (.emp 5) (.cons (.emp 5) (.refl _)))))))
end Go.Ab
namespace Go.Proofs.YtelpibkbcljdlaaGreatDoor
open Go Go.Ab
theorem m_ref09_Check (G : GlP) (hR : Res G) (w : Wld) (hw : WldSmall w) : Meets Pg G F_ref09_Check [.agg (cWld w)] [] (.agg (cWrg (checkS w))) [] := by
  refine meets_pure (F := fe_ref09_Check) hTh hMx func_ref09_Check rfl call_ref09_Check rfl rfl rfl ?_
  conv => whnf
  refine CallTo.fn (m_ref09_whole G w hw.fits) ?_
  conv => whnf
  cases h : wholeS w
  · have e : checkS w = ⟨2, 0, 0⟩ := by simp [checkS, h]
    rw [e]
    conv => whnf
    refine CallTo.fn (m_ref09_wrong G _ _ _) ?_
    conv => whnf
    exact fin_wrong hTh rfl ⟨2, 0, 0⟩ rfl rfl rfl
  have e : checkS w = makeE (toldS w) := by simp [checkS, h]
  rw [e]
  conv => whnf
  refine CallTo.fn (m_ref09_told G w hw.fits (sound_of h)) ?_
  conv => whnf
  refine CallTo.fn (m_ref09_Make G hR (toldS w) ((told_small hw).fits)) ?_
  conv => whnf
  exact fin_wrong hTh rfl (makeE (toldS w)) rfl rfl rfl
theorem m_world_Check (G : GlP) (hR : Res G) (w : Wld) (hw : WldSmall w) : Meets Pg G F_world_Check [.agg (cWld w)] [] (.agg (cWrg (checkS w))) [] := by
  refine meets_pure (F := fe_world_Check) hTh hMx func_world_Check rfl call_world_Check rfl rfl rfl ?_
  conv => whnf
  refine CallTo.fn (m_world_whole G w hw.fits) ?_
  conv => whnf
  cases h : wholeS w
  · have e : checkS w = ⟨2, 0, 0⟩ := by simp [checkS, h]
    rw [e]
    conv => whnf
    exact fin_wrong hTh rfl ⟨2, 0, 0⟩ rfl rfl rfl
  have e : checkS w = makeE (toldS w) := by simp [checkS, h]
  rw [e]
  conv => whnf
  refine CallTo.fn (m_world_told G w hw.fits (sound_of h)) ?_
  conv => whnf
  refine CallTo.fn (m_world_Make G hR (toldS w) ((told_small hw).fits)) ?_
  conv => whnf
  exact fin_wrong hTh rfl (makeE (toldS w)) rfl rfl rfl
theorem fin_sheet {G : GlP} {F : FE} {fn : Func} {T : TL} {L : BL} (hΘ : TTok Pg F.Θ) (hw : F.Θ T_api_Sheet = some ty_api_Sheet) (x : Sht) (e : Int) (cs : List AV) (hres : fn.results.toList = [.cell 2 T_api_Sheet, .tmp 3]) {l : Lbl}
    (hT : getT T 2 = .ref l 0) (hT' : getT T 3 = .int .i64 e) (hL : getL L l = some (.cells T_api_Sheet cs)) (hc : LeL [] cs (cSht x)) :
    Fin Pg G F [] fn (.tup [.agg (cSht x), .int .i64 e]) [] T L := by
  refine Fin.less [] [(2, .ref l 0), (3, .int .i64 e)] [(l, .cells T_api_Sheet (cSht x))] ⟨by rw [hT]; exact .refl _, by rw [hT']; exact .refl _, trivial⟩ ⟨⟨_, hL, .cells hc⟩, trivial⟩ trivial
    (chk_mk ⟨by simp [cloB, keyB, getL, lbeq_iff.2 rfl], rfl, trivial⟩ ⟨rfl, trivial⟩ rfl) ?_
  refine Fin.pure hΘ [.agg (cSht x), .int .i64 e] ?_ rfl rfl
  have L2 : getL [(l, .cells T_api_Sheet (cSht x))] l = some (.cells T_api_Sheet (cSht x)) := by simp [getL, lbeq_iff.2 rfl]
  have g2 : getT [(2, .ref l 0), (3, .int .i64 e)] 2 = .ref l 0 := rfl
  have g3 : getT [(2, .ref l 0), (3, .int .i64 e)] 3 = .int .i64 e := rfl
  have t2 : takeV ty_api_Sheet ((cSht x).drop 0) = some (.agg (cSht x)) := rfl
  rw [hres]
  simp only [resA, hw, g2, g3, L2, t2]
theorem m_ref09_Sheet (G : GlP) (hR : Res G) (w : Wld) (hw : WldSmall w) : Meets Pg G F_ref09_Sheet [.agg (cWld w)] [] (.tup [.agg (cSht (sheetS w)), .int .i64 (checkS w).err]) [] := by
  refine meets_pure (F := fe_ref09_Sheet) hTh hMx func_ref09_Sheet rfl call_ref09_Sheet rfl rfl rfl ?_
  conv => whnf
  refine CallTo.fn (m_ref09_Check G hR w hw) ?_
  conv => whnf
  refine cond_split (fun h => ?_) (fun h => ?_)
  · have h' : (checkS w).err ≠ 0 := by simpa using h
    have e : sheetS w = sht0 := by simp [sheetS, h']
    rw [e]
    conv => whnf
    refine ⟨by kernel_rfl, ?_⟩
    conv => whnf
    exact fin_sheet hTh rfl sht0 _ zSht rfl rfl rfl rfl le_zSht
  have h' : (checkS w).err = 0 := by simpa using h
  have e : sheetS w = toldS w := by simp [sheetS, h']
  have hs : wholeS w = true := by
    unfold checkS at h'
    split at h'
    · assumption
    · exact absurd h' (by decide)
  rw [e, h']
  conv => whnf
  refine CallTo.fn (m_ref09_told G w hw.fits (sound_of hs)) ?_
  conv => whnf
  exact fin_sheet hTh rfl (toldS w) 0 (cSht (toldS w)) rfl rfl rfl rfl (.refl _)
theorem m_world_Sheet (G : GlP) (hR : Res G) (w : Wld) (hw : WldSmall w) : Meets Pg G F_world_Sheet [.agg (cWld w)] [] (.tup [.agg (cSht (sheetS w)), .int .i64 (checkS w).err]) [] := by
  refine meets_pure (F := fe_world_Sheet) hTh hMx func_world_Sheet rfl call_world_Sheet rfl rfl rfl ?_
  conv => whnf
  refine CallTo.fn (m_world_Check G hR w hw) ?_
  conv => whnf
  refine cond_split (fun h => ?_) (fun h => ?_)
  · have h' : (checkS w).err ≠ 0 := by simpa using h
    have e : sheetS w = sht0 := by simp [sheetS, h']
    rw [e]
    conv => whnf
    refine ⟨by kernel_rfl, ?_⟩
    conv => whnf
    exact fin_sheet hTh rfl sht0 _ zSht rfl rfl rfl rfl le_zSht
  have h' : (checkS w).err = 0 := by simpa using h
  have e : sheetS w = toldS w := by simp [sheetS, h']
  have hs : wholeS w = true := by
    unfold checkS at h'
    split at h'
    · assumption
    · exact absurd h' (by decide)
  rw [e, h']
  conv => whnf
  refine CallTo.fn (m_world_told G w hw.fits (sound_of hs)) ?_
  conv => whnf
  exact fin_sheet hTh rfl (toldS w) 0 (cSht (toldS w)) rfl rfl rfl rfl (.refl _)
end Go.Proofs.YtelpibkbcljdlaaGreatDoor
/- The chapter's examples: they come out as it tells. -/
set_option linter.unusedVariables false
set_option linter.unusedSimpArgs false
set_option maxRecDepth 10000
namespace Go.Ab
def exA : Sht := ⟨0, [[97], [97]], [], [], [], [], []⟩
def exB : Sht := ⟨0, [[97], [98]], [⟨[112], [97], [98], 0⟩], [], [], [], []⟩
def exC : Sht := ⟨0, [[97]], [], [], [], [], [⟨[104], [110, 111, 98, 111, 100, 121], ⟨0, 0, 1⟩⟩]⟩
def exD : Sht := ⟨40, [[97], [98]], [⟨[112], [97], [98], 3⟩], [], [], [], [⟨[104], [112], ⟨1, 0, 2⟩⟩]⟩
theorem exA_e : makeE exA = ⟨6, 1, 1⟩ := by decide +kernel
theorem exB_e : makeE exB = ⟨2, 2, 0⟩ := by decide +kernel
theorem exC_e : makeE exC = ⟨5, 6, 0⟩ := by decide +kernel
theorem exD_e : makeE exD = ⟨0, 0, 0⟩ := by decide +kernel
theorem exA_fits : ShtFits exA := ShtSmall.fits ⟨by decide, by decide, by decide, by decide, by decide, by decide, by decide, by decide⟩
theorem exB_fits : ShtFits exB := ShtSmall.fits ⟨by decide, by decide, by decide, by decide, by decide, by decide, by decide, by decide⟩
theorem exC_fits : ShtFits exC := ShtSmall.fits ⟨by decide, by decide, by decide, by decide, by decide, by decide, by decide, by decide⟩
theorem exD_fits : ShtFits exD := ShtSmall.fits ⟨by decide, by decide, by decide, by decide, by decide, by decide, by decide, by decide⟩
def exW : Wld := ⟨40, ⟨[[97], [98]], [[112]], [], [], [], [[104]]⟩, [⟨0, 1, 3⟩], [], [], [], [⟨false, 0, ⟨1, 0, 2⟩⟩]⟩
theorem exD_w : makeW exD = exW := by decide +kernel
end Go.Ab
namespace Go.Proofs.YtelpibkbcljdlaaGreatDoor
open Go Go.Ab
theorem m_law09_small (G : GlP) : Meets Pg G F_law09_small [] [] (.agg (cSht exD)) [] := by
  refine meets_pure (F := fe_law09_small) hTh hMx func_law09_small rfl call_law09_small rfl rfl rfl ?_
  conv => whnf
  refine Fin.less [] [(0, .ref (F_law09_small, 0) 0)] [((F_law09_small, 0), .cells T_api_Sheet (cSht exD))] ⟨.refl _, trivial⟩ ⟨⟨_, rfl, .cells (.cons (.refl _) (.cons (.refl _) (.cons (.refl _) (.cons (.emp 7) (.cons (.emp 4) (.cons (.emp 5) (.refl _)))))))⟩, trivial⟩ trivial rfl ?_
  exact Fin.pure hTh [.agg (cSht exD)] rfl rfl rfl
theorem m_law09_lives (G : GlP) (hR : Res G) : Meets Pg G F_law09_lives [] [] (.bool true) [] := by
  have mA := m_world_Make G hR exA exA_fits
  rw [exA_e] at mA
  have mB := m_world_Make G hR exB exB_fits
  rw [exB_e] at mB
  have mC := m_world_Make G hR exC exC_fits
  rw [exC_e] at mC
  have mD := m_world_Make G hR exD exD_fits
  rw [exD_e, exD_w] at mD
  refine meets_pure (F := fe_law09_lives) hTh hMx func_law09_lives rfl call_law09_lives rfl rfl rfl ?_
  conv => whnf
  refine CallTo.fn (Meets.args mA (.cons (.agg (.cons (.refl _) (.cons (.refl _) (.cons (.emp 4) (.cons (.emp 7) (.cons (.emp 4) (.cons (.emp 5) (.cons (.emp 5) (.refl _))))))))) (.refl _))) ?_
  conv => whnf
  refine CallTo.fn (Meets.args mB (.cons (.agg (.cons (.refl _) (.cons (.refl _) (.cons (.refl _) (.cons (.emp 7) (.cons (.emp 4) (.cons (.emp 5) (.cons (.emp 5) (.refl _))))))))) (.refl _))) ?_
  conv => whnf
  refine CallTo.fn (Meets.args mC (.cons (.agg (.cons (.refl _) (.cons (.refl _) (.cons (.emp 4) (.cons (.emp 7) (.cons (.emp 4) (.cons (.emp 5) (.cons (.refl _) (.refl _))))))))) (.refl _))) ?_
  conv => whnf
  refine CallTo.fn (m_law09_small G) ?_
  conv => whnf
  refine CallTo.fn (mD) ?_
  conv => whnf
  refine OpTo.eqA hTh eqOK_api_Wrong rfl rfl rfl rfl rfl rfl ?_
  conv => whnf
  refine OpTo.eqA hTh eqOK_api_Wrong rfl rfl rfl rfl rfl rfl ?_
  conv => whnf
  refine OpTo.eqA hTh eqOK_api_Wrong rfl rfl rfl rfl rfl rfl ?_
  conv => whnf
  refine OpTo.eqA hTh eqOK_api_Wrong rfl rfl rfl rfl rfl rfl ?_
  conv => whnf
  refine IndexTo.at (i := 0) (c := [.int .i64 0, .int .i64 1, .int .i64 3]) rfl ?_
  conv => whnf
  exact Fin.one hTh rfl (rfl) rfl
end Go.Proofs.YtelpibkbcljdlaaGreatDoor
/- The framework of abstract states, part 17: package variables that are tables, bits, conversions of whole numbers, slices made. -/
set_option linter.unusedVariables false
set_option linter.unusedSimpArgs false
namespace Go.Ab
section ops
variable {P : Program} {G : GlP} {Θ : TT} {o : Oper} {V : Operand → AV}
theorem tri_indexAddr_gp (hΘ : TTok P Θ) (t : TypeId) (x ix : Operand) (ho : o.op = .indexAddr t x ix) (y z : Ty) (n : Nat) (e : TypeId) (hy : Θ t = some y) (hd : y.d = .array n e) (hz : Θ e = some z)
    (g : Nat) (hx : V x = .gp g) (k : IntKind) (i : Nat) (hi : V ix = .int k i) (hlt : i < n) (cs : List AV) (hg : g < G.ng) (hG : ∀ (w : World) (O : Nat → Prop), G.holds w → CvC w O cs g 0) : Tri P G o V [] (.pp (cs.drop (i * z.size))) [] := by
  intro E w μ Lf ρ C hf _ hv _
  have hxv := hv x (by simp [ho, Op.operands])
  have hiv := hv ix (by simp [ho, Op.operands])
  rw [hx] at hxv
  rw [hi] at hiv
  simp only [Cv] at hxv hiv
  have hu := r_under hΘ hy w
  rw [hd] at hu
  have hs := r_size hΘ hz w
  have hr : (execOp ρ o).run P w = .ok (.value (.pointer (some ⟨g, i * z.size, none⟩))) w := by
    have hsa : ∀ (a : Addr) (w : World), (Instr.sureAddr (.pointer (some a))).run P w = .ok a w := fun _ _ => by simp [Instr.sureAddr]
    simp only [execOp, ho, hxv, hiv, Instr.indexAt, Sem.run_bind, asIntOf, hu, Sem.run_pure, Result.andThen_ok]
    simp [hlt, hs, add_none, hsa, hu]
  unfold OpGives
  rw [hr]
  refine ⟨μ, by rw [ovr_nil]; exact C, Later.refl _ _, Keeps.refl _, ?_⟩
  simp only [Cv]
  refine ⟨g, i * z.size, rfl, by have := C.ngw; have := C.size; omega, ?_, ?_⟩
  · rintro (h | h)
    · have := C.ngo g h; omega
    · have := C.Xng g h; omega
  · have := (hG w (E.O μ) C.gl).drop (i * z.size)
    rwa [Nat.zero_add] at this
theorem tri_bits (op : BinOp) (t t' : TypeId) (x y : Operand) (ho : o.op = .binOp op t x y t') (k : IntKind) (a b : Int) (hx : V x = .int k a) (hy : V y = .int k b) (hop : op = .and ∨ op = .or ∨ op = .xor ∨ op = .andNot) (c : Int) (hc : bits op k a b = c) : Tri P G o V [] (.int k c) [] :=
  tri_pure fun E w μ Lf ρ C hf hv => by
    have hxv := hv x (by simp [ho, Op.operands])
    have hyv := hv y (by simp [ho, Op.operands])
    rw [hx] at hxv
    rw [hy] at hyv
    simp only [Cv] at hxv hyv
    have hg : ∀ p q, (eqGuard op t p q (.int k a) (.int k b)).run P w = .ok () w := fun p q => by
      unfold eqGuard
      rcases hop with rfl | rfl | rfl | rfl <;> simp
    refine ⟨.int k c, ?_, by simp only [Cv]⟩
    rcases hop with rfl | rfl | rfl | rfl <;> simp [execOp, ho, hxv, hyv, hg, go_sem, hc]
theorem tri_not_bits (t : TypeId) (x : Operand) (ho : o.op = .unOp .xor t x) (k : IntKind) (a : Int) (hx : V x = .int k a) (c : Int) (hc : bits .xor k (if k.signed then -1 else k.max) a = c) : Tri P G o V [] (.int k c) [] :=
  tri_pure fun E w μ Lf ρ C hf hv => by
    have hxv := hv x (by simp [ho, Op.operands])
    rw [hx] at hxv
    simp only [Cv] at hxv
    exact ⟨.int k c, by simp [execOp, ho, hxv, go_sem, hc], by simp only [Cv]⟩
theorem tri_convI (hΘ : TTok P Θ) (s d : TypeId) (x : Operand) (ho : o.op = .convert s d x) (ys yd : Ty) (hs : Θ s = some ys) (hd : Θ d = some yd) (k k' : IntKind) (hk : yd.d = .int k') (a : Int) (hx : V x = .int k a) (c : Int) (hc : k'.wrap a = c) : Tri P G o V [] (.int k' c) [] :=
  tri_pure fun E w μ Lf ρ C hf hv => by
    have hxv := hv x (by simp [ho, Op.operands])
    rw [hx] at hxv
    simp only [Cv] at hxv
    have h1 := r_under hΘ hs w
    have h2 := r_under hΘ hd w
    rw [hk] at h2
    exact ⟨.int k' c, by simp [execOp, ho, hxv, convert, h1, h2, Conv.intToInt, hc], by simp only [Cv]⟩
theorem madeL_eq (z : Array Value) (hz : 0 < z.size) : ∀ n : Nat, (madeCells z (n * z.size)).toList = (List.replicate n z.toList).flatten
  | 0 => by simp [madeCells]
  | n + 1 => by
    have ih := madeL_eq z hz n
    simp only [madeCells, Array.toList_map, Array.toList_range] at ih ⊢
    rw [List.replicate_succ', List.flatten_append, ← ih, Nat.add_mul, Nat.one_mul, List.range_add, List.map_append]
    congr 1
    simp only [List.map_map, List.flatten_cons, List.flatten_nil, List.append_nil]
    apply List.ext_getElem
    · simp
    · intro i h1 h2
      simp only [List.length_map, List.length_range] at h1
      simp only [List.getElem_map, List.getElem_range, Function.comp_apply]
      have : (n * z.size + i) % z.size = i := by
        rw [Nat.mul_comm, Nat.mul_add_mod]
        exact Nat.mod_eq_of_lt h1
      simp [this, h1]
theorem CvL.flatten_rep {w : World} {O : Nat → Prop} {cs : List AV} {μ : Mu} {vs : List Value} (h : CvL w O cs μ vs) : ∀ n : Nat, CvL w O (List.replicate n cs).flatten μ (List.replicate n vs).flatten
  | 0 => by simp [CvL]
  | n + 1 => by simp only [List.replicate_succ, List.flatten_cons]; exact h.append (CvL.flatten_rep h n)
theorem tri_makeSlice (hΘ : TTok P Θ) (t : TypeId) (a b : Operand) (ho : o.op = .makeSlice t a b) (y z : Ty) (e : TypeId) (hy : Θ t = some y) (hd : y.d = .slice e) (hz : Θ e = some z) (k k' : IntKind) (n : Nat) (ha : V a = .int k n) (hb : V b = .int k' n)
    (hzs : z.zero.cells.size = z.size) (hz0 : 0 < z.size) (h1 : allOneB (zcells z) = true) (hby : z.bytes * n ≤ 281474976710656) (hn : n ≤ 4294967296) (l : Lbl) :
    Tri P G o V [] (.own l n) [(l, .row e z.size (List.replicate n (zcells z)))] := by
  intro E w μ Lf ρ C hf hg hv _
  have hav := hv a (by simp [ho, Op.operands])
  have hbv := hv b (by simp [ho, Op.operands])
  rw [ha] at hav
  rw [hb] at hbv
  simp only [Cv] at hav hbv
  obtain ⟨it, _⟩ := hΘ t y hy
  obtain ⟨iz, g1, g2, g3, g4, g5⟩ := hΘ e z hz
  obtain ⟨it, q1, _⟩ := hΘ t y hy
  rw [hd] at q1
  have hrun := run_make (P := P) w t e iz z.zero q1 g2 g5 k k' (n : Int) (n : Int) (by omega) (Int.le_refl _) (by rw [g4, ← Int.natCast_mul]; omega) (by omega)
  simp only [Int.toNat_natCast, g3] at hrun
  have hr : (execOp ρ o).run P w = .ok (.value (.slice (some ⟨w.heap.size, 0, none⟩) n n)) (w.alloc (.cells (madeCells z.zero.cells (n * z.size)) e)) := by
    simp only [execOp, ho, hav, hbv, Sem.run_bind, hrun]
    rfl
  have hml : (madeCells z.zero.cells (n * z.size)).toList = (List.replicate n z.zero.cells.toList).flatten := by
    rw [← hzs]
    exact madeL_eq z.zero.cells (by omega) n
  have hcv : CvL w (E.O μ) (List.replicate n (zcells z)).flatten μ (madeCells z.zero.cells (n * z.size)).toList := by
    rw [hml]
    exact CvL.flatten_rep (zcells_spec z w (E.O μ) μ) n
  have hzl : (zcells z).length = z.size := by simp [zcells, hzs]
  have hall : ∀ x ∈ List.replicate n (zcells z), x.length = z.size := fun x hx => by rw [(List.mem_replicate.1 hx).2]; exact hzl
  have hone : allOne (List.replicate n (zcells z)).flatten := fun c hc => by
    obtain ⟨l, hl, hc⟩ := List.mem_flatten.1 hc
    rw [(List.mem_replicate.1 hl).2] at hc
    exact allOneB_iff h1 c hc
  have := C.newBox (w' := w.alloc (.cells (madeCells z.zero.cells (n * z.size)) e)) l (fresh_one hg) (.slice (some ⟨w.heap.size, 0, none⟩) n n) (some w.heap.size) (.row e z.size (List.replicate n (zcells z))) (by rw [heap_alloc_size]; omega) rfl rfl rfl
    (fun b hb => heap_alloc w _ b hb) (fun b hb => by injection hb with hb; subst hb; rw [heap_alloc_size]; omega)
    (fun O' μ' hla hk => by
      refine ⟨_, n, (madeCells z.zero.cells (n * z.size)).toList, by rw [List.length_replicate], by rw [List.length_replicate]; exact Nat.le_refl _, by unfold maxLen; omega, hall, ⟨hcv.mono hla _ hk, hone⟩, .inr ⟨w.heap.size, [], rfl, rfl, ?_, ?_⟩⟩
      · rw [heap_alloc_self, List.append_nil]
      · rw [List.append_nil, Array.length_toList, size_madeCells])
  unfold OpGives
  rw [hr]
  exact ⟨_, this.1, this.2.1, this.2.2, by simp only [Cv]; exact ⟨_, n, n, _, updM_same _ _ _, Nat.le_refl _, fun _ => rfl, _, _, rfl⟩⟩
end ops
section
variable {P : Program} {G : GlP} {Θ : TT} {o : Oper} {T : TL} {L : BL} {K : AV → BL → Nat → Prop}
theorem OpTo.gpAt (hΘ : TTok P Θ) {t : TypeId} {x ix : Operand} {y z : Ty} {n : Nat} {e : TypeId} {g : Nat} {k : IntKind} {i : Nat} (ho : o.op = .indexAddr t x ix) (hy : Θ t = some y) (hd : y.d = .array n e) (hz : Θ e = some z)
    (hx : ev T x = .gp g) (hi : ev T ix = .int k i) (hlt : i < n) (cs : List AV) (hg : g < G.ng) (hG : ∀ (w : World) (O : Nat → Prop), G.holds w → CvC w O cs g 0) (hK : K (.pp (cs.drop (i * z.size))) [] 0) : OpTo P G o T L K :=
  mk_pure (tri_indexAddr_gp hΘ t x ix ho y z n e hy hd hz g hx k i hi hlt cs hg hG) hK
theorem OpTo.bits {op : BinOp} {t t' : TypeId} {x y : Operand} {k : IntKind} {a b c : Int} (ho : o.op = .binOp op t x y t') (hx : ev T x = .int k a) (hy : ev T y = .int k b) (hop : op = .and ∨ op = .or ∨ op = .xor ∨ op = .andNot) (hc : Go.bits op k a b = c) (hK : K (.int k c) [] 0) : OpTo P G o T L K :=
  mk_pure (tri_bits op t t' x y ho k a b hx hy hop c hc) hK
theorem OpTo.notBits {t : TypeId} {x : Operand} {k : IntKind} {a c : Int} (ho : o.op = .unOp .xor t x) (hx : ev T x = .int k a) (hc : Go.bits .xor k (if k.signed then -1 else k.max) a = c) (hK : K (.int k c) [] 0) : OpTo P G o T L K :=
  mk_pure (tri_not_bits t x ho k a hx c hc) hK
theorem OpTo.convI (hΘ : TTok P Θ) {s d : TypeId} {x : Operand} {ys yd : Ty} {k k' : IntKind} {a c : Int} (ho : o.op = .convert s d x) (hs : Θ s = some ys) (hd : Θ d = some yd) (hk : yd.d = .int k') (hx : ev T x = .int k a) (hc : k'.wrap a = c) (hK : K (.int k' c) [] 0) : OpTo P G o T L K :=
  mk_pure (tri_convI hΘ s d x ho ys yd hs hd k k' hk a hx c hc) hK
theorem OpTo.mkSlice (hΘ : TTok P Θ) {t : TypeId} {a b : Operand} {y z : Ty} {e : TypeId} {k k' : IntKind} {n : Nat} (l : Lbl) (ho : o.op = .makeSlice t a b) (hy : Θ t = some y) (hd : y.d = .slice e) (hz : Θ e = some z) (ha : ev T a = .int k n) (hb : ev T b = .int k' n)
    (hzs : z.zero.cells.size = z.size) (hz0 : 0 < z.size) (h1 : allOneB (zcells z) = true) (hby : z.bytes * n ≤ 281474976710656) (hn : n ≤ 4294967296) (hl : getL L l = none) (hK : K (.own l n) [(l, .row e z.size (List.replicate n (zcells z)))] (mkC l)) : OpTo P G o T L K :=
  OpTo.makes (tri_makeSlice hΘ t a b ho y z e hy hd hz k k' n ha hb hzs hz0 h1 hby hn l) hl hK
end
end Go.Ab
/- The framework of abstract states, part 18: from a row's reading of its arguments to abstract values, and from a contract back to what the row asks. -/
set_option linter.unusedVariables false
set_option linter.unusedSimpArgs false
namespace Go.Ab
open Go.ChangeShapes Go.WideShapes Go.RowKit

/-- What is asked of a measure of data. -/
structure Bulk (H : Type) (bk : DataW H → Nat) (B : Nat) : Prop where
  str : ∀ bs : List UInt8, bs.length ≤ maxLen → bk (.lit (.string bs)) ≤ B → bs.length ≤ B
  slice : ∀ (e s : List (DataW H)), e.length ≤ maxLen → bk (.slice e s) ≤ B → e.length ≤ B ∧ ∀ d ∈ e, bk d ≤ B
  agg : ∀ ps : List (DataW H), bk (.agg ps) ≤ B → ∀ d ∈ ps, bk d ≤ B
/-- Nothing is asked. -/
theorem Bulk.any (H : Type) : Bulk H (fun _ => 0) maxLen := ⟨fun _ h _ => h, fun _ _ h _ => ⟨h, fun _ _ => Nat.zero_le _⟩, fun _ _ _ _ => Nat.zero_le _⟩
mutual
def sm (B : Nat) : AV → Prop
  | .str s => s.length ≤ B
  | .lst _ xs => xs.length ≤ B ∧ smR B xs
  | _ => True
def smL (B : Nat) : List AV → Prop
  | [] => True
  | a :: as1 => sm B a ∧ smL B as1
def smR (B : Nat) : List (List AV) → Prop
  | [] => True
  | x :: xs => smL B x ∧ smR B xs
end
theorem smL_append {B : Nat} : ∀ {as1 bs : List AV}, smL B as1 → smL B bs → smL B (as1 ++ bs)
  | [], bs, h, h' => h'
  | a :: as1, bs, h, h' => by
    simp only [smL] at h
    simp only [List.cons_append, smL]
    exact ⟨h.1, smL_append h.2 h'⟩
theorem smR_get {B : Nat} : ∀ {xs : List (List AV)}, smR B xs → ∀ x ∈ xs, smL B x
  | [], _, x, hx => by cases hx
  | y :: xs, h, x, hx => by
    simp only [smR] at h
    rcases List.mem_cons.1 hx with rfl | hx
    · exact h.1
    · exact smR_get h.2 x hx
theorem smR_of {B : Nat} : ∀ {xs : List (List AV)}, (∀ x ∈ xs, smL B x) → smR B xs
  | [], _ => by simp [smR]
  | y :: xs, h => by
    simp only [smR]
    exact ⟨h y List.mem_cons_self, smR_of fun x hx => h x (List.mem_cons_of_mem _ hx)⟩

section
variable {H : Type} {enc : TypeId × Value → H} {P : Program} {w : World} {bk : DataW H → Nat} {B : Nat} {α β : Type}
def NoO : Nat → Prop := fun _ => False
/-- What is read at this type lies in memory as these abstract cells. -/
def Rd (enc : TypeId × Value → H) (P : Program) (w : World) (bk : DataW H → Nat) (B : Nat) (t : TypeId) (c : α → List AV) : Prop :=
  ∀ (n : Nat) (cs : List Value) (d : DataW H) (ps : List MemPlace), DataW.trod enc P w 0 (fun _ => true) true n t cs = some (d, ps) → bk d ≤ B → ∃ x : α, (∀ μ, CvL w NoO (c x) μ cs) ∧ allOne (c x) ∧ smL B (c x)

theorem Rd.iso {t : TypeId} {c : α → List AV} {c' : β → List AV} (h : Rd enc P w bk B t c) (g : α → β) (hg : ∀ a, c' (g a) = c a) : Rd enc P w bk B t c' := fun n cs d ps h1 h2 => by
  obtain ⟨x, h3, h4, h5⟩ := h n cs d ps h1 h2
  exact ⟨g x, fun μ => by rw [hg]; exact h3 μ, by rw [hg]; exact h4, by rw [hg]; exact h5⟩
theorem rd_int {t : TypeId} {k : IntKind} (hu : P.underlying t = some (.int k)) : Rd enc P w bk B t (fun n : Int => [AV.int k n]) := fun n cs d ps h _ => by
  obtain ⟨m, rfl, _⟩ := DataW.trod_int hu h
  exact ⟨m, fun μ => by simp only [CvL, Cv]; exact ⟨_, _, rfl, rfl, rfl⟩, fun c hc => by simp at hc; subst hc; rfl, by simp [smL, sm]⟩
theorem rd_bool {t : TypeId} (hu : P.underlying t = some .bool) : Rd enc P w bk B t (fun b : Bool => [AV.bool b]) := fun n cs d ps h _ => by
  obtain ⟨m, rfl, _⟩ := DataW.trod_bool hu h
  exact ⟨m, fun μ => by simp only [CvL, Cv]; exact ⟨_, _, rfl, rfl, rfl⟩, fun c hc => by simp at hc; subst hc; rfl, by simp [smL, sm]⟩
theorem rd_str (hb : Bulk H bk B) {t : TypeId} (hu : P.underlying t = some .string) : Rd enc P w bk B t (fun s : Str => [AV.str s]) := fun n cs d ps h hB => by
  obtain ⟨s, rfl, hx, hl⟩ := DataW.trod_string hu h
  injection hx with hx _
  subst hx
  have hlen : s.data.toList.length ≤ B := hb.str _ (by simpa using hl) hB
  exact ⟨s.data.toList, fun μ => by simp only [CvL, Cv]; exact ⟨_, _, rfl, ⟨rfl, by simpa using hl⟩, rfl⟩, fun c hc => by simp at hc; subst hc; rfl, by simp only [smL, sm]; exact ⟨hlen, trivial⟩⟩
theorem list_of {Q : Nat → α → Prop} : ∀ (n : Nat), (∀ i, i < n → ∃ x, Q i x) → ∃ xs : List α, xs.length = n ∧ ∀ i (h : i < xs.length), Q i xs[i]
  | 0, _ => ⟨[], rfl, fun i h => by simp at h⟩
  | n + 1, h => by
    obtain ⟨xs, h1, h2⟩ := list_of n fun i hi => h i (by omega)
    obtain ⟨x, hx⟩ := h n (by omega)
    refine ⟨xs ++ [x], by simp [h1], fun i hi => ?_⟩
    by_cases hlt : i < xs.length
    · rw [List.getElem_append_left hlt]
      exact h2 i hlt
    · have : i = n := by simp at hi; omega
      subst this
      simp [← h1, hx] at hx ⊢
      simpa [h1] using hx
theorem rd_slice (hb : Bulk H bk B) {t e : TypeId} {c : α → List AV} {sz : Nat} (hu : P.underlying t = some (.slice e)) (hsz : P.cellsOf e = sz) (h0 : 0 < sz) (he : Rd enc P w bk B e c) (hl : ∀ x, (c x).length = sz) :
    Rd enc P w bk B t (fun xs : List α => [AV.lst sz (xs.map c)]) := fun n cs d ps h hB => by
  rcases Deep.open_slice hu h with ⟨rfl, _⟩ | ⟨a, len, cap, m, k, D, Pl, rfl, _, hle, hcap, hm, hx, hel⟩
  · refine ⟨[], fun μ => ?_, fun c hc => by simp at hc; subst hc; rfl, by simp [smL, sm, smR]⟩
    simp only [CvL, Cv]
    exact ⟨_, _, rfl, ⟨none, 0, rfl, Nat.le_refl _, Nat.zero_le _, .inl rfl⟩, rfl⟩
  · simp only [if_true] at hm
    subst hm
    injection hx with hx _
    subst hx
    have hB2 := hb.slice _ _ (by simp; omega) hB
    have hlenB : len ≤ B := by simpa using hB2.1
    have hDB : ∀ i, i < len → bk (D i) ≤ B := fun i hi => hB2.2 _ (List.mem_map.2 ⟨i, List.mem_range.2 hi, rfl⟩)
    obtain ⟨xs, hxl, hxs⟩ := list_of (Q := fun i x => ∃ cs', w.cells? 0 (a.add (i * sz)) sz = some cs' ∧ (∀ μ, CvL w NoO (c x) μ cs') ∧ allOne (c x) ∧ smL B (c x)) len fun i hi => by
      obtain ⟨cs', h1, h2⟩ := hel i (by omega)
      obtain ⟨x, h3, h4, h5⟩ := he k cs' (D i) (Pl i) h2 (hDB i hi)
      rw [hsz] at h1
      exact ⟨x, cs', h1, h3, h4, h5⟩
    refine ⟨xs, fun μ => ?_, fun c hc => by simp at hc; subst hc; rfl, ?_⟩
    · simp only [CvL]
      refine ⟨_, _, rfl, ?_, rfl⟩
      simp only [Cv, List.length_map, hxl]
      refine ⟨some a, m, rfl, hle, hcap, ?_⟩
      by_cases hlen : len = 0
      · left
        rw [List.map_eq_nil_iff]
        exact List.eq_nil_of_length_eq_zero (by omega)
      · right
        have cell : ∀ i, i < len → ∀ j, j < sz → ∃ cs' : List Value, (∀ μ, CvL w NoO (c (xs.getD i (xs[0]'(by omega)))) μ cs') ∧ cs'.length = sz ∧ w.cell? (if i * sz + j = 0 then a else { a with off := a.off + (i * sz + j), spot := none }) = cs'[j]? := fun i hi j hj => by
          obtain ⟨cs', h1, h2, _⟩ := hxs i (by omega)
          obtain ⟨_, g1, g2⟩ := World.cells?_some h1
          refine ⟨cs', by simpa [List.getD, show i < xs.length by omega] using h2, g1, ?_⟩
          rw [← g2 j hj]
          congr 1
          unfold Addr.add
          by_cases hij : i * sz = 0
          · rw [if_pos hij]
            by_cases hj0 : j = 0
            · rw [if_pos hj0, if_pos (by omega)]
            · rw [if_neg hj0, if_neg (by omega), show a.off + (i * sz + j) = a.off + j by omega]
          · rw [if_neg hij, if_neg (by omega)]
            by_cases hj0 : j = 0
            · rw [if_pos hj0, hj0, Nat.add_zero]
            · rw [if_neg hj0, Nat.add_assoc]
        have first : ∃ v, w.cell? a = some v := by
          obtain ⟨cs', _, h2, h3⟩ := cell 0 (by omega) 0 h0
          simp only [Nat.zero_mul, Nat.add_zero, if_true] at h3
          rw [h3]
          exact ⟨_, List.getElem?_eq_getElem (by omega)⟩
        obtain ⟨v0, hv0⟩ := first
        have hspot : a.spot = none := by
          unfold World.cell? at hv0
          split at hv0
          · cases hs : a.spot with
            | none => rfl
            | some q => simp [hs] at hv0
          · cases hv0
        have hlt : a.block < w.heap.size := by
          unfold World.cell? at hv0
          split at hv0
          · rename_i hh
            exact (Array.getElem?_eq_some_iff.1 hh).1
          · cases hv0
        obtain ⟨ab, ao, as1⟩ := a
        simp only at hspot hlt
        subst hspot
        refine ⟨ab, ao, rfl, hlt, fun h => h, CvR.of_get fun i x hi => ?_⟩
        obtain ⟨hi', rfl⟩ := List.getElem?_eq_some_iff.1 hi
        simp only [List.length_map] at hi'
        rw [List.getElem_map]
        obtain ⟨cs0, q1, q2, q3, q4⟩ := hxs i hi'
        refine ⟨hl _, CvC.of_get fun j av hj => ?_⟩
        have hjl : j < sz := by
          have := (List.getElem?_eq_some_iff.1 hj).1
          rw [hl] at this
          exact this
        obtain ⟨cs', h2, h3, h4⟩ := cell i (by omega) j hjl
        have hgd : xs.getD i (xs[0]'(by omega)) = xs[i] := by simp [List.getD, hi']
        rw [hgd] at h2
        obtain ⟨v, hv, hc⟩ := (h2 (fun _ => none)).get j av hj
        refine ⟨v, ?_, hc, q3 _ (List.mem_of_getElem? hj)⟩
        rw [← hv, ← h4]
        by_cases hz : i * sz + j = 0
        · rw [if_pos hz, show ao + i * sz + j = ao by omega]
        · rw [if_neg hz, Nat.add_assoc]
    · simp only [smL, sm, List.length_map]
      refine ⟨⟨by omega, smR_of fun y hy => ?_⟩, trivial⟩
      obtain ⟨x, hx, rfl⟩ := List.mem_map.1 hy
      obtain ⟨i, hi, rfl⟩ := List.getElem_of_mem hx
      obtain ⟨_, _, _, _, h5⟩ := hxs i hi
      exact h5
/-- The fields of a struct, from this place on. -/
def RdF (enc : TypeId × Value → H) (P : Program) (w : World) (bk : DataW H → Nat) (B : Nat) (fs : List Field) (off k : Nat) (c : α → List AV) : Prop :=
  ∀ (n : Nat) (cs : List Value) (xs : List (DataW H × List MemPlace)), (∀ (i : Nat) (f : Field), fs[i]? = some f → DataW.trod enc P w 0 (fun _ => true) true n f.type ((cs.drop f.offset).take (P.cellsOf f.type)) = xs[i]?) → xs.length = fs.length →
    (∀ y ∈ xs, bk y.1 ≤ B) → ∃ x : α, (∀ μ, CvL w NoO (c x) μ ((cs.drop off).take k)) ∧ allOne (c x) ∧ smL B (c x)
theorem rdf_nil {off : Nat} : RdF enc P w bk B [] off 0 (fun _ : Unit => []) := fun n cs xs _ _ _ => ⟨(), fun μ => by simp [CvL], fun c hc => by simp at hc, by simp [smL]⟩
theorem rdf_cons {f : Field} {fs : List Field} {off m k : Nat} {c : α → List AV} {c' : β → List AV} (ho : f.offset = off) (hm : P.cellsOf f.type = m) (h : Rd enc P w bk B f.type c) (h' : RdF enc P w bk B fs (off + m) k c') :
    RdF enc P w bk B (f :: fs) off (m + k) (fun p : α × β => c p.1 ++ c' p.2) := fun n cs xs hx hl hB => by
  cases xs with
  | nil => simp at hl
  | cons y ys =>
    have h1 := hx 0 f rfl
    rw [ho, hm] at h1
    obtain ⟨a, a1, a2, a3⟩ := h n _ y.1 y.2 h1 (hB y List.mem_cons_self)
    obtain ⟨b, b1, b2, b3⟩ := h' n cs ys (fun i f hi => hx (i + 1) f hi) (by simpa using hl) (fun z hz => hB z (List.mem_cons_of_mem _ hz))
    refine ⟨(a, b), fun μ => ?_, a2.append b2, smL_append a3 b3⟩
    rw [List.take_add, List.drop_drop]
    exact (a1 μ).append (b1 μ)
theorem rd_struct (hb : Bulk H bk B) {t : TypeId} {fs : Array Field} {k : Nat} {c : α → List AV} (hu : P.underlying t = some (.struct fs)) (hk : P.cellsOf t = k) (h : RdF enc P w bk B fs.toList 0 k c) : Rd enc P w bk B t c := fun n cs d ps h1 hB => by
  obtain ⟨xs, m, rfl, hx, hl, hxl, hel⟩ := DataW.trod_struct hu h1
  injection hx with hx _
  subst hx
  have hB2 := hb.agg _ hB
  obtain ⟨x, q1, q2, q3⟩ := h m cs xs (fun i f hi => hel i f (by simpa using hi)) (by simpa using hxl) (fun y hy => hB2 y.1 (List.mem_map_of_mem hy))
  refine ⟨x, fun μ => ?_, q2, q3⟩
  have := q1 μ
  rwa [List.drop_zero, List.take_of_length_le (by omega)] at this
/-! The same, by the table of types. -/
theorem und {Θ : TT} (hΘ : TTok P Θ) {t : TypeId} {y : Ty} (h : Θ t = some y) : P.underlying t = some y.d := by
  obtain ⟨i, h1, _⟩ := hΘ t y h
  exact h1
theorem cells_of {Θ : TT} (hΘ : TTok P Θ) {t : TypeId} {y : Ty} (h : Θ t = some y) : P.cellsOf t = y.size := by
  obtain ⟨i, _, h2, h3, _⟩ := hΘ t y h
  simp [Program.cellsOf, h2, h3]
theorem rt_int {Θ : TT} (hΘ : TTok P Θ) {t : TypeId} {y : Ty} {k : IntKind} (h : Θ t = some y) (hd : y.d = .int k) : Rd enc P w bk B t (fun n : Int => [AV.int k n]) := rd_int ((und hΘ h).trans (congrArg some hd))
theorem rt_bool {Θ : TT} (hΘ : TTok P Θ) {t : TypeId} {y : Ty} (h : Θ t = some y) (hd : y.d = .bool) : Rd enc P w bk B t (fun b : Bool => [AV.bool b]) := rd_bool ((und hΘ h).trans (congrArg some hd))
theorem rt_str {Θ : TT} (hΘ : TTok P Θ) (hb : Bulk H bk B) {t : TypeId} {y : Ty} (h : Θ t = some y) (hd : y.d = .string) : Rd enc P w bk B t (fun s : Str => [AV.str s]) := rd_str hb ((und hΘ h).trans (congrArg some hd))
theorem rt_slice {Θ : TT} (hΘ : TTok P Θ) (hb : Bulk H bk B) {t e : TypeId} {y z : Ty} {c : α → List AV} {sz : Nat} (h : Θ t = some y) (hd : y.d = .slice e) (hz : Θ e = some z) (hs : z.size = sz) (h0 : 0 < sz) (he : Rd enc P w bk B e c) (hl : ∀ x, (c x).length = sz) :
    Rd enc P w bk B t (fun xs : List α => [AV.lst sz (xs.map c)]) := rd_slice hb ((und hΘ h).trans (congrArg some hd)) ((cells_of hΘ hz).trans hs) h0 he hl
theorem rt_struct {Θ : TT} (hΘ : TTok P Θ) (hb : Bulk H bk B) {t : TypeId} {y : Ty} {fs : Array Field} {k : Nat} {c : α → List AV} (h : Θ t = some y) (hd : y.d = .struct fs) (hk : y.size = k) (hf : RdF enc P w bk B fs.toList 0 k c) : Rd enc P w bk B t c :=
  rd_struct hb ((und hΘ h).trans (congrArg some hd)) ((cells_of hΘ h).trans hk) hf
theorem rtf_cons {Θ : TT} (hΘ : TTok P Θ) {f : Field} {fs : List Field} {off m k n : Nat} {y : Ty} {c : α → List AV} {c' : β → List AV} (ho : f.offset = off) (hy : Θ f.type = some y) (hm : y.size = m) (hn : m + k = n) (h : Rd enc P w bk B f.type c) (h' : RdF enc P w bk B fs (off + m) k c') :
    RdF enc P w bk B (f :: fs) off n (fun p : α × β => c p.1 ++ c' p.2) := by
  subst hn
  exact rdf_cons ho ((cells_of hΘ hy).trans hm) h h'
/-- A value that is read: as an aggregate, or as one cell. -/
theorem Rd.agg {t : TypeId} {c : α → List AV} (h : Rd enc P w bk B t c) {v : Value} {d : DataW H} {ps : List MemPlace} (hd : DataW.Trod enc P w 0 (fun _ => true) true t v d ps) (hB : bk d ≤ B) (hv : ∃ vs, v = .agg vs) :
    ∃ x : α, (∀ μ, Cv w NoO (.agg (c x)) μ v) ∧ smL B (c x) := by
  obtain ⟨n, hn⟩ := hd
  obtain ⟨vs, rfl⟩ := hv
  obtain ⟨x, h1, h2, h3⟩ := h n _ d ps hn hB
  exact ⟨x, fun μ => by simp only [Cv]; exact ⟨vs, rfl, h1 μ, h2⟩, h3⟩
theorem Rd.one {t : TypeId} {c : α → AV} (h : Rd enc P w bk B t (fun x => [c x])) {v : Value} {d : DataW H} {ps : List MemPlace} (hd : DataW.Trod enc P w 0 (fun _ => true) true t v d ps) (hB : bk d ≤ B) (hv : v.cells = #[v]) :
    ∃ x : α, (∀ μ, Cv w NoO (c x) μ v) ∧ sm B (c x) := by
  obtain ⟨n, hn⟩ := hd
  rw [hv] at hn
  obtain ⟨x, h1, h2, h3⟩ := h n _ d ps hn hB
  refine ⟨x, fun μ => ?_, h3.1⟩
  have := h1 μ
  simp only [CvL] at this
  obtain ⟨y, ys, e, h4, _⟩ := this
  injection e with e _
  rw [e]
  exact h4
end

/-! The call. -/
theorem core_start {G : GlP} {w : World} (hg : G.holds w) (hn : G.ng ≤ w.heap.size) : Core G ⟨w, fun _ => none, NoO⟩ w (fun _ => none) (fun _ => none) :=
  ⟨hg, hn, fun b ⟨l, v, h⟩ => (by cases h), fun b ⟨l, v, h⟩ => (by cases h), fun b h => h.elim, fun b h => h.elim, fun b h => h.elim, fun l l' v v' b h => (by cases h), fun l => rfl, fun l o h => (by cases h), rfl, rfl, rfl, Nat.le_refl _, fun b _ _ => rfl,
    fun b ⟨l, v, h⟩ => (by cases h), Keeps.refl _⟩
theorem Core.below {G : GlP} {w w' : World} {μ : Mu} {L : Lbl → Option ABox} (C : Core G ⟨w, fun _ => none, NoO⟩ w' μ L) : Below w.heap.size w w' :=
  ⟨C.os, C.tape, C.output, C.size, fun k hk => C.frame k hk fun ⟨l, v, h⟩ => by cases h⟩
theorem NoO_eq {w : World} : (Env.O ⟨w, fun _ => none, NoO⟩ (fun _ => none)) = NoO := by
  funext b
  refine propext ⟨?_, fun h => h.elim⟩
  rintro (⟨l, v, h⟩ | h)
  · cases h
  · exact h
/-- A contract without boxes, called in a world. -/
theorem Meets.run {P : Program} {G : GlP} {f : FuncId} {args : List AV} {r : Bool} (h : Meets P G f args [] (.bool r) []) {w : World} (hg : G.holds w) (hn : G.ng ≤ w.heap.size) {vs : List Value} (hv : CvL w NoO args (fun _ => none) vs) :
    Calls P f vs.toArray w fun e w' => e = .returned (.bool r) ∧ Below w.heap.size w w' := by
  refine (h.calls ⟨w, fun _ => none, NoO⟩ w (fun _ => none) (fun _ => none) vs (core_start hg hn) (fun l b hb => by simp [getL] at hb) (fun l b hb => by simp [getL] at hb) (by rw [NoO_eq]; exact hv)).mono ?_
  rintro e w' ⟨v, rfl, μ', C, _, _, hc⟩
  simp only [Cv] at hc
  subst hc
  exact ⟨rfl, C.below⟩
section
variable {H : Type} {enc : TypeId × Value → H} {P : Program}
theorem trodAll_stays (hl : laidOutB P = true) {W W' : World} {sp : Nat → Bool} (hb : Below W.heap.size W W') : ∀ {ts : List TypeId} {vs : List Value} {ds : List (DataW H)} {ps : List MemPlace}, (∀ t ∈ ts, P.readableRec t = true ∧ t < P.types.size) →
    DataW.TrodAll enc P W 0 (fun _ => true) true ts vs ds ps → (∀ p ∈ ps, p.block < W.heap.size) → (∀ p ∈ ps, sp p.block = true) → DataW.TrodAll enc P W' 0 sp true ts vs ds ps
  | [], vs, ds, ps, _, h, _, _ => by
    obtain ⟨rfl, rfl, rfl⟩ := trodAll_nil h
    exact trodAll_mk0
  | t :: ts, vs, ds, ps, ht, h, h1, h2 => by
    obtain ⟨v, vs1, d, ds1, a, b, rfl, rfl, rfl, h3, h4⟩ := trodAll_cons h
    have h5 := ht t List.mem_cons_self
    exact ⟨a, b, WideElems.Trod_stays hl h5.1 h5.2 h3 (fun x hx => hb.same (h1 x (List.mem_append_left _ hx))) (fun x hx => h2 x (List.mem_append_left _ hx)),
      trodAll_stays hl hb (fun t ht' => ht t (List.mem_cons_of_mem _ ht')) h4 (fun p hp => h1 p (List.mem_append_right _ hp)) (fun p hp => h2 p (List.mem_append_right _ hp)), rfl⟩
/-- What a law's row asks behind the call, where all that was there lies as it lay. -/
theorem post_still {f : Func} {s : ChangeSpec} {apart fresh handsOn again : Bool} {W W' : World} {args : Array Value} {v : Value} {ds gs : List (DataW H)} {before : List MemPlace} (hl : laidOutB P = true)
    (hts : ∀ t ∈ f.params.toList, P.readableRec t = true ∧ t < P.types.size) (hvars : s.vars = []) (hargs : (s.fn H (ds ++ gs)).args = ds) (hvs : (s.fn H (ds ++ gs)).vars = [])
    (hW : DataW.Whole enc P f.params.toList s.vars apart W args.toList ds gs before)
    (hres : ∀ (b : Nat) (sp : Nat → Bool) (hd : Bool), DataW.TrodAll enc P W' b sp hd f.resultTypes.toList (v.resultList f.resultTypes.size) (s.fn H (ds ++ gs)).results [])
    (hb : Below W.heap.size W W')
    (hok : ∀ (j : Nat) (t : TypeId) (r : Value), f.resultTypes[j]? = some t → (v.resultList f.resultTypes.size)[j]? = some r → Value.okWide P W' .any 0 t r) :
    s.post enc P f apart fresh handsOn again W args v W' := by
  have hlt : ∀ p ∈ before, p.block < W.heap.size := fun p hp => hW.lt p hp
  have hW0 := hW
  obtain ⟨p, q, hA, hV, hpq, hz, hn⟩ := hW0
  have hA' : DataW.TrodAll enc P W 0 (fun _ => true) true f.params.toList args.toList ds p := hA
  rw [hvars] at hV
  obtain ⟨hgs, hq⟩ := trodVars_none hV
  have hbp : before = p := by rw [hpq, hq, List.append_nil]
  have key : ∀ sp : Nat → Bool, (∀ x ∈ before, sp x.block = true) → DataW.TrodAll enc P W' 0 sp true f.params.toList args.toList (s.fn H (ds ++ gs)).args p := fun sp hsp => by
    rw [hargs]
    exact trodAll_stays hl hb hts hA' (fun x hx => hlt x (by rw [hbp]; exact hx)) (fun x hx => hsp x (by rw [hbp]; exact hx))
  have kvars : ∀ sp : Nat → Bool, DataW.TrodVars enc P W' sp s.vars (s.fn H (ds ++ gs)).vars [] := fun sp => by rw [hvars, hvs]; rfl
  refine ⟨ds, gs, before, [], p, [], hW, hres _ _ _, key _ (fun x hx => by simpa using hlt x hx), kvars _, World.keptBut_mono (fun x hx => ⟨hx, by simpa [hbp] using hx⟩) (hb.frame (· ∈ before)), fun _ => ?_⟩
  refine ⟨hok, _, _, ([] ++ p) ++ [], ⟨[] ++ p, [], trodAll_append (key _ fun _ _ => rfl) (hres _ _ _), kvars _, rfl, ?_, ?_⟩, ?_⟩
  · intro b off hp
    have hin : MemPlace.cell b off ∈ before := by rw [hbp]; simpa using hp
    rw [hb.frozen (hlt _ hin)]
    exact hz b off hin
  · intro ha
    have := hn ha
    rw [hbp] at this
    simpa using this
  · intro x hx _
    simpa [hbp] using hx
end
section
variable {P : Program} {G : GlP} {Θ : TT} {o : Oper} {T : TL} {L : BL} {K : AV → BL → Nat → Prop}
theorem OpTo.eqB (hΘ : TTok P Θ) {t t' : TypeId} {x y : Operand} {ty : Ty} {a b r : Bool} (ho : o.op = .binOp .eql t x y t') (ht : Θ t = some ty) (hd : ty.d = .bool) (hx : ev T x = .bool a) (hy : ev T y = .bool b) (hr : (a == b) = r) (hK : K (.bool r) [] 0) : OpTo P G o T L K := by
  subst hr
  exact mk_pure (tri_boolEq .eql t t' x y ho hΘ ty ht hd a b hx hy (.inl rfl)) hK
end
end Go.Ab
/- What is wrong with a sheet, or a world, is what the document says first: the law's walk. -/
set_option linter.unusedVariables false
set_option linter.unusedSimpArgs false
set_option maxRecDepth 10000
namespace Go.Ab
theorem wrg_eq (e : Wrg) : eqCells (cWrg e) (cWrg e) = some true := by
  have h : ∀ i : Int, eqC1 (.int .i64 i) (.int .i64 i) = some true := fun i => by simp [eqC1]
  simp only [eqCells, cWrg, h]
  rfl
theorem makeW_fits {x : Sht} (hx : ShtFits x) : WldFits (makeW x) := by
  unfold makeW
  split
  · rename_i h
    exact (numb_of hx (shtOK_of h.1)).fits
  · exact ⟨⟨by decide, by decide, by decide, by decide, by decide, by decide⟩, by decide, by decide, by decide, by decide, by decide, fun r hr => absurd hr (List.not_mem_nil)⟩
theorem sheetS_fits {w : Wld} (hw : WldSmall w) : ShtFits (sheetS w) := by
  unfold sheetS
  split
  · exact (told_small hw).fits
  · exact ShtSmall.fits ⟨by decide, by decide, by decide, by decide, by decide, by decide, by decide, by decide⟩
theorem int_beq (i : Int) : (i == i) = true := by simp
end Go.Ab
namespace Go.Proofs.YtelpibkbcljdlaaGreatDoor
open Go Go.Ab
theorem m_law09_WorldCalls (G : GlP) (hR : Res G) (x : Sht) (w v : Wld) (s : Str) (hx : ∀ n ∈ namesL x, n.length ≤ 9223372036854775807) (hw : ∀ l ∈ nmK w.names, ∀ n ∈ l, n.length ≤ 9223372036854775807) (hv : ∀ l ∈ nmK v.names, ∀ n ∈ l, n.length ≤ 9223372036854775807) :
    Meets Pg G F_law09_WorldCalls [.agg (cSht x), .agg (cWld w), .agg (cWld v), .str s] [] (.bool true) [] := by
  refine meets_pure (F := fe_law09_WorldCalls) hTh hMx func_law09_WorldCalls rfl call_law09_WorldCalls rfl rfl rfl ?_
  conv => whnf
  refine CallTo.fn (m_law09_lives G hR) ?_
  conv => whnf
  refine CallTo.fn (m_kit_LightSheet G x 60 (by decide)) ?_
  conv => whnf
  cases h1 : lightS x 60
  · conv => whnf
    exact Fin.one hTh rfl (rfl) rfl
  conv => whnf
  refine CallTo.fn (m_kit_LightWorld G w 60 (by decide)) ?_
  conv => whnf
  cases h2 : lightW w 60
  · conv => whnf
    exact Fin.one hTh rfl (rfl) rfl
  conv => whnf
  refine CallTo.fn (m_kit_LightWorld G v 60 (by decide)) ?_
  conv => whnf
  cases h3 : lightW v 60
  · conv => whnf
    exact Fin.one hTh rfl (rfl) rfl
  conv => whnf
  refine cond_split (fun _ => ?_) (fun _ => ?_)
  · conv => whnf
    exact Fin.one hTh rfl (rfl) rfl
  have sx := light_small h1 hx
  have sw := light_smallW h2 hw
  have sv := light_smallW h3 hv
  have c1 := m_kit_World G (makeW x) (makeW x) (makeW_fits sx.fits)
  rw [decide_eq_true rfl] at c1
  have c2 := m_kit_Sheet G (sheetS w) (sheetS w) (sheetS_fits sw)
  rw [decide_eq_true rfl] at c2
  have c3 := m_world_Same G w w sw.fits
  rw [decide_eq_true rfl] at c3
  conv => whnf
  refine CallTo.fn (m_kit_OwnSheet G x sx.fits) ?_
  conv => whnf
  refine CallTo.fn (m_world_Make G hR x sx.fits) ?_
  conv => whnf
  refine CallTo.fn (m_ref09_Make G hR x sx.fits) ?_
  conv => whnf
  refine CallTo.fn (m_kit_OwnWorld G w sw.fits) ?_
  conv => whnf
  refine CallTo.fn (m_world_Sheet G hR w sw) ?_
  conv => whnf
  refine CallTo.fn (m_ref09_Sheet G hR w sw) ?_
  conv => whnf
  refine CallTo.fn (m_world_Find G w sw.fits.names s) ?_
  conv => whnf
  refine CallTo.fn (m_ref09_Find G w sw.fits.names s) ?_
  conv => whnf
  refine CallTo.fn (c1) ?_
  conv => whnf
  refine OpTo.eqA hTh eqOK_api_Wrong rfl rfl rfl rfl rfl (wrg_eq _) ?_
  conv => whnf
  refine CallTo.fn (c2) ?_
  conv => whnf
  rw [int_beq (checkS w).err]
  conv => whnf
  rw [int_beq (findS w.names s).1]
  conv => whnf
  rw [int_beq (findS w.names s).2]
  conv => whnf
  refine CallTo.fn (m_world_Check G hR w sw) ?_
  conv => whnf
  refine CallTo.fn (m_ref09_Check G hR w sw) ?_
  conv => whnf
  refine OpTo.eqA hTh eqOK_api_Wrong rfl rfl rfl rfl rfl (wrg_eq _) ?_
  conv => whnf
  refine CallTo.fn (m_world_Same G w v sw.fits) ?_
  conv => whnf
  refine CallTo.fn (m_kit_World G w v sw.fits) ?_
  conv => whnf
  refine OpTo.eqB hTh rfl rfl rfl rfl rfl (by simp : (decide (w = v) == decide (w = v)) = true) ?_
  conv => whnf
  refine CallTo.fn (m_kit_OwnWorld G w sw.fits) ?_
  conv => whnf
  refine CallTo.fn (c3) ?_
  conv => whnf
  refine ⟨by kernel_rfl, ?_⟩
  conv => whnf
  exact Fin.one hTh rfl (rfl) rfl
end Go.Proofs.YtelpibkbcljdlaaGreatDoor
/- Words: a text of small bytes, cut at its spaces; the reserved words. -/
set_option linter.unusedVariables false
set_option linter.unusedSimpArgs false
set_option maxRecDepth 10000
namespace Go.Ab
def spB (c : UInt8) : Bool := c == 9 || c == 10 || c == 11 || c == 12 || c == 13 || c == 32
def spI (c : UInt8) : Int := if spB c then 1 else 0
def tabA : List AV := (List.range 256).map fun i => AV.int .u8 (spI (UInt8.ofNat i))
theorem tabA_drop (c : UInt8) : tabA.drop (c.toNat * 1) = AV.int .u8 (spI c) :: tabA.drop (c.toNat + 1) := by
  have h : c.toNat < tabA.length := by simp [tabA]; exact c.toNat_lt
  rw [Nat.mul_one, List.drop_eq_getElem_cons h]
  simp [tabA]
def wasF (s : Str) : Nat → Int
  | 0 => 1
  | i + 1 => spI (s.getD i 0)
def cntF (s : Str) : Nat → Int
  | 0 => 0
  | i + 1 => cntF s i + (if wasF s i = 1 ∧ spB (s.getD i 0) = false then 1 else 0)
theorem spI01 (c : UInt8) : spI c = 0 ∧ spB c = false ∨ spI c = 1 ∧ spB c = true := by
  unfold spI
  cases spB c <;> simp
theorem was01 (s : Str) (i : Nat) : wasF s i = 0 ∨ wasF s i = 1 := by
  cases i with
  | zero => exact .inr rfl
  | succ i =>
    simp only [wasF]
    rcases spI01 (s.getD i 0) with h | h
    · exact .inl h.1
    · exact .inr h.1
theorem cntF_bd (s : Str) : ∀ i, 0 ≤ cntF s i ∧ cntF s i ≤ i
  | 0 => ⟨Int.le_refl _, Int.le_refl _⟩
  | i + 1 => by
    have := cntF_bd s i
    simp only [cntF]
    split <;> omega
theorem orLow {a b : Int} (ha : 0 ≤ a ∧ a < 128) (hb : 0 ≤ b ∧ b < 128) : 0 ≤ bits .or .u8 a b ∧ bits .or .u8 a b < 128 := by
  obtain ⟨n, rfl⟩ := Int.eq_ofNat_of_zero_le ha.1
  obtain ⟨m, rfl⟩ := Int.eq_ofNat_of_zero_le hb.1
  have hn : n < 2 ^ 7 := by omega
  have hm : m < 2 ^ 7 := by omega
  have h := Nat.or_lt_two_pow hn hm
  have e : (BitVec.ofInt (IntKind.bits .u8) (n : Int) ||| BitVec.ofInt (IntKind.bits .u8) (m : Int)).toNat = n ||| m := by
    rw [BitVec.toNat_or]
    simp only [BitVec.ofInt_natCast, BitVec.toNat_ofNat, IntKind.bits]
    rw [Nat.mod_eq_of_lt (by omega), Nat.mod_eq_of_lt (by omega)]
  simp only [bits, e]
  have hw : IntKind.u8.wrap ((n ||| m : Nat) : Int) = ((n ||| m : Nat) : Int) := by
    simp [IntKind.wrap, IntKind.bits, IntKind.signed]
    omega
  rw [hw]
  omega
def skF (s : Str) : Nat → Nat → Nat
  | 0, i => i
  | f + 1, i => if i < s.length ∧ spB (s.getD i 0) = true then skF s f (i + 1) else i
def sk (s : Str) (i : Nat) : Nat := skF s (s.length - i) i
theorem sk_go {s : Str} {i : Nat} (h : i < s.length) (hs : spB (s.getD i 0) = true) : sk s i = sk s (i + 1) := by
  unfold sk
  obtain ⟨k, hk⟩ : ∃ k, s.length - i = k + 1 := ⟨s.length - i - 1, by omega⟩
  rw [hk, show s.length - (i + 1) = k from by omega]
  simp only [skF]
  rw [if_pos ⟨h, hs⟩]
theorem sk_stop {s : Str} {i : Nat} (h : ¬ (i < s.length ∧ spB (s.getD i 0) = true)) : sk s i = i := by
  unfold sk
  cases s.length - i with
  | zero => rfl
  | succ k => simp only [skF]; rw [if_neg h]
theorem skF_le (s : Str) : ∀ f i, i ≤ s.length → i ≤ skF s f i ∧ skF s f i ≤ s.length
  | 0, i, h => ⟨Nat.le_refl _, h⟩
  | f + 1, i, h => by
    simp only [skF]
    split
    · rename_i hh
      have := skF_le s f (i + 1) (by omega)
      omega
    · exact ⟨Nat.le_refl _, h⟩
theorem sk_le (s : Str) (i : Nat) (h : i ≤ s.length) : i ≤ sk s i ∧ sk s i ≤ s.length := skF_le s _ i h
def endF (s : Str) (f : Nat) : List Str := if f < s.length then [s.drop f] else []
def scF (s : Str) : Nat → Nat → Nat → List Str
  | 0, f, i => endF s f
  | n + 1, f, i => if i < s.length then (if spB (s.getD i 0) then ((s.take i).drop f) :: scF s n (sk s (i + 1)) (sk s (i + 1)) else scF s n f (i + 1)) else endF s f
def resT : Str := "horizon stop path door route trip hazard from every open closed of on until stay".toByteArray.data.toList
def fieldsS (s : Str) : List Str := scF s s.length (sk s 0) (sk s 0)
/-- What is asked of the package variables: the table of spaces. -/
structure Spc (g : Nat) (G : GlP) : Prop where
  lt : g < G.ng
  tab : ∀ (w : World) (O : Nat → Prop), G.holds w → CvC w O tabA g 0
theorem OpTo.spc {P : Program} {G : GlP} {Θ : TT} (hΘ : TTok P Θ) {o : Oper} {T : TL} {L : BL} {K : AV → BL → Nat → Prop} {t : TypeId} {x ix : Operand} {y z : Ty} {e : TypeId} {g : Nat} (hS : Spc g G) {k : IntKind} {c : UInt8} (ho : o.op = .indexAddr t x ix)
    (hy : Θ t = some y) (hd : y.d = .array 256 e) (hz : Θ e = some z) (hz1 : z.size = 1) (hx : ev T x = .gp g) (hi : ev T ix = .int k (c.toNat : Int)) (hK : K (.pp (AV.int .u8 (spI c) :: tabA.drop (c.toNat + 1))) [] 0) : OpTo P G o T L K := by
  refine OpTo.gpAt hΘ ho hy hd hz hx hi (by exact c.toNat_lt) tabA hS.lt hS.tab ?_
  rw [hz1, tabA_drop]
  exact hK
theorem set_next {α : Type} {acc : List α} {n : Nat} (x y : α) (h : acc.length < n) : (acc ++ List.replicate (n - acc.length) x).set acc.length y = (acc ++ [y]) ++ List.replicate (n - (acc ++ [y]).length) x := by
  obtain ⟨k, hk⟩ : ∃ k, n - acc.length = k + 1 := ⟨n - acc.length - 1, by omega⟩
  rw [hk, show n - (acc ++ [y]).length = k from by simp; omega, List.replicate_succ]
  simp [List.set_append]
theorem get_next {acc : List Str} {n : Nat} (h : acc.length < n) : ((acc ++ List.replicate (n - acc.length) ([] : Str)).map cS)[acc.length]? = some (cS []) := by
  obtain ⟨k, hk⟩ : ∃ k, n - acc.length = k + 1 := ⟨n - acc.length - 1, by omega⟩
  rw [hk, List.replicate_succ]
  simp
theorem str_one (xs : List Str) : ∀ x ∈ xs.map cS, x.length = 1 := fun x hx => by
  obtain ⟨y, _, rfl⟩ := List.mem_map.1 hx
  rfl
theorem scF_end {s : Str} {n f i : Nat} (h : s.length ≤ i) : scF s n f i = endF s f := by
  cases n with
  | zero => rfl
  | succ n => simp only [scF]; rw [if_neg (by omega)]
end Go.Ab
namespace Go.Proofs.YtelpibkbcljdlaaGreatDoor
open Go Go.Ab
def fldT (s : Str) (n : Nat) (a b c : Int) : TL := [(0, .str s), (9, .own (F_strings_Fields, 41) n), (10, .int .i64 a), (11, .int .i64 b), (12, .int .i64 c)]
def fldL (acc : List Str) : BL := [((F_strings_Fields, 41), .row T_string 1 (acc.map cS))]
theorem fld_skip1 (G : GlP) (hS : Spc gl_strings_Fields G) (s : Str) (n : Nat) (acc : List Str) (a b : Int) (j : Nat) (hl : s.length ≤ 65536) (hj : j ≤ s.length) {K : AE → TL → BL → Prop}
    (hK : ∀ T, SubT (fldT s n a b (sk s j)) T → K (.exit 2) T (fldL acc)) : LoopOK Pg G fe_strings_Fields [] (loopOf fn_strings_Fields 1) (fldT s n a b j) (fldL acc) K := by
  have hclo : ∀ (c : Int), cloChk [] (fldT s n a b c) (fldL acc) = true := fun c => chk_mk ⟨rfl, rfl, rfl, rfl, rfl, trivial⟩ ⟨cloX_row (l := jLr) (e := 0) (sz := 1) (Clo.map fS _), trivial⟩ rfl
  refine LoopOK.ind (fun i : Nat => s.length - i) (fun i => fldT s n a b i) (fun _ => fldL acc) (fun i => i ≤ s.length ∧ sk s i = sk s j) ?_ j ⟨hj, rfl⟩
  rintro i ⟨hi, hsk⟩ IH
  have fin2 : ¬ (i < s.length ∧ spB (s.getD i 0) = true) → sk s j = i := fun h => by rw [← hsk]; exact sk_stop h
  refine LoopOK.round hTh hMx ?_
  conv => whnf
  refine cond_split (fun h => ?_) (fun hz => ?_)
  · have hlt : i < s.length := by simpa using h
    conv => whnf
    refine ByteTo.at (some_getD 0 hlt) ?_
    conv => whnf
    refine OpTo.spc hTh hS rfl rfl rfl rfl rfl rfl rfl ?_
    conv => whnf
    refine cond_split (fun h2 => ?_) (fun h2 => ?_)
    · have hsp : spB (s.getD i 0) = true := by
        rcases spI01 (s.getD i 0) with h | h
        · rw [h.1] at h2; cases h2
        · exact h.2
      conv => whnf
      refine WrapTo.i64 (by omega) ?_
      conv => whnf
      refine LoopOK.weak _ _ ?_ ?_ (hclo _) (IH (i + 1) (by omega) ⟨by omega, by rw [← hsk]; exact (sk_go hlt hsp).symm⟩)
      · exact ⟨rfl, rfl, rfl, rfl, rfl, trivial⟩
      · exact ⟨rfl, trivial⟩
    · have hsp : spB (s.getD i 0) = false := by
        rcases spI01 (s.getD i 0) with h | h
        · exact h.2
        · rw [h.1] at h2; cases h2
      have e := fin2 (fun hh => by rw [hsp] at hh; cases hh.2)
      conv => whnf
      exact hK _ (by rw [e]; exact ⟨rfl, rfl, rfl, rfl, rfl, trivial⟩)
  · have e := fin2 (by simp at hz; omega)
    conv => whnf
    exact hK _ (by rw [e]; exact ⟨rfl, rfl, rfl, rfl, rfl, trivial⟩)
theorem fld_skip2 (G : GlP) (hS : Spc gl_strings_Fields G) (s : Str) (n : Nat) (acc : List Str) (a b : Int) (j : Nat) (hl : s.length ≤ 65536) (hj : j ≤ s.length) {K : AE → TL → BL → Prop}
    (hK : ∀ T, SubT (fldT s n a b (sk s j)) T → K (.exit 6) T (fldL acc)) : LoopOK Pg G fe_strings_Fields [] (loopOf fn_strings_Fields 3) (fldT s n a b j) (fldL acc) K := by
  have hclo : ∀ (c : Int), cloChk [] (fldT s n a b c) (fldL acc) = true := fun c => chk_mk ⟨rfl, rfl, rfl, rfl, rfl, trivial⟩ ⟨cloX_row (l := jLr) (e := 0) (sz := 1) (Clo.map fS _), trivial⟩ rfl
  refine LoopOK.ind (fun i : Nat => s.length - i) (fun i => fldT s n a b i) (fun _ => fldL acc) (fun i => i ≤ s.length ∧ sk s i = sk s j) ?_ j ⟨hj, rfl⟩
  rintro i ⟨hi, hsk⟩ IH
  have fin2 : ¬ (i < s.length ∧ spB (s.getD i 0) = true) → sk s j = i := fun h => by rw [← hsk]; exact sk_stop h
  refine LoopOK.round hTh hMx ?_
  conv => whnf
  refine cond_split (fun h => ?_) (fun hz => ?_)
  · have hlt : i < s.length := by simpa using h
    conv => whnf
    refine ByteTo.at (some_getD 0 hlt) ?_
    conv => whnf
    refine OpTo.spc hTh hS rfl rfl rfl rfl rfl rfl rfl ?_
    conv => whnf
    refine cond_split (fun h2 => ?_) (fun h2 => ?_)
    · have hsp : spB (s.getD i 0) = true := by
        rcases spI01 (s.getD i 0) with h | h
        · rw [h.1] at h2; cases h2
        · exact h.2
      conv => whnf
      refine WrapTo.i64 (by omega) ?_
      conv => whnf
      refine LoopOK.weak _ _ ?_ ?_ (hclo _) (IH (i + 1) (by omega) ⟨by omega, by rw [← hsk]; exact (sk_go hlt hsp).symm⟩)
      · exact ⟨rfl, rfl, rfl, rfl, rfl, trivial⟩
      · exact ⟨rfl, trivial⟩
    · have hsp : spB (s.getD i 0) = false := by
        rcases spI01 (s.getD i 0) with h | h
        · exact h.2
        · rw [h.1] at h2; cases h2
      have e := fin2 (fun hh => by rw [hsp] at hh; cases hh.2)
      conv => whnf
      exact hK _ (by rw [e]; exact ⟨rfl, rfl, rfl, rfl, rfl, trivial⟩)
  · have e := fin2 (by simp at hz; omega)
    conv => whnf
    exact hK _ (by rw [e]; exact ⟨rfl, rfl, rfl, rfl, rfl, trivial⟩)
theorem m_strings_Fields (G : GlP) (hS : Spc gl_strings_Fields G) (s : Str) (hl : s.length ≤ 65536) (ha : ∀ c ∈ s, c.toNat < 128) (hn : cntF s s.length = (fieldsS s).length) : Meets Pg G F_strings_Fields [.str s] [] (.lst 1 ((fieldsS s).map cS)) [] := by
  have hbyte : ∀ {i : Nat}, i < s.length → s[i]? = some (s.getD i 0) := fun h => some_getD 0 h
  have hlow : ∀ {i : Nat}, i < s.length → 0 ≤ ((s.getD i 0).toNat : Int) ∧ ((s.getD i 0).toNat : Int) < 128 := fun {i} h => by
    have := ha (s.getD i 0) (List.mem_of_getElem? (hbyte h))
    omega
  refine meets_pure (F := fe_strings_Fields) hTh hMx func_strings_Fields rfl call_strings_Fields rfl rfl rfl ?_
  conv => whnf
  refine LoopOK.weak _ _ ?_ ?_ ?_ (LoopOK.ind (fun x : Nat × Int => s.length - x.1) (fun x => [(0, .str s), (3, .int .i64 (cntF s x.1)), (4, .int .i64 (wasF s x.1)), (5, .int .u8 x.2), (6, .int .i64 x.1)]) (fun _ => []) (fun x => x.1 ≤ s.length ∧ 0 ≤ x.2 ∧ x.2 < 128) ?_ (0, 0) ⟨by simp, by simp, by simp⟩)
  · exact ⟨rfl, rfl, rfl, rfl, rfl, trivial⟩
  · trivial
  · rfl
  rintro ⟨i, v⟩ ⟨hi, hv⟩ IH
  dsimp only at hi hv ⊢
  refine LoopOK.round hTh hMx ?_
  conv => whnf
  refine cond_split (fun h => ?_) (fun hz => ?_)
  · have hlt : i < s.length := by simpa using h
    have hb := cntF_bd s i
    conv => whnf
    refine ByteTo.at (hbyte hlt) ?_
    conv => whnf
    refine OpTo.bits rfl rfl rfl (.inr (.inl rfl)) rfl ?_
    conv => whnf
    refine OpTo.spc hTh hS rfl rfl rfl rfl rfl rfl rfl ?_
    conv => whnf
    refine OpTo.convI hTh rfl rfl rfl rfl rfl (c := spI (s.getD i 0)) (IntWalk.i64_in _ (by rcases spI01 (s.getD i 0) with h | h <;> omega)) ?_
    conv => whnf
    refine OpTo.notBits rfl rfl (c := -1 - spI (s.getD i 0)) (by rcases spI01 (s.getD i 0) with h | h <;> rw [h.1] <;> rfl) ?_
    conv => whnf
    refine OpTo.bits rfl rfl rfl (.inl rfl) (c := if wasF s i = 1 ∧ spB (s.getD i 0) = false then 1 else 0) (by rcases spI01 (s.getD i 0) with h | h <;> rcases was01 s i with h' | h' <;> rw [h.1, h.2, h'] <;> rfl) ?_
    conv => whnf
    refine WrapTo.i64 (by split <;> omega) ?_
    conv => whnf
    refine WrapTo.i64 (by omega) ?_
    conv => whnf
    refine LoopOK.weak _ _ ?_ ?_ ?_ (IH (i + 1, bits .or .u8 v (s.getD i 0).toNat) (by simp only; omega) ⟨by simp only; omega, orLow hv (hlow hlt)⟩)
    · exact ⟨rfl, rfl, rfl, rfl, rfl, trivial⟩
    · trivial
    · rfl
  have hge : i = s.length := by simp at hz; omega
  subst hge
  rw [hn]
  conv => whnf
  refine cond_split (fun h => absurd h (by simp; omega)) (fun h => ?_)
  clear IH
  generalize hW : fieldsS s = W at *
  have hWl : W.length ≤ 65536 := by have := cntF_bd s s.length; omega
  conv => whnf
  refine OpTo.mkSlice hTh (F_strings_Fields, 41) rfl rfl rfl rfl rfl rfl rfl (by decide) rfl (by show 16 * W.length ≤ _; omega) (by omega) rfl ?_
  conv => whnf
  have hclo : ∀ (acc : List Str) (a b c : Int), cloChk [] (fldT s W.length a b c) (fldL acc) = true :=
    fun acc a b c => chk_mk ⟨rfl, rfl, rfl, rfl, rfl, trivial⟩ ⟨cloX_row (l := jLr) (e := 0) (sz := 1) (Clo.map fS _), trivial⟩ rfl
  refine LoopOK.weak (fldT s W.length 0 0 (0 : Nat)) (fldL (List.replicate W.length [])) ⟨rfl, rfl, rfl, rfl, rfl, trivial⟩ ⟨congrArg (fun z => some (ABox.row T_string 1 z)) (by rw [List.map_replicate]; rfl), trivial⟩ (hclo _ _ _ _) ?_
  refine LoopOK.join (fun z T1 L1 => z = .exit 2 ∧ SubT (fldT s W.length 0 0 (sk s 0)) T1 ∧ SubL (fldL (List.replicate W.length [])) L1) ?_ ?_
  · exact fld_skip1 G hS s W.length (List.replicate W.length []) 0 0 0 hl (by omega) fun T hT => ⟨rfl, hT, rfl, trivial⟩
  rintro _ T1 L1 ⟨rfl, hT1, hL1⟩
  refine ⟨_, _, Conv.weak (Weak.mk' hT1 hL1 (hclo _ _ _ _)), ?_⟩
  have hsk0 := sk_le s 0 (by omega)
  conv => whnf
  refine LoopOK.weak _ _ ?_ ?_ (hclo _ _ _ _) (LoopOK.ind (fun x : Nat × Nat × Nat × List Str => x.1) (fun x => fldT s W.length x.2.2.2.length x.2.1 x.2.2.1) (fun x => fldL (x.2.2.2 ++ List.replicate (W.length - x.2.2.2.length) []))
    (fun x => s.length - x.2.2.1 ≤ x.1 ∧ x.2.1 ≤ x.2.2.1 ∧ x.2.2.1 ≤ s.length ∧ x.2.2.2 ++ scF s x.1 x.2.1 x.2.2.1 = W) ?_ (s.length, sk s 0, sk s 0, []) ⟨by simp, by simp, hsk0.2, hW⟩)
  · exact ⟨rfl, rfl, rfl, rfl, rfl, trivial⟩
  · exact ⟨rfl, trivial⟩
  rintro ⟨n, f, i, acc⟩ ⟨hf, hfi, hi, hacc⟩ IH
  dsimp only at hf hfi hi hacc ⊢
  have hrl : ((acc ++ List.replicate (W.length - acc.length) ([] : Str)).map cS).length = W.length := by
    have : acc.length ≤ W.length := by rw [← hacc]; simp
    simp; omega
  have hall := str_one (acc ++ List.replicate (W.length - acc.length) ([] : Str))
  refine LoopOK.round hTh hMx ?_
  conv => whnf
  refine cond_split (fun h => ?_) (fun hz => ?_)
  · have hlt : i < s.length := by simpa using h
    obtain ⟨k, rfl⟩ : ∃ k, n = k + 1 := ⟨n - 1, by omega⟩
    simp only [scF] at hacc
    rw [if_pos hlt] at hacc
    conv => whnf
    refine ByteTo.at (hbyte hlt) ?_
    conv => whnf
    refine OpTo.spc hTh hS rfl rfl rfl rfl rfl rfl rfl ?_
    conv => whnf
    refine cond_split (fun h2 => ?_) (fun h2 => ?_)
    · have hsp : spB (s.getD i 0) = false := by
        rcases spI01 (s.getD i 0) with h | h
        · exact h.2
        · rw [h.1] at h2; cases h2
      rw [hsp] at hacc
      conv => whnf
      refine WrapTo.i64 (by omega) ?_
      conv => whnf
      refine LoopOK.weak _ _ ?_ ?_ (hclo _ _ _ _) (IH (k, f, i + 1, acc) (by simp) ⟨by simp only; omega, by simp only; omega, by simp only; omega, hacc⟩)
      · exact ⟨rfl, rfl, rfl, rfl, rfl, trivial⟩
      · exact ⟨rfl, trivial⟩
    have hsp : spB (s.getD i 0) = true := by
      rcases spI01 (s.getD i 0) with h | h
      · rw [h.1] at h2; cases h2
      · exact h.2
    rw [hsp, if_pos rfl] at hacc
    have hal : acc.length < W.length := by rw [← hacc]; simp
    have hacc' : (acc ++ [(s.take i).drop f]) ++ scF s k (sk s (i + 1)) (sk s (i + 1)) = W := by rw [List.append_assoc]; exact hacc
    have hsk1 := sk_le s (i + 1) (by omega)
    conv => whnf
    refine OpTo.cutS hTh f i rfl rfl rfl rfl ⟨_, rfl⟩ ⟨_, rfl⟩ hfi hi ?_
    conv => whnf
    refine OpTo.rowAt hTh rfl rfl rfl rfl rfl rfl rfl hrl rfl (by omega) (by omega) ?_
    conv => whnf
    refine OpTo.rowStore hTh acc.length 0 (((acc ++ [(s.take i).drop f]) ++ List.replicate (W.length - (acc ++ [(s.take i).drop f]).length) []).map cS) rfl rfl rfl rfl hrl rfl rfl hall (get_next hal) (by simp) (by decide) (by rw [← set_next ([] : Str) _ hal, List.map_set]; rfl) ?_
    conv => whnf
    refine WrapTo.i64 (by omega) ?_
    conv => whnf
    refine WrapTo.i64 (by omega) ?_
    conv => whnf
    have hal2 : ((acc ++ [(s.take i).drop f]).length : Int) = (acc.length : Int) + 1 := by simp
    refine LoopOK.weak (fldT s W.length (acc ++ [(s.take i).drop f]).length f ((i + 1 : Nat) : Int)) (fldL ((acc ++ [(s.take i).drop f]) ++ List.replicate (W.length - (acc ++ [(s.take i).drop f]).length) [])) ⟨rfl, rfl, congrArg (AV.int .i64) hal2.symm, rfl, rfl, trivial⟩ ⟨rfl, trivial⟩ (hclo _ _ _ _) ?_
    refine LoopOK.join (fun z T1 L1 => z = .exit 6 ∧ SubT (fldT s W.length (acc ++ [(s.take i).drop f]).length f (sk s (i + 1))) T1 ∧ SubL (fldL ((acc ++ [(s.take i).drop f]) ++ List.replicate (W.length - (acc ++ [(s.take i).drop f]).length) [])) L1) ?_ ?_
    · exact fld_skip2 G hS s W.length _ _ _ (i + 1) hl (by omega) fun T hT => ⟨rfl, hT, rfl, trivial⟩
    rintro _ T2 L2 ⟨rfl, hT2, hL2⟩
    refine ⟨_, _, Conv.weak (Weak.mk' hT2 hL2 (hclo _ _ _ _)), ?_⟩
    conv => whnf
    refine LoopOK.weak _ _ ?_ ?_ (hclo _ _ _ _) (IH (k, sk s (i + 1), sk s (i + 1), acc ++ [(s.take i).drop f]) (by simp) ⟨by simp only; omega, by simp, by simp only; omega, hacc'⟩)
    · exact ⟨rfl, rfl, rfl, rfl, rfl, trivial⟩
    · exact ⟨rfl, trivial⟩
  have hge : s.length ≤ i := by simpa using hz
  rw [scF_end hge] at hacc
  conv => whnf
  refine cond_split (fun h => ?_) (fun h => ?_)
  · have hfl : f < s.length := by simpa using h
    have he : endF s f = [s.drop f] := by unfold endF; rw [if_pos hfl]
    rw [he] at hacc
    have hal : acc.length < W.length := by rw [← hacc]; simp
    conv => whnf
    refine OpTo.cutS hTh f s.length rfl rfl rfl rfl ⟨_, rfl⟩ rfl (by omega) (Nat.le_refl _) ?_
    conv => whnf
    refine OpTo.rowAt hTh rfl rfl rfl rfl rfl rfl rfl hrl rfl (by omega) (by omega) ?_
    conv => whnf
    refine OpTo.rowStore hTh acc.length 0 (((acc ++ [(s.take s.length).drop f]) ++ List.replicate (W.length - (acc ++ [(s.take s.length).drop f]).length) []).map cS) rfl rfl rfl rfl hrl rfl rfl hall (get_next hal) (by simp) (by decide) (by rw [← set_next ([] : Str) _ hal, List.map_set]; rfl) ?_
    have hWe : (acc ++ [(s.take s.length).drop f]) ++ List.replicate (W.length - (acc ++ [(s.take s.length).drop f]).length) [] = W := by
      rw [List.take_length, hacc]; simp
    rw [hWe]
    conv => whnf
    exact Fin.own hTh rfl rfl rfl (by simp) (Clo.map fS _)
  · have he : endF s f = [] := by unfold endF; rw [if_neg (by simpa using h)]
    rw [he, List.append_nil] at hacc
    have hWe : acc ++ List.replicate (W.length - acc.length) [] = W := by rw [hacc]; simp
    conv => whnf
    have hlw : ((acc ++ List.replicate (W.length - acc.length) ([] : Str)).map cS).length = W.length := hrl
    rw [hWe]
    exact Fin.own hTh rfl rfl rfl (by simp) (Clo.map fS _)
theorem m_lex_Reserved (G : GlP) (hS : Spc gl_strings_Fields G) : Res G := fun s => by
  have h1 : fieldsS resT = words := by decide +kernel
  have h2 : cntF resT resT.length = (fieldsS resT).length := by decide +kernel
  have h3 : ∀ c ∈ resT, c.toNat < 128 := by decide +kernel
  have hf := m_strings_Fields G hS resT (by decide +kernel) h3 h2
  rw [h1] at hf
  refine meets_pure (F := fe_lex_Reserved) hTh hMx func_lex_Reserved rfl call_lex_Reserved rfl rfl rfl ?_
  conv => whnf
  refine CallTo.fn (hf) ?_
  conv => whnf
  refine CallTo.fn (m_slices_Contains_string_string G words s (by decide)) ?_
  conv => whnf
  exact Fin.one hTh rfl (congrArg AV.bool List.contains_eq_any_beq.symm) rfl
end Go.Proofs.YtelpibkbcljdlaaGreatDoor
/- Sheets and worlds, read from memory. -/
set_option linter.unusedVariables false
set_option linter.unusedSimpArgs false
set_option maxRecDepth 10000
namespace Go.Proofs.YtelpibkbcljdlaaGreatDoor
open Go Go.Ab
section
variable {H : Type} {enc : TypeId × Value → H} {w : World} {bk : DataW H → Nat} {B : Nat}
theorem rdS {t : TypeId} (hb : Bulk H bk B) {y : Ty} (h : Th t = some y := by rfl) (hd : y.d = .string := by rfl) : Rd enc Pg w bk B t cS := rt_str hTh hb h hd
theorem rdI {t : TypeId} (hb : Bulk H bk B) {y : Ty} (h : Th t = some y := by rfl) (hd : y.d = .int .i64 := by rfl) : Rd enc Pg w bk B t cI := rt_int hTh h hd
theorem rdTms (hb : Bulk H bk B) : Rd enc Pg w bk B T_api_Times cTms :=
  (rt_struct hTh hb (k := 3) rfl rfl rfl (rtf_cons hTh (m := 1) (k := 2) (n := 3) rfl rfl rfl rfl (rt_int hTh rfl rfl) (rtf_cons hTh (m := 1) (k := 1) (n := 2) rfl rfl rfl rfl (rt_int hTh rfl rfl) (rtf_cons hTh (m := 1) (k := 0) (n := 1) rfl rfl rfl rfl (rt_int hTh rfl rfl) rdf_nil)))).iso (fun p => (⟨p.1, p.2.1, p.2.2.1⟩ : Tms)) (fun _ => rfl)
theorem rdPth (hb : Bulk H bk B) : Rd enc Pg w bk B T_api_Path cPth :=
  (rt_struct hTh hb (k := 4) rfl rfl rfl (rtf_cons hTh (m := 1) (k := 3) (n := 4) rfl rfl rfl rfl (rt_str hTh hb rfl rfl) (rtf_cons hTh (m := 1) (k := 2) (n := 3) rfl rfl rfl rfl (rt_str hTh hb rfl rfl) (rtf_cons hTh (m := 1) (k := 1) (n := 2) rfl rfl rfl rfl (rt_str hTh hb rfl rfl) (rtf_cons hTh (m := 1) (k := 0) (n := 1) rfl rfl rfl rfl (rt_int hTh rfl rfl) rdf_nil))))).iso (fun p => (⟨p.1, p.2.1, p.2.2.1, p.2.2.2.1⟩ : Pth)) (fun _ => rfl)
theorem rdDor (hb : Bulk H bk B) : Rd enc Pg w bk B T_api_Door cDor :=
  (rt_struct hTh hb (k := 7) rfl rfl rfl (rtf_cons hTh (m := 1) (k := 6) (n := 7) rfl rfl rfl rfl (rt_str hTh hb rfl rfl) (rtf_cons hTh (m := 1) (k := 5) (n := 6) rfl rfl rfl rfl (rt_str hTh hb rfl rfl) (rtf_cons hTh (m := 1) (k := 4) (n := 5) rfl rfl rfl rfl (rt_str hTh hb rfl rfl) (rtf_cons hTh (m := 1) (k := 3) (n := 4) rfl rfl rfl rfl (rt_int hTh rfl rfl) (rtf_cons hTh (m := 3) (k := 0) (n := 3) rfl rfl rfl rfl (rdTms hb) rdf_nil)))))).iso (fun p => (⟨p.1, p.2.1, p.2.2.1, p.2.2.2.1, p.2.2.2.2.1⟩ : Dor)) (fun _ => rfl)
theorem rdRte (hb : Bulk H bk B) : Rd enc Pg w bk B T_api_Route cRte :=
  (rt_struct hTh hb (k := 4) rfl rfl rfl (rtf_cons hTh (m := 1) (k := 3) (n := 4) rfl rfl rfl rfl (rt_str hTh hb rfl rfl) (rtf_cons hTh (m := 1) (k := 2) (n := 3) rfl rfl rfl rfl (rt_slice hTh hb rfl rfl rfl rfl (by decide) (rdS hb) (fun _ => rfl)) (rtf_cons hTh (m := 1) (k := 1) (n := 2) rfl rfl rfl rfl (rt_slice hTh hb rfl rfl rfl rfl (by decide) (rdI hb) (fun _ => rfl)) (rtf_cons hTh (m := 1) (k := 0) (n := 1) rfl rfl rfl rfl (rt_slice hTh hb rfl rfl rfl rfl (by decide) (rdI hb) (fun _ => rfl)) rdf_nil))))).iso (fun p => (⟨p.1, p.2.1, p.2.2.1, p.2.2.2.1⟩ : Rte)) (fun _ => rfl)
theorem rdTrp (hb : Bulk H bk B) : Rd enc Pg w bk B T_api_Trip cTrp :=
  (rt_struct hTh hb (k := 5) rfl rfl rfl (rtf_cons hTh (m := 1) (k := 4) (n := 5) rfl rfl rfl rfl (rt_str hTh hb rfl rfl) (rtf_cons hTh (m := 1) (k := 3) (n := 4) rfl rfl rfl rfl (rt_str hTh hb rfl rfl) (rtf_cons hTh (m := 1) (k := 2) (n := 3) rfl rfl rfl rfl (rt_int hTh rfl rfl) (rtf_cons hTh (m := 1) (k := 1) (n := 2) rfl rfl rfl rfl (rt_int hTh rfl rfl) (rtf_cons hTh (m := 1) (k := 0) (n := 1) rfl rfl rfl rfl (rt_int hTh rfl rfl) rdf_nil)))))).iso (fun p => (⟨p.1, p.2.1, p.2.2.1, p.2.2.2.1, p.2.2.2.2.1⟩ : Trp)) (fun _ => rfl)
theorem rdHzd (hb : Bulk H bk B) : Rd enc Pg w bk B T_api_Hazard cHzd :=
  (rt_struct hTh hb (k := 5) rfl rfl rfl (rtf_cons hTh (m := 1) (k := 4) (n := 5) rfl rfl rfl rfl (rt_str hTh hb rfl rfl) (rtf_cons hTh (m := 1) (k := 3) (n := 4) rfl rfl rfl rfl (rt_str hTh hb rfl rfl) (rtf_cons hTh (m := 3) (k := 0) (n := 3) rfl rfl rfl rfl (rdTms hb) rdf_nil)))).iso (fun p => (⟨p.1, p.2.1, p.2.2.1⟩ : Hzd)) (fun _ => rfl)
theorem rdSht (hb : Bulk H bk B) : Rd enc Pg w bk B T_api_Sheet cSht :=
  (rt_struct hTh hb (k := 7) rfl rfl rfl (rtf_cons hTh (m := 1) (k := 6) (n := 7) rfl rfl rfl rfl (rt_int hTh rfl rfl) (rtf_cons hTh (m := 1) (k := 5) (n := 6) rfl rfl rfl rfl (rt_slice hTh hb rfl rfl rfl rfl (by decide) (rdS hb) (fun _ => rfl)) (rtf_cons hTh (m := 1) (k := 4) (n := 5) rfl rfl rfl rfl (rt_slice hTh hb rfl rfl rfl rfl (by decide) (rdPth hb) (fun _ => rfl)) (rtf_cons hTh (m := 1) (k := 3) (n := 4) rfl rfl rfl rfl (rt_slice hTh hb rfl rfl rfl rfl (by decide) (rdDor hb) (fun _ => rfl)) (rtf_cons hTh (m := 1) (k := 2) (n := 3) rfl rfl rfl rfl (rt_slice hTh hb rfl rfl rfl rfl (by decide) (rdRte hb) (fun _ => rfl)) (rtf_cons hTh (m := 1) (k := 1) (n := 2) rfl rfl rfl rfl (rt_slice hTh hb rfl rfl rfl rfl (by decide) (rdTrp hb) (fun _ => rfl)) (rtf_cons hTh (m := 1) (k := 0) (n := 1) rfl rfl rfl rfl (rt_slice hTh hb rfl rfl rfl rfl (by decide) (rdHzd hb) (fun _ => rfl)) rdf_nil)))))))).iso (fun p => (⟨p.1, p.2.1, p.2.2.1, p.2.2.2.1, p.2.2.2.2.1, p.2.2.2.2.2.1, p.2.2.2.2.2.2.1⟩ : Sht)) (fun _ => rfl)
theorem rdPthO (hb : Bulk H bk B) : Rd enc Pg w bk B T_api_PathOf cPthO :=
  (rt_struct hTh hb (k := 3) rfl rfl rfl (rtf_cons hTh (m := 1) (k := 2) (n := 3) rfl rfl rfl rfl (rt_int hTh rfl rfl) (rtf_cons hTh (m := 1) (k := 1) (n := 2) rfl rfl rfl rfl (rt_int hTh rfl rfl) (rtf_cons hTh (m := 1) (k := 0) (n := 1) rfl rfl rfl rfl (rt_int hTh rfl rfl) rdf_nil)))).iso (fun p => (⟨p.1, p.2.1, p.2.2.1⟩ : PthO)) (fun _ => rfl)
theorem rdDorO (hb : Bulk H bk B) : Rd enc Pg w bk B T_api_DoorOf cDorO :=
  (rt_struct hTh hb (k := 6) rfl rfl rfl (rtf_cons hTh (m := 1) (k := 5) (n := 6) rfl rfl rfl rfl (rt_int hTh rfl rfl) (rtf_cons hTh (m := 1) (k := 4) (n := 5) rfl rfl rfl rfl (rt_int hTh rfl rfl) (rtf_cons hTh (m := 1) (k := 3) (n := 4) rfl rfl rfl rfl (rt_int hTh rfl rfl) (rtf_cons hTh (m := 3) (k := 0) (n := 3) rfl rfl rfl rfl (rdTms hb) rdf_nil))))).iso (fun p => (⟨p.1, p.2.1, p.2.2.1, p.2.2.2.1⟩ : DorO)) (fun _ => rfl)
theorem rdRteO (hb : Bulk H bk B) : Rd enc Pg w bk B T_api_RouteOf cRteO :=
  (rt_struct hTh hb (k := 3) rfl rfl rfl (rtf_cons hTh (m := 1) (k := 2) (n := 3) rfl rfl rfl rfl (rt_slice hTh hb rfl rfl rfl rfl (by decide) (rdI hb) (fun _ => rfl)) (rtf_cons hTh (m := 1) (k := 1) (n := 2) rfl rfl rfl rfl (rt_slice hTh hb rfl rfl rfl rfl (by decide) (rdI hb) (fun _ => rfl)) (rtf_cons hTh (m := 1) (k := 0) (n := 1) rfl rfl rfl rfl (rt_slice hTh hb rfl rfl rfl rfl (by decide) (rdI hb) (fun _ => rfl)) rdf_nil)))).iso (fun p => (⟨p.1, p.2.1, p.2.2.1⟩ : RteO)) (fun _ => rfl)
theorem rdTrpO (hb : Bulk H bk B) : Rd enc Pg w bk B T_api_TripOf cTrpO :=
  (rt_struct hTh hb (k := 4) rfl rfl rfl (rtf_cons hTh (m := 1) (k := 3) (n := 4) rfl rfl rfl rfl (rt_int hTh rfl rfl) (rtf_cons hTh (m := 1) (k := 2) (n := 3) rfl rfl rfl rfl (rt_int hTh rfl rfl) (rtf_cons hTh (m := 1) (k := 1) (n := 2) rfl rfl rfl rfl (rt_int hTh rfl rfl) (rtf_cons hTh (m := 1) (k := 0) (n := 1) rfl rfl rfl rfl (rt_int hTh rfl rfl) rdf_nil))))).iso (fun p => (⟨p.1, p.2.1, p.2.2.1, p.2.2.2.1⟩ : TrpO)) (fun _ => rfl)
theorem rdHzdO (hb : Bulk H bk B) : Rd enc Pg w bk B T_api_HazardOf cHzdO :=
  (rt_struct hTh hb (k := 5) rfl rfl rfl (rtf_cons hTh (m := 1) (k := 4) (n := 5) rfl rfl rfl rfl (rt_bool hTh rfl rfl) (rtf_cons hTh (m := 1) (k := 3) (n := 4) rfl rfl rfl rfl (rt_int hTh rfl rfl) (rtf_cons hTh (m := 3) (k := 0) (n := 3) rfl rfl rfl rfl (rdTms hb) rdf_nil)))).iso (fun p => (⟨p.1, p.2.1, p.2.2.1⟩ : HzdO)) (fun _ => rfl)
theorem rdNms (hb : Bulk H bk B) : Rd enc Pg w bk B T_api_Names cNms :=
  (rt_struct hTh hb (k := 6) rfl rfl rfl (rtf_cons hTh (m := 1) (k := 5) (n := 6) rfl rfl rfl rfl (rt_slice hTh hb rfl rfl rfl rfl (by decide) (rdS hb) (fun _ => rfl)) (rtf_cons hTh (m := 1) (k := 4) (n := 5) rfl rfl rfl rfl (rt_slice hTh hb rfl rfl rfl rfl (by decide) (rdS hb) (fun _ => rfl)) (rtf_cons hTh (m := 1) (k := 3) (n := 4) rfl rfl rfl rfl (rt_slice hTh hb rfl rfl rfl rfl (by decide) (rdS hb) (fun _ => rfl)) (rtf_cons hTh (m := 1) (k := 2) (n := 3) rfl rfl rfl rfl (rt_slice hTh hb rfl rfl rfl rfl (by decide) (rdS hb) (fun _ => rfl)) (rtf_cons hTh (m := 1) (k := 1) (n := 2) rfl rfl rfl rfl (rt_slice hTh hb rfl rfl rfl rfl (by decide) (rdS hb) (fun _ => rfl)) (rtf_cons hTh (m := 1) (k := 0) (n := 1) rfl rfl rfl rfl (rt_slice hTh hb rfl rfl rfl rfl (by decide) (rdS hb) (fun _ => rfl)) rdf_nil))))))).iso (fun p => (⟨p.1, p.2.1, p.2.2.1, p.2.2.2.1, p.2.2.2.2.1, p.2.2.2.2.2.1⟩ : Nms)) (fun _ => rfl)
theorem rdWld (hb : Bulk H bk B) : Rd enc Pg w bk B T_api_World cWld :=
  (rt_struct hTh hb (k := 12) rfl rfl rfl (rtf_cons hTh (m := 1) (k := 11) (n := 12) rfl rfl rfl rfl (rt_int hTh rfl rfl) (rtf_cons hTh (m := 6) (k := 5) (n := 11) rfl rfl rfl rfl (rdNms hb) (rtf_cons hTh (m := 1) (k := 4) (n := 5) rfl rfl rfl rfl (rt_slice hTh hb rfl rfl rfl rfl (by decide) (rdPthO hb) (fun _ => rfl)) (rtf_cons hTh (m := 1) (k := 3) (n := 4) rfl rfl rfl rfl (rt_slice hTh hb rfl rfl rfl rfl (by decide) (rdDorO hb) (fun _ => rfl)) (rtf_cons hTh (m := 1) (k := 2) (n := 3) rfl rfl rfl rfl (rt_slice hTh hb rfl rfl rfl rfl (by decide) (rdRteO hb) (fun _ => rfl)) (rtf_cons hTh (m := 1) (k := 1) (n := 2) rfl rfl rfl rfl (rt_slice hTh hb rfl rfl rfl rfl (by decide) (rdTrpO hb) (fun _ => rfl)) (rtf_cons hTh (m := 1) (k := 0) (n := 1) rfl rfl rfl rfl (rt_slice hTh hb rfl rfl rfl rfl (by decide) (rdHzdO hb) (fun _ => rfl)) rdf_nil)))))))).iso (fun p => (⟨p.1, p.2.1, p.2.2.1, p.2.2.2.1, p.2.2.2.2.1, p.2.2.2.2.2.1, p.2.2.2.2.2.2.1⟩ : Wld)) (fun _ => rfl)
end
end Go.Proofs.YtelpibkbcljdlaaGreatDoor
